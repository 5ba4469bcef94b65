/- The types of the program, as the engine looks at them. -/
import Derived.Test.YtmnponhhmkdcdaaDoorRows
import Derived.Test.YtmnponhhmkdcdaaDoorKFn
import Derived.KernelRfl
namespace Go.Proofs.YtmnponhhmkdcdaaDoor
open Go.Kin
set_option maxRecDepth 100000
/-! the types, as the engine looks at them -/
def te : TE := [
  (1, ⟨.func #[] #[] false, 1, 8, [.v (.nilFunc)], false⟩),
  (2, ⟨.int .i64, 1, 8, [.v (.int .i64 0)], false⟩),
  (3, ⟨.int .i64, 1, 8, [.v (.int .i64 0)], false⟩),
  (4, ⟨.bool, 1, 1, [.v (.bool false)], false⟩),
  (5, ⟨.int .u8, 1, 1, [.v (.int .u8 0)], false⟩),
  (9, ⟨.string, 1, 16, [.v (.string (mkS []))], false⟩),
  (12, ⟨.int .u64, 1, 8, [.v (.int .u64 0)], false⟩),
  (13, ⟨.struct #[{ name := "msg", type := 9, offset := 0, embedded := false, tag := "", pkgPath := "runtime", byteOffset := 0 }, { name := "addr", type := 12, offset := 1, embedded := false, tag := "", pkgPath := "runtime", byteOffset := 16 }], 2, 24, [.v (.string (mkS [])), .v (.int .u64 0)], false⟩),
  (15, ⟨.pointer 181, 1, 8, [.v (.pointer none)], false⟩),
  (16, ⟨.pointer 184, 1, 8, [.v (.pointer none)], false⟩),
  (20, ⟨.interface #[], 1, 16, [.v (.nilIface)], false⟩),
  (21, ⟨.int .i32, 1, 4, [.v (.int .i32 0)], false⟩),
  (22, ⟨.int .i64, 1, 8, [.v (.int .i64 0)], false⟩),
  (23, ⟨.struct #[{ name := "Kind", type := 22, offset := 0, embedded := false, tag := "", pkgPath := "", byteOffset := 0 }, { name := "Num", type := 3, offset := 1, embedded := false, tag := "", pkgPath := "", byteOffset := 8 }, { name := "Text", type := 9, offset := 2, embedded := false, tag := "", pkgPath := "", byteOffset := 16 }], 3, 32, [.v (.int .i64 0), .v (.int .i64 0), .v (.string (mkS []))], true⟩),
  (24, ⟨.struct #[{ name := "Kind", type := 22, offset := 0, embedded := false, tag := "", pkgPath := "", byteOffset := 0 }, { name := "Num", type := 3, offset := 1, embedded := false, tag := "", pkgPath := "", byteOffset := 8 }, { name := "Text", type := 9, offset := 2, embedded := false, tag := "", pkgPath := "", byteOffset := 16 }], 3, 32, [.v (.int .i64 0), .v (.int .i64 0), .v (.string (mkS []))], true⟩),
  (25, ⟨.func #[] #[4] false, 1, 8, [.v (.nilFunc)], false⟩),
  (26, ⟨.int .i64, 1, 8, [.v (.int .i64 0)], false⟩),
  (28, ⟨.func #[24] #[9, 26] false, 1, 8, [.v (.nilFunc)], false⟩),
  (30, ⟨.func #[9] #[24, 26] false, 1, 8, [.v (.nilFunc)], false⟩),
  (31, ⟨.func #[24, 9] #[4] false, 1, 8, [.v (.nilFunc)], false⟩),
  (32, ⟨.func #[24] #[4] false, 1, 8, [.v (.nilFunc)], false⟩),
  (33, ⟨.func #[24, 24, 9] #[4] false, 1, 8, [.v (.nilFunc)], false⟩),
  (34, ⟨.int .i64, 1, 8, [.v (.int .i64 0)], false⟩),
  (35, ⟨.func #[24, 24] #[3] false, 1, 8, [.v (.nilFunc)], false⟩),
  (36, ⟨.func #[34, 24, 24] #[4] false, 1, 8, [.v (.nilFunc)], false⟩),
  (37, ⟨.func #[3] #[24] false, 1, 8, [.v (.nilFunc)], false⟩),
  (38, ⟨.func #[9] #[24] false, 1, 8, [.v (.nilFunc)], false⟩),
  (39, ⟨.slice 24, 1, 24, [.v (.slice none 0 0)], false⟩),
  (40, ⟨.func #[39, 39] #[3] false, 1, 8, [.v (.nilFunc)], false⟩),
  (41, ⟨.func #[39, 39] #[4] false, 1, 8, [.v (.nilFunc)], false⟩),
  (42, ⟨.func #[24, 24, 24, 39, 39, 39] #[4] false, 1, 8, [.v (.nilFunc)], false⟩),
  (43, ⟨.slice 55, 1, 24, [.v (.slice none 0 0)], false⟩),
  (45, ⟨.func #[9] #[43, 3, 26] false, 1, 8, [.v (.nilFunc)], false⟩),
  (46, ⟨.slice 81, 1, 24, [.v (.slice none 0 0)], false⟩),
  (48, ⟨.func #[9] #[46, 3, 26] false, 1, 8, [.v (.nilFunc)], false⟩),
  (49, ⟨.func #[43, 46] #[4] false, 1, 8, [.v (.nilFunc)], false⟩),
  (50, ⟨.func #[83] #[] false, 1, 8, [.v (.nilFunc)], false⟩),
  (51, ⟨.func #[83] #[] false, 1, 8, [.v (.nilFunc)], false⟩),
  (52, ⟨.func #[9] #[51] false, 1, 8, [.v (.nilFunc)], false⟩),
  (53, ⟨.int .i64, 1, 8, [.v (.int .i64 0)], false⟩),
  (54, ⟨.struct #[{ name := "Kind", type := 53, offset := 0, embedded := false, tag := "", pkgPath := "", byteOffset := 0 }, { name := "Text", type := 9, offset := 1, embedded := false, tag := "", pkgPath := "", byteOffset := 8 }, { name := "At", type := 3, offset := 2, embedded := false, tag := "", pkgPath := "", byteOffset := 24 }, { name := "Val", type := 24, offset := 3, embedded := false, tag := "", pkgPath := "", byteOffset := 32 }], 6, 64, [.v (.int .i64 0), .v (.string (mkS [])), .v (.int .i64 0), .v (.int .i64 0), .v (.int .i64 0), .v (.string (mkS []))], true⟩),
  (55, ⟨.struct #[{ name := "Kind", type := 53, offset := 0, embedded := false, tag := "", pkgPath := "", byteOffset := 0 }, { name := "Text", type := 9, offset := 1, embedded := false, tag := "", pkgPath := "", byteOffset := 8 }, { name := "At", type := 3, offset := 2, embedded := false, tag := "", pkgPath := "", byteOffset := 24 }, { name := "Val", type := 24, offset := 3, embedded := false, tag := "", pkgPath := "", byteOffset := 32 }], 6, 64, [.v (.int .i64 0), .v (.string (mkS [])), .v (.int .i64 0), .v (.int .i64 0), .v (.int .i64 0), .v (.string (mkS []))], true⟩),
  (56, ⟨.func #[9] #[4] false, 1, 8, [.v (.nilFunc)], false⟩),
  (57, ⟨.slice 9, 1, 24, [.v (.slice none 0 0)], false⟩),
  (58, ⟨.slice 5, 1, 24, [.v (.slice none 0 0)], false⟩),
  (59, ⟨.func #[3, 3] #[3] false, 1, 8, [.v (.nilFunc)], false⟩),
  (60, ⟨.func #[9, 9, 3] #[4] false, 1, 8, [.v (.nilFunc)], false⟩),
  (61, ⟨.slice 39, 1, 24, [.v (.slice none 0 0)], false⟩),
  (62, ⟨.func #[61] #[3] false, 1, 8, [.v (.nilFunc)], false⟩),
  (63, ⟨.func #[61] #[61] true, 1, 8, [.v (.nilFunc)], false⟩),
  (64, ⟨.func #[61, 61] #[4] false, 1, 8, [.v (.nilFunc)], false⟩),
  (65, ⟨.func #[61, 3] #[4] false, 1, 8, [.v (.nilFunc)], false⟩),
  (66, ⟨.func #[24] #[9] false, 1, 8, [.v (.nilFunc)], false⟩),
  (67, ⟨.func #[3] #[9] false, 1, 8, [.v (.nilFunc)], false⟩),
  (68, ⟨.func #[9, 9] #[9] false, 1, 8, [.v (.nilFunc)], false⟩),
  (69, ⟨.func #[9, 9] #[4] false, 1, 8, [.v (.nilFunc)], false⟩),
  (70, ⟨.interface #[("Error", 179)], 1, 16, [.v (.nilIface)], false⟩),
  (71, ⟨.interface #[("Error", 179)], 1, 16, [.v (.nilIface)], false⟩),
  (73, ⟨.func #[9] #[3, 71] false, 1, 8, [.v (.nilFunc)], false⟩),
  (75, ⟨.func #[9] #[3, 4] false, 1, 8, [.v (.nilFunc)], false⟩),
  (76, ⟨.func #[94] #[3] true, 1, 8, [.v (.nilFunc)], false⟩),
  (77, ⟨.func #[22, 22] #[3] false, 1, 8, [.v (.nilFunc)], false⟩),
  (78, ⟨.func #[9, 9] #[3] false, 1, 8, [.v (.nilFunc)], false⟩),
  (79, ⟨.func #[39, 39, 35] #[3] false, 1, 8, [.v (.nilFunc)], false⟩),
  (80, ⟨.struct #[{ name := "Kind", type := 3, offset := 0, embedded := false, tag := "", pkgPath := "", byteOffset := 0 }, { name := "Text", type := 9, offset := 1, embedded := false, tag := "", pkgPath := "", byteOffset := 8 }, { name := "At", type := 3, offset := 2, embedded := false, tag := "", pkgPath := "", byteOffset := 24 }, { name := "Val", type := 24, offset := 3, embedded := false, tag := "", pkgPath := "", byteOffset := 32 }], 6, 64, [.v (.int .i64 0), .v (.string (mkS [])), .v (.int .i64 0), .v (.int .i64 0), .v (.int .i64 0), .v (.string (mkS []))], true⟩),
  (81, ⟨.struct #[{ name := "Kind", type := 3, offset := 0, embedded := false, tag := "", pkgPath := "", byteOffset := 0 }, { name := "Text", type := 9, offset := 1, embedded := false, tag := "", pkgPath := "", byteOffset := 8 }, { name := "At", type := 3, offset := 2, embedded := false, tag := "", pkgPath := "", byteOffset := 24 }, { name := "Val", type := 24, offset := 3, embedded := false, tag := "", pkgPath := "", byteOffset := 32 }], 6, 64, [.v (.int .i64 0), .v (.string (mkS [])), .v (.int .i64 0), .v (.int .i64 0), .v (.int .i64 0), .v (.string (mkS []))], true⟩),
  (82, ⟨.func #[9, 3] #[81] false, 1, 8, [.v (.nilFunc)], false⟩),
  (83, ⟨.func #[55, 26] #[4] false, 1, 8, [.v (.nilFunc)], false⟩),
  (84, ⟨.func #[5] #[4] false, 1, 8, [.v (.nilFunc)], false⟩),
  (85, ⟨.func #[9, 84] #[3] false, 1, 8, [.v (.nilFunc)], false⟩),
  (87, ⟨.func #[9] #[55, 4] false, 1, 8, [.v (.nilFunc)], false⟩),
  (88, ⟨.func #[90, 40] #[61] false, 1, 8, [.v (.nilFunc)], false⟩),
  (89, ⟨.func #[104] #[] false, 1, 8, [.v (.nilFunc)], false⟩),
  (90, ⟨.func #[104] #[] false, 1, 8, [.v (.nilFunc)], false⟩),
  (91, ⟨.func #[61] #[90] false, 1, 8, [.v (.nilFunc)], false⟩),
  (92, ⟨.func #[39] #[39] false, 1, 8, [.v (.nilFunc)], false⟩),
  (93, ⟨.func #[9, 9, 3, 3, 71] #[71] false, 1, 8, [.v (.nilFunc)], false⟩),
  (94, ⟨.slice 3, 1, 24, [.v (.slice none 0 0)], false⟩),
  (95, ⟨.func #[22] #[4] false, 1, 8, [.v (.nilFunc)], false⟩),
  (96, ⟨.func #[3] #[4] false, 1, 8, [.v (.nilFunc)], false⟩),
  (97, ⟨.func #[9, 3, 4] #[3] false, 1, 8, [.v (.nilFunc)], false⟩),
  (98, ⟨.func #[9, 3] #[3] false, 1, 8, [.v (.nilFunc)], false⟩),
  (99, ⟨.func #[] #[57] false, 1, 8, [.v (.nilFunc)], false⟩),
  (100, ⟨.func #[9, 53] #[55, 4] false, 1, 8, [.v (.nilFunc)], false⟩),
  (101, ⟨.func #[9, 5] #[3] false, 1, 8, [.v (.nilFunc)], false⟩),
  (102, ⟨.func #[90] #[61] false, 1, 8, [.v (.nilFunc)], false⟩),
  (103, ⟨.func #[61, 40] #[] false, 1, 8, [.v (.nilFunc)], false⟩),
  (104, ⟨.func #[39] #[4] false, 1, 8, [.v (.nilFunc)], false⟩),
  (105, ⟨.func #[2, 3] #[9] false, 1, 8, [.v (.nilFunc)], false⟩),
  (106, ⟨.int .i64, 1, 8, [.v (.int .i64 0)], false⟩),
  (108, ⟨.func #[9, 3, 3] #[2, 71] false, 1, 8, [.v (.nilFunc)], false⟩),
  (109, ⟨.pointer 128, 1, 8, [.v (.pointer none)], false⟩),
  (110, ⟨.func #[9, 9] #[109] false, 1, 8, [.v (.nilFunc)], false⟩),
  (111, ⟨.func #[9, 9, 3] #[109] false, 1, 8, [.v (.nilFunc)], false⟩),
  (112, ⟨.func #[21] #[4] false, 1, 8, [.v (.nilFunc)], false⟩),
  (113, ⟨.func #[9] #[57] false, 1, 8, [.v (.nilFunc)], false⟩),
  (114, ⟨.func #[61, 90] #[61] false, 1, 8, [.v (.nilFunc)], false⟩),
  (115, ⟨.func #[61, 3, 3, 3, 40] #[] false, 1, 8, [.v (.nilFunc)], false⟩),
  (116, ⟨.func #[117] #[3] false, 1, 8, [.v (.nilFunc)], false⟩),
  (117, ⟨.int .u64, 1, 8, [.v (.int .u64 0)], false⟩),
  (118, ⟨.array 24 5, 24, 24, [.v (.int .u8 0), .v (.int .u8 0), .v (.int .u8 0), .v (.int .u8 0), .v (.int .u8 0), .v (.int .u8 0), .v (.int .u8 0), .v (.int .u8 0), .v (.int .u8 0), .v (.int .u8 0), .v (.int .u8 0), .v (.int .u8 0), .v (.int .u8 0), .v (.int .u8 0), .v (.int .u8 0), .v (.int .u8 0), .v (.int .u8 0), .v (.int .u8 0), .v (.int .u8 0), .v (.int .u8 0), .v (.int .u8 0), .v (.int .u8 0), .v (.int .u8 0), .v (.int .u8 0)], false⟩),
  (119, ⟨.int .u64, 1, 8, [.v (.int .u64 0)], false⟩),
  (120, ⟨.func #[119] #[3] false, 1, 8, [.v (.nilFunc)], false⟩),
  (121, ⟨.func #[58, 119] #[] false, 1, 8, [.v (.nilFunc)], false⟩),
  (123, ⟨.func #[58, 119, 3, 4, 4] #[58, 9] false, 1, 8, [.v (.nilFunc)], false⟩),
  (125, ⟨.func #[9, 3, 3] #[119, 71] false, 1, 8, [.v (.nilFunc)], false⟩),
  (126, ⟨.func #[9] #[9] false, 1, 8, [.v (.nilFunc)], false⟩),
  (127, ⟨.struct #[{ name := "Func", type := 9, offset := 0, embedded := false, tag := "", pkgPath := "", byteOffset := 0 }, { name := "Num", type := 9, offset := 1, embedded := false, tag := "", pkgPath := "", byteOffset := 16 }, { name := "Err", type := 71, offset := 2, embedded := false, tag := "", pkgPath := "", byteOffset := 32 }], 3, 48, [.v (.string (mkS [])), .v (.string (mkS [])), .v (.nilIface)], false⟩),
  (128, ⟨.struct #[{ name := "Func", type := 9, offset := 0, embedded := false, tag := "", pkgPath := "", byteOffset := 0 }, { name := "Num", type := 9, offset := 1, embedded := false, tag := "", pkgPath := "", byteOffset := 16 }, { name := "Err", type := 71, offset := 2, embedded := false, tag := "", pkgPath := "", byteOffset := 32 }], 3, 48, [.v (.string (mkS [])), .v (.string (mkS [])), .v (.nilIface)], false⟩),
  (129, ⟨.func #[9] #[71] false, 1, 8, [.v (.nilFunc)], false⟩),
  (131, ⟨.func #[9, 112] #[57] false, 1, 8, [.v (.nilFunc)], false⟩),
  (132, ⟨.func #[61, 3, 3, 40] #[] false, 1, 8, [.v (.nilFunc)], false⟩),
  (133, ⟨.int .i64, 1, 8, [.v (.int .i64 0)], false⟩),
  (135, ⟨.func #[61, 3, 3, 40] #[3, 133] false, 1, 8, [.v (.nilFunc)], false⟩),
  (136, ⟨.func #[61, 3, 3, 40] #[4] false, 1, 8, [.v (.nilFunc)], false⟩),
  (137, ⟨.func #[61, 3, 3, 3, 40] #[3] false, 1, 8, [.v (.nilFunc)], false⟩),
  (138, ⟨.func #[61, 3, 3, 3, 40] #[3, 4] false, 1, 8, [.v (.nilFunc)], false⟩),
  (139, ⟨.func #[140] #[3] false, 1, 8, [.v (.nilFunc)], false⟩),
  (140, ⟨.int .u32, 1, 4, [.v (.int .u32 0)], false⟩),
  (141, ⟨.func #[3] #[3] false, 1, 8, [.v (.nilFunc)], false⟩),
  (142, ⟨.func #[4] #[3] false, 1, 8, [.v (.nilFunc)], false⟩),
  (143, ⟨.array 20 119, 20, 160, [.v (.int .u64 0), .v (.int .u64 0), .v (.int .u64 0), .v (.int .u64 0), .v (.int .u64 0), .v (.int .u64 0), .v (.int .u64 0), .v (.int .u64 0), .v (.int .u64 0), .v (.int .u64 0), .v (.int .u64 0), .v (.int .u64 0), .v (.int .u64 0), .v (.int .u64 0), .v (.int .u64 0), .v (.int .u64 0), .v (.int .u64 0), .v (.int .u64 0), .v (.int .u64 0), .v (.int .u64 0)], false⟩),
  (145, ⟨.func #[5] #[5] false, 1, 8, [.v (.nilFunc)], false⟩),
  (146, ⟨.pointer 5, 1, 8, [.v (.pointer none)], false⟩),
  (147, ⟨.pointer 149, 1, 8, [.v (.pointer none)], false⟩),
  (148, ⟨.struct #[{ name := "s", type := 9, offset := 0, embedded := false, tag := "", pkgPath := "errors", byteOffset := 0 }], 1, 16, [.v (.string (mkS []))], true⟩),
  (149, ⟨.struct #[{ name := "s", type := 9, offset := 0, embedded := false, tag := "", pkgPath := "errors", byteOffset := 0 }], 1, 16, [.v (.string (mkS []))], true⟩),
  (150, ⟨.slice 152, 1, 24, [.v (.slice none 0 0)], false⟩),
  (151, ⟨.struct #[{ name := "start", type := 3, offset := 0, embedded := false, tag := "", pkgPath := "strings", byteOffset := 0 }, { name := "end", type := 3, offset := 1, embedded := false, tag := "", pkgPath := "strings", byteOffset := 8 }], 2, 16, [.v (.int .i64 0), .v (.int .i64 0)], true⟩),
  (152, ⟨.struct #[{ name := "start", type := 3, offset := 0, embedded := false, tag := "", pkgPath := "strings", byteOffset := 0 }, { name := "end", type := 3, offset := 1, embedded := false, tag := "", pkgPath := "strings", byteOffset := 8 }], 2, 16, [.v (.int .i64 0), .v (.int .i64 0)], true⟩),
  (153, ⟨.func #[154, 21] #[4] false, 1, 8, [.v (.nilFunc)], false⟩),
  (154, ⟨.pointer 164, 1, 8, [.v (.pointer none)], false⟩),
  (155, ⟨.int .u64, 1, 8, [.v (.int .u64 0)], false⟩),
  (156, ⟨.func #[3] #[117] false, 1, 8, [.v (.nilFunc)], false⟩),
  (157, ⟨.func #[] #[119] false, 1, 8, [.v (.nilFunc)], false⟩),
  (158, ⟨.func #[61, 3, 159, 40] #[3] false, 1, 8, [.v (.nilFunc)], false⟩),
  (159, ⟨.pointer 3, 1, 8, [.v (.pointer none)], false⟩),
  (160, ⟨.func #[61, 3, 3, 3, 159, 40] #[3] false, 1, 8, [.v (.nilFunc)], false⟩),
  (161, ⟨.slice 167, 1, 24, [.v (.slice none 0 0)], false⟩),
  (162, ⟨.slice 170, 1, 24, [.v (.slice none 0 0)], false⟩),
  (163, ⟨.struct #[{ name := "R16", type := 161, offset := 0, embedded := false, tag := "", pkgPath := "", byteOffset := 0 }, { name := "R32", type := 162, offset := 1, embedded := false, tag := "", pkgPath := "", byteOffset := 24 }, { name := "LatinOffset", type := 3, offset := 2, embedded := false, tag := "", pkgPath := "", byteOffset := 48 }], 3, 56, [.v (.slice none 0 0), .v (.slice none 0 0), .v (.int .i64 0)], false⟩),
  (164, ⟨.struct #[{ name := "R16", type := 161, offset := 0, embedded := false, tag := "", pkgPath := "", byteOffset := 0 }, { name := "R32", type := 162, offset := 1, embedded := false, tag := "", pkgPath := "", byteOffset := 24 }, { name := "LatinOffset", type := 3, offset := 2, embedded := false, tag := "", pkgPath := "", byteOffset := 48 }], 3, 56, [.v (.slice none 0 0), .v (.slice none 0 0), .v (.int .i64 0)], false⟩),
  (165, ⟨.int .u16, 1, 2, [.v (.int .u16 0)], false⟩),
  (166, ⟨.struct #[{ name := "Lo", type := 165, offset := 0, embedded := false, tag := "", pkgPath := "", byteOffset := 0 }, { name := "Hi", type := 165, offset := 1, embedded := false, tag := "", pkgPath := "", byteOffset := 2 }, { name := "Stride", type := 165, offset := 2, embedded := false, tag := "", pkgPath := "", byteOffset := 4 }], 3, 6, [.v (.int .u16 0), .v (.int .u16 0), .v (.int .u16 0)], true⟩),
  (167, ⟨.struct #[{ name := "Lo", type := 165, offset := 0, embedded := false, tag := "", pkgPath := "", byteOffset := 0 }, { name := "Hi", type := 165, offset := 1, embedded := false, tag := "", pkgPath := "", byteOffset := 2 }, { name := "Stride", type := 165, offset := 2, embedded := false, tag := "", pkgPath := "", byteOffset := 4 }], 3, 6, [.v (.int .u16 0), .v (.int .u16 0), .v (.int .u16 0)], true⟩),
  (168, ⟨.func #[161, 165] #[4] false, 1, 8, [.v (.nilFunc)], false⟩),
  (169, ⟨.struct #[{ name := "Lo", type := 140, offset := 0, embedded := false, tag := "", pkgPath := "", byteOffset := 0 }, { name := "Hi", type := 140, offset := 1, embedded := false, tag := "", pkgPath := "", byteOffset := 4 }, { name := "Stride", type := 140, offset := 2, embedded := false, tag := "", pkgPath := "", byteOffset := 8 }], 3, 12, [.v (.int .u32 0), .v (.int .u32 0), .v (.int .u32 0)], true⟩),
  (170, ⟨.struct #[{ name := "Lo", type := 140, offset := 0, embedded := false, tag := "", pkgPath := "", byteOffset := 0 }, { name := "Hi", type := 140, offset := 1, embedded := false, tag := "", pkgPath := "", byteOffset := 4 }, { name := "Stride", type := 140, offset := 2, embedded := false, tag := "", pkgPath := "", byteOffset := 8 }], 3, 12, [.v (.int .u32 0), .v (.int .u32 0), .v (.int .u32 0)], true⟩),
  (171, ⟨.func #[162, 140] #[4] false, 1, 8, [.v (.nilFunc)], false⟩),
  (172, ⟨.pointer 155, 1, 8, [.v (.pointer none)], false⟩),
  (174, ⟨.func #[61, 3, 3, 159, 40] #[3, 3] false, 1, 8, [.v (.nilFunc)], false⟩),
  (175, ⟨.array 32 5, 32, 32, [.v (.int .u8 0), .v (.int .u8 0), .v (.int .u8 0), .v (.int .u8 0), .v (.int .u8 0), .v (.int .u8 0), .v (.int .u8 0), .v (.int .u8 0), .v (.int .u8 0), .v (.int .u8 0), .v (.int .u8 0), .v (.int .u8 0), .v (.int .u8 0), .v (.int .u8 0), .v (.int .u8 0), .v (.int .u8 0), .v (.int .u8 0), .v (.int .u8 0), .v (.int .u8 0), .v (.int .u8 0), .v (.int .u8 0), .v (.int .u8 0), .v (.int .u8 0), .v (.int .u8 0), .v (.int .u8 0), .v (.int .u8 0), .v (.int .u8 0), .v (.int .u8 0), .v (.int .u8 0), .v (.int .u8 0), .v (.int .u8 0), .v (.int .u8 0)], false⟩),
  (177, ⟨.pointer 167, 1, 8, [.v (.pointer none)], false⟩),
  (178, ⟨.pointer 170, 1, 8, [.v (.pointer none)], false⟩),
  (179, ⟨.func #[] #[9] false, 1, 8, [.v (.nilFunc)], false⟩),
  (182, ⟨.array 0 16, 0, 0, [], false⟩),
  (183, ⟨.struct #[{ name := "_", type := 182, offset := 0, embedded := false, tag := "", pkgPath := "runtime", byteOffset := 0 }], 0, 0, [], false⟩),
  (185, ⟨.func #[] #[3] false, 1, 8, [.v (.nilFunc)], false⟩),
  (188, ⟨.func #[193, 193] #[4] false, 1, 8, [.v (.nilFunc)], false⟩)]
theorem te_1 : klook 1 te = some ⟨.func #[] #[] false, 1, 8, [.v (.nilFunc)], false⟩ := rfl
theorem te_2 : klook 2 te = some ⟨.int .i64, 1, 8, [.v (.int .i64 0)], false⟩ := rfl
theorem te_3 : klook 3 te = some ⟨.int .i64, 1, 8, [.v (.int .i64 0)], false⟩ := rfl
theorem te_4 : klook 4 te = some ⟨.bool, 1, 1, [.v (.bool false)], false⟩ := rfl
theorem te_5 : klook 5 te = some ⟨.int .u8, 1, 1, [.v (.int .u8 0)], false⟩ := rfl
theorem te_9 : klook 9 te = some ⟨.string, 1, 16, [.v (.string (mkS []))], false⟩ := rfl
theorem te_12 : klook 12 te = some ⟨.int .u64, 1, 8, [.v (.int .u64 0)], false⟩ := rfl
theorem te_13 : klook 13 te = some ⟨.struct #[{ name := "msg", type := 9, offset := 0, embedded := false, tag := "", pkgPath := "runtime", byteOffset := 0 }, { name := "addr", type := 12, offset := 1, embedded := false, tag := "", pkgPath := "runtime", byteOffset := 16 }], 2, 24, [.v (.string (mkS [])), .v (.int .u64 0)], false⟩ := rfl
theorem te_15 : klook 15 te = some ⟨.pointer 181, 1, 8, [.v (.pointer none)], false⟩ := rfl
theorem te_16 : klook 16 te = some ⟨.pointer 184, 1, 8, [.v (.pointer none)], false⟩ := rfl
theorem te_20 : klook 20 te = some ⟨.interface #[], 1, 16, [.v (.nilIface)], false⟩ := rfl
theorem te_21 : klook 21 te = some ⟨.int .i32, 1, 4, [.v (.int .i32 0)], false⟩ := rfl
theorem te_22 : klook 22 te = some ⟨.int .i64, 1, 8, [.v (.int .i64 0)], false⟩ := rfl
theorem te_23 : klook 23 te = some ⟨.struct #[{ name := "Kind", type := 22, offset := 0, embedded := false, tag := "", pkgPath := "", byteOffset := 0 }, { name := "Num", type := 3, offset := 1, embedded := false, tag := "", pkgPath := "", byteOffset := 8 }, { name := "Text", type := 9, offset := 2, embedded := false, tag := "", pkgPath := "", byteOffset := 16 }], 3, 32, [.v (.int .i64 0), .v (.int .i64 0), .v (.string (mkS []))], true⟩ := rfl
theorem te_24 : klook 24 te = some ⟨.struct #[{ name := "Kind", type := 22, offset := 0, embedded := false, tag := "", pkgPath := "", byteOffset := 0 }, { name := "Num", type := 3, offset := 1, embedded := false, tag := "", pkgPath := "", byteOffset := 8 }, { name := "Text", type := 9, offset := 2, embedded := false, tag := "", pkgPath := "", byteOffset := 16 }], 3, 32, [.v (.int .i64 0), .v (.int .i64 0), .v (.string (mkS []))], true⟩ := rfl
theorem te_25 : klook 25 te = some ⟨.func #[] #[4] false, 1, 8, [.v (.nilFunc)], false⟩ := rfl
theorem te_26 : klook 26 te = some ⟨.int .i64, 1, 8, [.v (.int .i64 0)], false⟩ := rfl
theorem te_28 : klook 28 te = some ⟨.func #[24] #[9, 26] false, 1, 8, [.v (.nilFunc)], false⟩ := rfl
theorem te_30 : klook 30 te = some ⟨.func #[9] #[24, 26] false, 1, 8, [.v (.nilFunc)], false⟩ := rfl
theorem te_31 : klook 31 te = some ⟨.func #[24, 9] #[4] false, 1, 8, [.v (.nilFunc)], false⟩ := rfl
theorem te_32 : klook 32 te = some ⟨.func #[24] #[4] false, 1, 8, [.v (.nilFunc)], false⟩ := rfl
theorem te_33 : klook 33 te = some ⟨.func #[24, 24, 9] #[4] false, 1, 8, [.v (.nilFunc)], false⟩ := rfl
theorem te_34 : klook 34 te = some ⟨.int .i64, 1, 8, [.v (.int .i64 0)], false⟩ := rfl
theorem te_35 : klook 35 te = some ⟨.func #[24, 24] #[3] false, 1, 8, [.v (.nilFunc)], false⟩ := rfl
theorem te_36 : klook 36 te = some ⟨.func #[34, 24, 24] #[4] false, 1, 8, [.v (.nilFunc)], false⟩ := rfl
theorem te_37 : klook 37 te = some ⟨.func #[3] #[24] false, 1, 8, [.v (.nilFunc)], false⟩ := rfl
theorem te_38 : klook 38 te = some ⟨.func #[9] #[24] false, 1, 8, [.v (.nilFunc)], false⟩ := rfl
theorem te_39 : klook 39 te = some ⟨.slice 24, 1, 24, [.v (.slice none 0 0)], false⟩ := rfl
theorem te_40 : klook 40 te = some ⟨.func #[39, 39] #[3] false, 1, 8, [.v (.nilFunc)], false⟩ := rfl
theorem te_41 : klook 41 te = some ⟨.func #[39, 39] #[4] false, 1, 8, [.v (.nilFunc)], false⟩ := rfl
theorem te_42 : klook 42 te = some ⟨.func #[24, 24, 24, 39, 39, 39] #[4] false, 1, 8, [.v (.nilFunc)], false⟩ := rfl
theorem te_43 : klook 43 te = some ⟨.slice 55, 1, 24, [.v (.slice none 0 0)], false⟩ := rfl
theorem te_45 : klook 45 te = some ⟨.func #[9] #[43, 3, 26] false, 1, 8, [.v (.nilFunc)], false⟩ := rfl
theorem te_46 : klook 46 te = some ⟨.slice 81, 1, 24, [.v (.slice none 0 0)], false⟩ := rfl
theorem te_48 : klook 48 te = some ⟨.func #[9] #[46, 3, 26] false, 1, 8, [.v (.nilFunc)], false⟩ := rfl
theorem te_49 : klook 49 te = some ⟨.func #[43, 46] #[4] false, 1, 8, [.v (.nilFunc)], false⟩ := rfl
theorem te_50 : klook 50 te = some ⟨.func #[83] #[] false, 1, 8, [.v (.nilFunc)], false⟩ := rfl
theorem te_51 : klook 51 te = some ⟨.func #[83] #[] false, 1, 8, [.v (.nilFunc)], false⟩ := rfl
theorem te_52 : klook 52 te = some ⟨.func #[9] #[51] false, 1, 8, [.v (.nilFunc)], false⟩ := rfl
theorem te_53 : klook 53 te = some ⟨.int .i64, 1, 8, [.v (.int .i64 0)], false⟩ := rfl
theorem te_54 : klook 54 te = some ⟨.struct #[{ name := "Kind", type := 53, offset := 0, embedded := false, tag := "", pkgPath := "", byteOffset := 0 }, { name := "Text", type := 9, offset := 1, embedded := false, tag := "", pkgPath := "", byteOffset := 8 }, { name := "At", type := 3, offset := 2, embedded := false, tag := "", pkgPath := "", byteOffset := 24 }, { name := "Val", type := 24, offset := 3, embedded := false, tag := "", pkgPath := "", byteOffset := 32 }], 6, 64, [.v (.int .i64 0), .v (.string (mkS [])), .v (.int .i64 0), .v (.int .i64 0), .v (.int .i64 0), .v (.string (mkS []))], true⟩ := rfl
theorem te_55 : klook 55 te = some ⟨.struct #[{ name := "Kind", type := 53, offset := 0, embedded := false, tag := "", pkgPath := "", byteOffset := 0 }, { name := "Text", type := 9, offset := 1, embedded := false, tag := "", pkgPath := "", byteOffset := 8 }, { name := "At", type := 3, offset := 2, embedded := false, tag := "", pkgPath := "", byteOffset := 24 }, { name := "Val", type := 24, offset := 3, embedded := false, tag := "", pkgPath := "", byteOffset := 32 }], 6, 64, [.v (.int .i64 0), .v (.string (mkS [])), .v (.int .i64 0), .v (.int .i64 0), .v (.int .i64 0), .v (.string (mkS []))], true⟩ := rfl
theorem te_56 : klook 56 te = some ⟨.func #[9] #[4] false, 1, 8, [.v (.nilFunc)], false⟩ := rfl
theorem te_57 : klook 57 te = some ⟨.slice 9, 1, 24, [.v (.slice none 0 0)], false⟩ := rfl
theorem te_58 : klook 58 te = some ⟨.slice 5, 1, 24, [.v (.slice none 0 0)], false⟩ := rfl
theorem te_59 : klook 59 te = some ⟨.func #[3, 3] #[3] false, 1, 8, [.v (.nilFunc)], false⟩ := rfl
theorem te_60 : klook 60 te = some ⟨.func #[9, 9, 3] #[4] false, 1, 8, [.v (.nilFunc)], false⟩ := rfl
theorem te_61 : klook 61 te = some ⟨.slice 39, 1, 24, [.v (.slice none 0 0)], false⟩ := rfl
theorem te_62 : klook 62 te = some ⟨.func #[61] #[3] false, 1, 8, [.v (.nilFunc)], false⟩ := rfl
theorem te_63 : klook 63 te = some ⟨.func #[61] #[61] true, 1, 8, [.v (.nilFunc)], false⟩ := rfl
theorem te_64 : klook 64 te = some ⟨.func #[61, 61] #[4] false, 1, 8, [.v (.nilFunc)], false⟩ := rfl
theorem te_65 : klook 65 te = some ⟨.func #[61, 3] #[4] false, 1, 8, [.v (.nilFunc)], false⟩ := rfl
theorem te_66 : klook 66 te = some ⟨.func #[24] #[9] false, 1, 8, [.v (.nilFunc)], false⟩ := rfl
theorem te_67 : klook 67 te = some ⟨.func #[3] #[9] false, 1, 8, [.v (.nilFunc)], false⟩ := rfl
theorem te_68 : klook 68 te = some ⟨.func #[9, 9] #[9] false, 1, 8, [.v (.nilFunc)], false⟩ := rfl
theorem te_69 : klook 69 te = some ⟨.func #[9, 9] #[4] false, 1, 8, [.v (.nilFunc)], false⟩ := rfl
theorem te_70 : klook 70 te = some ⟨.interface #[("Error", 179)], 1, 16, [.v (.nilIface)], false⟩ := rfl
theorem te_71 : klook 71 te = some ⟨.interface #[("Error", 179)], 1, 16, [.v (.nilIface)], false⟩ := rfl
theorem te_73 : klook 73 te = some ⟨.func #[9] #[3, 71] false, 1, 8, [.v (.nilFunc)], false⟩ := rfl
theorem te_75 : klook 75 te = some ⟨.func #[9] #[3, 4] false, 1, 8, [.v (.nilFunc)], false⟩ := rfl
theorem te_76 : klook 76 te = some ⟨.func #[94] #[3] true, 1, 8, [.v (.nilFunc)], false⟩ := rfl
theorem te_77 : klook 77 te = some ⟨.func #[22, 22] #[3] false, 1, 8, [.v (.nilFunc)], false⟩ := rfl
theorem te_78 : klook 78 te = some ⟨.func #[9, 9] #[3] false, 1, 8, [.v (.nilFunc)], false⟩ := rfl
theorem te_79 : klook 79 te = some ⟨.func #[39, 39, 35] #[3] false, 1, 8, [.v (.nilFunc)], false⟩ := rfl
theorem te_80 : klook 80 te = some ⟨.struct #[{ name := "Kind", type := 3, offset := 0, embedded := false, tag := "", pkgPath := "", byteOffset := 0 }, { name := "Text", type := 9, offset := 1, embedded := false, tag := "", pkgPath := "", byteOffset := 8 }, { name := "At", type := 3, offset := 2, embedded := false, tag := "", pkgPath := "", byteOffset := 24 }, { name := "Val", type := 24, offset := 3, embedded := false, tag := "", pkgPath := "", byteOffset := 32 }], 6, 64, [.v (.int .i64 0), .v (.string (mkS [])), .v (.int .i64 0), .v (.int .i64 0), .v (.int .i64 0), .v (.string (mkS []))], true⟩ := rfl
theorem te_81 : klook 81 te = some ⟨.struct #[{ name := "Kind", type := 3, offset := 0, embedded := false, tag := "", pkgPath := "", byteOffset := 0 }, { name := "Text", type := 9, offset := 1, embedded := false, tag := "", pkgPath := "", byteOffset := 8 }, { name := "At", type := 3, offset := 2, embedded := false, tag := "", pkgPath := "", byteOffset := 24 }, { name := "Val", type := 24, offset := 3, embedded := false, tag := "", pkgPath := "", byteOffset := 32 }], 6, 64, [.v (.int .i64 0), .v (.string (mkS [])), .v (.int .i64 0), .v (.int .i64 0), .v (.int .i64 0), .v (.string (mkS []))], true⟩ := rfl
theorem te_82 : klook 82 te = some ⟨.func #[9, 3] #[81] false, 1, 8, [.v (.nilFunc)], false⟩ := rfl
theorem te_83 : klook 83 te = some ⟨.func #[55, 26] #[4] false, 1, 8, [.v (.nilFunc)], false⟩ := rfl
theorem te_84 : klook 84 te = some ⟨.func #[5] #[4] false, 1, 8, [.v (.nilFunc)], false⟩ := rfl
theorem te_85 : klook 85 te = some ⟨.func #[9, 84] #[3] false, 1, 8, [.v (.nilFunc)], false⟩ := rfl
theorem te_87 : klook 87 te = some ⟨.func #[9] #[55, 4] false, 1, 8, [.v (.nilFunc)], false⟩ := rfl
theorem te_88 : klook 88 te = some ⟨.func #[90, 40] #[61] false, 1, 8, [.v (.nilFunc)], false⟩ := rfl
theorem te_89 : klook 89 te = some ⟨.func #[104] #[] false, 1, 8, [.v (.nilFunc)], false⟩ := rfl
theorem te_90 : klook 90 te = some ⟨.func #[104] #[] false, 1, 8, [.v (.nilFunc)], false⟩ := rfl
theorem te_91 : klook 91 te = some ⟨.func #[61] #[90] false, 1, 8, [.v (.nilFunc)], false⟩ := rfl
theorem te_92 : klook 92 te = some ⟨.func #[39] #[39] false, 1, 8, [.v (.nilFunc)], false⟩ := rfl
theorem te_93 : klook 93 te = some ⟨.func #[9, 9, 3, 3, 71] #[71] false, 1, 8, [.v (.nilFunc)], false⟩ := rfl
theorem te_94 : klook 94 te = some ⟨.slice 3, 1, 24, [.v (.slice none 0 0)], false⟩ := rfl
theorem te_95 : klook 95 te = some ⟨.func #[22] #[4] false, 1, 8, [.v (.nilFunc)], false⟩ := rfl
theorem te_96 : klook 96 te = some ⟨.func #[3] #[4] false, 1, 8, [.v (.nilFunc)], false⟩ := rfl
theorem te_97 : klook 97 te = some ⟨.func #[9, 3, 4] #[3] false, 1, 8, [.v (.nilFunc)], false⟩ := rfl
theorem te_98 : klook 98 te = some ⟨.func #[9, 3] #[3] false, 1, 8, [.v (.nilFunc)], false⟩ := rfl
theorem te_99 : klook 99 te = some ⟨.func #[] #[57] false, 1, 8, [.v (.nilFunc)], false⟩ := rfl
theorem te_100 : klook 100 te = some ⟨.func #[9, 53] #[55, 4] false, 1, 8, [.v (.nilFunc)], false⟩ := rfl
theorem te_101 : klook 101 te = some ⟨.func #[9, 5] #[3] false, 1, 8, [.v (.nilFunc)], false⟩ := rfl
theorem te_102 : klook 102 te = some ⟨.func #[90] #[61] false, 1, 8, [.v (.nilFunc)], false⟩ := rfl
theorem te_103 : klook 103 te = some ⟨.func #[61, 40] #[] false, 1, 8, [.v (.nilFunc)], false⟩ := rfl
theorem te_104 : klook 104 te = some ⟨.func #[39] #[4] false, 1, 8, [.v (.nilFunc)], false⟩ := rfl
theorem te_105 : klook 105 te = some ⟨.func #[2, 3] #[9] false, 1, 8, [.v (.nilFunc)], false⟩ := rfl
theorem te_106 : klook 106 te = some ⟨.int .i64, 1, 8, [.v (.int .i64 0)], false⟩ := rfl
theorem te_108 : klook 108 te = some ⟨.func #[9, 3, 3] #[2, 71] false, 1, 8, [.v (.nilFunc)], false⟩ := rfl
theorem te_109 : klook 109 te = some ⟨.pointer 128, 1, 8, [.v (.pointer none)], false⟩ := rfl
theorem te_110 : klook 110 te = some ⟨.func #[9, 9] #[109] false, 1, 8, [.v (.nilFunc)], false⟩ := rfl
theorem te_111 : klook 111 te = some ⟨.func #[9, 9, 3] #[109] false, 1, 8, [.v (.nilFunc)], false⟩ := rfl
theorem te_112 : klook 112 te = some ⟨.func #[21] #[4] false, 1, 8, [.v (.nilFunc)], false⟩ := rfl
theorem te_113 : klook 113 te = some ⟨.func #[9] #[57] false, 1, 8, [.v (.nilFunc)], false⟩ := rfl
theorem te_114 : klook 114 te = some ⟨.func #[61, 90] #[61] false, 1, 8, [.v (.nilFunc)], false⟩ := rfl
theorem te_115 : klook 115 te = some ⟨.func #[61, 3, 3, 3, 40] #[] false, 1, 8, [.v (.nilFunc)], false⟩ := rfl
theorem te_116 : klook 116 te = some ⟨.func #[117] #[3] false, 1, 8, [.v (.nilFunc)], false⟩ := rfl
theorem te_117 : klook 117 te = some ⟨.int .u64, 1, 8, [.v (.int .u64 0)], false⟩ := rfl
theorem te_118 : klook 118 te = some ⟨.array 24 5, 24, 24, [.v (.int .u8 0), .v (.int .u8 0), .v (.int .u8 0), .v (.int .u8 0), .v (.int .u8 0), .v (.int .u8 0), .v (.int .u8 0), .v (.int .u8 0), .v (.int .u8 0), .v (.int .u8 0), .v (.int .u8 0), .v (.int .u8 0), .v (.int .u8 0), .v (.int .u8 0), .v (.int .u8 0), .v (.int .u8 0), .v (.int .u8 0), .v (.int .u8 0), .v (.int .u8 0), .v (.int .u8 0), .v (.int .u8 0), .v (.int .u8 0), .v (.int .u8 0), .v (.int .u8 0)], false⟩ := rfl
theorem te_119 : klook 119 te = some ⟨.int .u64, 1, 8, [.v (.int .u64 0)], false⟩ := rfl
theorem te_120 : klook 120 te = some ⟨.func #[119] #[3] false, 1, 8, [.v (.nilFunc)], false⟩ := rfl
theorem te_121 : klook 121 te = some ⟨.func #[58, 119] #[] false, 1, 8, [.v (.nilFunc)], false⟩ := rfl
theorem te_123 : klook 123 te = some ⟨.func #[58, 119, 3, 4, 4] #[58, 9] false, 1, 8, [.v (.nilFunc)], false⟩ := rfl
theorem te_125 : klook 125 te = some ⟨.func #[9, 3, 3] #[119, 71] false, 1, 8, [.v (.nilFunc)], false⟩ := rfl
theorem te_126 : klook 126 te = some ⟨.func #[9] #[9] false, 1, 8, [.v (.nilFunc)], false⟩ := rfl
theorem te_127 : klook 127 te = some ⟨.struct #[{ name := "Func", type := 9, offset := 0, embedded := false, tag := "", pkgPath := "", byteOffset := 0 }, { name := "Num", type := 9, offset := 1, embedded := false, tag := "", pkgPath := "", byteOffset := 16 }, { name := "Err", type := 71, offset := 2, embedded := false, tag := "", pkgPath := "", byteOffset := 32 }], 3, 48, [.v (.string (mkS [])), .v (.string (mkS [])), .v (.nilIface)], false⟩ := rfl
theorem te_128 : klook 128 te = some ⟨.struct #[{ name := "Func", type := 9, offset := 0, embedded := false, tag := "", pkgPath := "", byteOffset := 0 }, { name := "Num", type := 9, offset := 1, embedded := false, tag := "", pkgPath := "", byteOffset := 16 }, { name := "Err", type := 71, offset := 2, embedded := false, tag := "", pkgPath := "", byteOffset := 32 }], 3, 48, [.v (.string (mkS [])), .v (.string (mkS [])), .v (.nilIface)], false⟩ := rfl
theorem te_129 : klook 129 te = some ⟨.func #[9] #[71] false, 1, 8, [.v (.nilFunc)], false⟩ := rfl
theorem te_131 : klook 131 te = some ⟨.func #[9, 112] #[57] false, 1, 8, [.v (.nilFunc)], false⟩ := rfl
theorem te_132 : klook 132 te = some ⟨.func #[61, 3, 3, 40] #[] false, 1, 8, [.v (.nilFunc)], false⟩ := rfl
theorem te_133 : klook 133 te = some ⟨.int .i64, 1, 8, [.v (.int .i64 0)], false⟩ := rfl
theorem te_135 : klook 135 te = some ⟨.func #[61, 3, 3, 40] #[3, 133] false, 1, 8, [.v (.nilFunc)], false⟩ := rfl
theorem te_136 : klook 136 te = some ⟨.func #[61, 3, 3, 40] #[4] false, 1, 8, [.v (.nilFunc)], false⟩ := rfl
theorem te_137 : klook 137 te = some ⟨.func #[61, 3, 3, 3, 40] #[3] false, 1, 8, [.v (.nilFunc)], false⟩ := rfl
theorem te_138 : klook 138 te = some ⟨.func #[61, 3, 3, 3, 40] #[3, 4] false, 1, 8, [.v (.nilFunc)], false⟩ := rfl
theorem te_139 : klook 139 te = some ⟨.func #[140] #[3] false, 1, 8, [.v (.nilFunc)], false⟩ := rfl
theorem te_140 : klook 140 te = some ⟨.int .u32, 1, 4, [.v (.int .u32 0)], false⟩ := rfl
theorem te_141 : klook 141 te = some ⟨.func #[3] #[3] false, 1, 8, [.v (.nilFunc)], false⟩ := rfl
theorem te_142 : klook 142 te = some ⟨.func #[4] #[3] false, 1, 8, [.v (.nilFunc)], false⟩ := rfl
theorem te_143 : klook 143 te = some ⟨.array 20 119, 20, 160, [.v (.int .u64 0), .v (.int .u64 0), .v (.int .u64 0), .v (.int .u64 0), .v (.int .u64 0), .v (.int .u64 0), .v (.int .u64 0), .v (.int .u64 0), .v (.int .u64 0), .v (.int .u64 0), .v (.int .u64 0), .v (.int .u64 0), .v (.int .u64 0), .v (.int .u64 0), .v (.int .u64 0), .v (.int .u64 0), .v (.int .u64 0), .v (.int .u64 0), .v (.int .u64 0), .v (.int .u64 0)], false⟩ := rfl
theorem te_145 : klook 145 te = some ⟨.func #[5] #[5] false, 1, 8, [.v (.nilFunc)], false⟩ := rfl
theorem te_146 : klook 146 te = some ⟨.pointer 5, 1, 8, [.v (.pointer none)], false⟩ := rfl
theorem te_147 : klook 147 te = some ⟨.pointer 149, 1, 8, [.v (.pointer none)], false⟩ := rfl
theorem te_148 : klook 148 te = some ⟨.struct #[{ name := "s", type := 9, offset := 0, embedded := false, tag := "", pkgPath := "errors", byteOffset := 0 }], 1, 16, [.v (.string (mkS []))], true⟩ := rfl
theorem te_149 : klook 149 te = some ⟨.struct #[{ name := "s", type := 9, offset := 0, embedded := false, tag := "", pkgPath := "errors", byteOffset := 0 }], 1, 16, [.v (.string (mkS []))], true⟩ := rfl
theorem te_150 : klook 150 te = some ⟨.slice 152, 1, 24, [.v (.slice none 0 0)], false⟩ := rfl
theorem te_151 : klook 151 te = some ⟨.struct #[{ name := "start", type := 3, offset := 0, embedded := false, tag := "", pkgPath := "strings", byteOffset := 0 }, { name := "end", type := 3, offset := 1, embedded := false, tag := "", pkgPath := "strings", byteOffset := 8 }], 2, 16, [.v (.int .i64 0), .v (.int .i64 0)], true⟩ := rfl
theorem te_152 : klook 152 te = some ⟨.struct #[{ name := "start", type := 3, offset := 0, embedded := false, tag := "", pkgPath := "strings", byteOffset := 0 }, { name := "end", type := 3, offset := 1, embedded := false, tag := "", pkgPath := "strings", byteOffset := 8 }], 2, 16, [.v (.int .i64 0), .v (.int .i64 0)], true⟩ := rfl
theorem te_153 : klook 153 te = some ⟨.func #[154, 21] #[4] false, 1, 8, [.v (.nilFunc)], false⟩ := rfl
theorem te_154 : klook 154 te = some ⟨.pointer 164, 1, 8, [.v (.pointer none)], false⟩ := rfl
theorem te_155 : klook 155 te = some ⟨.int .u64, 1, 8, [.v (.int .u64 0)], false⟩ := rfl
theorem te_156 : klook 156 te = some ⟨.func #[3] #[117] false, 1, 8, [.v (.nilFunc)], false⟩ := rfl
theorem te_157 : klook 157 te = some ⟨.func #[] #[119] false, 1, 8, [.v (.nilFunc)], false⟩ := rfl
theorem te_158 : klook 158 te = some ⟨.func #[61, 3, 159, 40] #[3] false, 1, 8, [.v (.nilFunc)], false⟩ := rfl
theorem te_159 : klook 159 te = some ⟨.pointer 3, 1, 8, [.v (.pointer none)], false⟩ := rfl
theorem te_160 : klook 160 te = some ⟨.func #[61, 3, 3, 3, 159, 40] #[3] false, 1, 8, [.v (.nilFunc)], false⟩ := rfl
theorem te_161 : klook 161 te = some ⟨.slice 167, 1, 24, [.v (.slice none 0 0)], false⟩ := rfl
theorem te_162 : klook 162 te = some ⟨.slice 170, 1, 24, [.v (.slice none 0 0)], false⟩ := rfl
theorem te_163 : klook 163 te = some ⟨.struct #[{ name := "R16", type := 161, offset := 0, embedded := false, tag := "", pkgPath := "", byteOffset := 0 }, { name := "R32", type := 162, offset := 1, embedded := false, tag := "", pkgPath := "", byteOffset := 24 }, { name := "LatinOffset", type := 3, offset := 2, embedded := false, tag := "", pkgPath := "", byteOffset := 48 }], 3, 56, [.v (.slice none 0 0), .v (.slice none 0 0), .v (.int .i64 0)], false⟩ := rfl
theorem te_164 : klook 164 te = some ⟨.struct #[{ name := "R16", type := 161, offset := 0, embedded := false, tag := "", pkgPath := "", byteOffset := 0 }, { name := "R32", type := 162, offset := 1, embedded := false, tag := "", pkgPath := "", byteOffset := 24 }, { name := "LatinOffset", type := 3, offset := 2, embedded := false, tag := "", pkgPath := "", byteOffset := 48 }], 3, 56, [.v (.slice none 0 0), .v (.slice none 0 0), .v (.int .i64 0)], false⟩ := rfl
theorem te_165 : klook 165 te = some ⟨.int .u16, 1, 2, [.v (.int .u16 0)], false⟩ := rfl
theorem te_166 : klook 166 te = some ⟨.struct #[{ name := "Lo", type := 165, offset := 0, embedded := false, tag := "", pkgPath := "", byteOffset := 0 }, { name := "Hi", type := 165, offset := 1, embedded := false, tag := "", pkgPath := "", byteOffset := 2 }, { name := "Stride", type := 165, offset := 2, embedded := false, tag := "", pkgPath := "", byteOffset := 4 }], 3, 6, [.v (.int .u16 0), .v (.int .u16 0), .v (.int .u16 0)], true⟩ := rfl
theorem te_167 : klook 167 te = some ⟨.struct #[{ name := "Lo", type := 165, offset := 0, embedded := false, tag := "", pkgPath := "", byteOffset := 0 }, { name := "Hi", type := 165, offset := 1, embedded := false, tag := "", pkgPath := "", byteOffset := 2 }, { name := "Stride", type := 165, offset := 2, embedded := false, tag := "", pkgPath := "", byteOffset := 4 }], 3, 6, [.v (.int .u16 0), .v (.int .u16 0), .v (.int .u16 0)], true⟩ := rfl
theorem te_168 : klook 168 te = some ⟨.func #[161, 165] #[4] false, 1, 8, [.v (.nilFunc)], false⟩ := rfl
theorem te_169 : klook 169 te = some ⟨.struct #[{ name := "Lo", type := 140, offset := 0, embedded := false, tag := "", pkgPath := "", byteOffset := 0 }, { name := "Hi", type := 140, offset := 1, embedded := false, tag := "", pkgPath := "", byteOffset := 4 }, { name := "Stride", type := 140, offset := 2, embedded := false, tag := "", pkgPath := "", byteOffset := 8 }], 3, 12, [.v (.int .u32 0), .v (.int .u32 0), .v (.int .u32 0)], true⟩ := rfl
theorem te_170 : klook 170 te = some ⟨.struct #[{ name := "Lo", type := 140, offset := 0, embedded := false, tag := "", pkgPath := "", byteOffset := 0 }, { name := "Hi", type := 140, offset := 1, embedded := false, tag := "", pkgPath := "", byteOffset := 4 }, { name := "Stride", type := 140, offset := 2, embedded := false, tag := "", pkgPath := "", byteOffset := 8 }], 3, 12, [.v (.int .u32 0), .v (.int .u32 0), .v (.int .u32 0)], true⟩ := rfl
theorem te_171 : klook 171 te = some ⟨.func #[162, 140] #[4] false, 1, 8, [.v (.nilFunc)], false⟩ := rfl
theorem te_172 : klook 172 te = some ⟨.pointer 155, 1, 8, [.v (.pointer none)], false⟩ := rfl
theorem te_174 : klook 174 te = some ⟨.func #[61, 3, 3, 159, 40] #[3, 3] false, 1, 8, [.v (.nilFunc)], false⟩ := rfl
theorem te_175 : klook 175 te = some ⟨.array 32 5, 32, 32, [.v (.int .u8 0), .v (.int .u8 0), .v (.int .u8 0), .v (.int .u8 0), .v (.int .u8 0), .v (.int .u8 0), .v (.int .u8 0), .v (.int .u8 0), .v (.int .u8 0), .v (.int .u8 0), .v (.int .u8 0), .v (.int .u8 0), .v (.int .u8 0), .v (.int .u8 0), .v (.int .u8 0), .v (.int .u8 0), .v (.int .u8 0), .v (.int .u8 0), .v (.int .u8 0), .v (.int .u8 0), .v (.int .u8 0), .v (.int .u8 0), .v (.int .u8 0), .v (.int .u8 0), .v (.int .u8 0), .v (.int .u8 0), .v (.int .u8 0), .v (.int .u8 0), .v (.int .u8 0), .v (.int .u8 0), .v (.int .u8 0), .v (.int .u8 0)], false⟩ := rfl
theorem te_177 : klook 177 te = some ⟨.pointer 167, 1, 8, [.v (.pointer none)], false⟩ := rfl
theorem te_178 : klook 178 te = some ⟨.pointer 170, 1, 8, [.v (.pointer none)], false⟩ := rfl
theorem te_179 : klook 179 te = some ⟨.func #[] #[9] false, 1, 8, [.v (.nilFunc)], false⟩ := rfl
theorem te_182 : klook 182 te = some ⟨.array 0 16, 0, 0, [], false⟩ := rfl
theorem te_183 : klook 183 te = some ⟨.struct #[{ name := "_", type := 182, offset := 0, embedded := false, tag := "", pkgPath := "runtime", byteOffset := 0 }], 0, 0, [], false⟩ := rfl
theorem te_185 : klook 185 te = some ⟨.func #[] #[3] false, 1, 8, [.v (.nilFunc)], false⟩ := rfl
theorem te_188 : klook 188 te = some ⟨.func #[193, 193] #[4] false, 1, 8, [.v (.nilFunc)], false⟩ := rfl
theorem te_ok : TEok Tryd.prog te := by
  unfold te
  refine TEok.cons (z := .nilFunc) Tryd.underlying1 (by as_aux_lemma => kernel_rfl) (fun w Z => (RdL_v0 RdL_n0)) (fun h => nomatch h) ?_
  refine TEok.cons (z := .int .i64 0) Tryd.underlying2 (by as_aux_lemma => kernel_rfl) (fun w Z => (RdL_v0 RdL_n0)) (fun h => nomatch h) ?_
  refine TEok.cons (z := .int .i64 0) Tryd.underlying3 (by as_aux_lemma => kernel_rfl) (fun w Z => (RdL_v0 RdL_n0)) (fun h => nomatch h) ?_
  refine TEok.cons (z := .bool false) Tryd.underlying4 (by as_aux_lemma => kernel_rfl) (fun w Z => (RdL_v0 RdL_n0)) (fun h => nomatch h) ?_
  refine TEok.cons (z := .int .u8 0) Tryd.underlying5 (by as_aux_lemma => kernel_rfl) (fun w Z => (RdL_v0 RdL_n0)) (fun h => nomatch h) ?_
  refine TEok.cons (z := .string ⟨#[]⟩) Tryd.underlying9 (by as_aux_lemma => kernel_rfl) (fun w Z => (RdL_v0 RdL_n0)) (fun h => nomatch h) ?_
  refine TEok.cons (z := .int .u64 0) Tryd.underlying12 (by as_aux_lemma => kernel_rfl) (fun w Z => (RdL_v0 RdL_n0)) (fun h => nomatch h) ?_
  refine TEok.cons (z := .agg #[.string ⟨#[]⟩, .int .u64 0]) Tryd.underlying13 (by as_aux_lemma => kernel_rfl) (fun w Z => (RdL_v0 (RdL_v0 RdL_n0))) (fun h => nomatch h) ?_
  refine TEok.cons (z := .pointer none) Tryd.underlying15 (by as_aux_lemma => kernel_rfl) (fun w Z => (RdL_v0 RdL_n0)) (fun h => nomatch h) ?_
  refine TEok.cons (z := .pointer none) Tryd.underlying16 (by as_aux_lemma => kernel_rfl) (fun w Z => (RdL_v0 RdL_n0)) (fun h => nomatch h) ?_
  refine TEok.cons (z := .nilIface) Tryd.underlying20 (by as_aux_lemma => kernel_rfl) (fun w Z => (RdL_v0 RdL_n0)) (fun h => nomatch h) ?_
  refine TEok.cons (z := .int .i32 0) Tryd.underlying21 (by as_aux_lemma => kernel_rfl) (fun w Z => (RdL_v0 RdL_n0)) (fun h => nomatch h) ?_
  refine TEok.cons (z := .int .i64 0) Tryd.underlying22 (by as_aux_lemma => kernel_rfl) (fun w Z => (RdL_v0 RdL_n0)) (fun h => nomatch h) ?_
  refine TEok.cons (z := .agg #[.int .i64 0, .int .i64 0, .string ⟨#[]⟩]) Tryd.underlying23 (by as_aux_lemma => kernel_rfl) (fun w Z => (RdL_v0 (RdL_v0 (RdL_v0 RdL_n0)))) (fun _ => ⟨by as_aux_lemma => kernel_rfl, by as_aux_lemma => kernel_rfl⟩) ?_
  refine TEok.cons (z := .agg #[.int .i64 0, .int .i64 0, .string ⟨#[]⟩]) Tryd.underlying24 (by as_aux_lemma => kernel_rfl) (fun w Z => (RdL_v0 (RdL_v0 (RdL_v0 RdL_n0)))) (fun _ => ⟨by as_aux_lemma => kernel_rfl, by as_aux_lemma => kernel_rfl⟩) ?_
  refine TEok.cons (z := .nilFunc) Tryd.underlying25 (by as_aux_lemma => kernel_rfl) (fun w Z => (RdL_v0 RdL_n0)) (fun h => nomatch h) ?_
  refine TEok.cons (z := .int .i64 0) Tryd.underlying26 (by as_aux_lemma => kernel_rfl) (fun w Z => (RdL_v0 RdL_n0)) (fun h => nomatch h) ?_
  refine TEok.cons (z := .nilFunc) Tryd.underlying28 (by as_aux_lemma => kernel_rfl) (fun w Z => (RdL_v0 RdL_n0)) (fun h => nomatch h) ?_
  refine TEok.cons (z := .nilFunc) Tryd.underlying30 (by as_aux_lemma => kernel_rfl) (fun w Z => (RdL_v0 RdL_n0)) (fun h => nomatch h) ?_
  refine TEok.cons (z := .nilFunc) Tryd.underlying31 (by as_aux_lemma => kernel_rfl) (fun w Z => (RdL_v0 RdL_n0)) (fun h => nomatch h) ?_
  refine TEok.cons (z := .nilFunc) Tryd.underlying32 (by as_aux_lemma => kernel_rfl) (fun w Z => (RdL_v0 RdL_n0)) (fun h => nomatch h) ?_
  refine TEok.cons (z := .nilFunc) Tryd.underlying33 (by as_aux_lemma => kernel_rfl) (fun w Z => (RdL_v0 RdL_n0)) (fun h => nomatch h) ?_
  refine TEok.cons (z := .int .i64 0) Tryd.underlying34 (by as_aux_lemma => kernel_rfl) (fun w Z => (RdL_v0 RdL_n0)) (fun h => nomatch h) ?_
  refine TEok.cons (z := .nilFunc) Tryd.underlying35 (by as_aux_lemma => kernel_rfl) (fun w Z => (RdL_v0 RdL_n0)) (fun h => nomatch h) ?_
  refine TEok.cons (z := .nilFunc) Tryd.underlying36 (by as_aux_lemma => kernel_rfl) (fun w Z => (RdL_v0 RdL_n0)) (fun h => nomatch h) ?_
  refine TEok.cons (z := .nilFunc) Tryd.underlying37 (by as_aux_lemma => kernel_rfl) (fun w Z => (RdL_v0 RdL_n0)) (fun h => nomatch h) ?_
  refine TEok.cons (z := .nilFunc) Tryd.underlying38 (by as_aux_lemma => kernel_rfl) (fun w Z => (RdL_v0 RdL_n0)) (fun h => nomatch h) ?_
  refine TEok.cons (z := .slice none 0 0) Tryd.underlying39 (by as_aux_lemma => kernel_rfl) (fun w Z => (RdL_v0 RdL_n0)) (fun h => nomatch h) ?_
  refine TEok.cons (z := .nilFunc) Tryd.underlying40 (by as_aux_lemma => kernel_rfl) (fun w Z => (RdL_v0 RdL_n0)) (fun h => nomatch h) ?_
  refine TEok.cons (z := .nilFunc) Tryd.underlying41 (by as_aux_lemma => kernel_rfl) (fun w Z => (RdL_v0 RdL_n0)) (fun h => nomatch h) ?_
  refine TEok.cons (z := .nilFunc) Tryd.underlying42 (by as_aux_lemma => kernel_rfl) (fun w Z => (RdL_v0 RdL_n0)) (fun h => nomatch h) ?_
  refine TEok.cons (z := .slice none 0 0) Tryd.underlying43 (by as_aux_lemma => kernel_rfl) (fun w Z => (RdL_v0 RdL_n0)) (fun h => nomatch h) ?_
  refine TEok.cons (z := .nilFunc) Tryd.underlying45 (by as_aux_lemma => kernel_rfl) (fun w Z => (RdL_v0 RdL_n0)) (fun h => nomatch h) ?_
  refine TEok.cons (z := .slice none 0 0) Tryd.underlying46 (by as_aux_lemma => kernel_rfl) (fun w Z => (RdL_v0 RdL_n0)) (fun h => nomatch h) ?_
  refine TEok.cons (z := .nilFunc) Tryd.underlying48 (by as_aux_lemma => kernel_rfl) (fun w Z => (RdL_v0 RdL_n0)) (fun h => nomatch h) ?_
  refine TEok.cons (z := .nilFunc) Tryd.underlying49 (by as_aux_lemma => kernel_rfl) (fun w Z => (RdL_v0 RdL_n0)) (fun h => nomatch h) ?_
  refine TEok.cons (z := .nilFunc) Tryd.underlying50 (by as_aux_lemma => kernel_rfl) (fun w Z => (RdL_v0 RdL_n0)) (fun h => nomatch h) ?_
  refine TEok.cons (z := .nilFunc) Tryd.underlying51 (by as_aux_lemma => kernel_rfl) (fun w Z => (RdL_v0 RdL_n0)) (fun h => nomatch h) ?_
  refine TEok.cons (z := .nilFunc) Tryd.underlying52 (by as_aux_lemma => kernel_rfl) (fun w Z => (RdL_v0 RdL_n0)) (fun h => nomatch h) ?_
  refine TEok.cons (z := .int .i64 0) Tryd.underlying53 (by as_aux_lemma => kernel_rfl) (fun w Z => (RdL_v0 RdL_n0)) (fun h => nomatch h) ?_
  refine TEok.cons (z := .agg #[.int .i64 0, .string ⟨#[]⟩, .int .i64 0, .int .i64 0, .int .i64 0, .string ⟨#[]⟩]) Tryd.underlying54 (by as_aux_lemma => kernel_rfl) (fun w Z => (RdL_v0 (RdL_v0 (RdL_v0 (RdL_v0 (RdL_v0 (RdL_v0 RdL_n0))))))) (fun _ => ⟨by as_aux_lemma => kernel_rfl, by as_aux_lemma => kernel_rfl⟩) ?_
  refine TEok.cons (z := .agg #[.int .i64 0, .string ⟨#[]⟩, .int .i64 0, .int .i64 0, .int .i64 0, .string ⟨#[]⟩]) Tryd.underlying55 (by as_aux_lemma => kernel_rfl) (fun w Z => (RdL_v0 (RdL_v0 (RdL_v0 (RdL_v0 (RdL_v0 (RdL_v0 RdL_n0))))))) (fun _ => ⟨by as_aux_lemma => kernel_rfl, by as_aux_lemma => kernel_rfl⟩) ?_
  refine TEok.cons (z := .nilFunc) Tryd.underlying56 (by as_aux_lemma => kernel_rfl) (fun w Z => (RdL_v0 RdL_n0)) (fun h => nomatch h) ?_
  refine TEok.cons (z := .slice none 0 0) Tryd.underlying57 (by as_aux_lemma => kernel_rfl) (fun w Z => (RdL_v0 RdL_n0)) (fun h => nomatch h) ?_
  refine TEok.cons (z := .slice none 0 0) Tryd.underlying58 (by as_aux_lemma => kernel_rfl) (fun w Z => (RdL_v0 RdL_n0)) (fun h => nomatch h) ?_
  refine TEok.cons (z := .nilFunc) Tryd.underlying59 (by as_aux_lemma => kernel_rfl) (fun w Z => (RdL_v0 RdL_n0)) (fun h => nomatch h) ?_
  refine TEok.cons (z := .nilFunc) Tryd.underlying60 (by as_aux_lemma => kernel_rfl) (fun w Z => (RdL_v0 RdL_n0)) (fun h => nomatch h) ?_
  refine TEok.cons (z := .slice none 0 0) Tryd.underlying61 (by as_aux_lemma => kernel_rfl) (fun w Z => (RdL_v0 RdL_n0)) (fun h => nomatch h) ?_
  refine TEok.cons (z := .nilFunc) Tryd.underlying62 (by as_aux_lemma => kernel_rfl) (fun w Z => (RdL_v0 RdL_n0)) (fun h => nomatch h) ?_
  refine TEok.cons (z := .nilFunc) Tryd.underlying63 (by as_aux_lemma => kernel_rfl) (fun w Z => (RdL_v0 RdL_n0)) (fun h => nomatch h) ?_
  refine TEok.cons (z := .nilFunc) Tryd.underlying64 (by as_aux_lemma => kernel_rfl) (fun w Z => (RdL_v0 RdL_n0)) (fun h => nomatch h) ?_
  refine TEok.cons (z := .nilFunc) Tryd.underlying65 (by as_aux_lemma => kernel_rfl) (fun w Z => (RdL_v0 RdL_n0)) (fun h => nomatch h) ?_
  refine TEok.cons (z := .nilFunc) Tryd.underlying66 (by as_aux_lemma => kernel_rfl) (fun w Z => (RdL_v0 RdL_n0)) (fun h => nomatch h) ?_
  refine TEok.cons (z := .nilFunc) Tryd.underlying67 (by as_aux_lemma => kernel_rfl) (fun w Z => (RdL_v0 RdL_n0)) (fun h => nomatch h) ?_
  refine TEok.cons (z := .nilFunc) Tryd.underlying68 (by as_aux_lemma => kernel_rfl) (fun w Z => (RdL_v0 RdL_n0)) (fun h => nomatch h) ?_
  refine TEok.cons (z := .nilFunc) Tryd.underlying69 (by as_aux_lemma => kernel_rfl) (fun w Z => (RdL_v0 RdL_n0)) (fun h => nomatch h) ?_
  refine TEok.cons (z := .nilIface) Tryd.underlying70 (by as_aux_lemma => kernel_rfl) (fun w Z => (RdL_v0 RdL_n0)) (fun h => nomatch h) ?_
  refine TEok.cons (z := .nilIface) Tryd.underlying71 (by as_aux_lemma => kernel_rfl) (fun w Z => (RdL_v0 RdL_n0)) (fun h => nomatch h) ?_
  refine TEok.cons (z := .nilFunc) Tryd.underlying73 (by as_aux_lemma => kernel_rfl) (fun w Z => (RdL_v0 RdL_n0)) (fun h => nomatch h) ?_
  refine TEok.cons (z := .nilFunc) Tryd.underlying75 (by as_aux_lemma => kernel_rfl) (fun w Z => (RdL_v0 RdL_n0)) (fun h => nomatch h) ?_
  refine TEok.cons (z := .nilFunc) Tryd.underlying76 (by as_aux_lemma => kernel_rfl) (fun w Z => (RdL_v0 RdL_n0)) (fun h => nomatch h) ?_
  refine TEok.cons (z := .nilFunc) Tryd.underlying77 (by as_aux_lemma => kernel_rfl) (fun w Z => (RdL_v0 RdL_n0)) (fun h => nomatch h) ?_
  refine TEok.cons (z := .nilFunc) Tryd.underlying78 (by as_aux_lemma => kernel_rfl) (fun w Z => (RdL_v0 RdL_n0)) (fun h => nomatch h) ?_
  refine TEok.cons (z := .nilFunc) Tryd.underlying79 (by as_aux_lemma => kernel_rfl) (fun w Z => (RdL_v0 RdL_n0)) (fun h => nomatch h) ?_
  refine TEok.cons (z := .agg #[.int .i64 0, .string ⟨#[]⟩, .int .i64 0, .int .i64 0, .int .i64 0, .string ⟨#[]⟩]) Tryd.underlying80 (by as_aux_lemma => kernel_rfl) (fun w Z => (RdL_v0 (RdL_v0 (RdL_v0 (RdL_v0 (RdL_v0 (RdL_v0 RdL_n0))))))) (fun _ => ⟨by as_aux_lemma => kernel_rfl, by as_aux_lemma => kernel_rfl⟩) ?_
  refine TEok.cons (z := .agg #[.int .i64 0, .string ⟨#[]⟩, .int .i64 0, .int .i64 0, .int .i64 0, .string ⟨#[]⟩]) Tryd.underlying81 (by as_aux_lemma => kernel_rfl) (fun w Z => (RdL_v0 (RdL_v0 (RdL_v0 (RdL_v0 (RdL_v0 (RdL_v0 RdL_n0))))))) (fun _ => ⟨by as_aux_lemma => kernel_rfl, by as_aux_lemma => kernel_rfl⟩) ?_
  refine TEok.cons (z := .nilFunc) Tryd.underlying82 (by as_aux_lemma => kernel_rfl) (fun w Z => (RdL_v0 RdL_n0)) (fun h => nomatch h) ?_
  refine TEok.cons (z := .nilFunc) Tryd.underlying83 (by as_aux_lemma => kernel_rfl) (fun w Z => (RdL_v0 RdL_n0)) (fun h => nomatch h) ?_
  refine TEok.cons (z := .nilFunc) Tryd.underlying84 (by as_aux_lemma => kernel_rfl) (fun w Z => (RdL_v0 RdL_n0)) (fun h => nomatch h) ?_
  refine TEok.cons (z := .nilFunc) Tryd.underlying85 (by as_aux_lemma => kernel_rfl) (fun w Z => (RdL_v0 RdL_n0)) (fun h => nomatch h) ?_
  refine TEok.cons (z := .nilFunc) Tryd.underlying87 (by as_aux_lemma => kernel_rfl) (fun w Z => (RdL_v0 RdL_n0)) (fun h => nomatch h) ?_
  refine TEok.cons (z := .nilFunc) Tryd.underlying88 (by as_aux_lemma => kernel_rfl) (fun w Z => (RdL_v0 RdL_n0)) (fun h => nomatch h) ?_
  refine TEok.cons (z := .nilFunc) Tryd.underlying89 (by as_aux_lemma => kernel_rfl) (fun w Z => (RdL_v0 RdL_n0)) (fun h => nomatch h) ?_
  refine TEok.cons (z := .nilFunc) Tryd.underlying90 (by as_aux_lemma => kernel_rfl) (fun w Z => (RdL_v0 RdL_n0)) (fun h => nomatch h) ?_
  refine TEok.cons (z := .nilFunc) Tryd.underlying91 (by as_aux_lemma => kernel_rfl) (fun w Z => (RdL_v0 RdL_n0)) (fun h => nomatch h) ?_
  refine TEok.cons (z := .nilFunc) Tryd.underlying92 (by as_aux_lemma => kernel_rfl) (fun w Z => (RdL_v0 RdL_n0)) (fun h => nomatch h) ?_
  refine TEok.cons (z := .nilFunc) Tryd.underlying93 (by as_aux_lemma => kernel_rfl) (fun w Z => (RdL_v0 RdL_n0)) (fun h => nomatch h) ?_
  refine TEok.cons (z := .slice none 0 0) Tryd.underlying94 (by as_aux_lemma => kernel_rfl) (fun w Z => (RdL_v0 RdL_n0)) (fun h => nomatch h) ?_
  refine TEok.cons (z := .nilFunc) Tryd.underlying95 (by as_aux_lemma => kernel_rfl) (fun w Z => (RdL_v0 RdL_n0)) (fun h => nomatch h) ?_
  refine TEok.cons (z := .nilFunc) Tryd.underlying96 (by as_aux_lemma => kernel_rfl) (fun w Z => (RdL_v0 RdL_n0)) (fun h => nomatch h) ?_
  refine TEok.cons (z := .nilFunc) Tryd.underlying97 (by as_aux_lemma => kernel_rfl) (fun w Z => (RdL_v0 RdL_n0)) (fun h => nomatch h) ?_
  refine TEok.cons (z := .nilFunc) Tryd.underlying98 (by as_aux_lemma => kernel_rfl) (fun w Z => (RdL_v0 RdL_n0)) (fun h => nomatch h) ?_
  refine TEok.cons (z := .nilFunc) Tryd.underlying99 (by as_aux_lemma => kernel_rfl) (fun w Z => (RdL_v0 RdL_n0)) (fun h => nomatch h) ?_
  refine TEok.cons (z := .nilFunc) Tryd.underlying100 (by as_aux_lemma => kernel_rfl) (fun w Z => (RdL_v0 RdL_n0)) (fun h => nomatch h) ?_
  refine TEok.cons (z := .nilFunc) Tryd.underlying101 (by as_aux_lemma => kernel_rfl) (fun w Z => (RdL_v0 RdL_n0)) (fun h => nomatch h) ?_
  refine TEok.cons (z := .nilFunc) Tryd.underlying102 (by as_aux_lemma => kernel_rfl) (fun w Z => (RdL_v0 RdL_n0)) (fun h => nomatch h) ?_
  refine TEok.cons (z := .nilFunc) Tryd.underlying103 (by as_aux_lemma => kernel_rfl) (fun w Z => (RdL_v0 RdL_n0)) (fun h => nomatch h) ?_
  refine TEok.cons (z := .nilFunc) Tryd.underlying104 (by as_aux_lemma => kernel_rfl) (fun w Z => (RdL_v0 RdL_n0)) (fun h => nomatch h) ?_
  refine TEok.cons (z := .nilFunc) Tryd.underlying105 (by as_aux_lemma => kernel_rfl) (fun w Z => (RdL_v0 RdL_n0)) (fun h => nomatch h) ?_
  refine TEok.cons (z := .int .i64 0) Tryd.underlying106 (by as_aux_lemma => kernel_rfl) (fun w Z => (RdL_v0 RdL_n0)) (fun h => nomatch h) ?_
  refine TEok.cons (z := .nilFunc) Tryd.underlying108 (by as_aux_lemma => kernel_rfl) (fun w Z => (RdL_v0 RdL_n0)) (fun h => nomatch h) ?_
  refine TEok.cons (z := .pointer none) Tryd.underlying109 (by as_aux_lemma => kernel_rfl) (fun w Z => (RdL_v0 RdL_n0)) (fun h => nomatch h) ?_
  refine TEok.cons (z := .nilFunc) Tryd.underlying110 (by as_aux_lemma => kernel_rfl) (fun w Z => (RdL_v0 RdL_n0)) (fun h => nomatch h) ?_
  refine TEok.cons (z := .nilFunc) Tryd.underlying111 (by as_aux_lemma => kernel_rfl) (fun w Z => (RdL_v0 RdL_n0)) (fun h => nomatch h) ?_
  refine TEok.cons (z := .nilFunc) Tryd.underlying112 (by as_aux_lemma => kernel_rfl) (fun w Z => (RdL_v0 RdL_n0)) (fun h => nomatch h) ?_
  refine TEok.cons (z := .nilFunc) Tryd.underlying113 (by as_aux_lemma => kernel_rfl) (fun w Z => (RdL_v0 RdL_n0)) (fun h => nomatch h) ?_
  refine TEok.cons (z := .nilFunc) Tryd.underlying114 (by as_aux_lemma => kernel_rfl) (fun w Z => (RdL_v0 RdL_n0)) (fun h => nomatch h) ?_
  refine TEok.cons (z := .nilFunc) Tryd.underlying115 (by as_aux_lemma => kernel_rfl) (fun w Z => (RdL_v0 RdL_n0)) (fun h => nomatch h) ?_
  refine TEok.cons (z := .nilFunc) Tryd.underlying116 (by as_aux_lemma => kernel_rfl) (fun w Z => (RdL_v0 RdL_n0)) (fun h => nomatch h) ?_
  refine TEok.cons (z := .int .u64 0) Tryd.underlying117 (by as_aux_lemma => kernel_rfl) (fun w Z => (RdL_v0 RdL_n0)) (fun h => nomatch h) ?_
  refine TEok.cons (z := .agg #[.int .u8 0, .int .u8 0, .int .u8 0, .int .u8 0, .int .u8 0, .int .u8 0, .int .u8 0, .int .u8 0, .int .u8 0, .int .u8 0, .int .u8 0, .int .u8 0, .int .u8 0, .int .u8 0, .int .u8 0, .int .u8 0, .int .u8 0, .int .u8 0, .int .u8 0, .int .u8 0, .int .u8 0, .int .u8 0, .int .u8 0, .int .u8 0]) Tryd.underlying118 (by as_aux_lemma => kernel_rfl) (fun w Z => (RdL_v0 (RdL_v0 (RdL_v0 (RdL_v0 (RdL_v0 (RdL_v0 (RdL_v0 (RdL_v0 (RdL_v0 (RdL_v0 (RdL_v0 (RdL_v0 (RdL_v0 (RdL_v0 (RdL_v0 (RdL_v0 (RdL_v0 (RdL_v0 (RdL_v0 (RdL_v0 (RdL_v0 (RdL_v0 (RdL_v0 (RdL_v0 RdL_n0))))))))))))))))))))))))) (fun h => nomatch h) ?_
  refine TEok.cons (z := .int .u64 0) Tryd.underlying119 (by as_aux_lemma => kernel_rfl) (fun w Z => (RdL_v0 RdL_n0)) (fun h => nomatch h) ?_
  refine TEok.cons (z := .nilFunc) Tryd.underlying120 (by as_aux_lemma => kernel_rfl) (fun w Z => (RdL_v0 RdL_n0)) (fun h => nomatch h) ?_
  refine TEok.cons (z := .nilFunc) Tryd.underlying121 (by as_aux_lemma => kernel_rfl) (fun w Z => (RdL_v0 RdL_n0)) (fun h => nomatch h) ?_
  refine TEok.cons (z := .nilFunc) Tryd.underlying123 (by as_aux_lemma => kernel_rfl) (fun w Z => (RdL_v0 RdL_n0)) (fun h => nomatch h) ?_
  refine TEok.cons (z := .nilFunc) Tryd.underlying125 (by as_aux_lemma => kernel_rfl) (fun w Z => (RdL_v0 RdL_n0)) (fun h => nomatch h) ?_
  refine TEok.cons (z := .nilFunc) Tryd.underlying126 (by as_aux_lemma => kernel_rfl) (fun w Z => (RdL_v0 RdL_n0)) (fun h => nomatch h) ?_
  refine TEok.cons (z := .agg #[.string ⟨#[]⟩, .string ⟨#[]⟩, .nilIface]) Tryd.underlying127 (by as_aux_lemma => kernel_rfl) (fun w Z => (RdL_v0 (RdL_v0 (RdL_v0 RdL_n0)))) (fun h => nomatch h) ?_
  refine TEok.cons (z := .agg #[.string ⟨#[]⟩, .string ⟨#[]⟩, .nilIface]) Tryd.underlying128 (by as_aux_lemma => kernel_rfl) (fun w Z => (RdL_v0 (RdL_v0 (RdL_v0 RdL_n0)))) (fun h => nomatch h) ?_
  refine TEok.cons (z := .nilFunc) Tryd.underlying129 (by as_aux_lemma => kernel_rfl) (fun w Z => (RdL_v0 RdL_n0)) (fun h => nomatch h) ?_
  refine TEok.cons (z := .nilFunc) Tryd.underlying131 (by as_aux_lemma => kernel_rfl) (fun w Z => (RdL_v0 RdL_n0)) (fun h => nomatch h) ?_
  refine TEok.cons (z := .nilFunc) Tryd.underlying132 (by as_aux_lemma => kernel_rfl) (fun w Z => (RdL_v0 RdL_n0)) (fun h => nomatch h) ?_
  refine TEok.cons (z := .int .i64 0) Tryd.underlying133 (by as_aux_lemma => kernel_rfl) (fun w Z => (RdL_v0 RdL_n0)) (fun h => nomatch h) ?_
  refine TEok.cons (z := .nilFunc) Tryd.underlying135 (by as_aux_lemma => kernel_rfl) (fun w Z => (RdL_v0 RdL_n0)) (fun h => nomatch h) ?_
  refine TEok.cons (z := .nilFunc) Tryd.underlying136 (by as_aux_lemma => kernel_rfl) (fun w Z => (RdL_v0 RdL_n0)) (fun h => nomatch h) ?_
  refine TEok.cons (z := .nilFunc) Tryd.underlying137 (by as_aux_lemma => kernel_rfl) (fun w Z => (RdL_v0 RdL_n0)) (fun h => nomatch h) ?_
  refine TEok.cons (z := .nilFunc) Tryd.underlying138 (by as_aux_lemma => kernel_rfl) (fun w Z => (RdL_v0 RdL_n0)) (fun h => nomatch h) ?_
  refine TEok.cons (z := .nilFunc) Tryd.underlying139 (by as_aux_lemma => kernel_rfl) (fun w Z => (RdL_v0 RdL_n0)) (fun h => nomatch h) ?_
  refine TEok.cons (z := .int .u32 0) Tryd.underlying140 (by as_aux_lemma => kernel_rfl) (fun w Z => (RdL_v0 RdL_n0)) (fun h => nomatch h) ?_
  refine TEok.cons (z := .nilFunc) Tryd.underlying141 (by as_aux_lemma => kernel_rfl) (fun w Z => (RdL_v0 RdL_n0)) (fun h => nomatch h) ?_
  refine TEok.cons (z := .nilFunc) Tryd.underlying142 (by as_aux_lemma => kernel_rfl) (fun w Z => (RdL_v0 RdL_n0)) (fun h => nomatch h) ?_
  refine TEok.cons (z := .agg #[.int .u64 0, .int .u64 0, .int .u64 0, .int .u64 0, .int .u64 0, .int .u64 0, .int .u64 0, .int .u64 0, .int .u64 0, .int .u64 0, .int .u64 0, .int .u64 0, .int .u64 0, .int .u64 0, .int .u64 0, .int .u64 0, .int .u64 0, .int .u64 0, .int .u64 0, .int .u64 0]) Tryd.underlying143 (by as_aux_lemma => kernel_rfl) (fun w Z => (RdL_v0 (RdL_v0 (RdL_v0 (RdL_v0 (RdL_v0 (RdL_v0 (RdL_v0 (RdL_v0 (RdL_v0 (RdL_v0 (RdL_v0 (RdL_v0 (RdL_v0 (RdL_v0 (RdL_v0 (RdL_v0 (RdL_v0 (RdL_v0 (RdL_v0 (RdL_v0 RdL_n0))))))))))))))))))))) (fun h => nomatch h) ?_
  refine TEok.cons (z := .nilFunc) Tryd.underlying145 (by as_aux_lemma => kernel_rfl) (fun w Z => (RdL_v0 RdL_n0)) (fun h => nomatch h) ?_
  refine TEok.cons (z := .pointer none) Tryd.underlying146 (by as_aux_lemma => kernel_rfl) (fun w Z => (RdL_v0 RdL_n0)) (fun h => nomatch h) ?_
  refine TEok.cons (z := .pointer none) Tryd.underlying147 (by as_aux_lemma => kernel_rfl) (fun w Z => (RdL_v0 RdL_n0)) (fun h => nomatch h) ?_
  refine TEok.cons (z := .agg #[.string ⟨#[]⟩]) Tryd.underlying148 (by as_aux_lemma => kernel_rfl) (fun w Z => (RdL_v0 RdL_n0)) (fun _ => ⟨by as_aux_lemma => kernel_rfl, by as_aux_lemma => kernel_rfl⟩) ?_
  refine TEok.cons (z := .agg #[.string ⟨#[]⟩]) Tryd.underlying149 (by as_aux_lemma => kernel_rfl) (fun w Z => (RdL_v0 RdL_n0)) (fun _ => ⟨by as_aux_lemma => kernel_rfl, by as_aux_lemma => kernel_rfl⟩) ?_
  refine TEok.cons (z := .slice none 0 0) Tryd.underlying150 (by as_aux_lemma => kernel_rfl) (fun w Z => (RdL_v0 RdL_n0)) (fun h => nomatch h) ?_
  refine TEok.cons (z := .agg #[.int .i64 0, .int .i64 0]) Tryd.underlying151 (by as_aux_lemma => kernel_rfl) (fun w Z => (RdL_v0 (RdL_v0 RdL_n0))) (fun _ => ⟨by as_aux_lemma => kernel_rfl, by as_aux_lemma => kernel_rfl⟩) ?_
  refine TEok.cons (z := .agg #[.int .i64 0, .int .i64 0]) Tryd.underlying152 (by as_aux_lemma => kernel_rfl) (fun w Z => (RdL_v0 (RdL_v0 RdL_n0))) (fun _ => ⟨by as_aux_lemma => kernel_rfl, by as_aux_lemma => kernel_rfl⟩) ?_
  refine TEok.cons (z := .nilFunc) Tryd.underlying153 (by as_aux_lemma => kernel_rfl) (fun w Z => (RdL_v0 RdL_n0)) (fun h => nomatch h) ?_
  refine TEok.cons (z := .pointer none) Tryd.underlying154 (by as_aux_lemma => kernel_rfl) (fun w Z => (RdL_v0 RdL_n0)) (fun h => nomatch h) ?_
  refine TEok.cons (z := .int .u64 0) Tryd.underlying155 (by as_aux_lemma => kernel_rfl) (fun w Z => (RdL_v0 RdL_n0)) (fun h => nomatch h) ?_
  refine TEok.cons (z := .nilFunc) Tryd.underlying156 (by as_aux_lemma => kernel_rfl) (fun w Z => (RdL_v0 RdL_n0)) (fun h => nomatch h) ?_
  refine TEok.cons (z := .nilFunc) Tryd.underlying157 (by as_aux_lemma => kernel_rfl) (fun w Z => (RdL_v0 RdL_n0)) (fun h => nomatch h) ?_
  refine TEok.cons (z := .nilFunc) Tryd.underlying158 (by as_aux_lemma => kernel_rfl) (fun w Z => (RdL_v0 RdL_n0)) (fun h => nomatch h) ?_
  refine TEok.cons (z := .pointer none) Tryd.underlying159 (by as_aux_lemma => kernel_rfl) (fun w Z => (RdL_v0 RdL_n0)) (fun h => nomatch h) ?_
  refine TEok.cons (z := .nilFunc) Tryd.underlying160 (by as_aux_lemma => kernel_rfl) (fun w Z => (RdL_v0 RdL_n0)) (fun h => nomatch h) ?_
  refine TEok.cons (z := .slice none 0 0) Tryd.underlying161 (by as_aux_lemma => kernel_rfl) (fun w Z => (RdL_v0 RdL_n0)) (fun h => nomatch h) ?_
  refine TEok.cons (z := .slice none 0 0) Tryd.underlying162 (by as_aux_lemma => kernel_rfl) (fun w Z => (RdL_v0 RdL_n0)) (fun h => nomatch h) ?_
  refine TEok.cons (z := .agg #[.slice none 0 0, .slice none 0 0, .int .i64 0]) Tryd.underlying163 (by as_aux_lemma => kernel_rfl) (fun w Z => (RdL_v0 (RdL_v0 (RdL_v0 RdL_n0)))) (fun h => nomatch h) ?_
  refine TEok.cons (z := .agg #[.slice none 0 0, .slice none 0 0, .int .i64 0]) Tryd.underlying164 (by as_aux_lemma => kernel_rfl) (fun w Z => (RdL_v0 (RdL_v0 (RdL_v0 RdL_n0)))) (fun h => nomatch h) ?_
  refine TEok.cons (z := .int .u16 0) Tryd.underlying165 (by as_aux_lemma => kernel_rfl) (fun w Z => (RdL_v0 RdL_n0)) (fun h => nomatch h) ?_
  refine TEok.cons (z := .agg #[.int .u16 0, .int .u16 0, .int .u16 0]) Tryd.underlying166 (by as_aux_lemma => kernel_rfl) (fun w Z => (RdL_v0 (RdL_v0 (RdL_v0 RdL_n0)))) (fun _ => ⟨by as_aux_lemma => kernel_rfl, by as_aux_lemma => kernel_rfl⟩) ?_
  refine TEok.cons (z := .agg #[.int .u16 0, .int .u16 0, .int .u16 0]) Tryd.underlying167 (by as_aux_lemma => kernel_rfl) (fun w Z => (RdL_v0 (RdL_v0 (RdL_v0 RdL_n0)))) (fun _ => ⟨by as_aux_lemma => kernel_rfl, by as_aux_lemma => kernel_rfl⟩) ?_
  refine TEok.cons (z := .nilFunc) Tryd.underlying168 (by as_aux_lemma => kernel_rfl) (fun w Z => (RdL_v0 RdL_n0)) (fun h => nomatch h) ?_
  refine TEok.cons (z := .agg #[.int .u32 0, .int .u32 0, .int .u32 0]) Tryd.underlying169 (by as_aux_lemma => kernel_rfl) (fun w Z => (RdL_v0 (RdL_v0 (RdL_v0 RdL_n0)))) (fun _ => ⟨by as_aux_lemma => kernel_rfl, by as_aux_lemma => kernel_rfl⟩) ?_
  refine TEok.cons (z := .agg #[.int .u32 0, .int .u32 0, .int .u32 0]) Tryd.underlying170 (by as_aux_lemma => kernel_rfl) (fun w Z => (RdL_v0 (RdL_v0 (RdL_v0 RdL_n0)))) (fun _ => ⟨by as_aux_lemma => kernel_rfl, by as_aux_lemma => kernel_rfl⟩) ?_
  refine TEok.cons (z := .nilFunc) Tryd.underlying171 (by as_aux_lemma => kernel_rfl) (fun w Z => (RdL_v0 RdL_n0)) (fun h => nomatch h) ?_
  refine TEok.cons (z := .pointer none) Tryd.underlying172 (by as_aux_lemma => kernel_rfl) (fun w Z => (RdL_v0 RdL_n0)) (fun h => nomatch h) ?_
  refine TEok.cons (z := .nilFunc) Tryd.underlying174 (by as_aux_lemma => kernel_rfl) (fun w Z => (RdL_v0 RdL_n0)) (fun h => nomatch h) ?_
  refine TEok.cons (z := .agg #[.int .u8 0, .int .u8 0, .int .u8 0, .int .u8 0, .int .u8 0, .int .u8 0, .int .u8 0, .int .u8 0, .int .u8 0, .int .u8 0, .int .u8 0, .int .u8 0, .int .u8 0, .int .u8 0, .int .u8 0, .int .u8 0, .int .u8 0, .int .u8 0, .int .u8 0, .int .u8 0, .int .u8 0, .int .u8 0, .int .u8 0, .int .u8 0, .int .u8 0, .int .u8 0, .int .u8 0, .int .u8 0, .int .u8 0, .int .u8 0, .int .u8 0, .int .u8 0]) Tryd.underlying175 (by as_aux_lemma => kernel_rfl) (fun w Z => (RdL_v0 (RdL_v0 (RdL_v0 (RdL_v0 (RdL_v0 (RdL_v0 (RdL_v0 (RdL_v0 (RdL_v0 (RdL_v0 (RdL_v0 (RdL_v0 (RdL_v0 (RdL_v0 (RdL_v0 (RdL_v0 (RdL_v0 (RdL_v0 (RdL_v0 (RdL_v0 (RdL_v0 (RdL_v0 (RdL_v0 (RdL_v0 (RdL_v0 (RdL_v0 (RdL_v0 (RdL_v0 (RdL_v0 (RdL_v0 (RdL_v0 (RdL_v0 RdL_n0))))))))))))))))))))))))))))))))) (fun h => nomatch h) ?_
  refine TEok.cons (z := .pointer none) Tryd.underlying177 (by as_aux_lemma => kernel_rfl) (fun w Z => (RdL_v0 RdL_n0)) (fun h => nomatch h) ?_
  refine TEok.cons (z := .pointer none) Tryd.underlying178 (by as_aux_lemma => kernel_rfl) (fun w Z => (RdL_v0 RdL_n0)) (fun h => nomatch h) ?_
  refine TEok.cons (z := .nilFunc) Tryd.underlying179 (by as_aux_lemma => kernel_rfl) (fun w Z => (RdL_v0 RdL_n0)) (fun h => nomatch h) ?_
  refine TEok.cons (z := .agg #[]) Tryd.underlying182 (by as_aux_lemma => kernel_rfl) (fun w Z => RdL_n0) (fun h => nomatch h) ?_
  refine TEok.cons (z := .agg #[]) Tryd.underlying183 (by as_aux_lemma => kernel_rfl) (fun w Z => RdL_n0) (fun h => nomatch h) ?_
  refine TEok.cons (z := .nilFunc) Tryd.underlying185 (by as_aux_lemma => kernel_rfl) (fun w Z => (RdL_v0 RdL_n0)) (fun h => nomatch h) ?_
  refine TEok.cons (z := .nilFunc) Tryd.underlying188 (by as_aux_lemma => kernel_rfl) (fun w Z => (RdL_v0 RdL_n0)) (fun h => nomatch h) ?_
  exact TEok.nil

end Go.Proofs.YtmnponhhmkdcdaaDoor
