/- Contracts of functions of the seat, walked. -/
import Derived.Test.YtmnponhhmkdcdaaGreatDoorRows
import Derived.Test.YtmnponhhmkdcdaaGreatDoorKFn
import Derived.KernelRfl
namespace Go.Proofs.YtmnponhhmkdcdaaGreatDoor
open Go.Kin
set_option maxRecDepth 100000
/-! the types, as the engine looks at them -/
def te : TE := [
  (1, ⟨.func #[] #[] false, 1, 8, [.v (.nilFunc)], false⟩),
  (2, ⟨.int .i64, 1, 8, [.v (.int .i64 0)], false⟩),
  (3, ⟨.int .i64, 1, 8, [.v (.int .i64 0)], false⟩),
  (4, ⟨.bool, 1, 1, [.v (.bool false)], false⟩),
  (5, ⟨.int .u8, 1, 1, [.v (.int .u8 0)], false⟩),
  (9, ⟨.string, 1, 16, [.v (.string (mkS []))], false⟩),
  (12, ⟨.int .u64, 1, 8, [.v (.int .u64 0)], false⟩),
  (13, ⟨.struct #[{ name := "msg", type := 9, offset := 0, embedded := false, tag := "", pkgPath := "runtime", byteOffset := 0 }, { name := "addr", type := 12, offset := 1, embedded := false, tag := "", pkgPath := "runtime", byteOffset := 16 }], 2, 24, [.v (.string (mkS [])), .v (.int .u64 0)], false⟩),
  (15, ⟨.pointer 260, 1, 8, [.v (.pointer none)], false⟩),
  (16, ⟨.pointer 263, 1, 8, [.v (.pointer none)], false⟩),
  (20, ⟨.interface #[], 1, 16, [.v (.nilIface)], false⟩),
  (21, ⟨.int .i32, 1, 4, [.v (.int .i32 0)], false⟩),
  (22, ⟨.slice 56, 1, 24, [.v (.slice none 0 0)], false⟩),
  (23, ⟨.slice 53, 1, 24, [.v (.slice none 0 0)], false⟩),
  (24, ⟨.slice 51, 1, 24, [.v (.slice none 0 0)], false⟩),
  (25, ⟨.struct #[{ name := "Patterns", type := 22, offset := 0, embedded := false, tag := "", pkgPath := "", byteOffset := 0 }, { name := "Conds", type := 23, offset := 1, embedded := false, tag := "", pkgPath := "", byteOffset := 24 }, { name := "Return", type := 24, offset := 2, embedded := false, tag := "", pkgPath := "", byteOffset := 48 }, { name := "Range", type := 3, offset := 3, embedded := false, tag := "", pkgPath := "", byteOffset := 72 }, { name := "Slide", type := 3, offset := 4, embedded := false, tag := "", pkgPath := "", byteOffset := 80 }], 5, 88, [.v (.slice none 0 0), .v (.slice none 0 0), .v (.slice none 0 0), .v (.int .i64 0), .v (.int .i64 0)], false⟩),
  (26, ⟨.struct #[{ name := "Patterns", type := 22, offset := 0, embedded := false, tag := "", pkgPath := "", byteOffset := 0 }, { name := "Conds", type := 23, offset := 1, embedded := false, tag := "", pkgPath := "", byteOffset := 24 }, { name := "Return", type := 24, offset := 2, embedded := false, tag := "", pkgPath := "", byteOffset := 48 }, { name := "Range", type := 3, offset := 3, embedded := false, tag := "", pkgPath := "", byteOffset := 72 }, { name := "Slide", type := 3, offset := 4, embedded := false, tag := "", pkgPath := "", byteOffset := 80 }], 5, 88, [.v (.slice none 0 0), .v (.slice none 0 0), .v (.slice none 0 0), .v (.int .i64 0), .v (.int .i64 0)], false⟩),
  (27, ⟨.int .i64, 1, 8, [.v (.int .i64 0)], false⟩),
  (28, ⟨.slice 30, 1, 24, [.v (.slice none 0 0)], false⟩),
  (29, ⟨.struct #[{ name := "Kind", type := 27, offset := 0, embedded := false, tag := "", pkgPath := "", byteOffset := 0 }, { name := "Label", type := 9, offset := 1, embedded := false, tag := "", pkgPath := "", byteOffset := 8 }, { name := "Kids", type := 28, offset := 2, embedded := false, tag := "", pkgPath := "", byteOffset := 24 }], 3, 48, [.v (.int .i64 0), .v (.string (mkS [])), .v (.slice none 0 0)], false⟩),
  (30, ⟨.struct #[{ name := "Kind", type := 27, offset := 0, embedded := false, tag := "", pkgPath := "", byteOffset := 0 }, { name := "Label", type := 9, offset := 1, embedded := false, tag := "", pkgPath := "", byteOffset := 8 }, { name := "Kids", type := 28, offset := 2, embedded := false, tag := "", pkgPath := "", byteOffset := 24 }], 3, 48, [.v (.int .i64 0), .v (.string (mkS [])), .v (.slice none 0 0)], false⟩),
  (31, ⟨.func #[26] #[3] false, 1, 8, [.v (.nilFunc)], false⟩),
  (32, ⟨.func #[30, 3] #[3] false, 1, 8, [.v (.nilFunc)], false⟩),
  (33, ⟨.func #[] #[4] false, 1, 8, [.v (.nilFunc)], false⟩),
  (34, ⟨.func #[26] #[26] false, 1, 8, [.v (.nilFunc)], false⟩),
  (35, ⟨.func #[30] #[30] false, 1, 8, [.v (.nilFunc)], false⟩),
  (36, ⟨.int .i64, 1, 8, [.v (.int .i64 0)], false⟩),
  (38, ⟨.func #[26] #[9, 36] false, 1, 8, [.v (.nilFunc)], false⟩),
  (39, ⟨.func #[30] #[9, 36] false, 1, 8, [.v (.nilFunc)], false⟩),
  (40, ⟨.func #[26, 26] #[4] false, 1, 8, [.v (.nilFunc)], false⟩),
  (41, ⟨.func #[30, 30] #[4] false, 1, 8, [.v (.nilFunc)], false⟩),
  (42, ⟨.func #[26, 30] #[4] false, 1, 8, [.v (.nilFunc)], false⟩),
  (43, ⟨.func #[3, 3] #[30] false, 1, 8, [.v (.nilFunc)], false⟩),
  (44, ⟨.func #[] #[26] false, 1, 8, [.v (.nilFunc)], false⟩),
  (45, ⟨.int .i64, 1, 8, [.v (.int .i64 0)], false⟩),
  (46, ⟨.int .i64, 1, 8, [.v (.int .i64 0)], false⟩),
  (47, ⟨.int .i64, 1, 8, [.v (.int .i64 0)], false⟩),
  (48, ⟨.struct #[{ name := "Kind", type := 47, offset := 0, embedded := false, tag := "", pkgPath := "", byteOffset := 0 }, { name := "Num", type := 3, offset := 1, embedded := false, tag := "", pkgPath := "", byteOffset := 8 }, { name := "Text", type := 9, offset := 2, embedded := false, tag := "", pkgPath := "", byteOffset := 16 }], 3, 32, [.v (.int .i64 0), .v (.int .i64 0), .v (.string (mkS []))], true⟩),
  (49, ⟨.struct #[{ name := "Kind", type := 47, offset := 0, embedded := false, tag := "", pkgPath := "", byteOffset := 0 }, { name := "Num", type := 3, offset := 1, embedded := false, tag := "", pkgPath := "", byteOffset := 8 }, { name := "Text", type := 9, offset := 2, embedded := false, tag := "", pkgPath := "", byteOffset := 16 }], 3, 32, [.v (.int .i64 0), .v (.int .i64 0), .v (.string (mkS []))], true⟩),
  (50, ⟨.struct #[{ name := "Kind", type := 46, offset := 0, embedded := false, tag := "", pkgPath := "", byteOffset := 0 }, { name := "Name", type := 9, offset := 1, embedded := false, tag := "", pkgPath := "", byteOffset := 8 }, { name := "Key", type := 9, offset := 2, embedded := false, tag := "", pkgPath := "", byteOffset := 24 }, { name := "Val", type := 49, offset := 3, embedded := false, tag := "", pkgPath := "", byteOffset := 40 }], 6, 72, [.v (.int .i64 0), .v (.string (mkS [])), .v (.string (mkS [])), .v (.int .i64 0), .v (.int .i64 0), .v (.string (mkS []))], true⟩),
  (51, ⟨.struct #[{ name := "Kind", type := 46, offset := 0, embedded := false, tag := "", pkgPath := "", byteOffset := 0 }, { name := "Name", type := 9, offset := 1, embedded := false, tag := "", pkgPath := "", byteOffset := 8 }, { name := "Key", type := 9, offset := 2, embedded := false, tag := "", pkgPath := "", byteOffset := 24 }, { name := "Val", type := 49, offset := 3, embedded := false, tag := "", pkgPath := "", byteOffset := 40 }], 6, 72, [.v (.int .i64 0), .v (.string (mkS [])), .v (.string (mkS [])), .v (.int .i64 0), .v (.int .i64 0), .v (.string (mkS []))], true⟩),
  (52, ⟨.struct #[{ name := "Op", type := 45, offset := 0, embedded := false, tag := "", pkgPath := "", byteOffset := 0 }, { name := "Left", type := 51, offset := 1, embedded := false, tag := "", pkgPath := "", byteOffset := 8 }, { name := "Right", type := 51, offset := 7, embedded := false, tag := "", pkgPath := "", byteOffset := 80 }], 13, 152, [.v (.int .i64 0), .v (.int .i64 0), .v (.string (mkS [])), .v (.string (mkS [])), .v (.int .i64 0), .v (.int .i64 0), .v (.string (mkS [])), .v (.int .i64 0), .v (.string (mkS [])), .v (.string (mkS [])), .v (.int .i64 0), .v (.int .i64 0), .v (.string (mkS []))], true⟩),
  (53, ⟨.struct #[{ name := "Op", type := 45, offset := 0, embedded := false, tag := "", pkgPath := "", byteOffset := 0 }, { name := "Left", type := 51, offset := 1, embedded := false, tag := "", pkgPath := "", byteOffset := 8 }, { name := "Right", type := 51, offset := 7, embedded := false, tag := "", pkgPath := "", byteOffset := 80 }], 13, 152, [.v (.int .i64 0), .v (.int .i64 0), .v (.string (mkS [])), .v (.string (mkS [])), .v (.int .i64 0), .v (.int .i64 0), .v (.string (mkS [])), .v (.int .i64 0), .v (.string (mkS [])), .v (.string (mkS [])), .v (.int .i64 0), .v (.int .i64 0), .v (.string (mkS []))], true⟩),
  (54, ⟨.func #[9] #[30] false, 1, 8, [.v (.nilFunc)], false⟩),
  (55, ⟨.struct #[{ name := "From", type := 9, offset := 0, embedded := false, tag := "", pkgPath := "", byteOffset := 0 }, { name := "To", type := 9, offset := 1, embedded := false, tag := "", pkgPath := "", byteOffset := 16 }, { name := "Path", type := 4, offset := 2, embedded := false, tag := "", pkgPath := "", byteOffset := 32 }, { name := "Label", type := 9, offset := 3, embedded := false, tag := "", pkgPath := "", byteOffset := 40 }, { name := "Name", type := 9, offset := 4, embedded := false, tag := "", pkgPath := "", byteOffset := 56 }, { name := "Expr", type := 30, offset := 5, embedded := false, tag := "", pkgPath := "", byteOffset := 72 }], 8, 120, [.v (.string (mkS [])), .v (.string (mkS [])), .v (.bool false), .v (.string (mkS [])), .v (.string (mkS [])), .v (.int .i64 0), .v (.string (mkS [])), .v (.slice none 0 0)], false⟩),
  (56, ⟨.struct #[{ name := "From", type := 9, offset := 0, embedded := false, tag := "", pkgPath := "", byteOffset := 0 }, { name := "To", type := 9, offset := 1, embedded := false, tag := "", pkgPath := "", byteOffset := 16 }, { name := "Path", type := 4, offset := 2, embedded := false, tag := "", pkgPath := "", byteOffset := 32 }, { name := "Label", type := 9, offset := 3, embedded := false, tag := "", pkgPath := "", byteOffset := 40 }, { name := "Name", type := 9, offset := 4, embedded := false, tag := "", pkgPath := "", byteOffset := 56 }, { name := "Expr", type := 30, offset := 5, embedded := false, tag := "", pkgPath := "", byteOffset := 72 }], 8, 120, [.v (.string (mkS [])), .v (.string (mkS [])), .v (.bool false), .v (.string (mkS [])), .v (.string (mkS [])), .v (.int .i64 0), .v (.string (mkS [])), .v (.slice none 0 0)], false⟩),
  (57, ⟨.func #[27, 28] #[30] true, 1, 8, [.v (.nilFunc)], false⟩),
  (58, ⟨.func #[9] #[4] false, 1, 8, [.v (.nilFunc)], false⟩),
  (59, ⟨.slice 9, 1, 24, [.v (.slice none 0 0)], false⟩),
  (60, ⟨.func #[] #[59] false, 1, 8, [.v (.nilFunc)], false⟩),
  (61, ⟨.func #[9, 9, 3] #[9] false, 1, 8, [.v (.nilFunc)], false⟩),
  (62, ⟨.slice 69, 1, 24, [.v (.slice none 0 0)], false⟩),
  (64, ⟨.func #[9] #[62, 3, 36] false, 1, 8, [.v (.nilFunc)], false⟩),
  (65, ⟨.func #[3, 3] #[3] false, 1, 8, [.v (.nilFunc)], false⟩),
  (66, ⟨.slice 3, 1, 24, [.v (.slice none 0 0)], false⟩),
  (67, ⟨.int .i64, 1, 8, [.v (.int .i64 0)], false⟩),
  (68, ⟨.struct #[{ name := "Kind", type := 67, offset := 0, embedded := false, tag := "", pkgPath := "", byteOffset := 0 }, { name := "Text", type := 9, offset := 1, embedded := false, tag := "", pkgPath := "", byteOffset := 8 }, { name := "At", type := 3, offset := 2, embedded := false, tag := "", pkgPath := "", byteOffset := 24 }, { name := "Val", type := 49, offset := 3, embedded := false, tag := "", pkgPath := "", byteOffset := 32 }], 6, 64, [.v (.int .i64 0), .v (.string (mkS [])), .v (.int .i64 0), .v (.int .i64 0), .v (.int .i64 0), .v (.string (mkS []))], true⟩),
  (69, ⟨.struct #[{ name := "Kind", type := 67, offset := 0, embedded := false, tag := "", pkgPath := "", byteOffset := 0 }, { name := "Text", type := 9, offset := 1, embedded := false, tag := "", pkgPath := "", byteOffset := 8 }, { name := "At", type := 3, offset := 2, embedded := false, tag := "", pkgPath := "", byteOffset := 24 }, { name := "Val", type := 49, offset := 3, embedded := false, tag := "", pkgPath := "", byteOffset := 32 }], 6, 64, [.v (.int .i64 0), .v (.string (mkS [])), .v (.int .i64 0), .v (.int .i64 0), .v (.int .i64 0), .v (.string (mkS []))], true⟩),
  (71, ⟨.func #[9] #[26, 3, 36] false, 1, 8, [.v (.nilFunc)], false⟩),
  (72, ⟨.func #[9, 3] #[4] false, 1, 8, [.v (.nilFunc)], false⟩),
  (74, ⟨.func #[9] #[30, 3, 36] false, 1, 8, [.v (.nilFunc)], false⟩),
  (75, ⟨.func #[26] #[4] false, 1, 8, [.v (.nilFunc)], false⟩),
  (76, ⟨.func #[30] #[4] false, 1, 8, [.v (.nilFunc)], false⟩),
  (77, ⟨.func #[26, 26, 30, 30] #[4] false, 1, 8, [.v (.nilFunc)], false⟩),
  (78, ⟨.func #[22] #[22] false, 1, 8, [.v (.nilFunc)], false⟩),
  (79, ⟨.func #[23] #[23] false, 1, 8, [.v (.nilFunc)], false⟩),
  (80, ⟨.func #[24] #[24] false, 1, 8, [.v (.nilFunc)], false⟩),
  (81, ⟨.func #[28] #[28] false, 1, 8, [.v (.nilFunc)], false⟩),
  (82, ⟨.func #[58] #[] false, 1, 8, [.v (.nilFunc)], false⟩),
  (83, ⟨.func #[58] #[] false, 1, 8, [.v (.nilFunc)], false⟩),
  (84, ⟨.func #[26] #[83] false, 1, 8, [.v (.nilFunc)], false⟩),
  (85, ⟨.func #[56] #[9] false, 1, 8, [.v (.nilFunc)], false⟩),
  (86, ⟨.func #[51] #[9] false, 1, 8, [.v (.nilFunc)], false⟩),
  (87, ⟨.func #[45] #[9] false, 1, 8, [.v (.nilFunc)], false⟩),
  (88, ⟨.func #[3] #[9] false, 1, 8, [.v (.nilFunc)], false⟩),
  (89, ⟨.func #[30] #[9] false, 1, 8, [.v (.nilFunc)], false⟩),
  (90, ⟨.func #[22, 22] #[4] false, 1, 8, [.v (.nilFunc)], false⟩),
  (91, ⟨.func #[23, 23] #[4] false, 1, 8, [.v (.nilFunc)], false⟩),
  (92, ⟨.func #[24, 24] #[4] false, 1, 8, [.v (.nilFunc)], false⟩),
  (93, ⟨.func #[28, 28] #[4] false, 1, 8, [.v (.nilFunc)], false⟩),
  (94, ⟨.func #[146] #[] false, 1, 8, [.v (.nilFunc)], false⟩),
  (95, ⟨.func #[146] #[] false, 1, 8, [.v (.nilFunc)], false⟩),
  (96, ⟨.func #[9] #[95] false, 1, 8, [.v (.nilFunc)], false⟩),
  (97, ⟨.func #[9, 98] #[26, 3, 36] false, 1, 8, [.v (.nilFunc)], false⟩),
  (98, ⟨.func #[99] #[26] false, 1, 8, [.v (.nilFunc)], false⟩),
  (99, ⟨.pointer 157, 1, 8, [.v (.pointer none)], false⟩),
  (100, ⟨.func #[22, 22, 101] #[4] false, 1, 8, [.v (.nilFunc)], false⟩),
  (101, ⟨.func #[56, 56] #[4] false, 1, 8, [.v (.nilFunc)], false⟩),
  (102, ⟨.func #[9, 103] #[30, 3, 36] false, 1, 8, [.v (.nilFunc)], false⟩),
  (103, ⟨.func #[99] #[30] false, 1, 8, [.v (.nilFunc)], false⟩),
  (104, ⟨.func #[] #[30] false, 1, 8, [.v (.nilFunc)], false⟩),
  (105, ⟨.func #[3, 3, 3] #[4] false, 1, 8, [.v (.nilFunc)], false⟩),
  (106, ⟨.func #[22, 107] #[4] false, 1, 8, [.v (.nilFunc)], false⟩),
  (107, ⟨.func #[56] #[4] false, 1, 8, [.v (.nilFunc)], false⟩),
  (108, ⟨.func #[23, 109] #[4] false, 1, 8, [.v (.nilFunc)], false⟩),
  (109, ⟨.func #[53] #[4] false, 1, 8, [.v (.nilFunc)], false⟩),
  (110, ⟨.func #[24, 111] #[4] false, 1, 8, [.v (.nilFunc)], false⟩),
  (111, ⟨.func #[51] #[4] false, 1, 8, [.v (.nilFunc)], false⟩),
  (112, ⟨.func #[76] #[] false, 1, 8, [.v (.nilFunc)], false⟩),
  (113, ⟨.func #[76] #[] false, 1, 8, [.v (.nilFunc)], false⟩),
  (114, ⟨.func #[30] #[113] false, 1, 8, [.v (.nilFunc)], false⟩),
  (115, ⟨.func #[28, 28, 41] #[4] false, 1, 8, [.v (.nilFunc)], false⟩),
  (116, ⟨.func #[56] #[56] false, 1, 8, [.v (.nilFunc)], false⟩),
  (117, ⟨.func #[3, 3] #[56] false, 1, 8, [.v (.nilFunc)], false⟩),
  (118, ⟨.func #[3, 3] #[53] false, 1, 8, [.v (.nilFunc)], false⟩),
  (119, ⟨.func #[3, 3] #[51] false, 1, 8, [.v (.nilFunc)], false⟩),
  (120, ⟨.func #[23, 9, 121] #[9] false, 1, 8, [.v (.nilFunc)], false⟩),
  (121, ⟨.func #[53] #[9] false, 1, 8, [.v (.nilFunc)], false⟩),
  (122, ⟨.func #[22, 9, 85] #[9] false, 1, 8, [.v (.nilFunc)], false⟩),
  (123, ⟨.func #[24, 9, 86] #[9] false, 1, 8, [.v (.nilFunc)], false⟩),
  (124, ⟨.array 4 9, 4, 64, [.v (.string (mkS [])), .v (.string (mkS [])), .v (.string (mkS [])), .v (.string (mkS []))], false⟩),
  (125, ⟨.func #[49] #[9, 36] false, 1, 8, [.v (.nilFunc)], false⟩),
  (126, ⟨.func #[28, 9, 89] #[9] false, 1, 8, [.v (.nilFunc)], false⟩),
  (127, ⟨.func #[30] #[3] false, 1, 8, [.v (.nilFunc)], false⟩),
  (128, ⟨.func #[30, 27] #[9] false, 1, 8, [.v (.nilFunc)], false⟩),
  (129, ⟨.slice 137, 1, 24, [.v (.slice none 0 0)], false⟩),
  (131, ⟨.func #[9] #[129, 3, 36] false, 1, 8, [.v (.nilFunc)], false⟩),
  (132, ⟨.pointer 134, 1, 8, [.v (.pointer none)], false⟩),
  (133, ⟨.struct #[{ name := "l", type := 129, offset := 0, embedded := false, tag := "", pkgPath := "kinescope/kinescoperef12", byteOffset := 0 }, { name := "at", type := 3, offset := 1, embedded := false, tag := "", pkgPath := "kinescope/kinescoperef12", byteOffset := 24 }, { name := "bad", type := 3, offset := 2, embedded := false, tag := "", pkgPath := "kinescope/kinescoperef12", byteOffset := 32 }, { name := "long", type := 3, offset := 3, embedded := false, tag := "", pkgPath := "kinescope/kinescoperef12", byteOffset := 40 }], 4, 48, [.v (.slice none 0 0), .v (.int .i64 0), .v (.int .i64 0), .v (.int .i64 0)], false⟩),
  (134, ⟨.struct #[{ name := "l", type := 129, offset := 0, embedded := false, tag := "", pkgPath := "kinescope/kinescoperef12", byteOffset := 0 }, { name := "at", type := 3, offset := 1, embedded := false, tag := "", pkgPath := "kinescope/kinescoperef12", byteOffset := 24 }, { name := "bad", type := 3, offset := 2, embedded := false, tag := "", pkgPath := "kinescope/kinescoperef12", byteOffset := 32 }, { name := "long", type := 3, offset := 3, embedded := false, tag := "", pkgPath := "kinescope/kinescoperef12", byteOffset := 40 }], 4, 48, [.v (.slice none 0 0), .v (.int .i64 0), .v (.int .i64 0), .v (.int .i64 0)], false⟩),
  (135, ⟨.func #[9] #[] false, 1, 8, [.v (.nilFunc)], false⟩),
  (136, ⟨.struct #[{ name := "Kind", type := 3, offset := 0, embedded := false, tag := "", pkgPath := "", byteOffset := 0 }, { name := "Text", type := 9, offset := 1, embedded := false, tag := "", pkgPath := "", byteOffset := 8 }, { name := "At", type := 3, offset := 2, embedded := false, tag := "", pkgPath := "", byteOffset := 24 }, { name := "Val", type := 49, offset := 3, embedded := false, tag := "", pkgPath := "", byteOffset := 32 }], 6, 64, [.v (.int .i64 0), .v (.string (mkS [])), .v (.int .i64 0), .v (.int .i64 0), .v (.int .i64 0), .v (.string (mkS []))], true⟩),
  (137, ⟨.struct #[{ name := "Kind", type := 3, offset := 0, embedded := false, tag := "", pkgPath := "", byteOffset := 0 }, { name := "Text", type := 9, offset := 1, embedded := false, tag := "", pkgPath := "", byteOffset := 8 }, { name := "At", type := 3, offset := 2, embedded := false, tag := "", pkgPath := "", byteOffset := 24 }, { name := "Val", type := 49, offset := 3, embedded := false, tag := "", pkgPath := "", byteOffset := 32 }], 6, 64, [.v (.int .i64 0), .v (.string (mkS [])), .v (.int .i64 0), .v (.int .i64 0), .v (.int .i64 0), .v (.string (mkS []))], true⟩),
  (138, ⟨.func #[] #[137] false, 1, 8, [.v (.nilFunc)], false⟩),
  (139, ⟨.func #[] #[56] false, 1, 8, [.v (.nilFunc)], false⟩),
  (140, ⟨.func #[3] #[] false, 1, 8, [.v (.nilFunc)], false⟩),
  (141, ⟨.func #[] #[53] false, 1, 8, [.v (.nilFunc)], false⟩),
  (142, ⟨.func #[] #[51] false, 1, 8, [.v (.nilFunc)], false⟩),
  (143, ⟨.func #[] #[3] false, 1, 8, [.v (.nilFunc)], false⟩),
  (145, ⟨.func #[] #[3, 36] false, 1, 8, [.v (.nilFunc)], false⟩),
  (146, ⟨.func #[69, 36] #[4] false, 1, 8, [.v (.nilFunc)], false⟩),
  (147, ⟨.func #[5] #[4] false, 1, 8, [.v (.nilFunc)], false⟩),
  (148, ⟨.func #[9, 147] #[3] false, 1, 8, [.v (.nilFunc)], false⟩),
  (150, ⟨.func #[9] #[69, 4] false, 1, 8, [.v (.nilFunc)], false⟩),
  (151, ⟨.struct #[{ name := "at", type := 3, offset := 0, embedded := false, tag := "", pkgPath := "kinescope/parse", byteOffset := 0 }], 1, 8, [.v (.int .i64 0)], true⟩),
  (152, ⟨.struct #[{ name := "at", type := 3, offset := 0, embedded := false, tag := "", pkgPath := "kinescope/parse", byteOffset := 0 }], 1, 8, [.v (.int .i64 0)], true⟩),
  (154, ⟨.struct #[{ name := "tokens", type := 62, offset := 0, embedded := false, tag := "", pkgPath := "kinescope/parse", byteOffset := 0 }, { name := "next", type := 3, offset := 1, embedded := false, tag := "", pkgPath := "kinescope/parse", byteOffset := 24 }], 2, 32, [.v (.slice none 0 0), .v (.int .i64 0)], false⟩),
  (155, ⟨.struct #[{ name := "tokens", type := 62, offset := 0, embedded := false, tag := "", pkgPath := "kinescope/parse", byteOffset := 0 }, { name := "next", type := 3, offset := 1, embedded := false, tag := "", pkgPath := "kinescope/parse", byteOffset := 24 }], 2, 32, [.v (.slice none 0 0), .v (.int .i64 0)], false⟩),
  (156, ⟨.struct #[{ name := "place", type := 155, offset := 0, embedded := true, tag := "", pkgPath := "kinescope/parse", byteOffset := 0 }, { name := "much", type := 3, offset := 2, embedded := false, tag := "", pkgPath := "kinescope/parse", byteOffset := 32 }], 3, 40, [.v (.slice none 0 0), .v (.int .i64 0), .v (.int .i64 0)], false⟩),
  (157, ⟨.struct #[{ name := "place", type := 155, offset := 0, embedded := true, tag := "", pkgPath := "kinescope/parse", byteOffset := 0 }, { name := "much", type := 3, offset := 2, embedded := false, tag := "", pkgPath := "kinescope/parse", byteOffset := 32 }], 3, 40, [.v (.slice none 0 0), .v (.int .i64 0), .v (.int .i64 0)], false⟩),
  (158, ⟨.func #[] #[69] false, 1, 8, [.v (.nilFunc)], false⟩),
  (159, ⟨.func #[173] #[] false, 1, 8, [.v (.nilFunc)], false⟩),
  (160, ⟨.func #[173] #[] false, 1, 8, [.v (.nilFunc)], false⟩),
  (161, ⟨.func #[9] #[160] false, 1, 8, [.v (.nilFunc)], false⟩),
  (162, ⟨.func #[4, 3] #[] false, 1, 8, [.v (.nilFunc)], false⟩),
  (163, ⟨.func #[30, 76] #[4] false, 1, 8, [.v (.nilFunc)], false⟩),
  (164, ⟨.func #[59, 9] #[9] false, 1, 8, [.v (.nilFunc)], false⟩),
  (165, ⟨.array 7 9, 7, 112, [.v (.string (mkS [])), .v (.string (mkS [])), .v (.string (mkS [])), .v (.string (mkS [])), .v (.string (mkS [])), .v (.string (mkS [])), .v (.string (mkS []))], false⟩),
  (166, ⟨.func #[49] #[4] false, 1, 8, [.v (.nilFunc)], false⟩),
  (167, ⟨.func #[2, 3] #[9] false, 1, 8, [.v (.nilFunc)], false⟩),
  (168, ⟨.func #[9, 3] #[137] false, 1, 8, [.v (.nilFunc)], false⟩),
  (169, ⟨.func #[] #[9] false, 1, 8, [.v (.nilFunc)], false⟩),
  (170, ⟨.func #[9, 67] #[69, 4] false, 1, 8, [.v (.nilFunc)], false⟩),
  (171, ⟨.func #[9, 5] #[3] false, 1, 8, [.v (.nilFunc)], false⟩),
  (172, ⟨.pointer 155, 1, 8, [.v (.pointer none)], false⟩),
  (173, ⟨.func #[3] #[4] false, 1, 8, [.v (.nilFunc)], false⟩),
  (174, ⟨.array 6 9, 6, 96, [.v (.string (mkS [])), .v (.string (mkS [])), .v (.string (mkS [])), .v (.string (mkS [])), .v (.string (mkS [])), .v (.string (mkS []))], false⟩),
  (175, ⟨.func #[9, 27, 104] #[30] false, 1, 8, [.v (.nilFunc)], false⟩),
  (176, ⟨.func #[22, 107] #[3] false, 1, 8, [.v (.nilFunc)], false⟩),
  (177, ⟨.func #[21] #[4] false, 1, 8, [.v (.nilFunc)], false⟩),
  (178, ⟨.func #[59, 9] #[4] false, 1, 8, [.v (.nilFunc)], false⟩),
  (179, ⟨.func #[23, 109] #[3] false, 1, 8, [.v (.nilFunc)], false⟩),
  (180, ⟨.func #[24, 111] #[3] false, 1, 8, [.v (.nilFunc)], false⟩),
  (181, ⟨.pointer 184, 1, 8, [.v (.pointer none)], false⟩),
  (182, ⟨.slice 5, 1, 24, [.v (.slice none 0 0)], false⟩),
  (183, ⟨.struct #[{ name := "addr", type := 181, offset := 0, embedded := false, tag := "", pkgPath := "strings", byteOffset := 0 }, { name := "buf", type := 182, offset := 1, embedded := false, tag := "", pkgPath := "strings", byteOffset := 8 }], 2, 32, [.v (.pointer none), .v (.slice none 0 0)], false⟩),
  (184, ⟨.struct #[{ name := "addr", type := 181, offset := 0, embedded := false, tag := "", pkgPath := "strings", byteOffset := 0 }, { name := "buf", type := 182, offset := 1, embedded := false, tag := "", pkgPath := "strings", byteOffset := 8 }], 2, 32, [.v (.pointer none), .v (.slice none 0 0)], false⟩),
  (185, ⟨.interface #[("Error", 169)], 1, 16, [.v (.nilIface)], false⟩),
  (186, ⟨.interface #[("Error", 169)], 1, 16, [.v (.nilIface)], false⟩),
  (188, ⟨.func #[9] #[3, 186] false, 1, 8, [.v (.nilFunc)], false⟩),
  (189, ⟨.func #[49] #[9] false, 1, 8, [.v (.nilFunc)], false⟩),
  (190, ⟨.array 24 5, 24, 24, [.v (.int .u8 0), .v (.int .u8 0), .v (.int .u8 0), .v (.int .u8 0), .v (.int .u8 0), .v (.int .u8 0), .v (.int .u8 0), .v (.int .u8 0), .v (.int .u8 0), .v (.int .u8 0), .v (.int .u8 0), .v (.int .u8 0), .v (.int .u8 0), .v (.int .u8 0), .v (.int .u8 0), .v (.int .u8 0), .v (.int .u8 0), .v (.int .u8 0), .v (.int .u8 0), .v (.int .u8 0), .v (.int .u8 0), .v (.int .u8 0), .v (.int .u8 0), .v (.int .u8 0)], false⟩),
  (191, ⟨.int .u64, 1, 8, [.v (.int .u64 0)], false⟩),
  (192, ⟨.func #[191] #[3] false, 1, 8, [.v (.nilFunc)], false⟩),
  (193, ⟨.func #[182, 191] #[] false, 1, 8, [.v (.nilFunc)], false⟩),
  (195, ⟨.func #[182, 191, 3, 4, 4] #[182, 9] false, 1, 8, [.v (.nilFunc)], false⟩),
  (196, ⟨.func #[9, 3, 4] #[3] false, 1, 8, [.v (.nilFunc)], false⟩),
  (197, ⟨.func #[9, 3] #[3] false, 1, 8, [.v (.nilFunc)], false⟩),
  (199, ⟨.func #[9] #[49, 36] false, 1, 8, [.v (.nilFunc)], false⟩),
  (200, ⟨.func #[9] #[59] false, 1, 8, [.v (.nilFunc)], false⟩),
  (201, ⟨.func #[9, 9] #[4] false, 1, 8, [.v (.nilFunc)], false⟩),
  (202, ⟨.func #[59, 9] #[3] false, 1, 8, [.v (.nilFunc)], false⟩),
  (203, ⟨.pointer 5, 1, 8, [.v (.pointer none)], false⟩),
  (204, ⟨.func #[3] #[3] false, 1, 8, [.v (.nilFunc)], false⟩),
  (205, ⟨.func #[4] #[3] false, 1, 8, [.v (.nilFunc)], false⟩),
  (206, ⟨.array 20 191, 20, 160, [.v (.int .u64 0), .v (.int .u64 0), .v (.int .u64 0), .v (.int .u64 0), .v (.int .u64 0), .v (.int .u64 0), .v (.int .u64 0), .v (.int .u64 0), .v (.int .u64 0), .v (.int .u64 0), .v (.int .u64 0), .v (.int .u64 0), .v (.int .u64 0), .v (.int .u64 0), .v (.int .u64 0), .v (.int .u64 0), .v (.int .u64 0), .v (.int .u64 0), .v (.int .u64 0), .v (.int .u64 0)], false⟩),
  (207, ⟨.int .u32, 1, 4, [.v (.int .u32 0)], false⟩),
  (209, ⟨.int .u64, 1, 8, [.v (.int .u64 0)], false⟩),
  (210, ⟨.func #[209] #[3] false, 1, 8, [.v (.nilFunc)], false⟩),
  (212, ⟨.func #[9] #[3, 4] false, 1, 8, [.v (.nilFunc)], false⟩),
  (213, ⟨.func #[9] #[49] false, 1, 8, [.v (.nilFunc)], false⟩),
  (214, ⟨.func #[9, 9] #[9] false, 1, 8, [.v (.nilFunc)], false⟩),
  (215, ⟨.func #[3] #[49] false, 1, 8, [.v (.nilFunc)], false⟩),
  (217, ⟨.func #[9, 177] #[59] false, 1, 8, [.v (.nilFunc)], false⟩),
  (219, ⟨.func #[218] #[218] false, 1, 8, [.v (.nilFunc)], false⟩),
  (220, ⟨.func #[3] #[182] false, 1, 8, [.v (.nilFunc)], false⟩),
  (221, ⟨.func #[207] #[3] false, 1, 8, [.v (.nilFunc)], false⟩),
  (222, ⟨.func #[9, 9, 3, 3, 186] #[186] false, 1, 8, [.v (.nilFunc)], false⟩),
  (223, ⟨.slice 225, 1, 24, [.v (.slice none 0 0)], false⟩),
  (224, ⟨.struct #[{ name := "start", type := 3, offset := 0, embedded := false, tag := "", pkgPath := "strings", byteOffset := 0 }, { name := "end", type := 3, offset := 1, embedded := false, tag := "", pkgPath := "strings", byteOffset := 8 }], 2, 16, [.v (.int .i64 0), .v (.int .i64 0)], true⟩),
  (225, ⟨.struct #[{ name := "start", type := 3, offset := 0, embedded := false, tag := "", pkgPath := "strings", byteOffset := 0 }, { name := "end", type := 3, offset := 1, embedded := false, tag := "", pkgPath := "strings", byteOffset := 8 }], 2, 16, [.v (.int .i64 0), .v (.int .i64 0)], true⟩),
  (226, ⟨.func #[227, 21] #[4] false, 1, 8, [.v (.nilFunc)], false⟩),
  (227, ⟨.pointer 239, 1, 8, [.v (.pointer none)], false⟩),
  (228, ⟨.array 32 5, 32, 32, [.v (.int .u8 0), .v (.int .u8 0), .v (.int .u8 0), .v (.int .u8 0), .v (.int .u8 0), .v (.int .u8 0), .v (.int .u8 0), .v (.int .u8 0), .v (.int .u8 0), .v (.int .u8 0), .v (.int .u8 0), .v (.int .u8 0), .v (.int .u8 0), .v (.int .u8 0), .v (.int .u8 0), .v (.int .u8 0), .v (.int .u8 0), .v (.int .u8 0), .v (.int .u8 0), .v (.int .u8 0), .v (.int .u8 0), .v (.int .u8 0), .v (.int .u8 0), .v (.int .u8 0), .v (.int .u8 0), .v (.int .u8 0), .v (.int .u8 0), .v (.int .u8 0), .v (.int .u8 0), .v (.int .u8 0), .v (.int .u8 0), .v (.int .u8 0)], false⟩),
  (230, ⟨.int .i64, 1, 8, [.v (.int .i64 0)], false⟩),
  (232, ⟨.func #[9, 3, 3] #[2, 186] false, 1, 8, [.v (.nilFunc)], false⟩),
  (233, ⟨.pointer 251, 1, 8, [.v (.pointer none)], false⟩),
  (234, ⟨.func #[9, 9] #[233] false, 1, 8, [.v (.nilFunc)], false⟩),
  (235, ⟨.func #[9, 9, 3] #[233] false, 1, 8, [.v (.nilFunc)], false⟩),
  (236, ⟨.slice 242, 1, 24, [.v (.slice none 0 0)], false⟩),
  (237, ⟨.slice 245, 1, 24, [.v (.slice none 0 0)], false⟩),
  (238, ⟨.struct #[{ name := "R16", type := 236, offset := 0, embedded := false, tag := "", pkgPath := "", byteOffset := 0 }, { name := "R32", type := 237, offset := 1, embedded := false, tag := "", pkgPath := "", byteOffset := 24 }, { name := "LatinOffset", type := 3, offset := 2, embedded := false, tag := "", pkgPath := "", byteOffset := 48 }], 3, 56, [.v (.slice none 0 0), .v (.slice none 0 0), .v (.int .i64 0)], false⟩),
  (239, ⟨.struct #[{ name := "R16", type := 236, offset := 0, embedded := false, tag := "", pkgPath := "", byteOffset := 0 }, { name := "R32", type := 237, offset := 1, embedded := false, tag := "", pkgPath := "", byteOffset := 24 }, { name := "LatinOffset", type := 3, offset := 2, embedded := false, tag := "", pkgPath := "", byteOffset := 48 }], 3, 56, [.v (.slice none 0 0), .v (.slice none 0 0), .v (.int .i64 0)], false⟩),
  (240, ⟨.int .u16, 1, 2, [.v (.int .u16 0)], false⟩),
  (241, ⟨.struct #[{ name := "Lo", type := 240, offset := 0, embedded := false, tag := "", pkgPath := "", byteOffset := 0 }, { name := "Hi", type := 240, offset := 1, embedded := false, tag := "", pkgPath := "", byteOffset := 2 }, { name := "Stride", type := 240, offset := 2, embedded := false, tag := "", pkgPath := "", byteOffset := 4 }], 3, 6, [.v (.int .u16 0), .v (.int .u16 0), .v (.int .u16 0)], true⟩),
  (242, ⟨.struct #[{ name := "Lo", type := 240, offset := 0, embedded := false, tag := "", pkgPath := "", byteOffset := 0 }, { name := "Hi", type := 240, offset := 1, embedded := false, tag := "", pkgPath := "", byteOffset := 2 }, { name := "Stride", type := 240, offset := 2, embedded := false, tag := "", pkgPath := "", byteOffset := 4 }], 3, 6, [.v (.int .u16 0), .v (.int .u16 0), .v (.int .u16 0)], true⟩),
  (243, ⟨.func #[236, 240] #[4] false, 1, 8, [.v (.nilFunc)], false⟩),
  (244, ⟨.struct #[{ name := "Lo", type := 207, offset := 0, embedded := false, tag := "", pkgPath := "", byteOffset := 0 }, { name := "Hi", type := 207, offset := 1, embedded := false, tag := "", pkgPath := "", byteOffset := 4 }, { name := "Stride", type := 207, offset := 2, embedded := false, tag := "", pkgPath := "", byteOffset := 8 }], 3, 12, [.v (.int .u32 0), .v (.int .u32 0), .v (.int .u32 0)], true⟩),
  (245, ⟨.struct #[{ name := "Lo", type := 207, offset := 0, embedded := false, tag := "", pkgPath := "", byteOffset := 0 }, { name := "Hi", type := 207, offset := 1, embedded := false, tag := "", pkgPath := "", byteOffset := 4 }, { name := "Stride", type := 207, offset := 2, embedded := false, tag := "", pkgPath := "", byteOffset := 8 }], 3, 12, [.v (.int .u32 0), .v (.int .u32 0), .v (.int .u32 0)], true⟩),
  (246, ⟨.func #[237, 207] #[4] false, 1, 8, [.v (.nilFunc)], false⟩),
  (248, ⟨.func #[9, 3, 3] #[191, 186] false, 1, 8, [.v (.nilFunc)], false⟩),
  (249, ⟨.func #[9] #[9] false, 1, 8, [.v (.nilFunc)], false⟩),
  (250, ⟨.struct #[{ name := "Func", type := 9, offset := 0, embedded := false, tag := "", pkgPath := "", byteOffset := 0 }, { name := "Num", type := 9, offset := 1, embedded := false, tag := "", pkgPath := "", byteOffset := 16 }, { name := "Err", type := 186, offset := 2, embedded := false, tag := "", pkgPath := "", byteOffset := 32 }], 3, 48, [.v (.string (mkS [])), .v (.string (mkS [])), .v (.nilIface)], false⟩),
  (251, ⟨.struct #[{ name := "Func", type := 9, offset := 0, embedded := false, tag := "", pkgPath := "", byteOffset := 0 }, { name := "Num", type := 9, offset := 1, embedded := false, tag := "", pkgPath := "", byteOffset := 16 }, { name := "Err", type := 186, offset := 2, embedded := false, tag := "", pkgPath := "", byteOffset := 32 }], 3, 48, [.v (.string (mkS [])), .v (.string (mkS [])), .v (.nilIface)], false⟩),
  (252, ⟨.func #[9] #[186] false, 1, 8, [.v (.nilFunc)], false⟩),
  (253, ⟨.pointer 242, 1, 8, [.v (.pointer none)], false⟩),
  (254, ⟨.pointer 245, 1, 8, [.v (.pointer none)], false⟩),
  (255, ⟨.func #[5] #[5] false, 1, 8, [.v (.nilFunc)], false⟩),
  (256, ⟨.pointer 258, 1, 8, [.v (.pointer none)], false⟩),
  (257, ⟨.struct #[{ name := "s", type := 9, offset := 0, embedded := false, tag := "", pkgPath := "errors", byteOffset := 0 }], 1, 16, [.v (.string (mkS []))], true⟩),
  (258, ⟨.struct #[{ name := "s", type := 9, offset := 0, embedded := false, tag := "", pkgPath := "errors", byteOffset := 0 }], 1, 16, [.v (.string (mkS []))], true⟩),
  (261, ⟨.array 0 16, 0, 0, [], false⟩),
  (262, ⟨.struct #[{ name := "_", type := 261, offset := 0, embedded := false, tag := "", pkgPath := "runtime", byteOffset := 0 }], 0, 0, [], false⟩),
  (266, ⟨.func #[218, 218] #[4] false, 1, 8, [.v (.nilFunc)], false⟩)]
theorem te_1 : klook 1 te = some ⟨.func #[] #[] false, 1, 8, [.v (.nilFunc)], false⟩ := rfl
theorem te_2 : klook 2 te = some ⟨.int .i64, 1, 8, [.v (.int .i64 0)], false⟩ := rfl
theorem te_3 : klook 3 te = some ⟨.int .i64, 1, 8, [.v (.int .i64 0)], false⟩ := rfl
theorem te_4 : klook 4 te = some ⟨.bool, 1, 1, [.v (.bool false)], false⟩ := rfl
theorem te_5 : klook 5 te = some ⟨.int .u8, 1, 1, [.v (.int .u8 0)], false⟩ := rfl
theorem te_9 : klook 9 te = some ⟨.string, 1, 16, [.v (.string (mkS []))], false⟩ := rfl
theorem te_12 : klook 12 te = some ⟨.int .u64, 1, 8, [.v (.int .u64 0)], false⟩ := rfl
theorem te_13 : klook 13 te = some ⟨.struct #[{ name := "msg", type := 9, offset := 0, embedded := false, tag := "", pkgPath := "runtime", byteOffset := 0 }, { name := "addr", type := 12, offset := 1, embedded := false, tag := "", pkgPath := "runtime", byteOffset := 16 }], 2, 24, [.v (.string (mkS [])), .v (.int .u64 0)], false⟩ := rfl
theorem te_15 : klook 15 te = some ⟨.pointer 260, 1, 8, [.v (.pointer none)], false⟩ := rfl
theorem te_16 : klook 16 te = some ⟨.pointer 263, 1, 8, [.v (.pointer none)], false⟩ := rfl
theorem te_20 : klook 20 te = some ⟨.interface #[], 1, 16, [.v (.nilIface)], false⟩ := rfl
theorem te_21 : klook 21 te = some ⟨.int .i32, 1, 4, [.v (.int .i32 0)], false⟩ := rfl
theorem te_22 : klook 22 te = some ⟨.slice 56, 1, 24, [.v (.slice none 0 0)], false⟩ := rfl
theorem te_23 : klook 23 te = some ⟨.slice 53, 1, 24, [.v (.slice none 0 0)], false⟩ := rfl
theorem te_24 : klook 24 te = some ⟨.slice 51, 1, 24, [.v (.slice none 0 0)], false⟩ := rfl
theorem te_25 : klook 25 te = some ⟨.struct #[{ name := "Patterns", type := 22, offset := 0, embedded := false, tag := "", pkgPath := "", byteOffset := 0 }, { name := "Conds", type := 23, offset := 1, embedded := false, tag := "", pkgPath := "", byteOffset := 24 }, { name := "Return", type := 24, offset := 2, embedded := false, tag := "", pkgPath := "", byteOffset := 48 }, { name := "Range", type := 3, offset := 3, embedded := false, tag := "", pkgPath := "", byteOffset := 72 }, { name := "Slide", type := 3, offset := 4, embedded := false, tag := "", pkgPath := "", byteOffset := 80 }], 5, 88, [.v (.slice none 0 0), .v (.slice none 0 0), .v (.slice none 0 0), .v (.int .i64 0), .v (.int .i64 0)], false⟩ := rfl
theorem te_26 : klook 26 te = some ⟨.struct #[{ name := "Patterns", type := 22, offset := 0, embedded := false, tag := "", pkgPath := "", byteOffset := 0 }, { name := "Conds", type := 23, offset := 1, embedded := false, tag := "", pkgPath := "", byteOffset := 24 }, { name := "Return", type := 24, offset := 2, embedded := false, tag := "", pkgPath := "", byteOffset := 48 }, { name := "Range", type := 3, offset := 3, embedded := false, tag := "", pkgPath := "", byteOffset := 72 }, { name := "Slide", type := 3, offset := 4, embedded := false, tag := "", pkgPath := "", byteOffset := 80 }], 5, 88, [.v (.slice none 0 0), .v (.slice none 0 0), .v (.slice none 0 0), .v (.int .i64 0), .v (.int .i64 0)], false⟩ := rfl
theorem te_27 : klook 27 te = some ⟨.int .i64, 1, 8, [.v (.int .i64 0)], false⟩ := rfl
theorem te_28 : klook 28 te = some ⟨.slice 30, 1, 24, [.v (.slice none 0 0)], false⟩ := rfl
theorem te_29 : klook 29 te = some ⟨.struct #[{ name := "Kind", type := 27, offset := 0, embedded := false, tag := "", pkgPath := "", byteOffset := 0 }, { name := "Label", type := 9, offset := 1, embedded := false, tag := "", pkgPath := "", byteOffset := 8 }, { name := "Kids", type := 28, offset := 2, embedded := false, tag := "", pkgPath := "", byteOffset := 24 }], 3, 48, [.v (.int .i64 0), .v (.string (mkS [])), .v (.slice none 0 0)], false⟩ := rfl
theorem te_30 : klook 30 te = some ⟨.struct #[{ name := "Kind", type := 27, offset := 0, embedded := false, tag := "", pkgPath := "", byteOffset := 0 }, { name := "Label", type := 9, offset := 1, embedded := false, tag := "", pkgPath := "", byteOffset := 8 }, { name := "Kids", type := 28, offset := 2, embedded := false, tag := "", pkgPath := "", byteOffset := 24 }], 3, 48, [.v (.int .i64 0), .v (.string (mkS [])), .v (.slice none 0 0)], false⟩ := rfl
theorem te_31 : klook 31 te = some ⟨.func #[26] #[3] false, 1, 8, [.v (.nilFunc)], false⟩ := rfl
theorem te_32 : klook 32 te = some ⟨.func #[30, 3] #[3] false, 1, 8, [.v (.nilFunc)], false⟩ := rfl
theorem te_33 : klook 33 te = some ⟨.func #[] #[4] false, 1, 8, [.v (.nilFunc)], false⟩ := rfl
theorem te_34 : klook 34 te = some ⟨.func #[26] #[26] false, 1, 8, [.v (.nilFunc)], false⟩ := rfl
theorem te_35 : klook 35 te = some ⟨.func #[30] #[30] false, 1, 8, [.v (.nilFunc)], false⟩ := rfl
theorem te_36 : klook 36 te = some ⟨.int .i64, 1, 8, [.v (.int .i64 0)], false⟩ := rfl
theorem te_38 : klook 38 te = some ⟨.func #[26] #[9, 36] false, 1, 8, [.v (.nilFunc)], false⟩ := rfl
theorem te_39 : klook 39 te = some ⟨.func #[30] #[9, 36] false, 1, 8, [.v (.nilFunc)], false⟩ := rfl
theorem te_40 : klook 40 te = some ⟨.func #[26, 26] #[4] false, 1, 8, [.v (.nilFunc)], false⟩ := rfl
theorem te_41 : klook 41 te = some ⟨.func #[30, 30] #[4] false, 1, 8, [.v (.nilFunc)], false⟩ := rfl
theorem te_42 : klook 42 te = some ⟨.func #[26, 30] #[4] false, 1, 8, [.v (.nilFunc)], false⟩ := rfl
theorem te_43 : klook 43 te = some ⟨.func #[3, 3] #[30] false, 1, 8, [.v (.nilFunc)], false⟩ := rfl
theorem te_44 : klook 44 te = some ⟨.func #[] #[26] false, 1, 8, [.v (.nilFunc)], false⟩ := rfl
theorem te_45 : klook 45 te = some ⟨.int .i64, 1, 8, [.v (.int .i64 0)], false⟩ := rfl
theorem te_46 : klook 46 te = some ⟨.int .i64, 1, 8, [.v (.int .i64 0)], false⟩ := rfl
theorem te_47 : klook 47 te = some ⟨.int .i64, 1, 8, [.v (.int .i64 0)], false⟩ := rfl
theorem te_48 : klook 48 te = some ⟨.struct #[{ name := "Kind", type := 47, offset := 0, embedded := false, tag := "", pkgPath := "", byteOffset := 0 }, { name := "Num", type := 3, offset := 1, embedded := false, tag := "", pkgPath := "", byteOffset := 8 }, { name := "Text", type := 9, offset := 2, embedded := false, tag := "", pkgPath := "", byteOffset := 16 }], 3, 32, [.v (.int .i64 0), .v (.int .i64 0), .v (.string (mkS []))], true⟩ := rfl
theorem te_49 : klook 49 te = some ⟨.struct #[{ name := "Kind", type := 47, offset := 0, embedded := false, tag := "", pkgPath := "", byteOffset := 0 }, { name := "Num", type := 3, offset := 1, embedded := false, tag := "", pkgPath := "", byteOffset := 8 }, { name := "Text", type := 9, offset := 2, embedded := false, tag := "", pkgPath := "", byteOffset := 16 }], 3, 32, [.v (.int .i64 0), .v (.int .i64 0), .v (.string (mkS []))], true⟩ := rfl
theorem te_50 : klook 50 te = some ⟨.struct #[{ name := "Kind", type := 46, offset := 0, embedded := false, tag := "", pkgPath := "", byteOffset := 0 }, { name := "Name", type := 9, offset := 1, embedded := false, tag := "", pkgPath := "", byteOffset := 8 }, { name := "Key", type := 9, offset := 2, embedded := false, tag := "", pkgPath := "", byteOffset := 24 }, { name := "Val", type := 49, offset := 3, embedded := false, tag := "", pkgPath := "", byteOffset := 40 }], 6, 72, [.v (.int .i64 0), .v (.string (mkS [])), .v (.string (mkS [])), .v (.int .i64 0), .v (.int .i64 0), .v (.string (mkS []))], true⟩ := rfl
theorem te_51 : klook 51 te = some ⟨.struct #[{ name := "Kind", type := 46, offset := 0, embedded := false, tag := "", pkgPath := "", byteOffset := 0 }, { name := "Name", type := 9, offset := 1, embedded := false, tag := "", pkgPath := "", byteOffset := 8 }, { name := "Key", type := 9, offset := 2, embedded := false, tag := "", pkgPath := "", byteOffset := 24 }, { name := "Val", type := 49, offset := 3, embedded := false, tag := "", pkgPath := "", byteOffset := 40 }], 6, 72, [.v (.int .i64 0), .v (.string (mkS [])), .v (.string (mkS [])), .v (.int .i64 0), .v (.int .i64 0), .v (.string (mkS []))], true⟩ := rfl
theorem te_52 : klook 52 te = some ⟨.struct #[{ name := "Op", type := 45, offset := 0, embedded := false, tag := "", pkgPath := "", byteOffset := 0 }, { name := "Left", type := 51, offset := 1, embedded := false, tag := "", pkgPath := "", byteOffset := 8 }, { name := "Right", type := 51, offset := 7, embedded := false, tag := "", pkgPath := "", byteOffset := 80 }], 13, 152, [.v (.int .i64 0), .v (.int .i64 0), .v (.string (mkS [])), .v (.string (mkS [])), .v (.int .i64 0), .v (.int .i64 0), .v (.string (mkS [])), .v (.int .i64 0), .v (.string (mkS [])), .v (.string (mkS [])), .v (.int .i64 0), .v (.int .i64 0), .v (.string (mkS []))], true⟩ := rfl
theorem te_53 : klook 53 te = some ⟨.struct #[{ name := "Op", type := 45, offset := 0, embedded := false, tag := "", pkgPath := "", byteOffset := 0 }, { name := "Left", type := 51, offset := 1, embedded := false, tag := "", pkgPath := "", byteOffset := 8 }, { name := "Right", type := 51, offset := 7, embedded := false, tag := "", pkgPath := "", byteOffset := 80 }], 13, 152, [.v (.int .i64 0), .v (.int .i64 0), .v (.string (mkS [])), .v (.string (mkS [])), .v (.int .i64 0), .v (.int .i64 0), .v (.string (mkS [])), .v (.int .i64 0), .v (.string (mkS [])), .v (.string (mkS [])), .v (.int .i64 0), .v (.int .i64 0), .v (.string (mkS []))], true⟩ := rfl
theorem te_54 : klook 54 te = some ⟨.func #[9] #[30] false, 1, 8, [.v (.nilFunc)], false⟩ := rfl
theorem te_55 : klook 55 te = some ⟨.struct #[{ name := "From", type := 9, offset := 0, embedded := false, tag := "", pkgPath := "", byteOffset := 0 }, { name := "To", type := 9, offset := 1, embedded := false, tag := "", pkgPath := "", byteOffset := 16 }, { name := "Path", type := 4, offset := 2, embedded := false, tag := "", pkgPath := "", byteOffset := 32 }, { name := "Label", type := 9, offset := 3, embedded := false, tag := "", pkgPath := "", byteOffset := 40 }, { name := "Name", type := 9, offset := 4, embedded := false, tag := "", pkgPath := "", byteOffset := 56 }, { name := "Expr", type := 30, offset := 5, embedded := false, tag := "", pkgPath := "", byteOffset := 72 }], 8, 120, [.v (.string (mkS [])), .v (.string (mkS [])), .v (.bool false), .v (.string (mkS [])), .v (.string (mkS [])), .v (.int .i64 0), .v (.string (mkS [])), .v (.slice none 0 0)], false⟩ := rfl
theorem te_56 : klook 56 te = some ⟨.struct #[{ name := "From", type := 9, offset := 0, embedded := false, tag := "", pkgPath := "", byteOffset := 0 }, { name := "To", type := 9, offset := 1, embedded := false, tag := "", pkgPath := "", byteOffset := 16 }, { name := "Path", type := 4, offset := 2, embedded := false, tag := "", pkgPath := "", byteOffset := 32 }, { name := "Label", type := 9, offset := 3, embedded := false, tag := "", pkgPath := "", byteOffset := 40 }, { name := "Name", type := 9, offset := 4, embedded := false, tag := "", pkgPath := "", byteOffset := 56 }, { name := "Expr", type := 30, offset := 5, embedded := false, tag := "", pkgPath := "", byteOffset := 72 }], 8, 120, [.v (.string (mkS [])), .v (.string (mkS [])), .v (.bool false), .v (.string (mkS [])), .v (.string (mkS [])), .v (.int .i64 0), .v (.string (mkS [])), .v (.slice none 0 0)], false⟩ := rfl
theorem te_57 : klook 57 te = some ⟨.func #[27, 28] #[30] true, 1, 8, [.v (.nilFunc)], false⟩ := rfl
theorem te_58 : klook 58 te = some ⟨.func #[9] #[4] false, 1, 8, [.v (.nilFunc)], false⟩ := rfl
theorem te_59 : klook 59 te = some ⟨.slice 9, 1, 24, [.v (.slice none 0 0)], false⟩ := rfl
theorem te_60 : klook 60 te = some ⟨.func #[] #[59] false, 1, 8, [.v (.nilFunc)], false⟩ := rfl
theorem te_61 : klook 61 te = some ⟨.func #[9, 9, 3] #[9] false, 1, 8, [.v (.nilFunc)], false⟩ := rfl
theorem te_62 : klook 62 te = some ⟨.slice 69, 1, 24, [.v (.slice none 0 0)], false⟩ := rfl
theorem te_64 : klook 64 te = some ⟨.func #[9] #[62, 3, 36] false, 1, 8, [.v (.nilFunc)], false⟩ := rfl
theorem te_65 : klook 65 te = some ⟨.func #[3, 3] #[3] false, 1, 8, [.v (.nilFunc)], false⟩ := rfl
theorem te_66 : klook 66 te = some ⟨.slice 3, 1, 24, [.v (.slice none 0 0)], false⟩ := rfl
theorem te_67 : klook 67 te = some ⟨.int .i64, 1, 8, [.v (.int .i64 0)], false⟩ := rfl
theorem te_68 : klook 68 te = some ⟨.struct #[{ name := "Kind", type := 67, offset := 0, embedded := false, tag := "", pkgPath := "", byteOffset := 0 }, { name := "Text", type := 9, offset := 1, embedded := false, tag := "", pkgPath := "", byteOffset := 8 }, { name := "At", type := 3, offset := 2, embedded := false, tag := "", pkgPath := "", byteOffset := 24 }, { name := "Val", type := 49, offset := 3, embedded := false, tag := "", pkgPath := "", byteOffset := 32 }], 6, 64, [.v (.int .i64 0), .v (.string (mkS [])), .v (.int .i64 0), .v (.int .i64 0), .v (.int .i64 0), .v (.string (mkS []))], true⟩ := rfl
theorem te_69 : klook 69 te = some ⟨.struct #[{ name := "Kind", type := 67, offset := 0, embedded := false, tag := "", pkgPath := "", byteOffset := 0 }, { name := "Text", type := 9, offset := 1, embedded := false, tag := "", pkgPath := "", byteOffset := 8 }, { name := "At", type := 3, offset := 2, embedded := false, tag := "", pkgPath := "", byteOffset := 24 }, { name := "Val", type := 49, offset := 3, embedded := false, tag := "", pkgPath := "", byteOffset := 32 }], 6, 64, [.v (.int .i64 0), .v (.string (mkS [])), .v (.int .i64 0), .v (.int .i64 0), .v (.int .i64 0), .v (.string (mkS []))], true⟩ := rfl
theorem te_71 : klook 71 te = some ⟨.func #[9] #[26, 3, 36] false, 1, 8, [.v (.nilFunc)], false⟩ := rfl
theorem te_72 : klook 72 te = some ⟨.func #[9, 3] #[4] false, 1, 8, [.v (.nilFunc)], false⟩ := rfl
theorem te_74 : klook 74 te = some ⟨.func #[9] #[30, 3, 36] false, 1, 8, [.v (.nilFunc)], false⟩ := rfl
theorem te_75 : klook 75 te = some ⟨.func #[26] #[4] false, 1, 8, [.v (.nilFunc)], false⟩ := rfl
theorem te_76 : klook 76 te = some ⟨.func #[30] #[4] false, 1, 8, [.v (.nilFunc)], false⟩ := rfl
theorem te_77 : klook 77 te = some ⟨.func #[26, 26, 30, 30] #[4] false, 1, 8, [.v (.nilFunc)], false⟩ := rfl
theorem te_78 : klook 78 te = some ⟨.func #[22] #[22] false, 1, 8, [.v (.nilFunc)], false⟩ := rfl
theorem te_79 : klook 79 te = some ⟨.func #[23] #[23] false, 1, 8, [.v (.nilFunc)], false⟩ := rfl
theorem te_80 : klook 80 te = some ⟨.func #[24] #[24] false, 1, 8, [.v (.nilFunc)], false⟩ := rfl
theorem te_81 : klook 81 te = some ⟨.func #[28] #[28] false, 1, 8, [.v (.nilFunc)], false⟩ := rfl
theorem te_82 : klook 82 te = some ⟨.func #[58] #[] false, 1, 8, [.v (.nilFunc)], false⟩ := rfl
theorem te_83 : klook 83 te = some ⟨.func #[58] #[] false, 1, 8, [.v (.nilFunc)], false⟩ := rfl
theorem te_84 : klook 84 te = some ⟨.func #[26] #[83] false, 1, 8, [.v (.nilFunc)], false⟩ := rfl
theorem te_85 : klook 85 te = some ⟨.func #[56] #[9] false, 1, 8, [.v (.nilFunc)], false⟩ := rfl
theorem te_86 : klook 86 te = some ⟨.func #[51] #[9] false, 1, 8, [.v (.nilFunc)], false⟩ := rfl
theorem te_87 : klook 87 te = some ⟨.func #[45] #[9] false, 1, 8, [.v (.nilFunc)], false⟩ := rfl
theorem te_88 : klook 88 te = some ⟨.func #[3] #[9] false, 1, 8, [.v (.nilFunc)], false⟩ := rfl
theorem te_89 : klook 89 te = some ⟨.func #[30] #[9] false, 1, 8, [.v (.nilFunc)], false⟩ := rfl
theorem te_90 : klook 90 te = some ⟨.func #[22, 22] #[4] false, 1, 8, [.v (.nilFunc)], false⟩ := rfl
theorem te_91 : klook 91 te = some ⟨.func #[23, 23] #[4] false, 1, 8, [.v (.nilFunc)], false⟩ := rfl
theorem te_92 : klook 92 te = some ⟨.func #[24, 24] #[4] false, 1, 8, [.v (.nilFunc)], false⟩ := rfl
theorem te_93 : klook 93 te = some ⟨.func #[28, 28] #[4] false, 1, 8, [.v (.nilFunc)], false⟩ := rfl
theorem te_94 : klook 94 te = some ⟨.func #[146] #[] false, 1, 8, [.v (.nilFunc)], false⟩ := rfl
theorem te_95 : klook 95 te = some ⟨.func #[146] #[] false, 1, 8, [.v (.nilFunc)], false⟩ := rfl
theorem te_96 : klook 96 te = some ⟨.func #[9] #[95] false, 1, 8, [.v (.nilFunc)], false⟩ := rfl
theorem te_97 : klook 97 te = some ⟨.func #[9, 98] #[26, 3, 36] false, 1, 8, [.v (.nilFunc)], false⟩ := rfl
theorem te_98 : klook 98 te = some ⟨.func #[99] #[26] false, 1, 8, [.v (.nilFunc)], false⟩ := rfl
theorem te_99 : klook 99 te = some ⟨.pointer 157, 1, 8, [.v (.pointer none)], false⟩ := rfl
theorem te_100 : klook 100 te = some ⟨.func #[22, 22, 101] #[4] false, 1, 8, [.v (.nilFunc)], false⟩ := rfl
theorem te_101 : klook 101 te = some ⟨.func #[56, 56] #[4] false, 1, 8, [.v (.nilFunc)], false⟩ := rfl
theorem te_102 : klook 102 te = some ⟨.func #[9, 103] #[30, 3, 36] false, 1, 8, [.v (.nilFunc)], false⟩ := rfl
theorem te_103 : klook 103 te = some ⟨.func #[99] #[30] false, 1, 8, [.v (.nilFunc)], false⟩ := rfl
theorem te_104 : klook 104 te = some ⟨.func #[] #[30] false, 1, 8, [.v (.nilFunc)], false⟩ := rfl
theorem te_105 : klook 105 te = some ⟨.func #[3, 3, 3] #[4] false, 1, 8, [.v (.nilFunc)], false⟩ := rfl
theorem te_106 : klook 106 te = some ⟨.func #[22, 107] #[4] false, 1, 8, [.v (.nilFunc)], false⟩ := rfl
theorem te_107 : klook 107 te = some ⟨.func #[56] #[4] false, 1, 8, [.v (.nilFunc)], false⟩ := rfl
theorem te_108 : klook 108 te = some ⟨.func #[23, 109] #[4] false, 1, 8, [.v (.nilFunc)], false⟩ := rfl
theorem te_109 : klook 109 te = some ⟨.func #[53] #[4] false, 1, 8, [.v (.nilFunc)], false⟩ := rfl
theorem te_110 : klook 110 te = some ⟨.func #[24, 111] #[4] false, 1, 8, [.v (.nilFunc)], false⟩ := rfl
theorem te_111 : klook 111 te = some ⟨.func #[51] #[4] false, 1, 8, [.v (.nilFunc)], false⟩ := rfl
theorem te_112 : klook 112 te = some ⟨.func #[76] #[] false, 1, 8, [.v (.nilFunc)], false⟩ := rfl
theorem te_113 : klook 113 te = some ⟨.func #[76] #[] false, 1, 8, [.v (.nilFunc)], false⟩ := rfl
theorem te_114 : klook 114 te = some ⟨.func #[30] #[113] false, 1, 8, [.v (.nilFunc)], false⟩ := rfl
theorem te_115 : klook 115 te = some ⟨.func #[28, 28, 41] #[4] false, 1, 8, [.v (.nilFunc)], false⟩ := rfl
theorem te_116 : klook 116 te = some ⟨.func #[56] #[56] false, 1, 8, [.v (.nilFunc)], false⟩ := rfl
theorem te_117 : klook 117 te = some ⟨.func #[3, 3] #[56] false, 1, 8, [.v (.nilFunc)], false⟩ := rfl
theorem te_118 : klook 118 te = some ⟨.func #[3, 3] #[53] false, 1, 8, [.v (.nilFunc)], false⟩ := rfl
theorem te_119 : klook 119 te = some ⟨.func #[3, 3] #[51] false, 1, 8, [.v (.nilFunc)], false⟩ := rfl
theorem te_120 : klook 120 te = some ⟨.func #[23, 9, 121] #[9] false, 1, 8, [.v (.nilFunc)], false⟩ := rfl
theorem te_121 : klook 121 te = some ⟨.func #[53] #[9] false, 1, 8, [.v (.nilFunc)], false⟩ := rfl
theorem te_122 : klook 122 te = some ⟨.func #[22, 9, 85] #[9] false, 1, 8, [.v (.nilFunc)], false⟩ := rfl
theorem te_123 : klook 123 te = some ⟨.func #[24, 9, 86] #[9] false, 1, 8, [.v (.nilFunc)], false⟩ := rfl
theorem te_124 : klook 124 te = some ⟨.array 4 9, 4, 64, [.v (.string (mkS [])), .v (.string (mkS [])), .v (.string (mkS [])), .v (.string (mkS []))], false⟩ := rfl
theorem te_125 : klook 125 te = some ⟨.func #[49] #[9, 36] false, 1, 8, [.v (.nilFunc)], false⟩ := rfl
theorem te_126 : klook 126 te = some ⟨.func #[28, 9, 89] #[9] false, 1, 8, [.v (.nilFunc)], false⟩ := rfl
theorem te_127 : klook 127 te = some ⟨.func #[30] #[3] false, 1, 8, [.v (.nilFunc)], false⟩ := rfl
theorem te_128 : klook 128 te = some ⟨.func #[30, 27] #[9] false, 1, 8, [.v (.nilFunc)], false⟩ := rfl
theorem te_129 : klook 129 te = some ⟨.slice 137, 1, 24, [.v (.slice none 0 0)], false⟩ := rfl
theorem te_131 : klook 131 te = some ⟨.func #[9] #[129, 3, 36] false, 1, 8, [.v (.nilFunc)], false⟩ := rfl
theorem te_132 : klook 132 te = some ⟨.pointer 134, 1, 8, [.v (.pointer none)], false⟩ := rfl
theorem te_133 : klook 133 te = some ⟨.struct #[{ name := "l", type := 129, offset := 0, embedded := false, tag := "", pkgPath := "kinescope/kinescoperef12", byteOffset := 0 }, { name := "at", type := 3, offset := 1, embedded := false, tag := "", pkgPath := "kinescope/kinescoperef12", byteOffset := 24 }, { name := "bad", type := 3, offset := 2, embedded := false, tag := "", pkgPath := "kinescope/kinescoperef12", byteOffset := 32 }, { name := "long", type := 3, offset := 3, embedded := false, tag := "", pkgPath := "kinescope/kinescoperef12", byteOffset := 40 }], 4, 48, [.v (.slice none 0 0), .v (.int .i64 0), .v (.int .i64 0), .v (.int .i64 0)], false⟩ := rfl
theorem te_134 : klook 134 te = some ⟨.struct #[{ name := "l", type := 129, offset := 0, embedded := false, tag := "", pkgPath := "kinescope/kinescoperef12", byteOffset := 0 }, { name := "at", type := 3, offset := 1, embedded := false, tag := "", pkgPath := "kinescope/kinescoperef12", byteOffset := 24 }, { name := "bad", type := 3, offset := 2, embedded := false, tag := "", pkgPath := "kinescope/kinescoperef12", byteOffset := 32 }, { name := "long", type := 3, offset := 3, embedded := false, tag := "", pkgPath := "kinescope/kinescoperef12", byteOffset := 40 }], 4, 48, [.v (.slice none 0 0), .v (.int .i64 0), .v (.int .i64 0), .v (.int .i64 0)], false⟩ := rfl
theorem te_135 : klook 135 te = some ⟨.func #[9] #[] false, 1, 8, [.v (.nilFunc)], false⟩ := rfl
theorem te_136 : klook 136 te = some ⟨.struct #[{ name := "Kind", type := 3, offset := 0, embedded := false, tag := "", pkgPath := "", byteOffset := 0 }, { name := "Text", type := 9, offset := 1, embedded := false, tag := "", pkgPath := "", byteOffset := 8 }, { name := "At", type := 3, offset := 2, embedded := false, tag := "", pkgPath := "", byteOffset := 24 }, { name := "Val", type := 49, offset := 3, embedded := false, tag := "", pkgPath := "", byteOffset := 32 }], 6, 64, [.v (.int .i64 0), .v (.string (mkS [])), .v (.int .i64 0), .v (.int .i64 0), .v (.int .i64 0), .v (.string (mkS []))], true⟩ := rfl
theorem te_137 : klook 137 te = some ⟨.struct #[{ name := "Kind", type := 3, offset := 0, embedded := false, tag := "", pkgPath := "", byteOffset := 0 }, { name := "Text", type := 9, offset := 1, embedded := false, tag := "", pkgPath := "", byteOffset := 8 }, { name := "At", type := 3, offset := 2, embedded := false, tag := "", pkgPath := "", byteOffset := 24 }, { name := "Val", type := 49, offset := 3, embedded := false, tag := "", pkgPath := "", byteOffset := 32 }], 6, 64, [.v (.int .i64 0), .v (.string (mkS [])), .v (.int .i64 0), .v (.int .i64 0), .v (.int .i64 0), .v (.string (mkS []))], true⟩ := rfl
theorem te_138 : klook 138 te = some ⟨.func #[] #[137] false, 1, 8, [.v (.nilFunc)], false⟩ := rfl
theorem te_139 : klook 139 te = some ⟨.func #[] #[56] false, 1, 8, [.v (.nilFunc)], false⟩ := rfl
theorem te_140 : klook 140 te = some ⟨.func #[3] #[] false, 1, 8, [.v (.nilFunc)], false⟩ := rfl
theorem te_141 : klook 141 te = some ⟨.func #[] #[53] false, 1, 8, [.v (.nilFunc)], false⟩ := rfl
theorem te_142 : klook 142 te = some ⟨.func #[] #[51] false, 1, 8, [.v (.nilFunc)], false⟩ := rfl
theorem te_143 : klook 143 te = some ⟨.func #[] #[3] false, 1, 8, [.v (.nilFunc)], false⟩ := rfl
theorem te_145 : klook 145 te = some ⟨.func #[] #[3, 36] false, 1, 8, [.v (.nilFunc)], false⟩ := rfl
theorem te_146 : klook 146 te = some ⟨.func #[69, 36] #[4] false, 1, 8, [.v (.nilFunc)], false⟩ := rfl
theorem te_147 : klook 147 te = some ⟨.func #[5] #[4] false, 1, 8, [.v (.nilFunc)], false⟩ := rfl
theorem te_148 : klook 148 te = some ⟨.func #[9, 147] #[3] false, 1, 8, [.v (.nilFunc)], false⟩ := rfl
theorem te_150 : klook 150 te = some ⟨.func #[9] #[69, 4] false, 1, 8, [.v (.nilFunc)], false⟩ := rfl
theorem te_151 : klook 151 te = some ⟨.struct #[{ name := "at", type := 3, offset := 0, embedded := false, tag := "", pkgPath := "kinescope/parse", byteOffset := 0 }], 1, 8, [.v (.int .i64 0)], true⟩ := rfl
theorem te_152 : klook 152 te = some ⟨.struct #[{ name := "at", type := 3, offset := 0, embedded := false, tag := "", pkgPath := "kinescope/parse", byteOffset := 0 }], 1, 8, [.v (.int .i64 0)], true⟩ := rfl
theorem te_154 : klook 154 te = some ⟨.struct #[{ name := "tokens", type := 62, offset := 0, embedded := false, tag := "", pkgPath := "kinescope/parse", byteOffset := 0 }, { name := "next", type := 3, offset := 1, embedded := false, tag := "", pkgPath := "kinescope/parse", byteOffset := 24 }], 2, 32, [.v (.slice none 0 0), .v (.int .i64 0)], false⟩ := rfl
theorem te_155 : klook 155 te = some ⟨.struct #[{ name := "tokens", type := 62, offset := 0, embedded := false, tag := "", pkgPath := "kinescope/parse", byteOffset := 0 }, { name := "next", type := 3, offset := 1, embedded := false, tag := "", pkgPath := "kinescope/parse", byteOffset := 24 }], 2, 32, [.v (.slice none 0 0), .v (.int .i64 0)], false⟩ := rfl
theorem te_156 : klook 156 te = some ⟨.struct #[{ name := "place", type := 155, offset := 0, embedded := true, tag := "", pkgPath := "kinescope/parse", byteOffset := 0 }, { name := "much", type := 3, offset := 2, embedded := false, tag := "", pkgPath := "kinescope/parse", byteOffset := 32 }], 3, 40, [.v (.slice none 0 0), .v (.int .i64 0), .v (.int .i64 0)], false⟩ := rfl
theorem te_157 : klook 157 te = some ⟨.struct #[{ name := "place", type := 155, offset := 0, embedded := true, tag := "", pkgPath := "kinescope/parse", byteOffset := 0 }, { name := "much", type := 3, offset := 2, embedded := false, tag := "", pkgPath := "kinescope/parse", byteOffset := 32 }], 3, 40, [.v (.slice none 0 0), .v (.int .i64 0), .v (.int .i64 0)], false⟩ := rfl
theorem te_158 : klook 158 te = some ⟨.func #[] #[69] false, 1, 8, [.v (.nilFunc)], false⟩ := rfl
theorem te_159 : klook 159 te = some ⟨.func #[173] #[] false, 1, 8, [.v (.nilFunc)], false⟩ := rfl
theorem te_160 : klook 160 te = some ⟨.func #[173] #[] false, 1, 8, [.v (.nilFunc)], false⟩ := rfl
theorem te_161 : klook 161 te = some ⟨.func #[9] #[160] false, 1, 8, [.v (.nilFunc)], false⟩ := rfl
theorem te_162 : klook 162 te = some ⟨.func #[4, 3] #[] false, 1, 8, [.v (.nilFunc)], false⟩ := rfl
theorem te_163 : klook 163 te = some ⟨.func #[30, 76] #[4] false, 1, 8, [.v (.nilFunc)], false⟩ := rfl
theorem te_164 : klook 164 te = some ⟨.func #[59, 9] #[9] false, 1, 8, [.v (.nilFunc)], false⟩ := rfl
theorem te_165 : klook 165 te = some ⟨.array 7 9, 7, 112, [.v (.string (mkS [])), .v (.string (mkS [])), .v (.string (mkS [])), .v (.string (mkS [])), .v (.string (mkS [])), .v (.string (mkS [])), .v (.string (mkS []))], false⟩ := rfl
theorem te_166 : klook 166 te = some ⟨.func #[49] #[4] false, 1, 8, [.v (.nilFunc)], false⟩ := rfl
theorem te_167 : klook 167 te = some ⟨.func #[2, 3] #[9] false, 1, 8, [.v (.nilFunc)], false⟩ := rfl
theorem te_168 : klook 168 te = some ⟨.func #[9, 3] #[137] false, 1, 8, [.v (.nilFunc)], false⟩ := rfl
theorem te_169 : klook 169 te = some ⟨.func #[] #[9] false, 1, 8, [.v (.nilFunc)], false⟩ := rfl
theorem te_170 : klook 170 te = some ⟨.func #[9, 67] #[69, 4] false, 1, 8, [.v (.nilFunc)], false⟩ := rfl
theorem te_171 : klook 171 te = some ⟨.func #[9, 5] #[3] false, 1, 8, [.v (.nilFunc)], false⟩ := rfl
theorem te_172 : klook 172 te = some ⟨.pointer 155, 1, 8, [.v (.pointer none)], false⟩ := rfl
theorem te_173 : klook 173 te = some ⟨.func #[3] #[4] false, 1, 8, [.v (.nilFunc)], false⟩ := rfl
theorem te_174 : klook 174 te = some ⟨.array 6 9, 6, 96, [.v (.string (mkS [])), .v (.string (mkS [])), .v (.string (mkS [])), .v (.string (mkS [])), .v (.string (mkS [])), .v (.string (mkS []))], false⟩ := rfl
theorem te_175 : klook 175 te = some ⟨.func #[9, 27, 104] #[30] false, 1, 8, [.v (.nilFunc)], false⟩ := rfl
theorem te_176 : klook 176 te = some ⟨.func #[22, 107] #[3] false, 1, 8, [.v (.nilFunc)], false⟩ := rfl
theorem te_177 : klook 177 te = some ⟨.func #[21] #[4] false, 1, 8, [.v (.nilFunc)], false⟩ := rfl
theorem te_178 : klook 178 te = some ⟨.func #[59, 9] #[4] false, 1, 8, [.v (.nilFunc)], false⟩ := rfl
theorem te_179 : klook 179 te = some ⟨.func #[23, 109] #[3] false, 1, 8, [.v (.nilFunc)], false⟩ := rfl
theorem te_180 : klook 180 te = some ⟨.func #[24, 111] #[3] false, 1, 8, [.v (.nilFunc)], false⟩ := rfl
theorem te_181 : klook 181 te = some ⟨.pointer 184, 1, 8, [.v (.pointer none)], false⟩ := rfl
theorem te_182 : klook 182 te = some ⟨.slice 5, 1, 24, [.v (.slice none 0 0)], false⟩ := rfl
theorem te_183 : klook 183 te = some ⟨.struct #[{ name := "addr", type := 181, offset := 0, embedded := false, tag := "", pkgPath := "strings", byteOffset := 0 }, { name := "buf", type := 182, offset := 1, embedded := false, tag := "", pkgPath := "strings", byteOffset := 8 }], 2, 32, [.v (.pointer none), .v (.slice none 0 0)], false⟩ := rfl
theorem te_184 : klook 184 te = some ⟨.struct #[{ name := "addr", type := 181, offset := 0, embedded := false, tag := "", pkgPath := "strings", byteOffset := 0 }, { name := "buf", type := 182, offset := 1, embedded := false, tag := "", pkgPath := "strings", byteOffset := 8 }], 2, 32, [.v (.pointer none), .v (.slice none 0 0)], false⟩ := rfl
theorem te_185 : klook 185 te = some ⟨.interface #[("Error", 169)], 1, 16, [.v (.nilIface)], false⟩ := rfl
theorem te_186 : klook 186 te = some ⟨.interface #[("Error", 169)], 1, 16, [.v (.nilIface)], false⟩ := rfl
theorem te_188 : klook 188 te = some ⟨.func #[9] #[3, 186] false, 1, 8, [.v (.nilFunc)], false⟩ := rfl
theorem te_189 : klook 189 te = some ⟨.func #[49] #[9] false, 1, 8, [.v (.nilFunc)], false⟩ := rfl
theorem te_190 : klook 190 te = some ⟨.array 24 5, 24, 24, [.v (.int .u8 0), .v (.int .u8 0), .v (.int .u8 0), .v (.int .u8 0), .v (.int .u8 0), .v (.int .u8 0), .v (.int .u8 0), .v (.int .u8 0), .v (.int .u8 0), .v (.int .u8 0), .v (.int .u8 0), .v (.int .u8 0), .v (.int .u8 0), .v (.int .u8 0), .v (.int .u8 0), .v (.int .u8 0), .v (.int .u8 0), .v (.int .u8 0), .v (.int .u8 0), .v (.int .u8 0), .v (.int .u8 0), .v (.int .u8 0), .v (.int .u8 0), .v (.int .u8 0)], false⟩ := rfl
theorem te_191 : klook 191 te = some ⟨.int .u64, 1, 8, [.v (.int .u64 0)], false⟩ := rfl
theorem te_192 : klook 192 te = some ⟨.func #[191] #[3] false, 1, 8, [.v (.nilFunc)], false⟩ := rfl
theorem te_193 : klook 193 te = some ⟨.func #[182, 191] #[] false, 1, 8, [.v (.nilFunc)], false⟩ := rfl
theorem te_195 : klook 195 te = some ⟨.func #[182, 191, 3, 4, 4] #[182, 9] false, 1, 8, [.v (.nilFunc)], false⟩ := rfl
theorem te_196 : klook 196 te = some ⟨.func #[9, 3, 4] #[3] false, 1, 8, [.v (.nilFunc)], false⟩ := rfl
theorem te_197 : klook 197 te = some ⟨.func #[9, 3] #[3] false, 1, 8, [.v (.nilFunc)], false⟩ := rfl
theorem te_199 : klook 199 te = some ⟨.func #[9] #[49, 36] false, 1, 8, [.v (.nilFunc)], false⟩ := rfl
theorem te_200 : klook 200 te = some ⟨.func #[9] #[59] false, 1, 8, [.v (.nilFunc)], false⟩ := rfl
theorem te_201 : klook 201 te = some ⟨.func #[9, 9] #[4] false, 1, 8, [.v (.nilFunc)], false⟩ := rfl
theorem te_202 : klook 202 te = some ⟨.func #[59, 9] #[3] false, 1, 8, [.v (.nilFunc)], false⟩ := rfl
theorem te_203 : klook 203 te = some ⟨.pointer 5, 1, 8, [.v (.pointer none)], false⟩ := rfl
theorem te_204 : klook 204 te = some ⟨.func #[3] #[3] false, 1, 8, [.v (.nilFunc)], false⟩ := rfl
theorem te_205 : klook 205 te = some ⟨.func #[4] #[3] false, 1, 8, [.v (.nilFunc)], false⟩ := rfl
theorem te_206 : klook 206 te = some ⟨.array 20 191, 20, 160, [.v (.int .u64 0), .v (.int .u64 0), .v (.int .u64 0), .v (.int .u64 0), .v (.int .u64 0), .v (.int .u64 0), .v (.int .u64 0), .v (.int .u64 0), .v (.int .u64 0), .v (.int .u64 0), .v (.int .u64 0), .v (.int .u64 0), .v (.int .u64 0), .v (.int .u64 0), .v (.int .u64 0), .v (.int .u64 0), .v (.int .u64 0), .v (.int .u64 0), .v (.int .u64 0), .v (.int .u64 0)], false⟩ := rfl
theorem te_207 : klook 207 te = some ⟨.int .u32, 1, 4, [.v (.int .u32 0)], false⟩ := rfl
theorem te_209 : klook 209 te = some ⟨.int .u64, 1, 8, [.v (.int .u64 0)], false⟩ := rfl
theorem te_210 : klook 210 te = some ⟨.func #[209] #[3] false, 1, 8, [.v (.nilFunc)], false⟩ := rfl
theorem te_212 : klook 212 te = some ⟨.func #[9] #[3, 4] false, 1, 8, [.v (.nilFunc)], false⟩ := rfl
theorem te_213 : klook 213 te = some ⟨.func #[9] #[49] false, 1, 8, [.v (.nilFunc)], false⟩ := rfl
theorem te_214 : klook 214 te = some ⟨.func #[9, 9] #[9] false, 1, 8, [.v (.nilFunc)], false⟩ := rfl
theorem te_215 : klook 215 te = some ⟨.func #[3] #[49] false, 1, 8, [.v (.nilFunc)], false⟩ := rfl
theorem te_217 : klook 217 te = some ⟨.func #[9, 177] #[59] false, 1, 8, [.v (.nilFunc)], false⟩ := rfl
theorem te_219 : klook 219 te = some ⟨.func #[218] #[218] false, 1, 8, [.v (.nilFunc)], false⟩ := rfl
theorem te_220 : klook 220 te = some ⟨.func #[3] #[182] false, 1, 8, [.v (.nilFunc)], false⟩ := rfl
theorem te_221 : klook 221 te = some ⟨.func #[207] #[3] false, 1, 8, [.v (.nilFunc)], false⟩ := rfl
theorem te_222 : klook 222 te = some ⟨.func #[9, 9, 3, 3, 186] #[186] false, 1, 8, [.v (.nilFunc)], false⟩ := rfl
theorem te_223 : klook 223 te = some ⟨.slice 225, 1, 24, [.v (.slice none 0 0)], false⟩ := rfl
theorem te_224 : klook 224 te = some ⟨.struct #[{ name := "start", type := 3, offset := 0, embedded := false, tag := "", pkgPath := "strings", byteOffset := 0 }, { name := "end", type := 3, offset := 1, embedded := false, tag := "", pkgPath := "strings", byteOffset := 8 }], 2, 16, [.v (.int .i64 0), .v (.int .i64 0)], true⟩ := rfl
theorem te_225 : klook 225 te = some ⟨.struct #[{ name := "start", type := 3, offset := 0, embedded := false, tag := "", pkgPath := "strings", byteOffset := 0 }, { name := "end", type := 3, offset := 1, embedded := false, tag := "", pkgPath := "strings", byteOffset := 8 }], 2, 16, [.v (.int .i64 0), .v (.int .i64 0)], true⟩ := rfl
theorem te_226 : klook 226 te = some ⟨.func #[227, 21] #[4] false, 1, 8, [.v (.nilFunc)], false⟩ := rfl
theorem te_227 : klook 227 te = some ⟨.pointer 239, 1, 8, [.v (.pointer none)], false⟩ := rfl
theorem te_228 : klook 228 te = some ⟨.array 32 5, 32, 32, [.v (.int .u8 0), .v (.int .u8 0), .v (.int .u8 0), .v (.int .u8 0), .v (.int .u8 0), .v (.int .u8 0), .v (.int .u8 0), .v (.int .u8 0), .v (.int .u8 0), .v (.int .u8 0), .v (.int .u8 0), .v (.int .u8 0), .v (.int .u8 0), .v (.int .u8 0), .v (.int .u8 0), .v (.int .u8 0), .v (.int .u8 0), .v (.int .u8 0), .v (.int .u8 0), .v (.int .u8 0), .v (.int .u8 0), .v (.int .u8 0), .v (.int .u8 0), .v (.int .u8 0), .v (.int .u8 0), .v (.int .u8 0), .v (.int .u8 0), .v (.int .u8 0), .v (.int .u8 0), .v (.int .u8 0), .v (.int .u8 0), .v (.int .u8 0)], false⟩ := rfl
theorem te_230 : klook 230 te = some ⟨.int .i64, 1, 8, [.v (.int .i64 0)], false⟩ := rfl
theorem te_232 : klook 232 te = some ⟨.func #[9, 3, 3] #[2, 186] false, 1, 8, [.v (.nilFunc)], false⟩ := rfl
theorem te_233 : klook 233 te = some ⟨.pointer 251, 1, 8, [.v (.pointer none)], false⟩ := rfl
theorem te_234 : klook 234 te = some ⟨.func #[9, 9] #[233] false, 1, 8, [.v (.nilFunc)], false⟩ := rfl
theorem te_235 : klook 235 te = some ⟨.func #[9, 9, 3] #[233] false, 1, 8, [.v (.nilFunc)], false⟩ := rfl
theorem te_236 : klook 236 te = some ⟨.slice 242, 1, 24, [.v (.slice none 0 0)], false⟩ := rfl
theorem te_237 : klook 237 te = some ⟨.slice 245, 1, 24, [.v (.slice none 0 0)], false⟩ := rfl
theorem te_238 : klook 238 te = some ⟨.struct #[{ name := "R16", type := 236, offset := 0, embedded := false, tag := "", pkgPath := "", byteOffset := 0 }, { name := "R32", type := 237, offset := 1, embedded := false, tag := "", pkgPath := "", byteOffset := 24 }, { name := "LatinOffset", type := 3, offset := 2, embedded := false, tag := "", pkgPath := "", byteOffset := 48 }], 3, 56, [.v (.slice none 0 0), .v (.slice none 0 0), .v (.int .i64 0)], false⟩ := rfl
theorem te_239 : klook 239 te = some ⟨.struct #[{ name := "R16", type := 236, offset := 0, embedded := false, tag := "", pkgPath := "", byteOffset := 0 }, { name := "R32", type := 237, offset := 1, embedded := false, tag := "", pkgPath := "", byteOffset := 24 }, { name := "LatinOffset", type := 3, offset := 2, embedded := false, tag := "", pkgPath := "", byteOffset := 48 }], 3, 56, [.v (.slice none 0 0), .v (.slice none 0 0), .v (.int .i64 0)], false⟩ := rfl
theorem te_240 : klook 240 te = some ⟨.int .u16, 1, 2, [.v (.int .u16 0)], false⟩ := rfl
theorem te_241 : klook 241 te = some ⟨.struct #[{ name := "Lo", type := 240, offset := 0, embedded := false, tag := "", pkgPath := "", byteOffset := 0 }, { name := "Hi", type := 240, offset := 1, embedded := false, tag := "", pkgPath := "", byteOffset := 2 }, { name := "Stride", type := 240, offset := 2, embedded := false, tag := "", pkgPath := "", byteOffset := 4 }], 3, 6, [.v (.int .u16 0), .v (.int .u16 0), .v (.int .u16 0)], true⟩ := rfl
theorem te_242 : klook 242 te = some ⟨.struct #[{ name := "Lo", type := 240, offset := 0, embedded := false, tag := "", pkgPath := "", byteOffset := 0 }, { name := "Hi", type := 240, offset := 1, embedded := false, tag := "", pkgPath := "", byteOffset := 2 }, { name := "Stride", type := 240, offset := 2, embedded := false, tag := "", pkgPath := "", byteOffset := 4 }], 3, 6, [.v (.int .u16 0), .v (.int .u16 0), .v (.int .u16 0)], true⟩ := rfl
theorem te_243 : klook 243 te = some ⟨.func #[236, 240] #[4] false, 1, 8, [.v (.nilFunc)], false⟩ := rfl
theorem te_244 : klook 244 te = some ⟨.struct #[{ name := "Lo", type := 207, offset := 0, embedded := false, tag := "", pkgPath := "", byteOffset := 0 }, { name := "Hi", type := 207, offset := 1, embedded := false, tag := "", pkgPath := "", byteOffset := 4 }, { name := "Stride", type := 207, offset := 2, embedded := false, tag := "", pkgPath := "", byteOffset := 8 }], 3, 12, [.v (.int .u32 0), .v (.int .u32 0), .v (.int .u32 0)], true⟩ := rfl
theorem te_245 : klook 245 te = some ⟨.struct #[{ name := "Lo", type := 207, offset := 0, embedded := false, tag := "", pkgPath := "", byteOffset := 0 }, { name := "Hi", type := 207, offset := 1, embedded := false, tag := "", pkgPath := "", byteOffset := 4 }, { name := "Stride", type := 207, offset := 2, embedded := false, tag := "", pkgPath := "", byteOffset := 8 }], 3, 12, [.v (.int .u32 0), .v (.int .u32 0), .v (.int .u32 0)], true⟩ := rfl
theorem te_246 : klook 246 te = some ⟨.func #[237, 207] #[4] false, 1, 8, [.v (.nilFunc)], false⟩ := rfl
theorem te_248 : klook 248 te = some ⟨.func #[9, 3, 3] #[191, 186] false, 1, 8, [.v (.nilFunc)], false⟩ := rfl
theorem te_249 : klook 249 te = some ⟨.func #[9] #[9] false, 1, 8, [.v (.nilFunc)], false⟩ := rfl
theorem te_250 : klook 250 te = some ⟨.struct #[{ name := "Func", type := 9, offset := 0, embedded := false, tag := "", pkgPath := "", byteOffset := 0 }, { name := "Num", type := 9, offset := 1, embedded := false, tag := "", pkgPath := "", byteOffset := 16 }, { name := "Err", type := 186, offset := 2, embedded := false, tag := "", pkgPath := "", byteOffset := 32 }], 3, 48, [.v (.string (mkS [])), .v (.string (mkS [])), .v (.nilIface)], false⟩ := rfl
theorem te_251 : klook 251 te = some ⟨.struct #[{ name := "Func", type := 9, offset := 0, embedded := false, tag := "", pkgPath := "", byteOffset := 0 }, { name := "Num", type := 9, offset := 1, embedded := false, tag := "", pkgPath := "", byteOffset := 16 }, { name := "Err", type := 186, offset := 2, embedded := false, tag := "", pkgPath := "", byteOffset := 32 }], 3, 48, [.v (.string (mkS [])), .v (.string (mkS [])), .v (.nilIface)], false⟩ := rfl
theorem te_252 : klook 252 te = some ⟨.func #[9] #[186] false, 1, 8, [.v (.nilFunc)], false⟩ := rfl
theorem te_253 : klook 253 te = some ⟨.pointer 242, 1, 8, [.v (.pointer none)], false⟩ := rfl
theorem te_254 : klook 254 te = some ⟨.pointer 245, 1, 8, [.v (.pointer none)], false⟩ := rfl
theorem te_255 : klook 255 te = some ⟨.func #[5] #[5] false, 1, 8, [.v (.nilFunc)], false⟩ := rfl
theorem te_256 : klook 256 te = some ⟨.pointer 258, 1, 8, [.v (.pointer none)], false⟩ := rfl
theorem te_257 : klook 257 te = some ⟨.struct #[{ name := "s", type := 9, offset := 0, embedded := false, tag := "", pkgPath := "errors", byteOffset := 0 }], 1, 16, [.v (.string (mkS []))], true⟩ := rfl
theorem te_258 : klook 258 te = some ⟨.struct #[{ name := "s", type := 9, offset := 0, embedded := false, tag := "", pkgPath := "errors", byteOffset := 0 }], 1, 16, [.v (.string (mkS []))], true⟩ := rfl
theorem te_261 : klook 261 te = some ⟨.array 0 16, 0, 0, [], false⟩ := rfl
theorem te_262 : klook 262 te = some ⟨.struct #[{ name := "_", type := 261, offset := 0, embedded := false, tag := "", pkgPath := "runtime", byteOffset := 0 }], 0, 0, [], false⟩ := rfl
theorem te_266 : klook 266 te = some ⟨.func #[218, 218] #[4] false, 1, 8, [.v (.nilFunc)], false⟩ := rfl
theorem te_ok : TEok Tryz.prog te := by
  unfold te
  refine TEok.cons (z := .nilFunc) Tryz.underlying1 (by as_aux_lemma => kernel_rfl) (fun w Z => (RdL_v0 RdL_n0)) (fun h => nomatch h) ?_
  refine TEok.cons (z := .int .i64 0) Tryz.underlying2 (by as_aux_lemma => kernel_rfl) (fun w Z => (RdL_v0 RdL_n0)) (fun h => nomatch h) ?_
  refine TEok.cons (z := .int .i64 0) Tryz.underlying3 (by as_aux_lemma => kernel_rfl) (fun w Z => (RdL_v0 RdL_n0)) (fun h => nomatch h) ?_
  refine TEok.cons (z := .bool false) Tryz.underlying4 (by as_aux_lemma => kernel_rfl) (fun w Z => (RdL_v0 RdL_n0)) (fun h => nomatch h) ?_
  refine TEok.cons (z := .int .u8 0) Tryz.underlying5 (by as_aux_lemma => kernel_rfl) (fun w Z => (RdL_v0 RdL_n0)) (fun h => nomatch h) ?_
  refine TEok.cons (z := .string ⟨#[]⟩) Tryz.underlying9 (by as_aux_lemma => kernel_rfl) (fun w Z => (RdL_v0 RdL_n0)) (fun h => nomatch h) ?_
  refine TEok.cons (z := .int .u64 0) Tryz.underlying12 (by as_aux_lemma => kernel_rfl) (fun w Z => (RdL_v0 RdL_n0)) (fun h => nomatch h) ?_
  refine TEok.cons (z := .agg #[.string ⟨#[]⟩, .int .u64 0]) Tryz.underlying13 (by as_aux_lemma => kernel_rfl) (fun w Z => (RdL_v0 (RdL_v0 RdL_n0))) (fun h => nomatch h) ?_
  refine TEok.cons (z := .pointer none) Tryz.underlying15 (by as_aux_lemma => kernel_rfl) (fun w Z => (RdL_v0 RdL_n0)) (fun h => nomatch h) ?_
  refine TEok.cons (z := .pointer none) Tryz.underlying16 (by as_aux_lemma => kernel_rfl) (fun w Z => (RdL_v0 RdL_n0)) (fun h => nomatch h) ?_
  refine TEok.cons (z := .nilIface) Tryz.underlying20 (by as_aux_lemma => kernel_rfl) (fun w Z => (RdL_v0 RdL_n0)) (fun h => nomatch h) ?_
  refine TEok.cons (z := .int .i32 0) Tryz.underlying21 (by as_aux_lemma => kernel_rfl) (fun w Z => (RdL_v0 RdL_n0)) (fun h => nomatch h) ?_
  refine TEok.cons (z := .slice none 0 0) Tryz.underlying22 (by as_aux_lemma => kernel_rfl) (fun w Z => (RdL_v0 RdL_n0)) (fun h => nomatch h) ?_
  refine TEok.cons (z := .slice none 0 0) Tryz.underlying23 (by as_aux_lemma => kernel_rfl) (fun w Z => (RdL_v0 RdL_n0)) (fun h => nomatch h) ?_
  refine TEok.cons (z := .slice none 0 0) Tryz.underlying24 (by as_aux_lemma => kernel_rfl) (fun w Z => (RdL_v0 RdL_n0)) (fun h => nomatch h) ?_
  refine TEok.cons (z := .agg #[.slice none 0 0, .slice none 0 0, .slice none 0 0, .int .i64 0, .int .i64 0]) Tryz.underlying25 (by as_aux_lemma => kernel_rfl) (fun w Z => (RdL_v0 (RdL_v0 (RdL_v0 (RdL_v0 (RdL_v0 RdL_n0)))))) (fun h => nomatch h) ?_
  refine TEok.cons (z := .agg #[.slice none 0 0, .slice none 0 0, .slice none 0 0, .int .i64 0, .int .i64 0]) Tryz.underlying26 (by as_aux_lemma => kernel_rfl) (fun w Z => (RdL_v0 (RdL_v0 (RdL_v0 (RdL_v0 (RdL_v0 RdL_n0)))))) (fun h => nomatch h) ?_
  refine TEok.cons (z := .int .i64 0) Tryz.underlying27 (by as_aux_lemma => kernel_rfl) (fun w Z => (RdL_v0 RdL_n0)) (fun h => nomatch h) ?_
  refine TEok.cons (z := .slice none 0 0) Tryz.underlying28 (by as_aux_lemma => kernel_rfl) (fun w Z => (RdL_v0 RdL_n0)) (fun h => nomatch h) ?_
  refine TEok.cons (z := .agg #[.int .i64 0, .string ⟨#[]⟩, .slice none 0 0]) Tryz.underlying29 (by as_aux_lemma => kernel_rfl) (fun w Z => (RdL_v0 (RdL_v0 (RdL_v0 RdL_n0)))) (fun h => nomatch h) ?_
  refine TEok.cons (z := .agg #[.int .i64 0, .string ⟨#[]⟩, .slice none 0 0]) Tryz.underlying30 (by as_aux_lemma => kernel_rfl) (fun w Z => (RdL_v0 (RdL_v0 (RdL_v0 RdL_n0)))) (fun h => nomatch h) ?_
  refine TEok.cons (z := .nilFunc) Tryz.underlying31 (by as_aux_lemma => kernel_rfl) (fun w Z => (RdL_v0 RdL_n0)) (fun h => nomatch h) ?_
  refine TEok.cons (z := .nilFunc) Tryz.underlying32 (by as_aux_lemma => kernel_rfl) (fun w Z => (RdL_v0 RdL_n0)) (fun h => nomatch h) ?_
  refine TEok.cons (z := .nilFunc) Tryz.underlying33 (by as_aux_lemma => kernel_rfl) (fun w Z => (RdL_v0 RdL_n0)) (fun h => nomatch h) ?_
  refine TEok.cons (z := .nilFunc) Tryz.underlying34 (by as_aux_lemma => kernel_rfl) (fun w Z => (RdL_v0 RdL_n0)) (fun h => nomatch h) ?_
  refine TEok.cons (z := .nilFunc) Tryz.underlying35 (by as_aux_lemma => kernel_rfl) (fun w Z => (RdL_v0 RdL_n0)) (fun h => nomatch h) ?_
  refine TEok.cons (z := .int .i64 0) Tryz.underlying36 (by as_aux_lemma => kernel_rfl) (fun w Z => (RdL_v0 RdL_n0)) (fun h => nomatch h) ?_
  refine TEok.cons (z := .nilFunc) Tryz.underlying38 (by as_aux_lemma => kernel_rfl) (fun w Z => (RdL_v0 RdL_n0)) (fun h => nomatch h) ?_
  refine TEok.cons (z := .nilFunc) Tryz.underlying39 (by as_aux_lemma => kernel_rfl) (fun w Z => (RdL_v0 RdL_n0)) (fun h => nomatch h) ?_
  refine TEok.cons (z := .nilFunc) Tryz.underlying40 (by as_aux_lemma => kernel_rfl) (fun w Z => (RdL_v0 RdL_n0)) (fun h => nomatch h) ?_
  refine TEok.cons (z := .nilFunc) Tryz.underlying41 (by as_aux_lemma => kernel_rfl) (fun w Z => (RdL_v0 RdL_n0)) (fun h => nomatch h) ?_
  refine TEok.cons (z := .nilFunc) Tryz.underlying42 (by as_aux_lemma => kernel_rfl) (fun w Z => (RdL_v0 RdL_n0)) (fun h => nomatch h) ?_
  refine TEok.cons (z := .nilFunc) Tryz.underlying43 (by as_aux_lemma => kernel_rfl) (fun w Z => (RdL_v0 RdL_n0)) (fun h => nomatch h) ?_
  refine TEok.cons (z := .nilFunc) Tryz.underlying44 (by as_aux_lemma => kernel_rfl) (fun w Z => (RdL_v0 RdL_n0)) (fun h => nomatch h) ?_
  refine TEok.cons (z := .int .i64 0) Tryz.underlying45 (by as_aux_lemma => kernel_rfl) (fun w Z => (RdL_v0 RdL_n0)) (fun h => nomatch h) ?_
  refine TEok.cons (z := .int .i64 0) Tryz.underlying46 (by as_aux_lemma => kernel_rfl) (fun w Z => (RdL_v0 RdL_n0)) (fun h => nomatch h) ?_
  refine TEok.cons (z := .int .i64 0) Tryz.underlying47 (by as_aux_lemma => kernel_rfl) (fun w Z => (RdL_v0 RdL_n0)) (fun h => nomatch h) ?_
  refine TEok.cons (z := .agg #[.int .i64 0, .int .i64 0, .string ⟨#[]⟩]) Tryz.underlying48 (by as_aux_lemma => kernel_rfl) (fun w Z => (RdL_v0 (RdL_v0 (RdL_v0 RdL_n0)))) (fun _ => ⟨by as_aux_lemma => kernel_rfl, by as_aux_lemma => kernel_rfl⟩) ?_
  refine TEok.cons (z := .agg #[.int .i64 0, .int .i64 0, .string ⟨#[]⟩]) Tryz.underlying49 (by as_aux_lemma => kernel_rfl) (fun w Z => (RdL_v0 (RdL_v0 (RdL_v0 RdL_n0)))) (fun _ => ⟨by as_aux_lemma => kernel_rfl, by as_aux_lemma => kernel_rfl⟩) ?_
  refine TEok.cons (z := .agg #[.int .i64 0, .string ⟨#[]⟩, .string ⟨#[]⟩, .int .i64 0, .int .i64 0, .string ⟨#[]⟩]) Tryz.underlying50 (by as_aux_lemma => kernel_rfl) (fun w Z => (RdL_v0 (RdL_v0 (RdL_v0 (RdL_v0 (RdL_v0 (RdL_v0 RdL_n0))))))) (fun _ => ⟨by as_aux_lemma => kernel_rfl, by as_aux_lemma => kernel_rfl⟩) ?_
  refine TEok.cons (z := .agg #[.int .i64 0, .string ⟨#[]⟩, .string ⟨#[]⟩, .int .i64 0, .int .i64 0, .string ⟨#[]⟩]) Tryz.underlying51 (by as_aux_lemma => kernel_rfl) (fun w Z => (RdL_v0 (RdL_v0 (RdL_v0 (RdL_v0 (RdL_v0 (RdL_v0 RdL_n0))))))) (fun _ => ⟨by as_aux_lemma => kernel_rfl, by as_aux_lemma => kernel_rfl⟩) ?_
  refine TEok.cons (z := .agg #[.int .i64 0, .int .i64 0, .string ⟨#[]⟩, .string ⟨#[]⟩, .int .i64 0, .int .i64 0, .string ⟨#[]⟩, .int .i64 0, .string ⟨#[]⟩, .string ⟨#[]⟩, .int .i64 0, .int .i64 0, .string ⟨#[]⟩]) Tryz.underlying52 (by as_aux_lemma => kernel_rfl) (fun w Z => (RdL_v0 (RdL_v0 (RdL_v0 (RdL_v0 (RdL_v0 (RdL_v0 (RdL_v0 (RdL_v0 (RdL_v0 (RdL_v0 (RdL_v0 (RdL_v0 (RdL_v0 RdL_n0)))))))))))))) (fun _ => ⟨by as_aux_lemma => kernel_rfl, by as_aux_lemma => kernel_rfl⟩) ?_
  refine TEok.cons (z := .agg #[.int .i64 0, .int .i64 0, .string ⟨#[]⟩, .string ⟨#[]⟩, .int .i64 0, .int .i64 0, .string ⟨#[]⟩, .int .i64 0, .string ⟨#[]⟩, .string ⟨#[]⟩, .int .i64 0, .int .i64 0, .string ⟨#[]⟩]) Tryz.underlying53 (by as_aux_lemma => kernel_rfl) (fun w Z => (RdL_v0 (RdL_v0 (RdL_v0 (RdL_v0 (RdL_v0 (RdL_v0 (RdL_v0 (RdL_v0 (RdL_v0 (RdL_v0 (RdL_v0 (RdL_v0 (RdL_v0 RdL_n0)))))))))))))) (fun _ => ⟨by as_aux_lemma => kernel_rfl, by as_aux_lemma => kernel_rfl⟩) ?_
  refine TEok.cons (z := .nilFunc) Tryz.underlying54 (by as_aux_lemma => kernel_rfl) (fun w Z => (RdL_v0 RdL_n0)) (fun h => nomatch h) ?_
  refine TEok.cons (z := .agg #[.string ⟨#[]⟩, .string ⟨#[]⟩, .bool false, .string ⟨#[]⟩, .string ⟨#[]⟩, .int .i64 0, .string ⟨#[]⟩, .slice none 0 0]) Tryz.underlying55 (by as_aux_lemma => kernel_rfl) (fun w Z => (RdL_v0 (RdL_v0 (RdL_v0 (RdL_v0 (RdL_v0 (RdL_v0 (RdL_v0 (RdL_v0 RdL_n0))))))))) (fun h => nomatch h) ?_
  refine TEok.cons (z := .agg #[.string ⟨#[]⟩, .string ⟨#[]⟩, .bool false, .string ⟨#[]⟩, .string ⟨#[]⟩, .int .i64 0, .string ⟨#[]⟩, .slice none 0 0]) Tryz.underlying56 (by as_aux_lemma => kernel_rfl) (fun w Z => (RdL_v0 (RdL_v0 (RdL_v0 (RdL_v0 (RdL_v0 (RdL_v0 (RdL_v0 (RdL_v0 RdL_n0))))))))) (fun h => nomatch h) ?_
  refine TEok.cons (z := .nilFunc) Tryz.underlying57 (by as_aux_lemma => kernel_rfl) (fun w Z => (RdL_v0 RdL_n0)) (fun h => nomatch h) ?_
  refine TEok.cons (z := .nilFunc) Tryz.underlying58 (by as_aux_lemma => kernel_rfl) (fun w Z => (RdL_v0 RdL_n0)) (fun h => nomatch h) ?_
  refine TEok.cons (z := .slice none 0 0) Tryz.underlying59 (by as_aux_lemma => kernel_rfl) (fun w Z => (RdL_v0 RdL_n0)) (fun h => nomatch h) ?_
  refine TEok.cons (z := .nilFunc) Tryz.underlying60 (by as_aux_lemma => kernel_rfl) (fun w Z => (RdL_v0 RdL_n0)) (fun h => nomatch h) ?_
  refine TEok.cons (z := .nilFunc) Tryz.underlying61 (by as_aux_lemma => kernel_rfl) (fun w Z => (RdL_v0 RdL_n0)) (fun h => nomatch h) ?_
  refine TEok.cons (z := .slice none 0 0) Tryz.underlying62 (by as_aux_lemma => kernel_rfl) (fun w Z => (RdL_v0 RdL_n0)) (fun h => nomatch h) ?_
  refine TEok.cons (z := .nilFunc) Tryz.underlying64 (by as_aux_lemma => kernel_rfl) (fun w Z => (RdL_v0 RdL_n0)) (fun h => nomatch h) ?_
  refine TEok.cons (z := .nilFunc) Tryz.underlying65 (by as_aux_lemma => kernel_rfl) (fun w Z => (RdL_v0 RdL_n0)) (fun h => nomatch h) ?_
  refine TEok.cons (z := .slice none 0 0) Tryz.underlying66 (by as_aux_lemma => kernel_rfl) (fun w Z => (RdL_v0 RdL_n0)) (fun h => nomatch h) ?_
  refine TEok.cons (z := .int .i64 0) Tryz.underlying67 (by as_aux_lemma => kernel_rfl) (fun w Z => (RdL_v0 RdL_n0)) (fun h => nomatch h) ?_
  refine TEok.cons (z := .agg #[.int .i64 0, .string ⟨#[]⟩, .int .i64 0, .int .i64 0, .int .i64 0, .string ⟨#[]⟩]) Tryz.underlying68 (by as_aux_lemma => kernel_rfl) (fun w Z => (RdL_v0 (RdL_v0 (RdL_v0 (RdL_v0 (RdL_v0 (RdL_v0 RdL_n0))))))) (fun _ => ⟨by as_aux_lemma => kernel_rfl, by as_aux_lemma => kernel_rfl⟩) ?_
  refine TEok.cons (z := .agg #[.int .i64 0, .string ⟨#[]⟩, .int .i64 0, .int .i64 0, .int .i64 0, .string ⟨#[]⟩]) Tryz.underlying69 (by as_aux_lemma => kernel_rfl) (fun w Z => (RdL_v0 (RdL_v0 (RdL_v0 (RdL_v0 (RdL_v0 (RdL_v0 RdL_n0))))))) (fun _ => ⟨by as_aux_lemma => kernel_rfl, by as_aux_lemma => kernel_rfl⟩) ?_
  refine TEok.cons (z := .nilFunc) Tryz.underlying71 (by as_aux_lemma => kernel_rfl) (fun w Z => (RdL_v0 RdL_n0)) (fun h => nomatch h) ?_
  refine TEok.cons (z := .nilFunc) Tryz.underlying72 (by as_aux_lemma => kernel_rfl) (fun w Z => (RdL_v0 RdL_n0)) (fun h => nomatch h) ?_
  refine TEok.cons (z := .nilFunc) Tryz.underlying74 (by as_aux_lemma => kernel_rfl) (fun w Z => (RdL_v0 RdL_n0)) (fun h => nomatch h) ?_
  refine TEok.cons (z := .nilFunc) Tryz.underlying75 (by as_aux_lemma => kernel_rfl) (fun w Z => (RdL_v0 RdL_n0)) (fun h => nomatch h) ?_
  refine TEok.cons (z := .nilFunc) Tryz.underlying76 (by as_aux_lemma => kernel_rfl) (fun w Z => (RdL_v0 RdL_n0)) (fun h => nomatch h) ?_
  refine TEok.cons (z := .nilFunc) Tryz.underlying77 (by as_aux_lemma => kernel_rfl) (fun w Z => (RdL_v0 RdL_n0)) (fun h => nomatch h) ?_
  refine TEok.cons (z := .nilFunc) Tryz.underlying78 (by as_aux_lemma => kernel_rfl) (fun w Z => (RdL_v0 RdL_n0)) (fun h => nomatch h) ?_
  refine TEok.cons (z := .nilFunc) Tryz.underlying79 (by as_aux_lemma => kernel_rfl) (fun w Z => (RdL_v0 RdL_n0)) (fun h => nomatch h) ?_
  refine TEok.cons (z := .nilFunc) Tryz.underlying80 (by as_aux_lemma => kernel_rfl) (fun w Z => (RdL_v0 RdL_n0)) (fun h => nomatch h) ?_
  refine TEok.cons (z := .nilFunc) Tryz.underlying81 (by as_aux_lemma => kernel_rfl) (fun w Z => (RdL_v0 RdL_n0)) (fun h => nomatch h) ?_
  refine TEok.cons (z := .nilFunc) Tryz.underlying82 (by as_aux_lemma => kernel_rfl) (fun w Z => (RdL_v0 RdL_n0)) (fun h => nomatch h) ?_
  refine TEok.cons (z := .nilFunc) Tryz.underlying83 (by as_aux_lemma => kernel_rfl) (fun w Z => (RdL_v0 RdL_n0)) (fun h => nomatch h) ?_
  refine TEok.cons (z := .nilFunc) Tryz.underlying84 (by as_aux_lemma => kernel_rfl) (fun w Z => (RdL_v0 RdL_n0)) (fun h => nomatch h) ?_
  refine TEok.cons (z := .nilFunc) Tryz.underlying85 (by as_aux_lemma => kernel_rfl) (fun w Z => (RdL_v0 RdL_n0)) (fun h => nomatch h) ?_
  refine TEok.cons (z := .nilFunc) Tryz.underlying86 (by as_aux_lemma => kernel_rfl) (fun w Z => (RdL_v0 RdL_n0)) (fun h => nomatch h) ?_
  refine TEok.cons (z := .nilFunc) Tryz.underlying87 (by as_aux_lemma => kernel_rfl) (fun w Z => (RdL_v0 RdL_n0)) (fun h => nomatch h) ?_
  refine TEok.cons (z := .nilFunc) Tryz.underlying88 (by as_aux_lemma => kernel_rfl) (fun w Z => (RdL_v0 RdL_n0)) (fun h => nomatch h) ?_
  refine TEok.cons (z := .nilFunc) Tryz.underlying89 (by as_aux_lemma => kernel_rfl) (fun w Z => (RdL_v0 RdL_n0)) (fun h => nomatch h) ?_
  refine TEok.cons (z := .nilFunc) Tryz.underlying90 (by as_aux_lemma => kernel_rfl) (fun w Z => (RdL_v0 RdL_n0)) (fun h => nomatch h) ?_
  refine TEok.cons (z := .nilFunc) Tryz.underlying91 (by as_aux_lemma => kernel_rfl) (fun w Z => (RdL_v0 RdL_n0)) (fun h => nomatch h) ?_
  refine TEok.cons (z := .nilFunc) Tryz.underlying92 (by as_aux_lemma => kernel_rfl) (fun w Z => (RdL_v0 RdL_n0)) (fun h => nomatch h) ?_
  refine TEok.cons (z := .nilFunc) Tryz.underlying93 (by as_aux_lemma => kernel_rfl) (fun w Z => (RdL_v0 RdL_n0)) (fun h => nomatch h) ?_
  refine TEok.cons (z := .nilFunc) Tryz.underlying94 (by as_aux_lemma => kernel_rfl) (fun w Z => (RdL_v0 RdL_n0)) (fun h => nomatch h) ?_
  refine TEok.cons (z := .nilFunc) Tryz.underlying95 (by as_aux_lemma => kernel_rfl) (fun w Z => (RdL_v0 RdL_n0)) (fun h => nomatch h) ?_
  refine TEok.cons (z := .nilFunc) Tryz.underlying96 (by as_aux_lemma => kernel_rfl) (fun w Z => (RdL_v0 RdL_n0)) (fun h => nomatch h) ?_
  refine TEok.cons (z := .nilFunc) Tryz.underlying97 (by as_aux_lemma => kernel_rfl) (fun w Z => (RdL_v0 RdL_n0)) (fun h => nomatch h) ?_
  refine TEok.cons (z := .nilFunc) Tryz.underlying98 (by as_aux_lemma => kernel_rfl) (fun w Z => (RdL_v0 RdL_n0)) (fun h => nomatch h) ?_
  refine TEok.cons (z := .pointer none) Tryz.underlying99 (by as_aux_lemma => kernel_rfl) (fun w Z => (RdL_v0 RdL_n0)) (fun h => nomatch h) ?_
  refine TEok.cons (z := .nilFunc) Tryz.underlying100 (by as_aux_lemma => kernel_rfl) (fun w Z => (RdL_v0 RdL_n0)) (fun h => nomatch h) ?_
  refine TEok.cons (z := .nilFunc) Tryz.underlying101 (by as_aux_lemma => kernel_rfl) (fun w Z => (RdL_v0 RdL_n0)) (fun h => nomatch h) ?_
  refine TEok.cons (z := .nilFunc) Tryz.underlying102 (by as_aux_lemma => kernel_rfl) (fun w Z => (RdL_v0 RdL_n0)) (fun h => nomatch h) ?_
  refine TEok.cons (z := .nilFunc) Tryz.underlying103 (by as_aux_lemma => kernel_rfl) (fun w Z => (RdL_v0 RdL_n0)) (fun h => nomatch h) ?_
  refine TEok.cons (z := .nilFunc) Tryz.underlying104 (by as_aux_lemma => kernel_rfl) (fun w Z => (RdL_v0 RdL_n0)) (fun h => nomatch h) ?_
  refine TEok.cons (z := .nilFunc) Tryz.underlying105 (by as_aux_lemma => kernel_rfl) (fun w Z => (RdL_v0 RdL_n0)) (fun h => nomatch h) ?_
  refine TEok.cons (z := .nilFunc) Tryz.underlying106 (by as_aux_lemma => kernel_rfl) (fun w Z => (RdL_v0 RdL_n0)) (fun h => nomatch h) ?_
  refine TEok.cons (z := .nilFunc) Tryz.underlying107 (by as_aux_lemma => kernel_rfl) (fun w Z => (RdL_v0 RdL_n0)) (fun h => nomatch h) ?_
  refine TEok.cons (z := .nilFunc) Tryz.underlying108 (by as_aux_lemma => kernel_rfl) (fun w Z => (RdL_v0 RdL_n0)) (fun h => nomatch h) ?_
  refine TEok.cons (z := .nilFunc) Tryz.underlying109 (by as_aux_lemma => kernel_rfl) (fun w Z => (RdL_v0 RdL_n0)) (fun h => nomatch h) ?_
  refine TEok.cons (z := .nilFunc) Tryz.underlying110 (by as_aux_lemma => kernel_rfl) (fun w Z => (RdL_v0 RdL_n0)) (fun h => nomatch h) ?_
  refine TEok.cons (z := .nilFunc) Tryz.underlying111 (by as_aux_lemma => kernel_rfl) (fun w Z => (RdL_v0 RdL_n0)) (fun h => nomatch h) ?_
  refine TEok.cons (z := .nilFunc) Tryz.underlying112 (by as_aux_lemma => kernel_rfl) (fun w Z => (RdL_v0 RdL_n0)) (fun h => nomatch h) ?_
  refine TEok.cons (z := .nilFunc) Tryz.underlying113 (by as_aux_lemma => kernel_rfl) (fun w Z => (RdL_v0 RdL_n0)) (fun h => nomatch h) ?_
  refine TEok.cons (z := .nilFunc) Tryz.underlying114 (by as_aux_lemma => kernel_rfl) (fun w Z => (RdL_v0 RdL_n0)) (fun h => nomatch h) ?_
  refine TEok.cons (z := .nilFunc) Tryz.underlying115 (by as_aux_lemma => kernel_rfl) (fun w Z => (RdL_v0 RdL_n0)) (fun h => nomatch h) ?_
  refine TEok.cons (z := .nilFunc) Tryz.underlying116 (by as_aux_lemma => kernel_rfl) (fun w Z => (RdL_v0 RdL_n0)) (fun h => nomatch h) ?_
  refine TEok.cons (z := .nilFunc) Tryz.underlying117 (by as_aux_lemma => kernel_rfl) (fun w Z => (RdL_v0 RdL_n0)) (fun h => nomatch h) ?_
  refine TEok.cons (z := .nilFunc) Tryz.underlying118 (by as_aux_lemma => kernel_rfl) (fun w Z => (RdL_v0 RdL_n0)) (fun h => nomatch h) ?_
  refine TEok.cons (z := .nilFunc) Tryz.underlying119 (by as_aux_lemma => kernel_rfl) (fun w Z => (RdL_v0 RdL_n0)) (fun h => nomatch h) ?_
  refine TEok.cons (z := .nilFunc) Tryz.underlying120 (by as_aux_lemma => kernel_rfl) (fun w Z => (RdL_v0 RdL_n0)) (fun h => nomatch h) ?_
  refine TEok.cons (z := .nilFunc) Tryz.underlying121 (by as_aux_lemma => kernel_rfl) (fun w Z => (RdL_v0 RdL_n0)) (fun h => nomatch h) ?_
  refine TEok.cons (z := .nilFunc) Tryz.underlying122 (by as_aux_lemma => kernel_rfl) (fun w Z => (RdL_v0 RdL_n0)) (fun h => nomatch h) ?_
  refine TEok.cons (z := .nilFunc) Tryz.underlying123 (by as_aux_lemma => kernel_rfl) (fun w Z => (RdL_v0 RdL_n0)) (fun h => nomatch h) ?_
  refine TEok.cons (z := .agg #[.string ⟨#[]⟩, .string ⟨#[]⟩, .string ⟨#[]⟩, .string ⟨#[]⟩]) Tryz.underlying124 (by as_aux_lemma => kernel_rfl) (fun w Z => (RdL_v0 (RdL_v0 (RdL_v0 (RdL_v0 RdL_n0))))) (fun h => nomatch h) ?_
  refine TEok.cons (z := .nilFunc) Tryz.underlying125 (by as_aux_lemma => kernel_rfl) (fun w Z => (RdL_v0 RdL_n0)) (fun h => nomatch h) ?_
  refine TEok.cons (z := .nilFunc) Tryz.underlying126 (by as_aux_lemma => kernel_rfl) (fun w Z => (RdL_v0 RdL_n0)) (fun h => nomatch h) ?_
  refine TEok.cons (z := .nilFunc) Tryz.underlying127 (by as_aux_lemma => kernel_rfl) (fun w Z => (RdL_v0 RdL_n0)) (fun h => nomatch h) ?_
  refine TEok.cons (z := .nilFunc) Tryz.underlying128 (by as_aux_lemma => kernel_rfl) (fun w Z => (RdL_v0 RdL_n0)) (fun h => nomatch h) ?_
  refine TEok.cons (z := .slice none 0 0) Tryz.underlying129 (by as_aux_lemma => kernel_rfl) (fun w Z => (RdL_v0 RdL_n0)) (fun h => nomatch h) ?_
  refine TEok.cons (z := .nilFunc) Tryz.underlying131 (by as_aux_lemma => kernel_rfl) (fun w Z => (RdL_v0 RdL_n0)) (fun h => nomatch h) ?_
  refine TEok.cons (z := .pointer none) Tryz.underlying132 (by as_aux_lemma => kernel_rfl) (fun w Z => (RdL_v0 RdL_n0)) (fun h => nomatch h) ?_
  refine TEok.cons (z := .agg #[.slice none 0 0, .int .i64 0, .int .i64 0, .int .i64 0]) Tryz.underlying133 (by as_aux_lemma => kernel_rfl) (fun w Z => (RdL_v0 (RdL_v0 (RdL_v0 (RdL_v0 RdL_n0))))) (fun h => nomatch h) ?_
  refine TEok.cons (z := .agg #[.slice none 0 0, .int .i64 0, .int .i64 0, .int .i64 0]) Tryz.underlying134 (by as_aux_lemma => kernel_rfl) (fun w Z => (RdL_v0 (RdL_v0 (RdL_v0 (RdL_v0 RdL_n0))))) (fun h => nomatch h) ?_
  refine TEok.cons (z := .nilFunc) Tryz.underlying135 (by as_aux_lemma => kernel_rfl) (fun w Z => (RdL_v0 RdL_n0)) (fun h => nomatch h) ?_
  refine TEok.cons (z := .agg #[.int .i64 0, .string ⟨#[]⟩, .int .i64 0, .int .i64 0, .int .i64 0, .string ⟨#[]⟩]) Tryz.underlying136 (by as_aux_lemma => kernel_rfl) (fun w Z => (RdL_v0 (RdL_v0 (RdL_v0 (RdL_v0 (RdL_v0 (RdL_v0 RdL_n0))))))) (fun _ => ⟨by as_aux_lemma => kernel_rfl, by as_aux_lemma => kernel_rfl⟩) ?_
  refine TEok.cons (z := .agg #[.int .i64 0, .string ⟨#[]⟩, .int .i64 0, .int .i64 0, .int .i64 0, .string ⟨#[]⟩]) Tryz.underlying137 (by as_aux_lemma => kernel_rfl) (fun w Z => (RdL_v0 (RdL_v0 (RdL_v0 (RdL_v0 (RdL_v0 (RdL_v0 RdL_n0))))))) (fun _ => ⟨by as_aux_lemma => kernel_rfl, by as_aux_lemma => kernel_rfl⟩) ?_
  refine TEok.cons (z := .nilFunc) Tryz.underlying138 (by as_aux_lemma => kernel_rfl) (fun w Z => (RdL_v0 RdL_n0)) (fun h => nomatch h) ?_
  refine TEok.cons (z := .nilFunc) Tryz.underlying139 (by as_aux_lemma => kernel_rfl) (fun w Z => (RdL_v0 RdL_n0)) (fun h => nomatch h) ?_
  refine TEok.cons (z := .nilFunc) Tryz.underlying140 (by as_aux_lemma => kernel_rfl) (fun w Z => (RdL_v0 RdL_n0)) (fun h => nomatch h) ?_
  refine TEok.cons (z := .nilFunc) Tryz.underlying141 (by as_aux_lemma => kernel_rfl) (fun w Z => (RdL_v0 RdL_n0)) (fun h => nomatch h) ?_
  refine TEok.cons (z := .nilFunc) Tryz.underlying142 (by as_aux_lemma => kernel_rfl) (fun w Z => (RdL_v0 RdL_n0)) (fun h => nomatch h) ?_
  refine TEok.cons (z := .nilFunc) Tryz.underlying143 (by as_aux_lemma => kernel_rfl) (fun w Z => (RdL_v0 RdL_n0)) (fun h => nomatch h) ?_
  refine TEok.cons (z := .nilFunc) Tryz.underlying145 (by as_aux_lemma => kernel_rfl) (fun w Z => (RdL_v0 RdL_n0)) (fun h => nomatch h) ?_
  refine TEok.cons (z := .nilFunc) Tryz.underlying146 (by as_aux_lemma => kernel_rfl) (fun w Z => (RdL_v0 RdL_n0)) (fun h => nomatch h) ?_
  refine TEok.cons (z := .nilFunc) Tryz.underlying147 (by as_aux_lemma => kernel_rfl) (fun w Z => (RdL_v0 RdL_n0)) (fun h => nomatch h) ?_
  refine TEok.cons (z := .nilFunc) Tryz.underlying148 (by as_aux_lemma => kernel_rfl) (fun w Z => (RdL_v0 RdL_n0)) (fun h => nomatch h) ?_
  refine TEok.cons (z := .nilFunc) Tryz.underlying150 (by as_aux_lemma => kernel_rfl) (fun w Z => (RdL_v0 RdL_n0)) (fun h => nomatch h) ?_
  refine TEok.cons (z := .agg #[.int .i64 0]) Tryz.underlying151 (by as_aux_lemma => kernel_rfl) (fun w Z => (RdL_v0 RdL_n0)) (fun _ => ⟨by as_aux_lemma => kernel_rfl, by as_aux_lemma => kernel_rfl⟩) ?_
  refine TEok.cons (z := .agg #[.int .i64 0]) Tryz.underlying152 (by as_aux_lemma => kernel_rfl) (fun w Z => (RdL_v0 RdL_n0)) (fun _ => ⟨by as_aux_lemma => kernel_rfl, by as_aux_lemma => kernel_rfl⟩) ?_
  refine TEok.cons (z := .agg #[.slice none 0 0, .int .i64 0]) Tryz.underlying154 (by as_aux_lemma => kernel_rfl) (fun w Z => (RdL_v0 (RdL_v0 RdL_n0))) (fun h => nomatch h) ?_
  refine TEok.cons (z := .agg #[.slice none 0 0, .int .i64 0]) Tryz.underlying155 (by as_aux_lemma => kernel_rfl) (fun w Z => (RdL_v0 (RdL_v0 RdL_n0))) (fun h => nomatch h) ?_
  refine TEok.cons (z := .agg #[.slice none 0 0, .int .i64 0, .int .i64 0]) Tryz.underlying156 (by as_aux_lemma => kernel_rfl) (fun w Z => (RdL_v0 (RdL_v0 (RdL_v0 RdL_n0)))) (fun h => nomatch h) ?_
  refine TEok.cons (z := .agg #[.slice none 0 0, .int .i64 0, .int .i64 0]) Tryz.underlying157 (by as_aux_lemma => kernel_rfl) (fun w Z => (RdL_v0 (RdL_v0 (RdL_v0 RdL_n0)))) (fun h => nomatch h) ?_
  refine TEok.cons (z := .nilFunc) Tryz.underlying158 (by as_aux_lemma => kernel_rfl) (fun w Z => (RdL_v0 RdL_n0)) (fun h => nomatch h) ?_
  refine TEok.cons (z := .nilFunc) Tryz.underlying159 (by as_aux_lemma => kernel_rfl) (fun w Z => (RdL_v0 RdL_n0)) (fun h => nomatch h) ?_
  refine TEok.cons (z := .nilFunc) Tryz.underlying160 (by as_aux_lemma => kernel_rfl) (fun w Z => (RdL_v0 RdL_n0)) (fun h => nomatch h) ?_
  refine TEok.cons (z := .nilFunc) Tryz.underlying161 (by as_aux_lemma => kernel_rfl) (fun w Z => (RdL_v0 RdL_n0)) (fun h => nomatch h) ?_
  refine TEok.cons (z := .nilFunc) Tryz.underlying162 (by as_aux_lemma => kernel_rfl) (fun w Z => (RdL_v0 RdL_n0)) (fun h => nomatch h) ?_
  refine TEok.cons (z := .nilFunc) Tryz.underlying163 (by as_aux_lemma => kernel_rfl) (fun w Z => (RdL_v0 RdL_n0)) (fun h => nomatch h) ?_
  refine TEok.cons (z := .nilFunc) Tryz.underlying164 (by as_aux_lemma => kernel_rfl) (fun w Z => (RdL_v0 RdL_n0)) (fun h => nomatch h) ?_
  refine TEok.cons (z := .agg #[.string ⟨#[]⟩, .string ⟨#[]⟩, .string ⟨#[]⟩, .string ⟨#[]⟩, .string ⟨#[]⟩, .string ⟨#[]⟩, .string ⟨#[]⟩]) Tryz.underlying165 (by as_aux_lemma => kernel_rfl) (fun w Z => (RdL_v0 (RdL_v0 (RdL_v0 (RdL_v0 (RdL_v0 (RdL_v0 (RdL_v0 RdL_n0)))))))) (fun h => nomatch h) ?_
  refine TEok.cons (z := .nilFunc) Tryz.underlying166 (by as_aux_lemma => kernel_rfl) (fun w Z => (RdL_v0 RdL_n0)) (fun h => nomatch h) ?_
  refine TEok.cons (z := .nilFunc) Tryz.underlying167 (by as_aux_lemma => kernel_rfl) (fun w Z => (RdL_v0 RdL_n0)) (fun h => nomatch h) ?_
  refine TEok.cons (z := .nilFunc) Tryz.underlying168 (by as_aux_lemma => kernel_rfl) (fun w Z => (RdL_v0 RdL_n0)) (fun h => nomatch h) ?_
  refine TEok.cons (z := .nilFunc) Tryz.underlying169 (by as_aux_lemma => kernel_rfl) (fun w Z => (RdL_v0 RdL_n0)) (fun h => nomatch h) ?_
  refine TEok.cons (z := .nilFunc) Tryz.underlying170 (by as_aux_lemma => kernel_rfl) (fun w Z => (RdL_v0 RdL_n0)) (fun h => nomatch h) ?_
  refine TEok.cons (z := .nilFunc) Tryz.underlying171 (by as_aux_lemma => kernel_rfl) (fun w Z => (RdL_v0 RdL_n0)) (fun h => nomatch h) ?_
  refine TEok.cons (z := .pointer none) Tryz.underlying172 (by as_aux_lemma => kernel_rfl) (fun w Z => (RdL_v0 RdL_n0)) (fun h => nomatch h) ?_
  refine TEok.cons (z := .nilFunc) Tryz.underlying173 (by as_aux_lemma => kernel_rfl) (fun w Z => (RdL_v0 RdL_n0)) (fun h => nomatch h) ?_
  refine TEok.cons (z := .agg #[.string ⟨#[]⟩, .string ⟨#[]⟩, .string ⟨#[]⟩, .string ⟨#[]⟩, .string ⟨#[]⟩, .string ⟨#[]⟩]) Tryz.underlying174 (by as_aux_lemma => kernel_rfl) (fun w Z => (RdL_v0 (RdL_v0 (RdL_v0 (RdL_v0 (RdL_v0 (RdL_v0 RdL_n0))))))) (fun h => nomatch h) ?_
  refine TEok.cons (z := .nilFunc) Tryz.underlying175 (by as_aux_lemma => kernel_rfl) (fun w Z => (RdL_v0 RdL_n0)) (fun h => nomatch h) ?_
  refine TEok.cons (z := .nilFunc) Tryz.underlying176 (by as_aux_lemma => kernel_rfl) (fun w Z => (RdL_v0 RdL_n0)) (fun h => nomatch h) ?_
  refine TEok.cons (z := .nilFunc) Tryz.underlying177 (by as_aux_lemma => kernel_rfl) (fun w Z => (RdL_v0 RdL_n0)) (fun h => nomatch h) ?_
  refine TEok.cons (z := .nilFunc) Tryz.underlying178 (by as_aux_lemma => kernel_rfl) (fun w Z => (RdL_v0 RdL_n0)) (fun h => nomatch h) ?_
  refine TEok.cons (z := .nilFunc) Tryz.underlying179 (by as_aux_lemma => kernel_rfl) (fun w Z => (RdL_v0 RdL_n0)) (fun h => nomatch h) ?_
  refine TEok.cons (z := .nilFunc) Tryz.underlying180 (by as_aux_lemma => kernel_rfl) (fun w Z => (RdL_v0 RdL_n0)) (fun h => nomatch h) ?_
  refine TEok.cons (z := .pointer none) Tryz.underlying181 (by as_aux_lemma => kernel_rfl) (fun w Z => (RdL_v0 RdL_n0)) (fun h => nomatch h) ?_
  refine TEok.cons (z := .slice none 0 0) Tryz.underlying182 (by as_aux_lemma => kernel_rfl) (fun w Z => (RdL_v0 RdL_n0)) (fun h => nomatch h) ?_
  refine TEok.cons (z := .agg #[.pointer none, .slice none 0 0]) Tryz.underlying183 (by as_aux_lemma => kernel_rfl) (fun w Z => (RdL_v0 (RdL_v0 RdL_n0))) (fun h => nomatch h) ?_
  refine TEok.cons (z := .agg #[.pointer none, .slice none 0 0]) Tryz.underlying184 (by as_aux_lemma => kernel_rfl) (fun w Z => (RdL_v0 (RdL_v0 RdL_n0))) (fun h => nomatch h) ?_
  refine TEok.cons (z := .nilIface) Tryz.underlying185 (by as_aux_lemma => kernel_rfl) (fun w Z => (RdL_v0 RdL_n0)) (fun h => nomatch h) ?_
  refine TEok.cons (z := .nilIface) Tryz.underlying186 (by as_aux_lemma => kernel_rfl) (fun w Z => (RdL_v0 RdL_n0)) (fun h => nomatch h) ?_
  refine TEok.cons (z := .nilFunc) Tryz.underlying188 (by as_aux_lemma => kernel_rfl) (fun w Z => (RdL_v0 RdL_n0)) (fun h => nomatch h) ?_
  refine TEok.cons (z := .nilFunc) Tryz.underlying189 (by as_aux_lemma => kernel_rfl) (fun w Z => (RdL_v0 RdL_n0)) (fun h => nomatch h) ?_
  refine TEok.cons (z := .agg #[.int .u8 0, .int .u8 0, .int .u8 0, .int .u8 0, .int .u8 0, .int .u8 0, .int .u8 0, .int .u8 0, .int .u8 0, .int .u8 0, .int .u8 0, .int .u8 0, .int .u8 0, .int .u8 0, .int .u8 0, .int .u8 0, .int .u8 0, .int .u8 0, .int .u8 0, .int .u8 0, .int .u8 0, .int .u8 0, .int .u8 0, .int .u8 0]) Tryz.underlying190 (by as_aux_lemma => kernel_rfl) (fun w Z => (RdL_v0 (RdL_v0 (RdL_v0 (RdL_v0 (RdL_v0 (RdL_v0 (RdL_v0 (RdL_v0 (RdL_v0 (RdL_v0 (RdL_v0 (RdL_v0 (RdL_v0 (RdL_v0 (RdL_v0 (RdL_v0 (RdL_v0 (RdL_v0 (RdL_v0 (RdL_v0 (RdL_v0 (RdL_v0 (RdL_v0 (RdL_v0 RdL_n0))))))))))))))))))))))))) (fun h => nomatch h) ?_
  refine TEok.cons (z := .int .u64 0) Tryz.underlying191 (by as_aux_lemma => kernel_rfl) (fun w Z => (RdL_v0 RdL_n0)) (fun h => nomatch h) ?_
  refine TEok.cons (z := .nilFunc) Tryz.underlying192 (by as_aux_lemma => kernel_rfl) (fun w Z => (RdL_v0 RdL_n0)) (fun h => nomatch h) ?_
  refine TEok.cons (z := .nilFunc) Tryz.underlying193 (by as_aux_lemma => kernel_rfl) (fun w Z => (RdL_v0 RdL_n0)) (fun h => nomatch h) ?_
  refine TEok.cons (z := .nilFunc) Tryz.underlying195 (by as_aux_lemma => kernel_rfl) (fun w Z => (RdL_v0 RdL_n0)) (fun h => nomatch h) ?_
  refine TEok.cons (z := .nilFunc) Tryz.underlying196 (by as_aux_lemma => kernel_rfl) (fun w Z => (RdL_v0 RdL_n0)) (fun h => nomatch h) ?_
  refine TEok.cons (z := .nilFunc) Tryz.underlying197 (by as_aux_lemma => kernel_rfl) (fun w Z => (RdL_v0 RdL_n0)) (fun h => nomatch h) ?_
  refine TEok.cons (z := .nilFunc) Tryz.underlying199 (by as_aux_lemma => kernel_rfl) (fun w Z => (RdL_v0 RdL_n0)) (fun h => nomatch h) ?_
  refine TEok.cons (z := .nilFunc) Tryz.underlying200 (by as_aux_lemma => kernel_rfl) (fun w Z => (RdL_v0 RdL_n0)) (fun h => nomatch h) ?_
  refine TEok.cons (z := .nilFunc) Tryz.underlying201 (by as_aux_lemma => kernel_rfl) (fun w Z => (RdL_v0 RdL_n0)) (fun h => nomatch h) ?_
  refine TEok.cons (z := .nilFunc) Tryz.underlying202 (by as_aux_lemma => kernel_rfl) (fun w Z => (RdL_v0 RdL_n0)) (fun h => nomatch h) ?_
  refine TEok.cons (z := .pointer none) Tryz.underlying203 (by as_aux_lemma => kernel_rfl) (fun w Z => (RdL_v0 RdL_n0)) (fun h => nomatch h) ?_
  refine TEok.cons (z := .nilFunc) Tryz.underlying204 (by as_aux_lemma => kernel_rfl) (fun w Z => (RdL_v0 RdL_n0)) (fun h => nomatch h) ?_
  refine TEok.cons (z := .nilFunc) Tryz.underlying205 (by as_aux_lemma => kernel_rfl) (fun w Z => (RdL_v0 RdL_n0)) (fun h => nomatch h) ?_
  refine TEok.cons (z := .agg #[.int .u64 0, .int .u64 0, .int .u64 0, .int .u64 0, .int .u64 0, .int .u64 0, .int .u64 0, .int .u64 0, .int .u64 0, .int .u64 0, .int .u64 0, .int .u64 0, .int .u64 0, .int .u64 0, .int .u64 0, .int .u64 0, .int .u64 0, .int .u64 0, .int .u64 0, .int .u64 0]) Tryz.underlying206 (by as_aux_lemma => kernel_rfl) (fun w Z => (RdL_v0 (RdL_v0 (RdL_v0 (RdL_v0 (RdL_v0 (RdL_v0 (RdL_v0 (RdL_v0 (RdL_v0 (RdL_v0 (RdL_v0 (RdL_v0 (RdL_v0 (RdL_v0 (RdL_v0 (RdL_v0 (RdL_v0 (RdL_v0 (RdL_v0 (RdL_v0 RdL_n0))))))))))))))))))))) (fun h => nomatch h) ?_
  refine TEok.cons (z := .int .u32 0) Tryz.underlying207 (by as_aux_lemma => kernel_rfl) (fun w Z => (RdL_v0 RdL_n0)) (fun h => nomatch h) ?_
  refine TEok.cons (z := .int .u64 0) Tryz.underlying209 (by as_aux_lemma => kernel_rfl) (fun w Z => (RdL_v0 RdL_n0)) (fun h => nomatch h) ?_
  refine TEok.cons (z := .nilFunc) Tryz.underlying210 (by as_aux_lemma => kernel_rfl) (fun w Z => (RdL_v0 RdL_n0)) (fun h => nomatch h) ?_
  refine TEok.cons (z := .nilFunc) Tryz.underlying212 (by as_aux_lemma => kernel_rfl) (fun w Z => (RdL_v0 RdL_n0)) (fun h => nomatch h) ?_
  refine TEok.cons (z := .nilFunc) Tryz.underlying213 (by as_aux_lemma => kernel_rfl) (fun w Z => (RdL_v0 RdL_n0)) (fun h => nomatch h) ?_
  refine TEok.cons (z := .nilFunc) Tryz.underlying214 (by as_aux_lemma => kernel_rfl) (fun w Z => (RdL_v0 RdL_n0)) (fun h => nomatch h) ?_
  refine TEok.cons (z := .nilFunc) Tryz.underlying215 (by as_aux_lemma => kernel_rfl) (fun w Z => (RdL_v0 RdL_n0)) (fun h => nomatch h) ?_
  refine TEok.cons (z := .nilFunc) Tryz.underlying217 (by as_aux_lemma => kernel_rfl) (fun w Z => (RdL_v0 RdL_n0)) (fun h => nomatch h) ?_
  refine TEok.cons (z := .nilFunc) Tryz.underlying219 (by as_aux_lemma => kernel_rfl) (fun w Z => (RdL_v0 RdL_n0)) (fun h => nomatch h) ?_
  refine TEok.cons (z := .nilFunc) Tryz.underlying220 (by as_aux_lemma => kernel_rfl) (fun w Z => (RdL_v0 RdL_n0)) (fun h => nomatch h) ?_
  refine TEok.cons (z := .nilFunc) Tryz.underlying221 (by as_aux_lemma => kernel_rfl) (fun w Z => (RdL_v0 RdL_n0)) (fun h => nomatch h) ?_
  refine TEok.cons (z := .nilFunc) Tryz.underlying222 (by as_aux_lemma => kernel_rfl) (fun w Z => (RdL_v0 RdL_n0)) (fun h => nomatch h) ?_
  refine TEok.cons (z := .slice none 0 0) Tryz.underlying223 (by as_aux_lemma => kernel_rfl) (fun w Z => (RdL_v0 RdL_n0)) (fun h => nomatch h) ?_
  refine TEok.cons (z := .agg #[.int .i64 0, .int .i64 0]) Tryz.underlying224 (by as_aux_lemma => kernel_rfl) (fun w Z => (RdL_v0 (RdL_v0 RdL_n0))) (fun _ => ⟨by as_aux_lemma => kernel_rfl, by as_aux_lemma => kernel_rfl⟩) ?_
  refine TEok.cons (z := .agg #[.int .i64 0, .int .i64 0]) Tryz.underlying225 (by as_aux_lemma => kernel_rfl) (fun w Z => (RdL_v0 (RdL_v0 RdL_n0))) (fun _ => ⟨by as_aux_lemma => kernel_rfl, by as_aux_lemma => kernel_rfl⟩) ?_
  refine TEok.cons (z := .nilFunc) Tryz.underlying226 (by as_aux_lemma => kernel_rfl) (fun w Z => (RdL_v0 RdL_n0)) (fun h => nomatch h) ?_
  refine TEok.cons (z := .pointer none) Tryz.underlying227 (by as_aux_lemma => kernel_rfl) (fun w Z => (RdL_v0 RdL_n0)) (fun h => nomatch h) ?_
  refine TEok.cons (z := .agg #[.int .u8 0, .int .u8 0, .int .u8 0, .int .u8 0, .int .u8 0, .int .u8 0, .int .u8 0, .int .u8 0, .int .u8 0, .int .u8 0, .int .u8 0, .int .u8 0, .int .u8 0, .int .u8 0, .int .u8 0, .int .u8 0, .int .u8 0, .int .u8 0, .int .u8 0, .int .u8 0, .int .u8 0, .int .u8 0, .int .u8 0, .int .u8 0, .int .u8 0, .int .u8 0, .int .u8 0, .int .u8 0, .int .u8 0, .int .u8 0, .int .u8 0, .int .u8 0]) Tryz.underlying228 (by as_aux_lemma => kernel_rfl) (fun w Z => (RdL_v0 (RdL_v0 (RdL_v0 (RdL_v0 (RdL_v0 (RdL_v0 (RdL_v0 (RdL_v0 (RdL_v0 (RdL_v0 (RdL_v0 (RdL_v0 (RdL_v0 (RdL_v0 (RdL_v0 (RdL_v0 (RdL_v0 (RdL_v0 (RdL_v0 (RdL_v0 (RdL_v0 (RdL_v0 (RdL_v0 (RdL_v0 (RdL_v0 (RdL_v0 (RdL_v0 (RdL_v0 (RdL_v0 (RdL_v0 (RdL_v0 (RdL_v0 RdL_n0))))))))))))))))))))))))))))))))) (fun h => nomatch h) ?_
  refine TEok.cons (z := .int .i64 0) Tryz.underlying230 (by as_aux_lemma => kernel_rfl) (fun w Z => (RdL_v0 RdL_n0)) (fun h => nomatch h) ?_
  refine TEok.cons (z := .nilFunc) Tryz.underlying232 (by as_aux_lemma => kernel_rfl) (fun w Z => (RdL_v0 RdL_n0)) (fun h => nomatch h) ?_
  refine TEok.cons (z := .pointer none) Tryz.underlying233 (by as_aux_lemma => kernel_rfl) (fun w Z => (RdL_v0 RdL_n0)) (fun h => nomatch h) ?_
  refine TEok.cons (z := .nilFunc) Tryz.underlying234 (by as_aux_lemma => kernel_rfl) (fun w Z => (RdL_v0 RdL_n0)) (fun h => nomatch h) ?_
  refine TEok.cons (z := .nilFunc) Tryz.underlying235 (by as_aux_lemma => kernel_rfl) (fun w Z => (RdL_v0 RdL_n0)) (fun h => nomatch h) ?_
  refine TEok.cons (z := .slice none 0 0) Tryz.underlying236 (by as_aux_lemma => kernel_rfl) (fun w Z => (RdL_v0 RdL_n0)) (fun h => nomatch h) ?_
  refine TEok.cons (z := .slice none 0 0) Tryz.underlying237 (by as_aux_lemma => kernel_rfl) (fun w Z => (RdL_v0 RdL_n0)) (fun h => nomatch h) ?_
  refine TEok.cons (z := .agg #[.slice none 0 0, .slice none 0 0, .int .i64 0]) Tryz.underlying238 (by as_aux_lemma => kernel_rfl) (fun w Z => (RdL_v0 (RdL_v0 (RdL_v0 RdL_n0)))) (fun h => nomatch h) ?_
  refine TEok.cons (z := .agg #[.slice none 0 0, .slice none 0 0, .int .i64 0]) Tryz.underlying239 (by as_aux_lemma => kernel_rfl) (fun w Z => (RdL_v0 (RdL_v0 (RdL_v0 RdL_n0)))) (fun h => nomatch h) ?_
  refine TEok.cons (z := .int .u16 0) Tryz.underlying240 (by as_aux_lemma => kernel_rfl) (fun w Z => (RdL_v0 RdL_n0)) (fun h => nomatch h) ?_
  refine TEok.cons (z := .agg #[.int .u16 0, .int .u16 0, .int .u16 0]) Tryz.underlying241 (by as_aux_lemma => kernel_rfl) (fun w Z => (RdL_v0 (RdL_v0 (RdL_v0 RdL_n0)))) (fun _ => ⟨by as_aux_lemma => kernel_rfl, by as_aux_lemma => kernel_rfl⟩) ?_
  refine TEok.cons (z := .agg #[.int .u16 0, .int .u16 0, .int .u16 0]) Tryz.underlying242 (by as_aux_lemma => kernel_rfl) (fun w Z => (RdL_v0 (RdL_v0 (RdL_v0 RdL_n0)))) (fun _ => ⟨by as_aux_lemma => kernel_rfl, by as_aux_lemma => kernel_rfl⟩) ?_
  refine TEok.cons (z := .nilFunc) Tryz.underlying243 (by as_aux_lemma => kernel_rfl) (fun w Z => (RdL_v0 RdL_n0)) (fun h => nomatch h) ?_
  refine TEok.cons (z := .agg #[.int .u32 0, .int .u32 0, .int .u32 0]) Tryz.underlying244 (by as_aux_lemma => kernel_rfl) (fun w Z => (RdL_v0 (RdL_v0 (RdL_v0 RdL_n0)))) (fun _ => ⟨by as_aux_lemma => kernel_rfl, by as_aux_lemma => kernel_rfl⟩) ?_
  refine TEok.cons (z := .agg #[.int .u32 0, .int .u32 0, .int .u32 0]) Tryz.underlying245 (by as_aux_lemma => kernel_rfl) (fun w Z => (RdL_v0 (RdL_v0 (RdL_v0 RdL_n0)))) (fun _ => ⟨by as_aux_lemma => kernel_rfl, by as_aux_lemma => kernel_rfl⟩) ?_
  refine TEok.cons (z := .nilFunc) Tryz.underlying246 (by as_aux_lemma => kernel_rfl) (fun w Z => (RdL_v0 RdL_n0)) (fun h => nomatch h) ?_
  refine TEok.cons (z := .nilFunc) Tryz.underlying248 (by as_aux_lemma => kernel_rfl) (fun w Z => (RdL_v0 RdL_n0)) (fun h => nomatch h) ?_
  refine TEok.cons (z := .nilFunc) Tryz.underlying249 (by as_aux_lemma => kernel_rfl) (fun w Z => (RdL_v0 RdL_n0)) (fun h => nomatch h) ?_
  refine TEok.cons (z := .agg #[.string ⟨#[]⟩, .string ⟨#[]⟩, .nilIface]) Tryz.underlying250 (by as_aux_lemma => kernel_rfl) (fun w Z => (RdL_v0 (RdL_v0 (RdL_v0 RdL_n0)))) (fun h => nomatch h) ?_
  refine TEok.cons (z := .agg #[.string ⟨#[]⟩, .string ⟨#[]⟩, .nilIface]) Tryz.underlying251 (by as_aux_lemma => kernel_rfl) (fun w Z => (RdL_v0 (RdL_v0 (RdL_v0 RdL_n0)))) (fun h => nomatch h) ?_
  refine TEok.cons (z := .nilFunc) Tryz.underlying252 (by as_aux_lemma => kernel_rfl) (fun w Z => (RdL_v0 RdL_n0)) (fun h => nomatch h) ?_
  refine TEok.cons (z := .pointer none) Tryz.underlying253 (by as_aux_lemma => kernel_rfl) (fun w Z => (RdL_v0 RdL_n0)) (fun h => nomatch h) ?_
  refine TEok.cons (z := .pointer none) Tryz.underlying254 (by as_aux_lemma => kernel_rfl) (fun w Z => (RdL_v0 RdL_n0)) (fun h => nomatch h) ?_
  refine TEok.cons (z := .nilFunc) Tryz.underlying255 (by as_aux_lemma => kernel_rfl) (fun w Z => (RdL_v0 RdL_n0)) (fun h => nomatch h) ?_
  refine TEok.cons (z := .pointer none) Tryz.underlying256 (by as_aux_lemma => kernel_rfl) (fun w Z => (RdL_v0 RdL_n0)) (fun h => nomatch h) ?_
  refine TEok.cons (z := .agg #[.string ⟨#[]⟩]) Tryz.underlying257 (by as_aux_lemma => kernel_rfl) (fun w Z => (RdL_v0 RdL_n0)) (fun _ => ⟨by as_aux_lemma => kernel_rfl, by as_aux_lemma => kernel_rfl⟩) ?_
  refine TEok.cons (z := .agg #[.string ⟨#[]⟩]) Tryz.underlying258 (by as_aux_lemma => kernel_rfl) (fun w Z => (RdL_v0 RdL_n0)) (fun _ => ⟨by as_aux_lemma => kernel_rfl, by as_aux_lemma => kernel_rfl⟩) ?_
  refine TEok.cons (z := .agg #[]) Tryz.underlying261 (by as_aux_lemma => kernel_rfl) (fun w Z => RdL_n0) (fun h => nomatch h) ?_
  refine TEok.cons (z := .agg #[]) Tryz.underlying262 (by as_aux_lemma => kernel_rfl) (fun w Z => RdL_n0) (fun h => nomatch h) ?_
  refine TEok.cons (z := .nilFunc) Tryz.underlying266 (by as_aux_lemma => kernel_rfl) (fun w Z => (RdL_v0 RdL_n0)) (fun h => nomatch h) ?_
  exact TEok.nil
end Go.Proofs.YtmnponhhmkdcdaaGreatDoor
