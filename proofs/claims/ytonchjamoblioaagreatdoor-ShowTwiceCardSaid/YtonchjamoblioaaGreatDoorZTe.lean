/- Steps of a function body on data, and contracts of the functions of the seat, walked. -/
import Derived.Test.YtonchjamoblioaaGreatDoorRows
import Derived.Test.YtonchjamoblioaaGreatDoorKFn
import Derived.KernelRfl
set_option linter.unusedSimpArgs false
set_option linter.unusedVariables false
set_option linter.unusedSectionVars false
namespace Go.Proofs.YtonchjamoblioaaGreatDoor
open Go.Kin
set_option maxRecDepth 100000
/-! the types, as the engine looks at them -/
def te : TE := [
 (1, ⟨.func #[] #[] false, 1, 8, [.v (.nilFunc)], false⟩),
 (2, ⟨.int .i64, 1, 8, [.v (.int .i64 0)], false⟩),
 (3, ⟨.int .i64, 1, 8, [.v (.int .i64 0)], false⟩),
 (4, ⟨.bool, 1, 1, [.v (.bool false)], false⟩),
 (5, ⟨.int .u8, 1, 1, [.v (.int .u8 0)], false⟩),
 (9, ⟨.string, 1, 16, [.v (.string (mkS []))], false⟩),
 (12, ⟨.int .u64, 1, 8, [.v (.int .u64 0)], false⟩),
 (13, ⟨.struct #[{ name := "msg", type := 9, offset := 0, embedded := false, tag := "", pkgPath := "runtime", byteOffset := 0 }, { name := "addr", type := 12, offset := 1, embedded := false, tag := "", pkgPath := "runtime", byteOffset := 16 }], 2, 24, [.v (.string (mkS [])), .v (.int .u64 0)], false⟩),
 (15, ⟨.pointer 260, 1, 8, [.v (.pointer none)], false⟩),
 (16, ⟨.pointer 263, 1, 8, [.v (.pointer none)], false⟩),
 (20, ⟨.interface #[], 1, 16, [.v (.nilIface)], false⟩),
 (21, ⟨.int .i32, 1, 4, [.v (.int .i32 0)], false⟩),
 (22, ⟨.slice 56, 1, 24, [.v (.slice none 0 0)], false⟩),
 (23, ⟨.slice 53, 1, 24, [.v (.slice none 0 0)], false⟩),
 (24, ⟨.slice 51, 1, 24, [.v (.slice none 0 0)], false⟩),
 (26, ⟨.struct #[{ name := "Patterns", type := 22, offset := 0, embedded := false, tag := "", pkgPath := "", byteOffset := 0 }, { name := "Conds", type := 23, offset := 1, embedded := false, tag := "", pkgPath := "", byteOffset := 24 }, { name := "Return", type := 24, offset := 2, embedded := false, tag := "", pkgPath := "", byteOffset := 48 }, { name := "Range", type := 3, offset := 3, embedded := false, tag := "", pkgPath := "", byteOffset := 72 }, { name := "Slide", type := 3, offset := 4, embedded := false, tag := "", pkgPath := "", byteOffset := 80 }], 5, 88, [.v (.slice none 0 0), .v (.slice none 0 0), .v (.slice none 0 0), .v (.int .i64 0), .v (.int .i64 0)], false⟩),
 (27, ⟨.int .i64, 1, 8, [.v (.int .i64 0)], false⟩),
 (28, ⟨.slice 30, 1, 24, [.v (.slice none 0 0)], false⟩),
 (30, ⟨.struct #[{ name := "Kind", type := 27, offset := 0, embedded := false, tag := "", pkgPath := "", byteOffset := 0 }, { name := "Label", type := 9, offset := 1, embedded := false, tag := "", pkgPath := "", byteOffset := 8 }, { name := "Kids", type := 28, offset := 2, embedded := false, tag := "", pkgPath := "", byteOffset := 24 }], 3, 48, [.v (.int .i64 0), .v (.string (mkS [])), .v (.slice none 0 0)], false⟩),
 (32, ⟨.func #[30, 3] #[3] false, 1, 8, [.v (.nilFunc)], false⟩),
 (36, ⟨.int .i64, 1, 8, [.v (.int .i64 0)], false⟩),
 (41, ⟨.func #[30, 30] #[4] false, 1, 8, [.v (.nilFunc)], false⟩),
 (45, ⟨.int .i64, 1, 8, [.v (.int .i64 0)], false⟩),
 (46, ⟨.int .i64, 1, 8, [.v (.int .i64 0)], false⟩),
 (47, ⟨.int .i64, 1, 8, [.v (.int .i64 0)], false⟩),
 (48, ⟨.struct #[{ name := "Kind", type := 47, offset := 0, embedded := false, tag := "", pkgPath := "", byteOffset := 0 }, { name := "Num", type := 3, offset := 1, embedded := false, tag := "", pkgPath := "", byteOffset := 8 }, { name := "Text", type := 9, offset := 2, embedded := false, tag := "", pkgPath := "", byteOffset := 16 }], 3, 32, [.v (.int .i64 0), .v (.int .i64 0), .v (.string (mkS []))], true⟩),
 (49, ⟨.struct #[{ name := "Kind", type := 47, offset := 0, embedded := false, tag := "", pkgPath := "", byteOffset := 0 }, { name := "Num", type := 3, offset := 1, embedded := false, tag := "", pkgPath := "", byteOffset := 8 }, { name := "Text", type := 9, offset := 2, embedded := false, tag := "", pkgPath := "", byteOffset := 16 }], 3, 32, [.v (.int .i64 0), .v (.int .i64 0), .v (.string (mkS []))], true⟩),
 (51, ⟨.struct #[{ name := "Kind", type := 46, offset := 0, embedded := false, tag := "", pkgPath := "", byteOffset := 0 }, { name := "Name", type := 9, offset := 1, embedded := false, tag := "", pkgPath := "", byteOffset := 8 }, { name := "Key", type := 9, offset := 2, embedded := false, tag := "", pkgPath := "", byteOffset := 24 }, { name := "Val", type := 49, offset := 3, embedded := false, tag := "", pkgPath := "", byteOffset := 40 }], 6, 72, [.v (.int .i64 0), .v (.string (mkS [])), .v (.string (mkS [])), .v (.int .i64 0), .v (.int .i64 0), .v (.string (mkS []))], true⟩),
 (53, ⟨.struct #[{ name := "Op", type := 45, offset := 0, embedded := false, tag := "", pkgPath := "", byteOffset := 0 }, { name := "Left", type := 51, offset := 1, embedded := false, tag := "", pkgPath := "", byteOffset := 8 }, { name := "Right", type := 51, offset := 7, embedded := false, tag := "", pkgPath := "", byteOffset := 80 }], 13, 152, [.v (.int .i64 0), .v (.int .i64 0), .v (.string (mkS [])), .v (.string (mkS [])), .v (.int .i64 0), .v (.int .i64 0), .v (.string (mkS [])), .v (.int .i64 0), .v (.string (mkS [])), .v (.string (mkS [])), .v (.int .i64 0), .v (.int .i64 0), .v (.string (mkS []))], true⟩),
 (56, ⟨.struct #[{ name := "From", type := 9, offset := 0, embedded := false, tag := "", pkgPath := "", byteOffset := 0 }, { name := "To", type := 9, offset := 1, embedded := false, tag := "", pkgPath := "", byteOffset := 16 }, { name := "Path", type := 4, offset := 2, embedded := false, tag := "", pkgPath := "", byteOffset := 32 }, { name := "Label", type := 9, offset := 3, embedded := false, tag := "", pkgPath := "", byteOffset := 40 }, { name := "Name", type := 9, offset := 4, embedded := false, tag := "", pkgPath := "", byteOffset := 56 }, { name := "Expr", type := 30, offset := 5, embedded := false, tag := "", pkgPath := "", byteOffset := 72 }], 8, 120, [.v (.string (mkS [])), .v (.string (mkS [])), .v (.bool false), .v (.string (mkS [])), .v (.string (mkS [])), .v (.int .i64 0), .v (.string (mkS [])), .v (.slice none 0 0)], false⟩),
 (58, ⟨.func #[9] #[4] false, 1, 8, [.v (.nilFunc)], false⟩),
 (59, ⟨.slice 9, 1, 24, [.v (.slice none 0 0)], false⟩),
 (62, ⟨.slice 69, 1, 24, [.v (.slice none 0 0)], false⟩),
 (67, ⟨.int .i64, 1, 8, [.v (.int .i64 0)], false⟩),
 (69, ⟨.struct #[{ name := "Kind", type := 67, offset := 0, embedded := false, tag := "", pkgPath := "", byteOffset := 0 }, { name := "Text", type := 9, offset := 1, embedded := false, tag := "", pkgPath := "", byteOffset := 8 }, { name := "At", type := 3, offset := 2, embedded := false, tag := "", pkgPath := "", byteOffset := 24 }, { name := "Val", type := 49, offset := 3, embedded := false, tag := "", pkgPath := "", byteOffset := 32 }], 6, 64, [.v (.int .i64 0), .v (.string (mkS [])), .v (.int .i64 0), .v (.int .i64 0), .v (.int .i64 0), .v (.string (mkS []))], true⟩),
 (76, ⟨.func #[30] #[4] false, 1, 8, [.v (.nilFunc)], false⟩),
 (83, ⟨.func #[58] #[] false, 1, 8, [.v (.nilFunc)], false⟩),
 (85, ⟨.func #[56] #[9] false, 1, 8, [.v (.nilFunc)], false⟩),
 (86, ⟨.func #[51] #[9] false, 1, 8, [.v (.nilFunc)], false⟩),
 (89, ⟨.func #[30] #[9] false, 1, 8, [.v (.nilFunc)], false⟩),
 (94, ⟨.func #[146] #[] false, 1, 8, [.v (.nilFunc)], false⟩),
 (98, ⟨.func #[99] #[26] false, 1, 8, [.v (.nilFunc)], false⟩),
 (99, ⟨.pointer 157, 1, 8, [.v (.pointer none)], false⟩),
 (101, ⟨.func #[56, 56] #[4] false, 1, 8, [.v (.nilFunc)], false⟩),
 (103, ⟨.func #[99] #[30] false, 1, 8, [.v (.nilFunc)], false⟩),
 (104, ⟨.func #[] #[30] false, 1, 8, [.v (.nilFunc)], false⟩),
 (107, ⟨.func #[56] #[4] false, 1, 8, [.v (.nilFunc)], false⟩),
 (109, ⟨.func #[53] #[4] false, 1, 8, [.v (.nilFunc)], false⟩),
 (111, ⟨.func #[51] #[4] false, 1, 8, [.v (.nilFunc)], false⟩),
 (118, ⟨.func #[3, 3] #[53] false, 1, 8, [.v (.nilFunc)], false⟩),
 (121, ⟨.func #[53] #[9] false, 1, 8, [.v (.nilFunc)], false⟩),
 (122, ⟨.func #[22, 9, 85] #[9] false, 1, 8, [.v (.nilFunc)], false⟩),
 (124, ⟨.array 4 9, 4, 64, [.v (.string (mkS [])), .v (.string (mkS [])), .v (.string (mkS [])), .v (.string (mkS []))], false⟩),
 (129, ⟨.slice 137, 1, 24, [.v (.slice none 0 0)], false⟩),
 (133, ⟨.struct #[{ name := "l", type := 129, offset := 0, embedded := false, tag := "", pkgPath := "kinescope/kinescoperef12", byteOffset := 0 }, { name := "at", type := 3, offset := 1, embedded := false, tag := "", pkgPath := "kinescope/kinescoperef12", byteOffset := 24 }, { name := "bad", type := 3, offset := 2, embedded := false, tag := "", pkgPath := "kinescope/kinescoperef12", byteOffset := 32 }, { name := "long", type := 3, offset := 3, embedded := false, tag := "", pkgPath := "kinescope/kinescoperef12", byteOffset := 40 }], 4, 48, [.v (.slice none 0 0), .v (.int .i64 0), .v (.int .i64 0), .v (.int .i64 0)], false⟩),
 (137, ⟨.struct #[{ name := "Kind", type := 3, offset := 0, embedded := false, tag := "", pkgPath := "", byteOffset := 0 }, { name := "Text", type := 9, offset := 1, embedded := false, tag := "", pkgPath := "", byteOffset := 8 }, { name := "At", type := 3, offset := 2, embedded := false, tag := "", pkgPath := "", byteOffset := 24 }, { name := "Val", type := 49, offset := 3, embedded := false, tag := "", pkgPath := "", byteOffset := 32 }], 6, 64, [.v (.int .i64 0), .v (.string (mkS [])), .v (.int .i64 0), .v (.int .i64 0), .v (.int .i64 0), .v (.string (mkS []))], true⟩),
 (140, ⟨.func #[3] #[] false, 1, 8, [.v (.nilFunc)], false⟩),
 (143, ⟨.func #[] #[3] false, 1, 8, [.v (.nilFunc)], false⟩),
 (146, ⟨.func #[69, 36] #[4] false, 1, 8, [.v (.nilFunc)], false⟩),
 (147, ⟨.func #[5] #[4] false, 1, 8, [.v (.nilFunc)], false⟩),
 (152, ⟨.struct #[{ name := "at", type := 3, offset := 0, embedded := false, tag := "", pkgPath := "kinescope/parse", byteOffset := 0 }], 1, 8, [.v (.int .i64 0)], true⟩),
 (155, ⟨.struct #[{ name := "tokens", type := 62, offset := 0, embedded := false, tag := "", pkgPath := "kinescope/parse", byteOffset := 0 }, { name := "next", type := 3, offset := 1, embedded := false, tag := "", pkgPath := "kinescope/parse", byteOffset := 24 }], 2, 32, [.v (.slice none 0 0), .v (.int .i64 0)], false⟩),
 (157, ⟨.struct #[{ name := "place", type := 155, offset := 0, embedded := true, tag := "", pkgPath := "kinescope/parse", byteOffset := 0 }, { name := "much", type := 3, offset := 2, embedded := false, tag := "", pkgPath := "kinescope/parse", byteOffset := 32 }], 3, 40, [.v (.slice none 0 0), .v (.int .i64 0), .v (.int .i64 0)], false⟩),
 (165, ⟨.array 7 9, 7, 112, [.v (.string (mkS [])), .v (.string (mkS [])), .v (.string (mkS [])), .v (.string (mkS [])), .v (.string (mkS [])), .v (.string (mkS [])), .v (.string (mkS []))], false⟩),
 (166, ⟨.func #[49] #[4] false, 1, 8, [.v (.nilFunc)], false⟩),
 (171, ⟨.func #[9, 5] #[3] false, 1, 8, [.v (.nilFunc)], false⟩),
 (172, ⟨.pointer 155, 1, 8, [.v (.pointer none)], false⟩),
 (173, ⟨.func #[3] #[4] false, 1, 8, [.v (.nilFunc)], false⟩),
 (174, ⟨.array 6 9, 6, 96, [.v (.string (mkS [])), .v (.string (mkS [])), .v (.string (mkS [])), .v (.string (mkS [])), .v (.string (mkS [])), .v (.string (mkS []))], false⟩),
 (177, ⟨.func #[21] #[4] false, 1, 8, [.v (.nilFunc)], false⟩),
 (181, ⟨.pointer 184, 1, 8, [.v (.pointer none)], false⟩),
 (182, ⟨.slice 5, 1, 24, [.v (.slice none 0 0)], false⟩),
 (184, ⟨.struct #[{ name := "addr", type := 181, offset := 0, embedded := false, tag := "", pkgPath := "strings", byteOffset := 0 }, { name := "buf", type := 182, offset := 1, embedded := false, tag := "", pkgPath := "strings", byteOffset := 8 }], 2, 32, [.v (.pointer none), .v (.slice none 0 0)], false⟩),
 (186, ⟨.interface #[("Error", 169)], 1, 16, [.v (.nilIface)], false⟩),
 (190, ⟨.array 24 5, 24, 24, [.v (.int .u8 0), .v (.int .u8 0), .v (.int .u8 0), .v (.int .u8 0), .v (.int .u8 0), .v (.int .u8 0), .v (.int .u8 0), .v (.int .u8 0), .v (.int .u8 0), .v (.int .u8 0), .v (.int .u8 0), .v (.int .u8 0), .v (.int .u8 0), .v (.int .u8 0), .v (.int .u8 0), .v (.int .u8 0), .v (.int .u8 0), .v (.int .u8 0), .v (.int .u8 0), .v (.int .u8 0), .v (.int .u8 0), .v (.int .u8 0), .v (.int .u8 0), .v (.int .u8 0)], false⟩),
 (191, ⟨.int .u64, 1, 8, [.v (.int .u64 0)], false⟩),
 (200, ⟨.func #[9] #[59] false, 1, 8, [.v (.nilFunc)], false⟩),
 (203, ⟨.pointer 5, 1, 8, [.v (.pointer none)], false⟩),
 (206, ⟨.array 20 191, 20, 160, [.v (.int .u64 0), .v (.int .u64 0), .v (.int .u64 0), .v (.int .u64 0), .v (.int .u64 0), .v (.int .u64 0), .v (.int .u64 0), .v (.int .u64 0), .v (.int .u64 0), .v (.int .u64 0), .v (.int .u64 0), .v (.int .u64 0), .v (.int .u64 0), .v (.int .u64 0), .v (.int .u64 0), .v (.int .u64 0), .v (.int .u64 0), .v (.int .u64 0), .v (.int .u64 0), .v (.int .u64 0)], false⟩),
 (207, ⟨.int .u32, 1, 4, [.v (.int .u32 0)], false⟩),
 (209, ⟨.int .u64, 1, 8, [.v (.int .u64 0)], false⟩),
 (223, ⟨.slice 225, 1, 24, [.v (.slice none 0 0)], false⟩),
 (225, ⟨.struct #[{ name := "start", type := 3, offset := 0, embedded := false, tag := "", pkgPath := "strings", byteOffset := 0 }, { name := "end", type := 3, offset := 1, embedded := false, tag := "", pkgPath := "strings", byteOffset := 8 }], 2, 16, [.v (.int .i64 0), .v (.int .i64 0)], true⟩),
 (227, ⟨.pointer 239, 1, 8, [.v (.pointer none)], false⟩),
 (228, ⟨.array 32 5, 32, 32, [.v (.int .u8 0), .v (.int .u8 0), .v (.int .u8 0), .v (.int .u8 0), .v (.int .u8 0), .v (.int .u8 0), .v (.int .u8 0), .v (.int .u8 0), .v (.int .u8 0), .v (.int .u8 0), .v (.int .u8 0), .v (.int .u8 0), .v (.int .u8 0), .v (.int .u8 0), .v (.int .u8 0), .v (.int .u8 0), .v (.int .u8 0), .v (.int .u8 0), .v (.int .u8 0), .v (.int .u8 0), .v (.int .u8 0), .v (.int .u8 0), .v (.int .u8 0), .v (.int .u8 0), .v (.int .u8 0), .v (.int .u8 0), .v (.int .u8 0), .v (.int .u8 0), .v (.int .u8 0), .v (.int .u8 0), .v (.int .u8 0), .v (.int .u8 0)], false⟩),
 (230, ⟨.int .i64, 1, 8, [.v (.int .i64 0)], false⟩),
 (233, ⟨.pointer 251, 1, 8, [.v (.pointer none)], false⟩),
 (236, ⟨.slice 242, 1, 24, [.v (.slice none 0 0)], false⟩),
 (237, ⟨.slice 245, 1, 24, [.v (.slice none 0 0)], false⟩),
 (239, ⟨.struct #[{ name := "R16", type := 236, offset := 0, embedded := false, tag := "", pkgPath := "", byteOffset := 0 }, { name := "R32", type := 237, offset := 1, embedded := false, tag := "", pkgPath := "", byteOffset := 24 }, { name := "LatinOffset", type := 3, offset := 2, embedded := false, tag := "", pkgPath := "", byteOffset := 48 }], 3, 56, [.v (.slice none 0 0), .v (.slice none 0 0), .v (.int .i64 0)], false⟩),
 (240, ⟨.int .u16, 1, 2, [.v (.int .u16 0)], false⟩),
 (242, ⟨.struct #[{ name := "Lo", type := 240, offset := 0, embedded := false, tag := "", pkgPath := "", byteOffset := 0 }, { name := "Hi", type := 240, offset := 1, embedded := false, tag := "", pkgPath := "", byteOffset := 2 }, { name := "Stride", type := 240, offset := 2, embedded := false, tag := "", pkgPath := "", byteOffset := 4 }], 3, 6, [.v (.int .u16 0), .v (.int .u16 0), .v (.int .u16 0)], true⟩),
 (245, ⟨.struct #[{ name := "Lo", type := 207, offset := 0, embedded := false, tag := "", pkgPath := "", byteOffset := 0 }, { name := "Hi", type := 207, offset := 1, embedded := false, tag := "", pkgPath := "", byteOffset := 4 }, { name := "Stride", type := 207, offset := 2, embedded := false, tag := "", pkgPath := "", byteOffset := 8 }], 3, 12, [.v (.int .u32 0), .v (.int .u32 0), .v (.int .u32 0)], true⟩),
 (251, ⟨.struct #[{ name := "Func", type := 9, offset := 0, embedded := false, tag := "", pkgPath := "", byteOffset := 0 }, { name := "Num", type := 9, offset := 1, embedded := false, tag := "", pkgPath := "", byteOffset := 16 }, { name := "Err", type := 186, offset := 2, embedded := false, tag := "", pkgPath := "", byteOffset := 32 }], 3, 48, [.v (.string (mkS [])), .v (.string (mkS [])), .v (.nilIface)], false⟩),
 (256, ⟨.pointer 258, 1, 8, [.v (.pointer none)], false⟩),
 (258, ⟨.struct #[{ name := "s", type := 9, offset := 0, embedded := false, tag := "", pkgPath := "errors", byteOffset := 0 }], 1, 16, [.v (.string (mkS []))], true⟩)]
theorem te_1 : klook 1 te = some ⟨.func #[] #[] false, 1, 8, [.v (.nilFunc)], false⟩ := rfl
theorem te_2 : klook 2 te = some ⟨.int .i64, 1, 8, [.v (.int .i64 0)], false⟩ := rfl
theorem te_3 : klook 3 te = some ⟨.int .i64, 1, 8, [.v (.int .i64 0)], false⟩ := rfl
theorem te_4 : klook 4 te = some ⟨.bool, 1, 1, [.v (.bool false)], false⟩ := rfl
theorem te_5 : klook 5 te = some ⟨.int .u8, 1, 1, [.v (.int .u8 0)], false⟩ := rfl
theorem te_9 : klook 9 te = some ⟨.string, 1, 16, [.v (.string (mkS []))], false⟩ := rfl
theorem te_12 : klook 12 te = some ⟨.int .u64, 1, 8, [.v (.int .u64 0)], false⟩ := rfl
theorem te_13 : klook 13 te = some ⟨.struct #[{ name := "msg", type := 9, offset := 0, embedded := false, tag := "", pkgPath := "runtime", byteOffset := 0 }, { name := "addr", type := 12, offset := 1, embedded := false, tag := "", pkgPath := "runtime", byteOffset := 16 }], 2, 24, [.v (.string (mkS [])), .v (.int .u64 0)], false⟩ := rfl
theorem te_15 : klook 15 te = some ⟨.pointer 260, 1, 8, [.v (.pointer none)], false⟩ := rfl
theorem te_16 : klook 16 te = some ⟨.pointer 263, 1, 8, [.v (.pointer none)], false⟩ := rfl
theorem te_20 : klook 20 te = some ⟨.interface #[], 1, 16, [.v (.nilIface)], false⟩ := rfl
theorem te_21 : klook 21 te = some ⟨.int .i32, 1, 4, [.v (.int .i32 0)], false⟩ := rfl
theorem te_22 : klook 22 te = some ⟨.slice 56, 1, 24, [.v (.slice none 0 0)], false⟩ := rfl
theorem te_23 : klook 23 te = some ⟨.slice 53, 1, 24, [.v (.slice none 0 0)], false⟩ := rfl
theorem te_24 : klook 24 te = some ⟨.slice 51, 1, 24, [.v (.slice none 0 0)], false⟩ := rfl
theorem te_26 : klook 26 te = some ⟨.struct #[{ name := "Patterns", type := 22, offset := 0, embedded := false, tag := "", pkgPath := "", byteOffset := 0 }, { name := "Conds", type := 23, offset := 1, embedded := false, tag := "", pkgPath := "", byteOffset := 24 }, { name := "Return", type := 24, offset := 2, embedded := false, tag := "", pkgPath := "", byteOffset := 48 }, { name := "Range", type := 3, offset := 3, embedded := false, tag := "", pkgPath := "", byteOffset := 72 }, { name := "Slide", type := 3, offset := 4, embedded := false, tag := "", pkgPath := "", byteOffset := 80 }], 5, 88, [.v (.slice none 0 0), .v (.slice none 0 0), .v (.slice none 0 0), .v (.int .i64 0), .v (.int .i64 0)], false⟩ := rfl
theorem te_27 : klook 27 te = some ⟨.int .i64, 1, 8, [.v (.int .i64 0)], false⟩ := rfl
theorem te_28 : klook 28 te = some ⟨.slice 30, 1, 24, [.v (.slice none 0 0)], false⟩ := rfl
theorem te_30 : klook 30 te = some ⟨.struct #[{ name := "Kind", type := 27, offset := 0, embedded := false, tag := "", pkgPath := "", byteOffset := 0 }, { name := "Label", type := 9, offset := 1, embedded := false, tag := "", pkgPath := "", byteOffset := 8 }, { name := "Kids", type := 28, offset := 2, embedded := false, tag := "", pkgPath := "", byteOffset := 24 }], 3, 48, [.v (.int .i64 0), .v (.string (mkS [])), .v (.slice none 0 0)], false⟩ := rfl
theorem te_32 : klook 32 te = some ⟨.func #[30, 3] #[3] false, 1, 8, [.v (.nilFunc)], false⟩ := rfl
theorem te_36 : klook 36 te = some ⟨.int .i64, 1, 8, [.v (.int .i64 0)], false⟩ := rfl
theorem te_41 : klook 41 te = some ⟨.func #[30, 30] #[4] false, 1, 8, [.v (.nilFunc)], false⟩ := rfl
theorem te_45 : klook 45 te = some ⟨.int .i64, 1, 8, [.v (.int .i64 0)], false⟩ := rfl
theorem te_46 : klook 46 te = some ⟨.int .i64, 1, 8, [.v (.int .i64 0)], false⟩ := rfl
theorem te_47 : klook 47 te = some ⟨.int .i64, 1, 8, [.v (.int .i64 0)], false⟩ := rfl
theorem te_48 : klook 48 te = some ⟨.struct #[{ name := "Kind", type := 47, offset := 0, embedded := false, tag := "", pkgPath := "", byteOffset := 0 }, { name := "Num", type := 3, offset := 1, embedded := false, tag := "", pkgPath := "", byteOffset := 8 }, { name := "Text", type := 9, offset := 2, embedded := false, tag := "", pkgPath := "", byteOffset := 16 }], 3, 32, [.v (.int .i64 0), .v (.int .i64 0), .v (.string (mkS []))], true⟩ := rfl
theorem te_49 : klook 49 te = some ⟨.struct #[{ name := "Kind", type := 47, offset := 0, embedded := false, tag := "", pkgPath := "", byteOffset := 0 }, { name := "Num", type := 3, offset := 1, embedded := false, tag := "", pkgPath := "", byteOffset := 8 }, { name := "Text", type := 9, offset := 2, embedded := false, tag := "", pkgPath := "", byteOffset := 16 }], 3, 32, [.v (.int .i64 0), .v (.int .i64 0), .v (.string (mkS []))], true⟩ := rfl
theorem te_51 : klook 51 te = some ⟨.struct #[{ name := "Kind", type := 46, offset := 0, embedded := false, tag := "", pkgPath := "", byteOffset := 0 }, { name := "Name", type := 9, offset := 1, embedded := false, tag := "", pkgPath := "", byteOffset := 8 }, { name := "Key", type := 9, offset := 2, embedded := false, tag := "", pkgPath := "", byteOffset := 24 }, { name := "Val", type := 49, offset := 3, embedded := false, tag := "", pkgPath := "", byteOffset := 40 }], 6, 72, [.v (.int .i64 0), .v (.string (mkS [])), .v (.string (mkS [])), .v (.int .i64 0), .v (.int .i64 0), .v (.string (mkS []))], true⟩ := rfl
theorem te_53 : klook 53 te = some ⟨.struct #[{ name := "Op", type := 45, offset := 0, embedded := false, tag := "", pkgPath := "", byteOffset := 0 }, { name := "Left", type := 51, offset := 1, embedded := false, tag := "", pkgPath := "", byteOffset := 8 }, { name := "Right", type := 51, offset := 7, embedded := false, tag := "", pkgPath := "", byteOffset := 80 }], 13, 152, [.v (.int .i64 0), .v (.int .i64 0), .v (.string (mkS [])), .v (.string (mkS [])), .v (.int .i64 0), .v (.int .i64 0), .v (.string (mkS [])), .v (.int .i64 0), .v (.string (mkS [])), .v (.string (mkS [])), .v (.int .i64 0), .v (.int .i64 0), .v (.string (mkS []))], true⟩ := rfl
theorem te_56 : klook 56 te = some ⟨.struct #[{ name := "From", type := 9, offset := 0, embedded := false, tag := "", pkgPath := "", byteOffset := 0 }, { name := "To", type := 9, offset := 1, embedded := false, tag := "", pkgPath := "", byteOffset := 16 }, { name := "Path", type := 4, offset := 2, embedded := false, tag := "", pkgPath := "", byteOffset := 32 }, { name := "Label", type := 9, offset := 3, embedded := false, tag := "", pkgPath := "", byteOffset := 40 }, { name := "Name", type := 9, offset := 4, embedded := false, tag := "", pkgPath := "", byteOffset := 56 }, { name := "Expr", type := 30, offset := 5, embedded := false, tag := "", pkgPath := "", byteOffset := 72 }], 8, 120, [.v (.string (mkS [])), .v (.string (mkS [])), .v (.bool false), .v (.string (mkS [])), .v (.string (mkS [])), .v (.int .i64 0), .v (.string (mkS [])), .v (.slice none 0 0)], false⟩ := rfl
theorem te_58 : klook 58 te = some ⟨.func #[9] #[4] false, 1, 8, [.v (.nilFunc)], false⟩ := rfl
theorem te_59 : klook 59 te = some ⟨.slice 9, 1, 24, [.v (.slice none 0 0)], false⟩ := rfl
theorem te_62 : klook 62 te = some ⟨.slice 69, 1, 24, [.v (.slice none 0 0)], false⟩ := rfl
theorem te_67 : klook 67 te = some ⟨.int .i64, 1, 8, [.v (.int .i64 0)], false⟩ := rfl
theorem te_69 : klook 69 te = some ⟨.struct #[{ name := "Kind", type := 67, offset := 0, embedded := false, tag := "", pkgPath := "", byteOffset := 0 }, { name := "Text", type := 9, offset := 1, embedded := false, tag := "", pkgPath := "", byteOffset := 8 }, { name := "At", type := 3, offset := 2, embedded := false, tag := "", pkgPath := "", byteOffset := 24 }, { name := "Val", type := 49, offset := 3, embedded := false, tag := "", pkgPath := "", byteOffset := 32 }], 6, 64, [.v (.int .i64 0), .v (.string (mkS [])), .v (.int .i64 0), .v (.int .i64 0), .v (.int .i64 0), .v (.string (mkS []))], true⟩ := rfl
theorem te_76 : klook 76 te = some ⟨.func #[30] #[4] false, 1, 8, [.v (.nilFunc)], false⟩ := rfl
theorem te_83 : klook 83 te = some ⟨.func #[58] #[] false, 1, 8, [.v (.nilFunc)], false⟩ := rfl
theorem te_85 : klook 85 te = some ⟨.func #[56] #[9] false, 1, 8, [.v (.nilFunc)], false⟩ := rfl
theorem te_86 : klook 86 te = some ⟨.func #[51] #[9] false, 1, 8, [.v (.nilFunc)], false⟩ := rfl
theorem te_89 : klook 89 te = some ⟨.func #[30] #[9] false, 1, 8, [.v (.nilFunc)], false⟩ := rfl
theorem te_94 : klook 94 te = some ⟨.func #[146] #[] false, 1, 8, [.v (.nilFunc)], false⟩ := rfl
theorem te_98 : klook 98 te = some ⟨.func #[99] #[26] false, 1, 8, [.v (.nilFunc)], false⟩ := rfl
theorem te_99 : klook 99 te = some ⟨.pointer 157, 1, 8, [.v (.pointer none)], false⟩ := rfl
theorem te_101 : klook 101 te = some ⟨.func #[56, 56] #[4] false, 1, 8, [.v (.nilFunc)], false⟩ := rfl
theorem te_103 : klook 103 te = some ⟨.func #[99] #[30] false, 1, 8, [.v (.nilFunc)], false⟩ := rfl
theorem te_104 : klook 104 te = some ⟨.func #[] #[30] false, 1, 8, [.v (.nilFunc)], false⟩ := rfl
theorem te_107 : klook 107 te = some ⟨.func #[56] #[4] false, 1, 8, [.v (.nilFunc)], false⟩ := rfl
theorem te_109 : klook 109 te = some ⟨.func #[53] #[4] false, 1, 8, [.v (.nilFunc)], false⟩ := rfl
theorem te_111 : klook 111 te = some ⟨.func #[51] #[4] false, 1, 8, [.v (.nilFunc)], false⟩ := rfl
theorem te_118 : klook 118 te = some ⟨.func #[3, 3] #[53] false, 1, 8, [.v (.nilFunc)], false⟩ := rfl
theorem te_121 : klook 121 te = some ⟨.func #[53] #[9] false, 1, 8, [.v (.nilFunc)], false⟩ := rfl
theorem te_122 : klook 122 te = some ⟨.func #[22, 9, 85] #[9] false, 1, 8, [.v (.nilFunc)], false⟩ := rfl
theorem te_124 : klook 124 te = some ⟨.array 4 9, 4, 64, [.v (.string (mkS [])), .v (.string (mkS [])), .v (.string (mkS [])), .v (.string (mkS []))], false⟩ := rfl
theorem te_129 : klook 129 te = some ⟨.slice 137, 1, 24, [.v (.slice none 0 0)], false⟩ := rfl
theorem te_133 : klook 133 te = some ⟨.struct #[{ name := "l", type := 129, offset := 0, embedded := false, tag := "", pkgPath := "kinescope/kinescoperef12", byteOffset := 0 }, { name := "at", type := 3, offset := 1, embedded := false, tag := "", pkgPath := "kinescope/kinescoperef12", byteOffset := 24 }, { name := "bad", type := 3, offset := 2, embedded := false, tag := "", pkgPath := "kinescope/kinescoperef12", byteOffset := 32 }, { name := "long", type := 3, offset := 3, embedded := false, tag := "", pkgPath := "kinescope/kinescoperef12", byteOffset := 40 }], 4, 48, [.v (.slice none 0 0), .v (.int .i64 0), .v (.int .i64 0), .v (.int .i64 0)], false⟩ := rfl
theorem te_137 : klook 137 te = some ⟨.struct #[{ name := "Kind", type := 3, offset := 0, embedded := false, tag := "", pkgPath := "", byteOffset := 0 }, { name := "Text", type := 9, offset := 1, embedded := false, tag := "", pkgPath := "", byteOffset := 8 }, { name := "At", type := 3, offset := 2, embedded := false, tag := "", pkgPath := "", byteOffset := 24 }, { name := "Val", type := 49, offset := 3, embedded := false, tag := "", pkgPath := "", byteOffset := 32 }], 6, 64, [.v (.int .i64 0), .v (.string (mkS [])), .v (.int .i64 0), .v (.int .i64 0), .v (.int .i64 0), .v (.string (mkS []))], true⟩ := rfl
theorem te_140 : klook 140 te = some ⟨.func #[3] #[] false, 1, 8, [.v (.nilFunc)], false⟩ := rfl
theorem te_143 : klook 143 te = some ⟨.func #[] #[3] false, 1, 8, [.v (.nilFunc)], false⟩ := rfl
theorem te_146 : klook 146 te = some ⟨.func #[69, 36] #[4] false, 1, 8, [.v (.nilFunc)], false⟩ := rfl
theorem te_147 : klook 147 te = some ⟨.func #[5] #[4] false, 1, 8, [.v (.nilFunc)], false⟩ := rfl
theorem te_152 : klook 152 te = some ⟨.struct #[{ name := "at", type := 3, offset := 0, embedded := false, tag := "", pkgPath := "kinescope/parse", byteOffset := 0 }], 1, 8, [.v (.int .i64 0)], true⟩ := rfl
theorem te_155 : klook 155 te = some ⟨.struct #[{ name := "tokens", type := 62, offset := 0, embedded := false, tag := "", pkgPath := "kinescope/parse", byteOffset := 0 }, { name := "next", type := 3, offset := 1, embedded := false, tag := "", pkgPath := "kinescope/parse", byteOffset := 24 }], 2, 32, [.v (.slice none 0 0), .v (.int .i64 0)], false⟩ := rfl
theorem te_157 : klook 157 te = some ⟨.struct #[{ name := "place", type := 155, offset := 0, embedded := true, tag := "", pkgPath := "kinescope/parse", byteOffset := 0 }, { name := "much", type := 3, offset := 2, embedded := false, tag := "", pkgPath := "kinescope/parse", byteOffset := 32 }], 3, 40, [.v (.slice none 0 0), .v (.int .i64 0), .v (.int .i64 0)], false⟩ := rfl
theorem te_165 : klook 165 te = some ⟨.array 7 9, 7, 112, [.v (.string (mkS [])), .v (.string (mkS [])), .v (.string (mkS [])), .v (.string (mkS [])), .v (.string (mkS [])), .v (.string (mkS [])), .v (.string (mkS []))], false⟩ := rfl
theorem te_166 : klook 166 te = some ⟨.func #[49] #[4] false, 1, 8, [.v (.nilFunc)], false⟩ := rfl
theorem te_171 : klook 171 te = some ⟨.func #[9, 5] #[3] false, 1, 8, [.v (.nilFunc)], false⟩ := rfl
theorem te_172 : klook 172 te = some ⟨.pointer 155, 1, 8, [.v (.pointer none)], false⟩ := rfl
theorem te_173 : klook 173 te = some ⟨.func #[3] #[4] false, 1, 8, [.v (.nilFunc)], false⟩ := rfl
theorem te_174 : klook 174 te = some ⟨.array 6 9, 6, 96, [.v (.string (mkS [])), .v (.string (mkS [])), .v (.string (mkS [])), .v (.string (mkS [])), .v (.string (mkS [])), .v (.string (mkS []))], false⟩ := rfl
theorem te_177 : klook 177 te = some ⟨.func #[21] #[4] false, 1, 8, [.v (.nilFunc)], false⟩ := rfl
theorem te_181 : klook 181 te = some ⟨.pointer 184, 1, 8, [.v (.pointer none)], false⟩ := rfl
theorem te_182 : klook 182 te = some ⟨.slice 5, 1, 24, [.v (.slice none 0 0)], false⟩ := rfl
theorem te_184 : klook 184 te = some ⟨.struct #[{ name := "addr", type := 181, offset := 0, embedded := false, tag := "", pkgPath := "strings", byteOffset := 0 }, { name := "buf", type := 182, offset := 1, embedded := false, tag := "", pkgPath := "strings", byteOffset := 8 }], 2, 32, [.v (.pointer none), .v (.slice none 0 0)], false⟩ := rfl
theorem te_186 : klook 186 te = some ⟨.interface #[("Error", 169)], 1, 16, [.v (.nilIface)], false⟩ := rfl
theorem te_190 : klook 190 te = some ⟨.array 24 5, 24, 24, [.v (.int .u8 0), .v (.int .u8 0), .v (.int .u8 0), .v (.int .u8 0), .v (.int .u8 0), .v (.int .u8 0), .v (.int .u8 0), .v (.int .u8 0), .v (.int .u8 0), .v (.int .u8 0), .v (.int .u8 0), .v (.int .u8 0), .v (.int .u8 0), .v (.int .u8 0), .v (.int .u8 0), .v (.int .u8 0), .v (.int .u8 0), .v (.int .u8 0), .v (.int .u8 0), .v (.int .u8 0), .v (.int .u8 0), .v (.int .u8 0), .v (.int .u8 0), .v (.int .u8 0)], false⟩ := rfl
theorem te_191 : klook 191 te = some ⟨.int .u64, 1, 8, [.v (.int .u64 0)], false⟩ := rfl
theorem te_200 : klook 200 te = some ⟨.func #[9] #[59] false, 1, 8, [.v (.nilFunc)], false⟩ := rfl
theorem te_203 : klook 203 te = some ⟨.pointer 5, 1, 8, [.v (.pointer none)], false⟩ := rfl
theorem te_206 : klook 206 te = some ⟨.array 20 191, 20, 160, [.v (.int .u64 0), .v (.int .u64 0), .v (.int .u64 0), .v (.int .u64 0), .v (.int .u64 0), .v (.int .u64 0), .v (.int .u64 0), .v (.int .u64 0), .v (.int .u64 0), .v (.int .u64 0), .v (.int .u64 0), .v (.int .u64 0), .v (.int .u64 0), .v (.int .u64 0), .v (.int .u64 0), .v (.int .u64 0), .v (.int .u64 0), .v (.int .u64 0), .v (.int .u64 0), .v (.int .u64 0)], false⟩ := rfl
theorem te_207 : klook 207 te = some ⟨.int .u32, 1, 4, [.v (.int .u32 0)], false⟩ := rfl
theorem te_209 : klook 209 te = some ⟨.int .u64, 1, 8, [.v (.int .u64 0)], false⟩ := rfl
theorem te_223 : klook 223 te = some ⟨.slice 225, 1, 24, [.v (.slice none 0 0)], false⟩ := rfl
theorem te_225 : klook 225 te = some ⟨.struct #[{ name := "start", type := 3, offset := 0, embedded := false, tag := "", pkgPath := "strings", byteOffset := 0 }, { name := "end", type := 3, offset := 1, embedded := false, tag := "", pkgPath := "strings", byteOffset := 8 }], 2, 16, [.v (.int .i64 0), .v (.int .i64 0)], true⟩ := rfl
theorem te_227 : klook 227 te = some ⟨.pointer 239, 1, 8, [.v (.pointer none)], false⟩ := rfl
theorem te_228 : klook 228 te = some ⟨.array 32 5, 32, 32, [.v (.int .u8 0), .v (.int .u8 0), .v (.int .u8 0), .v (.int .u8 0), .v (.int .u8 0), .v (.int .u8 0), .v (.int .u8 0), .v (.int .u8 0), .v (.int .u8 0), .v (.int .u8 0), .v (.int .u8 0), .v (.int .u8 0), .v (.int .u8 0), .v (.int .u8 0), .v (.int .u8 0), .v (.int .u8 0), .v (.int .u8 0), .v (.int .u8 0), .v (.int .u8 0), .v (.int .u8 0), .v (.int .u8 0), .v (.int .u8 0), .v (.int .u8 0), .v (.int .u8 0), .v (.int .u8 0), .v (.int .u8 0), .v (.int .u8 0), .v (.int .u8 0), .v (.int .u8 0), .v (.int .u8 0), .v (.int .u8 0), .v (.int .u8 0)], false⟩ := rfl
theorem te_230 : klook 230 te = some ⟨.int .i64, 1, 8, [.v (.int .i64 0)], false⟩ := rfl
theorem te_233 : klook 233 te = some ⟨.pointer 251, 1, 8, [.v (.pointer none)], false⟩ := rfl
theorem te_236 : klook 236 te = some ⟨.slice 242, 1, 24, [.v (.slice none 0 0)], false⟩ := rfl
theorem te_237 : klook 237 te = some ⟨.slice 245, 1, 24, [.v (.slice none 0 0)], false⟩ := rfl
theorem te_239 : klook 239 te = some ⟨.struct #[{ name := "R16", type := 236, offset := 0, embedded := false, tag := "", pkgPath := "", byteOffset := 0 }, { name := "R32", type := 237, offset := 1, embedded := false, tag := "", pkgPath := "", byteOffset := 24 }, { name := "LatinOffset", type := 3, offset := 2, embedded := false, tag := "", pkgPath := "", byteOffset := 48 }], 3, 56, [.v (.slice none 0 0), .v (.slice none 0 0), .v (.int .i64 0)], false⟩ := rfl
theorem te_240 : klook 240 te = some ⟨.int .u16, 1, 2, [.v (.int .u16 0)], false⟩ := rfl
theorem te_242 : klook 242 te = some ⟨.struct #[{ name := "Lo", type := 240, offset := 0, embedded := false, tag := "", pkgPath := "", byteOffset := 0 }, { name := "Hi", type := 240, offset := 1, embedded := false, tag := "", pkgPath := "", byteOffset := 2 }, { name := "Stride", type := 240, offset := 2, embedded := false, tag := "", pkgPath := "", byteOffset := 4 }], 3, 6, [.v (.int .u16 0), .v (.int .u16 0), .v (.int .u16 0)], true⟩ := rfl
theorem te_245 : klook 245 te = some ⟨.struct #[{ name := "Lo", type := 207, offset := 0, embedded := false, tag := "", pkgPath := "", byteOffset := 0 }, { name := "Hi", type := 207, offset := 1, embedded := false, tag := "", pkgPath := "", byteOffset := 4 }, { name := "Stride", type := 207, offset := 2, embedded := false, tag := "", pkgPath := "", byteOffset := 8 }], 3, 12, [.v (.int .u32 0), .v (.int .u32 0), .v (.int .u32 0)], true⟩ := rfl
theorem te_251 : klook 251 te = some ⟨.struct #[{ name := "Func", type := 9, offset := 0, embedded := false, tag := "", pkgPath := "", byteOffset := 0 }, { name := "Num", type := 9, offset := 1, embedded := false, tag := "", pkgPath := "", byteOffset := 16 }, { name := "Err", type := 186, offset := 2, embedded := false, tag := "", pkgPath := "", byteOffset := 32 }], 3, 48, [.v (.string (mkS [])), .v (.string (mkS [])), .v (.nilIface)], false⟩ := rfl
theorem te_256 : klook 256 te = some ⟨.pointer 258, 1, 8, [.v (.pointer none)], false⟩ := rfl
theorem te_258 : klook 258 te = some ⟨.struct #[{ name := "s", type := 9, offset := 0, embedded := false, tag := "", pkgPath := "errors", byteOffset := 0 }], 1, 16, [.v (.string (mkS []))], true⟩ := rfl
theorem te_ok : TEok Tryz.prog te := by
 unfold te
 refine TEok.cons (z := .nilFunc) Tryz.underlying1 (by as_aux_lemma => kernel_rfl) (fun w Z => (RdL_v0 RdL_n0)) (fun h => nomatch h) ?_
 refine TEok.cons (z := .int .i64 0) Tryz.underlying2 (by as_aux_lemma => kernel_rfl) (fun w Z => (RdL_v0 RdL_n0)) (fun h => nomatch h) ?_
 refine TEok.cons (z := .int .i64 0) Tryz.underlying3 (by as_aux_lemma => kernel_rfl) (fun w Z => (RdL_v0 RdL_n0)) (fun h => nomatch h) ?_
 refine TEok.cons (z := .bool false) Tryz.underlying4 (by as_aux_lemma => kernel_rfl) (fun w Z => (RdL_v0 RdL_n0)) (fun h => nomatch h) ?_
 refine TEok.cons (z := .int .u8 0) Tryz.underlying5 (by as_aux_lemma => kernel_rfl) (fun w Z => (RdL_v0 RdL_n0)) (fun h => nomatch h) ?_
 refine TEok.cons (z := .string ⟨#[]⟩) Tryz.underlying9 (by as_aux_lemma => kernel_rfl) (fun w Z => (RdL_v0 RdL_n0)) (fun h => nomatch h) ?_
 refine TEok.cons (z := .int .u64 0) Tryz.underlying12 (by as_aux_lemma => kernel_rfl) (fun w Z => (RdL_v0 RdL_n0)) (fun h => nomatch h) ?_
 refine TEok.cons (z := .agg #[.string ⟨#[]⟩, .int .u64 0]) Tryz.underlying13 (by as_aux_lemma => kernel_rfl) (fun w Z => (RdL_v0 (RdL_v0 RdL_n0))) (fun h => nomatch h) ?_
 refine TEok.cons (z := .pointer none) Tryz.underlying15 (by as_aux_lemma => kernel_rfl) (fun w Z => (RdL_v0 RdL_n0)) (fun h => nomatch h) ?_
 refine TEok.cons (z := .pointer none) Tryz.underlying16 (by as_aux_lemma => kernel_rfl) (fun w Z => (RdL_v0 RdL_n0)) (fun h => nomatch h) ?_
 refine TEok.cons (z := .nilIface) Tryz.underlying20 (by as_aux_lemma => kernel_rfl) (fun w Z => (RdL_v0 RdL_n0)) (fun h => nomatch h) ?_
 refine TEok.cons (z := .int .i32 0) Tryz.underlying21 (by as_aux_lemma => kernel_rfl) (fun w Z => (RdL_v0 RdL_n0)) (fun h => nomatch h) ?_
 refine TEok.cons (z := .slice none 0 0) Tryz.underlying22 (by as_aux_lemma => kernel_rfl) (fun w Z => (RdL_v0 RdL_n0)) (fun h => nomatch h) ?_
 refine TEok.cons (z := .slice none 0 0) Tryz.underlying23 (by as_aux_lemma => kernel_rfl) (fun w Z => (RdL_v0 RdL_n0)) (fun h => nomatch h) ?_
 refine TEok.cons (z := .slice none 0 0) Tryz.underlying24 (by as_aux_lemma => kernel_rfl) (fun w Z => (RdL_v0 RdL_n0)) (fun h => nomatch h) ?_
 refine TEok.cons (z := .agg #[.slice none 0 0, .slice none 0 0, .slice none 0 0, .int .i64 0, .int .i64 0]) Tryz.underlying26 (by as_aux_lemma => kernel_rfl) (fun w Z => (RdL_v0 (RdL_v0 (RdL_v0 (RdL_v0 (RdL_v0 RdL_n0)))))) (fun h => nomatch h) ?_
 refine TEok.cons (z := .int .i64 0) Tryz.underlying27 (by as_aux_lemma => kernel_rfl) (fun w Z => (RdL_v0 RdL_n0)) (fun h => nomatch h) ?_
 refine TEok.cons (z := .slice none 0 0) Tryz.underlying28 (by as_aux_lemma => kernel_rfl) (fun w Z => (RdL_v0 RdL_n0)) (fun h => nomatch h) ?_
 refine TEok.cons (z := .agg #[.int .i64 0, .string ⟨#[]⟩, .slice none 0 0]) Tryz.underlying30 (by as_aux_lemma => kernel_rfl) (fun w Z => (RdL_v0 (RdL_v0 (RdL_v0 RdL_n0)))) (fun h => nomatch h) ?_
 refine TEok.cons (z := .nilFunc) Tryz.underlying32 (by as_aux_lemma => kernel_rfl) (fun w Z => (RdL_v0 RdL_n0)) (fun h => nomatch h) ?_
 refine TEok.cons (z := .int .i64 0) Tryz.underlying36 (by as_aux_lemma => kernel_rfl) (fun w Z => (RdL_v0 RdL_n0)) (fun h => nomatch h) ?_
 refine TEok.cons (z := .nilFunc) Tryz.underlying41 (by as_aux_lemma => kernel_rfl) (fun w Z => (RdL_v0 RdL_n0)) (fun h => nomatch h) ?_
 refine TEok.cons (z := .int .i64 0) Tryz.underlying45 (by as_aux_lemma => kernel_rfl) (fun w Z => (RdL_v0 RdL_n0)) (fun h => nomatch h) ?_
 refine TEok.cons (z := .int .i64 0) Tryz.underlying46 (by as_aux_lemma => kernel_rfl) (fun w Z => (RdL_v0 RdL_n0)) (fun h => nomatch h) ?_
 refine TEok.cons (z := .int .i64 0) Tryz.underlying47 (by as_aux_lemma => kernel_rfl) (fun w Z => (RdL_v0 RdL_n0)) (fun h => nomatch h) ?_
 refine TEok.cons (z := .agg #[.int .i64 0, .int .i64 0, .string ⟨#[]⟩]) Tryz.underlying48 (by as_aux_lemma => kernel_rfl) (fun w Z => (RdL_v0 (RdL_v0 (RdL_v0 RdL_n0)))) (fun _ => ⟨by as_aux_lemma => kernel_rfl, by as_aux_lemma => kernel_rfl⟩) ?_
 refine TEok.cons (z := .agg #[.int .i64 0, .int .i64 0, .string ⟨#[]⟩]) Tryz.underlying49 (by as_aux_lemma => kernel_rfl) (fun w Z => (RdL_v0 (RdL_v0 (RdL_v0 RdL_n0)))) (fun _ => ⟨by as_aux_lemma => kernel_rfl, by as_aux_lemma => kernel_rfl⟩) ?_
 refine TEok.cons (z := .agg #[.int .i64 0, .string ⟨#[]⟩, .string ⟨#[]⟩, .int .i64 0, .int .i64 0, .string ⟨#[]⟩]) Tryz.underlying51 (by as_aux_lemma => kernel_rfl) (fun w Z => (RdL_v0 (RdL_v0 (RdL_v0 (RdL_v0 (RdL_v0 (RdL_v0 RdL_n0))))))) (fun _ => ⟨by as_aux_lemma => kernel_rfl, by as_aux_lemma => kernel_rfl⟩) ?_
 refine TEok.cons (z := .agg #[.int .i64 0, .int .i64 0, .string ⟨#[]⟩, .string ⟨#[]⟩, .int .i64 0, .int .i64 0, .string ⟨#[]⟩, .int .i64 0, .string ⟨#[]⟩, .string ⟨#[]⟩, .int .i64 0, .int .i64 0, .string ⟨#[]⟩]) Tryz.underlying53 (by as_aux_lemma => kernel_rfl) (fun w Z => (RdL_v0 (RdL_v0 (RdL_v0 (RdL_v0 (RdL_v0 (RdL_v0 (RdL_v0 (RdL_v0 (RdL_v0 (RdL_v0 (RdL_v0 (RdL_v0 (RdL_v0 RdL_n0)))))))))))))) (fun _ => ⟨by as_aux_lemma => kernel_rfl, by as_aux_lemma => kernel_rfl⟩) ?_
 refine TEok.cons (z := .agg #[.string ⟨#[]⟩, .string ⟨#[]⟩, .bool false, .string ⟨#[]⟩, .string ⟨#[]⟩, .int .i64 0, .string ⟨#[]⟩, .slice none 0 0]) Tryz.underlying56 (by as_aux_lemma => kernel_rfl) (fun w Z => (RdL_v0 (RdL_v0 (RdL_v0 (RdL_v0 (RdL_v0 (RdL_v0 (RdL_v0 (RdL_v0 RdL_n0))))))))) (fun h => nomatch h) ?_
 refine TEok.cons (z := .nilFunc) Tryz.underlying58 (by as_aux_lemma => kernel_rfl) (fun w Z => (RdL_v0 RdL_n0)) (fun h => nomatch h) ?_
 refine TEok.cons (z := .slice none 0 0) Tryz.underlying59 (by as_aux_lemma => kernel_rfl) (fun w Z => (RdL_v0 RdL_n0)) (fun h => nomatch h) ?_
 refine TEok.cons (z := .slice none 0 0) Tryz.underlying62 (by as_aux_lemma => kernel_rfl) (fun w Z => (RdL_v0 RdL_n0)) (fun h => nomatch h) ?_
 refine TEok.cons (z := .int .i64 0) Tryz.underlying67 (by as_aux_lemma => kernel_rfl) (fun w Z => (RdL_v0 RdL_n0)) (fun h => nomatch h) ?_
 refine TEok.cons (z := .agg #[.int .i64 0, .string ⟨#[]⟩, .int .i64 0, .int .i64 0, .int .i64 0, .string ⟨#[]⟩]) Tryz.underlying69 (by as_aux_lemma => kernel_rfl) (fun w Z => (RdL_v0 (RdL_v0 (RdL_v0 (RdL_v0 (RdL_v0 (RdL_v0 RdL_n0))))))) (fun _ => ⟨by as_aux_lemma => kernel_rfl, by as_aux_lemma => kernel_rfl⟩) ?_
 refine TEok.cons (z := .nilFunc) Tryz.underlying76 (by as_aux_lemma => kernel_rfl) (fun w Z => (RdL_v0 RdL_n0)) (fun h => nomatch h) ?_
 refine TEok.cons (z := .nilFunc) Tryz.underlying83 (by as_aux_lemma => kernel_rfl) (fun w Z => (RdL_v0 RdL_n0)) (fun h => nomatch h) ?_
 refine TEok.cons (z := .nilFunc) Tryz.underlying85 (by as_aux_lemma => kernel_rfl) (fun w Z => (RdL_v0 RdL_n0)) (fun h => nomatch h) ?_
 refine TEok.cons (z := .nilFunc) Tryz.underlying86 (by as_aux_lemma => kernel_rfl) (fun w Z => (RdL_v0 RdL_n0)) (fun h => nomatch h) ?_
 refine TEok.cons (z := .nilFunc) Tryz.underlying89 (by as_aux_lemma => kernel_rfl) (fun w Z => (RdL_v0 RdL_n0)) (fun h => nomatch h) ?_
 refine TEok.cons (z := .nilFunc) Tryz.underlying94 (by as_aux_lemma => kernel_rfl) (fun w Z => (RdL_v0 RdL_n0)) (fun h => nomatch h) ?_
 refine TEok.cons (z := .nilFunc) Tryz.underlying98 (by as_aux_lemma => kernel_rfl) (fun w Z => (RdL_v0 RdL_n0)) (fun h => nomatch h) ?_
 refine TEok.cons (z := .pointer none) Tryz.underlying99 (by as_aux_lemma => kernel_rfl) (fun w Z => (RdL_v0 RdL_n0)) (fun h => nomatch h) ?_
 refine TEok.cons (z := .nilFunc) Tryz.underlying101 (by as_aux_lemma => kernel_rfl) (fun w Z => (RdL_v0 RdL_n0)) (fun h => nomatch h) ?_
 refine TEok.cons (z := .nilFunc) Tryz.underlying103 (by as_aux_lemma => kernel_rfl) (fun w Z => (RdL_v0 RdL_n0)) (fun h => nomatch h) ?_
 refine TEok.cons (z := .nilFunc) Tryz.underlying104 (by as_aux_lemma => kernel_rfl) (fun w Z => (RdL_v0 RdL_n0)) (fun h => nomatch h) ?_
 refine TEok.cons (z := .nilFunc) Tryz.underlying107 (by as_aux_lemma => kernel_rfl) (fun w Z => (RdL_v0 RdL_n0)) (fun h => nomatch h) ?_
 refine TEok.cons (z := .nilFunc) Tryz.underlying109 (by as_aux_lemma => kernel_rfl) (fun w Z => (RdL_v0 RdL_n0)) (fun h => nomatch h) ?_
 refine TEok.cons (z := .nilFunc) Tryz.underlying111 (by as_aux_lemma => kernel_rfl) (fun w Z => (RdL_v0 RdL_n0)) (fun h => nomatch h) ?_
 refine TEok.cons (z := .nilFunc) Tryz.underlying118 (by as_aux_lemma => kernel_rfl) (fun w Z => (RdL_v0 RdL_n0)) (fun h => nomatch h) ?_
 refine TEok.cons (z := .nilFunc) Tryz.underlying121 (by as_aux_lemma => kernel_rfl) (fun w Z => (RdL_v0 RdL_n0)) (fun h => nomatch h) ?_
 refine TEok.cons (z := .nilFunc) Tryz.underlying122 (by as_aux_lemma => kernel_rfl) (fun w Z => (RdL_v0 RdL_n0)) (fun h => nomatch h) ?_
 refine TEok.cons (z := .agg #[.string ⟨#[]⟩, .string ⟨#[]⟩, .string ⟨#[]⟩, .string ⟨#[]⟩]) Tryz.underlying124 (by as_aux_lemma => kernel_rfl) (fun w Z => (RdL_v0 (RdL_v0 (RdL_v0 (RdL_v0 RdL_n0))))) (fun h => nomatch h) ?_
 refine TEok.cons (z := .slice none 0 0) Tryz.underlying129 (by as_aux_lemma => kernel_rfl) (fun w Z => (RdL_v0 RdL_n0)) (fun h => nomatch h) ?_
 refine TEok.cons (z := .agg #[.slice none 0 0, .int .i64 0, .int .i64 0, .int .i64 0]) Tryz.underlying133 (by as_aux_lemma => kernel_rfl) (fun w Z => (RdL_v0 (RdL_v0 (RdL_v0 (RdL_v0 RdL_n0))))) (fun h => nomatch h) ?_
 refine TEok.cons (z := .agg #[.int .i64 0, .string ⟨#[]⟩, .int .i64 0, .int .i64 0, .int .i64 0, .string ⟨#[]⟩]) Tryz.underlying137 (by as_aux_lemma => kernel_rfl) (fun w Z => (RdL_v0 (RdL_v0 (RdL_v0 (RdL_v0 (RdL_v0 (RdL_v0 RdL_n0))))))) (fun _ => ⟨by as_aux_lemma => kernel_rfl, by as_aux_lemma => kernel_rfl⟩) ?_
 refine TEok.cons (z := .nilFunc) Tryz.underlying140 (by as_aux_lemma => kernel_rfl) (fun w Z => (RdL_v0 RdL_n0)) (fun h => nomatch h) ?_
 refine TEok.cons (z := .nilFunc) Tryz.underlying143 (by as_aux_lemma => kernel_rfl) (fun w Z => (RdL_v0 RdL_n0)) (fun h => nomatch h) ?_
 refine TEok.cons (z := .nilFunc) Tryz.underlying146 (by as_aux_lemma => kernel_rfl) (fun w Z => (RdL_v0 RdL_n0)) (fun h => nomatch h) ?_
 refine TEok.cons (z := .nilFunc) Tryz.underlying147 (by as_aux_lemma => kernel_rfl) (fun w Z => (RdL_v0 RdL_n0)) (fun h => nomatch h) ?_
 refine TEok.cons (z := .agg #[.int .i64 0]) Tryz.underlying152 (by as_aux_lemma => kernel_rfl) (fun w Z => (RdL_v0 RdL_n0)) (fun _ => ⟨by as_aux_lemma => kernel_rfl, by as_aux_lemma => kernel_rfl⟩) ?_
 refine TEok.cons (z := .agg #[.slice none 0 0, .int .i64 0]) Tryz.underlying155 (by as_aux_lemma => kernel_rfl) (fun w Z => (RdL_v0 (RdL_v0 RdL_n0))) (fun h => nomatch h) ?_
 refine TEok.cons (z := .agg #[.slice none 0 0, .int .i64 0, .int .i64 0]) Tryz.underlying157 (by as_aux_lemma => kernel_rfl) (fun w Z => (RdL_v0 (RdL_v0 (RdL_v0 RdL_n0)))) (fun h => nomatch h) ?_
 refine TEok.cons (z := .agg #[.string ⟨#[]⟩, .string ⟨#[]⟩, .string ⟨#[]⟩, .string ⟨#[]⟩, .string ⟨#[]⟩, .string ⟨#[]⟩, .string ⟨#[]⟩]) Tryz.underlying165 (by as_aux_lemma => kernel_rfl) (fun w Z => (RdL_v0 (RdL_v0 (RdL_v0 (RdL_v0 (RdL_v0 (RdL_v0 (RdL_v0 RdL_n0)))))))) (fun h => nomatch h) ?_
 refine TEok.cons (z := .nilFunc) Tryz.underlying166 (by as_aux_lemma => kernel_rfl) (fun w Z => (RdL_v0 RdL_n0)) (fun h => nomatch h) ?_
 refine TEok.cons (z := .nilFunc) Tryz.underlying171 (by as_aux_lemma => kernel_rfl) (fun w Z => (RdL_v0 RdL_n0)) (fun h => nomatch h) ?_
 refine TEok.cons (z := .pointer none) Tryz.underlying172 (by as_aux_lemma => kernel_rfl) (fun w Z => (RdL_v0 RdL_n0)) (fun h => nomatch h) ?_
 refine TEok.cons (z := .nilFunc) Tryz.underlying173 (by as_aux_lemma => kernel_rfl) (fun w Z => (RdL_v0 RdL_n0)) (fun h => nomatch h) ?_
 refine TEok.cons (z := .agg #[.string ⟨#[]⟩, .string ⟨#[]⟩, .string ⟨#[]⟩, .string ⟨#[]⟩, .string ⟨#[]⟩, .string ⟨#[]⟩]) Tryz.underlying174 (by as_aux_lemma => kernel_rfl) (fun w Z => (RdL_v0 (RdL_v0 (RdL_v0 (RdL_v0 (RdL_v0 (RdL_v0 RdL_n0))))))) (fun h => nomatch h) ?_
 refine TEok.cons (z := .nilFunc) Tryz.underlying177 (by as_aux_lemma => kernel_rfl) (fun w Z => (RdL_v0 RdL_n0)) (fun h => nomatch h) ?_
 refine TEok.cons (z := .pointer none) Tryz.underlying181 (by as_aux_lemma => kernel_rfl) (fun w Z => (RdL_v0 RdL_n0)) (fun h => nomatch h) ?_
 refine TEok.cons (z := .slice none 0 0) Tryz.underlying182 (by as_aux_lemma => kernel_rfl) (fun w Z => (RdL_v0 RdL_n0)) (fun h => nomatch h) ?_
 refine TEok.cons (z := .agg #[.pointer none, .slice none 0 0]) Tryz.underlying184 (by as_aux_lemma => kernel_rfl) (fun w Z => (RdL_v0 (RdL_v0 RdL_n0))) (fun h => nomatch h) ?_
 refine TEok.cons (z := .nilIface) Tryz.underlying186 (by as_aux_lemma => kernel_rfl) (fun w Z => (RdL_v0 RdL_n0)) (fun h => nomatch h) ?_
 refine TEok.cons (z := .agg #[.int .u8 0, .int .u8 0, .int .u8 0, .int .u8 0, .int .u8 0, .int .u8 0, .int .u8 0, .int .u8 0, .int .u8 0, .int .u8 0, .int .u8 0, .int .u8 0, .int .u8 0, .int .u8 0, .int .u8 0, .int .u8 0, .int .u8 0, .int .u8 0, .int .u8 0, .int .u8 0, .int .u8 0, .int .u8 0, .int .u8 0, .int .u8 0]) Tryz.underlying190 (by as_aux_lemma => kernel_rfl) (fun w Z => (RdL_v0 (RdL_v0 (RdL_v0 (RdL_v0 (RdL_v0 (RdL_v0 (RdL_v0 (RdL_v0 (RdL_v0 (RdL_v0 (RdL_v0 (RdL_v0 (RdL_v0 (RdL_v0 (RdL_v0 (RdL_v0 (RdL_v0 (RdL_v0 (RdL_v0 (RdL_v0 (RdL_v0 (RdL_v0 (RdL_v0 (RdL_v0 RdL_n0))))))))))))))))))))))))) (fun h => nomatch h) ?_
 refine TEok.cons (z := .int .u64 0) Tryz.underlying191 (by as_aux_lemma => kernel_rfl) (fun w Z => (RdL_v0 RdL_n0)) (fun h => nomatch h) ?_
 refine TEok.cons (z := .nilFunc) Tryz.underlying200 (by as_aux_lemma => kernel_rfl) (fun w Z => (RdL_v0 RdL_n0)) (fun h => nomatch h) ?_
 refine TEok.cons (z := .pointer none) Tryz.underlying203 (by as_aux_lemma => kernel_rfl) (fun w Z => (RdL_v0 RdL_n0)) (fun h => nomatch h) ?_
 refine TEok.cons (z := .agg #[.int .u64 0, .int .u64 0, .int .u64 0, .int .u64 0, .int .u64 0, .int .u64 0, .int .u64 0, .int .u64 0, .int .u64 0, .int .u64 0, .int .u64 0, .int .u64 0, .int .u64 0, .int .u64 0, .int .u64 0, .int .u64 0, .int .u64 0, .int .u64 0, .int .u64 0, .int .u64 0]) Tryz.underlying206 (by as_aux_lemma => kernel_rfl) (fun w Z => (RdL_v0 (RdL_v0 (RdL_v0 (RdL_v0 (RdL_v0 (RdL_v0 (RdL_v0 (RdL_v0 (RdL_v0 (RdL_v0 (RdL_v0 (RdL_v0 (RdL_v0 (RdL_v0 (RdL_v0 (RdL_v0 (RdL_v0 (RdL_v0 (RdL_v0 (RdL_v0 RdL_n0))))))))))))))))))))) (fun h => nomatch h) ?_
 refine TEok.cons (z := .int .u32 0) Tryz.underlying207 (by as_aux_lemma => kernel_rfl) (fun w Z => (RdL_v0 RdL_n0)) (fun h => nomatch h) ?_
 refine TEok.cons (z := .int .u64 0) Tryz.underlying209 (by as_aux_lemma => kernel_rfl) (fun w Z => (RdL_v0 RdL_n0)) (fun h => nomatch h) ?_
 refine TEok.cons (z := .slice none 0 0) Tryz.underlying223 (by as_aux_lemma => kernel_rfl) (fun w Z => (RdL_v0 RdL_n0)) (fun h => nomatch h) ?_
 refine TEok.cons (z := .agg #[.int .i64 0, .int .i64 0]) Tryz.underlying225 (by as_aux_lemma => kernel_rfl) (fun w Z => (RdL_v0 (RdL_v0 RdL_n0))) (fun _ => ⟨by as_aux_lemma => kernel_rfl, by as_aux_lemma => kernel_rfl⟩) ?_
 refine TEok.cons (z := .pointer none) Tryz.underlying227 (by as_aux_lemma => kernel_rfl) (fun w Z => (RdL_v0 RdL_n0)) (fun h => nomatch h) ?_
 refine TEok.cons (z := .agg #[.int .u8 0, .int .u8 0, .int .u8 0, .int .u8 0, .int .u8 0, .int .u8 0, .int .u8 0, .int .u8 0, .int .u8 0, .int .u8 0, .int .u8 0, .int .u8 0, .int .u8 0, .int .u8 0, .int .u8 0, .int .u8 0, .int .u8 0, .int .u8 0, .int .u8 0, .int .u8 0, .int .u8 0, .int .u8 0, .int .u8 0, .int .u8 0, .int .u8 0, .int .u8 0, .int .u8 0, .int .u8 0, .int .u8 0, .int .u8 0, .int .u8 0, .int .u8 0]) Tryz.underlying228 (by as_aux_lemma => kernel_rfl) (fun w Z => (RdL_v0 (RdL_v0 (RdL_v0 (RdL_v0 (RdL_v0 (RdL_v0 (RdL_v0 (RdL_v0 (RdL_v0 (RdL_v0 (RdL_v0 (RdL_v0 (RdL_v0 (RdL_v0 (RdL_v0 (RdL_v0 (RdL_v0 (RdL_v0 (RdL_v0 (RdL_v0 (RdL_v0 (RdL_v0 (RdL_v0 (RdL_v0 (RdL_v0 (RdL_v0 (RdL_v0 (RdL_v0 (RdL_v0 (RdL_v0 (RdL_v0 (RdL_v0 RdL_n0))))))))))))))))))))))))))))))))) (fun h => nomatch h) ?_
 refine TEok.cons (z := .int .i64 0) Tryz.underlying230 (by as_aux_lemma => kernel_rfl) (fun w Z => (RdL_v0 RdL_n0)) (fun h => nomatch h) ?_
 refine TEok.cons (z := .pointer none) Tryz.underlying233 (by as_aux_lemma => kernel_rfl) (fun w Z => (RdL_v0 RdL_n0)) (fun h => nomatch h) ?_
 refine TEok.cons (z := .slice none 0 0) Tryz.underlying236 (by as_aux_lemma => kernel_rfl) (fun w Z => (RdL_v0 RdL_n0)) (fun h => nomatch h) ?_
 refine TEok.cons (z := .slice none 0 0) Tryz.underlying237 (by as_aux_lemma => kernel_rfl) (fun w Z => (RdL_v0 RdL_n0)) (fun h => nomatch h) ?_
 refine TEok.cons (z := .agg #[.slice none 0 0, .slice none 0 0, .int .i64 0]) Tryz.underlying239 (by as_aux_lemma => kernel_rfl) (fun w Z => (RdL_v0 (RdL_v0 (RdL_v0 RdL_n0)))) (fun h => nomatch h) ?_
 refine TEok.cons (z := .int .u16 0) Tryz.underlying240 (by as_aux_lemma => kernel_rfl) (fun w Z => (RdL_v0 RdL_n0)) (fun h => nomatch h) ?_
 refine TEok.cons (z := .agg #[.int .u16 0, .int .u16 0, .int .u16 0]) Tryz.underlying242 (by as_aux_lemma => kernel_rfl) (fun w Z => (RdL_v0 (RdL_v0 (RdL_v0 RdL_n0)))) (fun _ => ⟨by as_aux_lemma => kernel_rfl, by as_aux_lemma => kernel_rfl⟩) ?_
 refine TEok.cons (z := .agg #[.int .u32 0, .int .u32 0, .int .u32 0]) Tryz.underlying245 (by as_aux_lemma => kernel_rfl) (fun w Z => (RdL_v0 (RdL_v0 (RdL_v0 RdL_n0)))) (fun _ => ⟨by as_aux_lemma => kernel_rfl, by as_aux_lemma => kernel_rfl⟩) ?_
 refine TEok.cons (z := .agg #[.string ⟨#[]⟩, .string ⟨#[]⟩, .nilIface]) Tryz.underlying251 (by as_aux_lemma => kernel_rfl) (fun w Z => (RdL_v0 (RdL_v0 (RdL_v0 RdL_n0)))) (fun h => nomatch h) ?_
 refine TEok.cons (z := .pointer none) Tryz.underlying256 (by as_aux_lemma => kernel_rfl) (fun w Z => (RdL_v0 RdL_n0)) (fun h => nomatch h) ?_
 refine TEok.cons (z := .agg #[.string ⟨#[]⟩]) Tryz.underlying258 (by as_aux_lemma => kernel_rfl) (fun w Z => (RdL_v0 RdL_n0)) (fun _ => ⟨by as_aux_lemma => kernel_rfl, by as_aux_lemma => kernel_rfl⟩) ?_
 exact TEok.nil
end Go.Proofs.YtonchjamoblioaaGreatDoor
