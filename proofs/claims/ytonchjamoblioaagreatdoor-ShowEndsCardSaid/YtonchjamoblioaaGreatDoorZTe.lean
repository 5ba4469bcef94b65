/- Steps of a function body on data, and contracts of the functions of the seat, walked. -/
import Derived.Test.YtonchjamoblioaaGreatDoorRows
import Derived.Test.YtonchjamoblioaaGreatDoorKFn
import Derived.KernelRfl
set_option linter.unusedSimpArgs false
set_option linter.unusedVariables false
set_option linter.unusedSectionVars false
namespace Go.Proofs.YtonchjamoblioaaGreatDoor
open Go.Kin
set_option maxRecDepth 100000
/-! the types, as the engine looks at them -/
def te : TE := [
 (1, ⟨.func #[] #[] false, 1, 8, [.v (.nilFunc)], false⟩),
 (2, ⟨.int .i64, 1, 8, [.v (.int .i64 0)], false⟩),
 (3, ⟨.int .i64, 1, 8, [.v (.int .i64 0)], false⟩),
 (4, ⟨.bool, 1, 1, [.v (.bool false)], false⟩),
 (5, ⟨.int .u8, 1, 1, [.v (.int .u8 0)], false⟩),
 (9, ⟨.string, 1, 16, [.v (.string (mkS []))], false⟩),
 (12, ⟨.int .u64, 1, 8, [.v (.int .u64 0)], false⟩),
 (20, ⟨.interface #[], 1, 16, [.v (.nilIface)], false⟩),
 (21, ⟨.int .i32, 1, 4, [.v (.int .i32 0)], false⟩),
 (22, ⟨.slice 56, 1, 24, [.v (.slice none 0 0)], false⟩),
 (23, ⟨.slice 53, 1, 24, [.v (.slice none 0 0)], false⟩),
 (24, ⟨.slice 51, 1, 24, [.v (.slice none 0 0)], false⟩),
 (26, ⟨.struct #[{ name := "Patterns", type := 22, offset := 0, embedded := false, tag := "", pkgPath := "", byteOffset := 0 }, { name := "Conds", type := 23, offset := 1, embedded := false, tag := "", pkgPath := "", byteOffset := 24 }, { name := "Return", type := 24, offset := 2, embedded := false, tag := "", pkgPath := "", byteOffset := 48 }, { name := "Range", type := 3, offset := 3, embedded := false, tag := "", pkgPath := "", byteOffset := 72 }, { name := "Slide", type := 3, offset := 4, embedded := false, tag := "", pkgPath := "", byteOffset := 80 }], 5, 88, [.v (.slice none 0 0), .v (.slice none 0 0), .v (.slice none 0 0), .v (.int .i64 0), .v (.int .i64 0)], false⟩),
 (27, ⟨.int .i64, 1, 8, [.v (.int .i64 0)], false⟩),
 (28, ⟨.slice 30, 1, 24, [.v (.slice none 0 0)], false⟩),
 (30, ⟨.struct #[{ name := "Kind", type := 27, offset := 0, embedded := false, tag := "", pkgPath := "", byteOffset := 0 }, { name := "Label", type := 9, offset := 1, embedded := false, tag := "", pkgPath := "", byteOffset := 8 }, { name := "Kids", type := 28, offset := 2, embedded := false, tag := "", pkgPath := "", byteOffset := 24 }], 3, 48, [.v (.int .i64 0), .v (.string (mkS [])), .v (.slice none 0 0)], false⟩),
 (32, ⟨.func #[30, 3] #[3] false, 1, 8, [.v (.nilFunc)], false⟩),
 (36, ⟨.int .i64, 1, 8, [.v (.int .i64 0)], false⟩),
 (41, ⟨.func #[30, 30] #[4] false, 1, 8, [.v (.nilFunc)], false⟩),
 (45, ⟨.int .i64, 1, 8, [.v (.int .i64 0)], false⟩),
 (46, ⟨.int .i64, 1, 8, [.v (.int .i64 0)], false⟩),
 (47, ⟨.int .i64, 1, 8, [.v (.int .i64 0)], false⟩),
 (48, ⟨.struct #[{ name := "Kind", type := 47, offset := 0, embedded := false, tag := "", pkgPath := "", byteOffset := 0 }, { name := "Num", type := 3, offset := 1, embedded := false, tag := "", pkgPath := "", byteOffset := 8 }, { name := "Text", type := 9, offset := 2, embedded := false, tag := "", pkgPath := "", byteOffset := 16 }], 3, 32, [.v (.int .i64 0), .v (.int .i64 0), .v (.string (mkS []))], true⟩),
 (49, ⟨.struct #[{ name := "Kind", type := 47, offset := 0, embedded := false, tag := "", pkgPath := "", byteOffset := 0 }, { name := "Num", type := 3, offset := 1, embedded := false, tag := "", pkgPath := "", byteOffset := 8 }, { name := "Text", type := 9, offset := 2, embedded := false, tag := "", pkgPath := "", byteOffset := 16 }], 3, 32, [.v (.int .i64 0), .v (.int .i64 0), .v (.string (mkS []))], true⟩),
 (51, ⟨.struct #[{ name := "Kind", type := 46, offset := 0, embedded := false, tag := "", pkgPath := "", byteOffset := 0 }, { name := "Name", type := 9, offset := 1, embedded := false, tag := "", pkgPath := "", byteOffset := 8 }, { name := "Key", type := 9, offset := 2, embedded := false, tag := "", pkgPath := "", byteOffset := 24 }, { name := "Val", type := 49, offset := 3, embedded := false, tag := "", pkgPath := "", byteOffset := 40 }], 6, 72, [.v (.int .i64 0), .v (.string (mkS [])), .v (.string (mkS [])), .v (.int .i64 0), .v (.int .i64 0), .v (.string (mkS []))], true⟩),
 (53, ⟨.struct #[{ name := "Op", type := 45, offset := 0, embedded := false, tag := "", pkgPath := "", byteOffset := 0 }, { name := "Left", type := 51, offset := 1, embedded := false, tag := "", pkgPath := "", byteOffset := 8 }, { name := "Right", type := 51, offset := 7, embedded := false, tag := "", pkgPath := "", byteOffset := 80 }], 13, 152, [.v (.int .i64 0), .v (.int .i64 0), .v (.string (mkS [])), .v (.string (mkS [])), .v (.int .i64 0), .v (.int .i64 0), .v (.string (mkS [])), .v (.int .i64 0), .v (.string (mkS [])), .v (.string (mkS [])), .v (.int .i64 0), .v (.int .i64 0), .v (.string (mkS []))], true⟩),
 (56, ⟨.struct #[{ name := "From", type := 9, offset := 0, embedded := false, tag := "", pkgPath := "", byteOffset := 0 }, { name := "To", type := 9, offset := 1, embedded := false, tag := "", pkgPath := "", byteOffset := 16 }, { name := "Path", type := 4, offset := 2, embedded := false, tag := "", pkgPath := "", byteOffset := 32 }, { name := "Label", type := 9, offset := 3, embedded := false, tag := "", pkgPath := "", byteOffset := 40 }, { name := "Name", type := 9, offset := 4, embedded := false, tag := "", pkgPath := "", byteOffset := 56 }, { name := "Expr", type := 30, offset := 5, embedded := false, tag := "", pkgPath := "", byteOffset := 72 }], 8, 120, [.v (.string (mkS [])), .v (.string (mkS [])), .v (.bool false), .v (.string (mkS [])), .v (.string (mkS [])), .v (.int .i64 0), .v (.string (mkS [])), .v (.slice none 0 0)], false⟩),
 (58, ⟨.func #[9] #[4] false, 1, 8, [.v (.nilFunc)], false⟩),
 (59, ⟨.slice 9, 1, 24, [.v (.slice none 0 0)], false⟩),
 (76, ⟨.func #[30] #[4] false, 1, 8, [.v (.nilFunc)], false⟩),
 (83, ⟨.func #[58] #[] false, 1, 8, [.v (.nilFunc)], false⟩),
 (85, ⟨.func #[56] #[9] false, 1, 8, [.v (.nilFunc)], false⟩),
 (86, ⟨.func #[51] #[9] false, 1, 8, [.v (.nilFunc)], false⟩),
 (89, ⟨.func #[30] #[9] false, 1, 8, [.v (.nilFunc)], false⟩),
 (94, ⟨.func #[146] #[] false, 1, 8, [.v (.nilFunc)], false⟩),
 (107, ⟨.func #[56] #[4] false, 1, 8, [.v (.nilFunc)], false⟩),
 (109, ⟨.func #[53] #[4] false, 1, 8, [.v (.nilFunc)], false⟩),
 (111, ⟨.func #[51] #[4] false, 1, 8, [.v (.nilFunc)], false⟩),
 (121, ⟨.func #[53] #[9] false, 1, 8, [.v (.nilFunc)], false⟩),
 (124, ⟨.array 4 9, 4, 64, [.v (.string (mkS [])), .v (.string (mkS [])), .v (.string (mkS [])), .v (.string (mkS []))], false⟩),
 (137, ⟨.struct #[{ name := "Kind", type := 3, offset := 0, embedded := false, tag := "", pkgPath := "", byteOffset := 0 }, { name := "Text", type := 9, offset := 1, embedded := false, tag := "", pkgPath := "", byteOffset := 8 }, { name := "At", type := 3, offset := 2, embedded := false, tag := "", pkgPath := "", byteOffset := 24 }, { name := "Val", type := 49, offset := 3, embedded := false, tag := "", pkgPath := "", byteOffset := 32 }], 6, 64, [.v (.int .i64 0), .v (.string (mkS [])), .v (.int .i64 0), .v (.int .i64 0), .v (.int .i64 0), .v (.string (mkS []))], true⟩),
 (140, ⟨.func #[3] #[] false, 1, 8, [.v (.nilFunc)], false⟩),
 (143, ⟨.func #[] #[3] false, 1, 8, [.v (.nilFunc)], false⟩),
 (165, ⟨.array 7 9, 7, 112, [.v (.string (mkS [])), .v (.string (mkS [])), .v (.string (mkS [])), .v (.string (mkS [])), .v (.string (mkS [])), .v (.string (mkS [])), .v (.string (mkS []))], false⟩),
 (181, ⟨.pointer 184, 1, 8, [.v (.pointer none)], false⟩),
 (182, ⟨.slice 5, 1, 24, [.v (.slice none 0 0)], false⟩),
 (184, ⟨.struct #[{ name := "addr", type := 181, offset := 0, embedded := false, tag := "", pkgPath := "strings", byteOffset := 0 }, { name := "buf", type := 182, offset := 1, embedded := false, tag := "", pkgPath := "strings", byteOffset := 8 }], 2, 32, [.v (.pointer none), .v (.slice none 0 0)], false⟩),
 (190, ⟨.array 24 5, 24, 24, [.v (.int .u8 0), .v (.int .u8 0), .v (.int .u8 0), .v (.int .u8 0), .v (.int .u8 0), .v (.int .u8 0), .v (.int .u8 0), .v (.int .u8 0), .v (.int .u8 0), .v (.int .u8 0), .v (.int .u8 0), .v (.int .u8 0), .v (.int .u8 0), .v (.int .u8 0), .v (.int .u8 0), .v (.int .u8 0), .v (.int .u8 0), .v (.int .u8 0), .v (.int .u8 0), .v (.int .u8 0), .v (.int .u8 0), .v (.int .u8 0), .v (.int .u8 0), .v (.int .u8 0)], false⟩),
 (191, ⟨.int .u64, 1, 8, [.v (.int .u64 0)], false⟩),
 (203, ⟨.pointer 5, 1, 8, [.v (.pointer none)], false⟩),
 (206, ⟨.array 20 191, 20, 160, [.v (.int .u64 0), .v (.int .u64 0), .v (.int .u64 0), .v (.int .u64 0), .v (.int .u64 0), .v (.int .u64 0), .v (.int .u64 0), .v (.int .u64 0), .v (.int .u64 0), .v (.int .u64 0), .v (.int .u64 0), .v (.int .u64 0), .v (.int .u64 0), .v (.int .u64 0), .v (.int .u64 0), .v (.int .u64 0), .v (.int .u64 0), .v (.int .u64 0), .v (.int .u64 0), .v (.int .u64 0)], false⟩),
 (207, ⟨.int .u32, 1, 4, [.v (.int .u32 0)], false⟩),
 (209, ⟨.int .u64, 1, 8, [.v (.int .u64 0)], false⟩),
 (228, ⟨.array 32 5, 32, 32, [.v (.int .u8 0), .v (.int .u8 0), .v (.int .u8 0), .v (.int .u8 0), .v (.int .u8 0), .v (.int .u8 0), .v (.int .u8 0), .v (.int .u8 0), .v (.int .u8 0), .v (.int .u8 0), .v (.int .u8 0), .v (.int .u8 0), .v (.int .u8 0), .v (.int .u8 0), .v (.int .u8 0), .v (.int .u8 0), .v (.int .u8 0), .v (.int .u8 0), .v (.int .u8 0), .v (.int .u8 0), .v (.int .u8 0), .v (.int .u8 0), .v (.int .u8 0), .v (.int .u8 0), .v (.int .u8 0), .v (.int .u8 0), .v (.int .u8 0), .v (.int .u8 0), .v (.int .u8 0), .v (.int .u8 0), .v (.int .u8 0), .v (.int .u8 0)], false⟩)]
theorem te_1 : klook 1 te = some ⟨.func #[] #[] false, 1, 8, [.v (.nilFunc)], false⟩ := rfl
theorem te_2 : klook 2 te = some ⟨.int .i64, 1, 8, [.v (.int .i64 0)], false⟩ := rfl
theorem te_3 : klook 3 te = some ⟨.int .i64, 1, 8, [.v (.int .i64 0)], false⟩ := rfl
theorem te_4 : klook 4 te = some ⟨.bool, 1, 1, [.v (.bool false)], false⟩ := rfl
theorem te_5 : klook 5 te = some ⟨.int .u8, 1, 1, [.v (.int .u8 0)], false⟩ := rfl
theorem te_9 : klook 9 te = some ⟨.string, 1, 16, [.v (.string (mkS []))], false⟩ := rfl
theorem te_12 : klook 12 te = some ⟨.int .u64, 1, 8, [.v (.int .u64 0)], false⟩ := rfl
theorem te_20 : klook 20 te = some ⟨.interface #[], 1, 16, [.v (.nilIface)], false⟩ := rfl
theorem te_21 : klook 21 te = some ⟨.int .i32, 1, 4, [.v (.int .i32 0)], false⟩ := rfl
theorem te_22 : klook 22 te = some ⟨.slice 56, 1, 24, [.v (.slice none 0 0)], false⟩ := rfl
theorem te_23 : klook 23 te = some ⟨.slice 53, 1, 24, [.v (.slice none 0 0)], false⟩ := rfl
theorem te_24 : klook 24 te = some ⟨.slice 51, 1, 24, [.v (.slice none 0 0)], false⟩ := rfl
theorem te_26 : klook 26 te = some ⟨.struct #[{ name := "Patterns", type := 22, offset := 0, embedded := false, tag := "", pkgPath := "", byteOffset := 0 }, { name := "Conds", type := 23, offset := 1, embedded := false, tag := "", pkgPath := "", byteOffset := 24 }, { name := "Return", type := 24, offset := 2, embedded := false, tag := "", pkgPath := "", byteOffset := 48 }, { name := "Range", type := 3, offset := 3, embedded := false, tag := "", pkgPath := "", byteOffset := 72 }, { name := "Slide", type := 3, offset := 4, embedded := false, tag := "", pkgPath := "", byteOffset := 80 }], 5, 88, [.v (.slice none 0 0), .v (.slice none 0 0), .v (.slice none 0 0), .v (.int .i64 0), .v (.int .i64 0)], false⟩ := rfl
theorem te_27 : klook 27 te = some ⟨.int .i64, 1, 8, [.v (.int .i64 0)], false⟩ := rfl
theorem te_28 : klook 28 te = some ⟨.slice 30, 1, 24, [.v (.slice none 0 0)], false⟩ := rfl
theorem te_30 : klook 30 te = some ⟨.struct #[{ name := "Kind", type := 27, offset := 0, embedded := false, tag := "", pkgPath := "", byteOffset := 0 }, { name := "Label", type := 9, offset := 1, embedded := false, tag := "", pkgPath := "", byteOffset := 8 }, { name := "Kids", type := 28, offset := 2, embedded := false, tag := "", pkgPath := "", byteOffset := 24 }], 3, 48, [.v (.int .i64 0), .v (.string (mkS [])), .v (.slice none 0 0)], false⟩ := rfl
theorem te_32 : klook 32 te = some ⟨.func #[30, 3] #[3] false, 1, 8, [.v (.nilFunc)], false⟩ := rfl
theorem te_36 : klook 36 te = some ⟨.int .i64, 1, 8, [.v (.int .i64 0)], false⟩ := rfl
theorem te_41 : klook 41 te = some ⟨.func #[30, 30] #[4] false, 1, 8, [.v (.nilFunc)], false⟩ := rfl
theorem te_45 : klook 45 te = some ⟨.int .i64, 1, 8, [.v (.int .i64 0)], false⟩ := rfl
theorem te_46 : klook 46 te = some ⟨.int .i64, 1, 8, [.v (.int .i64 0)], false⟩ := rfl
theorem te_47 : klook 47 te = some ⟨.int .i64, 1, 8, [.v (.int .i64 0)], false⟩ := rfl
theorem te_48 : klook 48 te = some ⟨.struct #[{ name := "Kind", type := 47, offset := 0, embedded := false, tag := "", pkgPath := "", byteOffset := 0 }, { name := "Num", type := 3, offset := 1, embedded := false, tag := "", pkgPath := "", byteOffset := 8 }, { name := "Text", type := 9, offset := 2, embedded := false, tag := "", pkgPath := "", byteOffset := 16 }], 3, 32, [.v (.int .i64 0), .v (.int .i64 0), .v (.string (mkS []))], true⟩ := rfl
theorem te_49 : klook 49 te = some ⟨.struct #[{ name := "Kind", type := 47, offset := 0, embedded := false, tag := "", pkgPath := "", byteOffset := 0 }, { name := "Num", type := 3, offset := 1, embedded := false, tag := "", pkgPath := "", byteOffset := 8 }, { name := "Text", type := 9, offset := 2, embedded := false, tag := "", pkgPath := "", byteOffset := 16 }], 3, 32, [.v (.int .i64 0), .v (.int .i64 0), .v (.string (mkS []))], true⟩ := rfl
theorem te_51 : klook 51 te = some ⟨.struct #[{ name := "Kind", type := 46, offset := 0, embedded := false, tag := "", pkgPath := "", byteOffset := 0 }, { name := "Name", type := 9, offset := 1, embedded := false, tag := "", pkgPath := "", byteOffset := 8 }, { name := "Key", type := 9, offset := 2, embedded := false, tag := "", pkgPath := "", byteOffset := 24 }, { name := "Val", type := 49, offset := 3, embedded := false, tag := "", pkgPath := "", byteOffset := 40 }], 6, 72, [.v (.int .i64 0), .v (.string (mkS [])), .v (.string (mkS [])), .v (.int .i64 0), .v (.int .i64 0), .v (.string (mkS []))], true⟩ := rfl
theorem te_53 : klook 53 te = some ⟨.struct #[{ name := "Op", type := 45, offset := 0, embedded := false, tag := "", pkgPath := "", byteOffset := 0 }, { name := "Left", type := 51, offset := 1, embedded := false, tag := "", pkgPath := "", byteOffset := 8 }, { name := "Right", type := 51, offset := 7, embedded := false, tag := "", pkgPath := "", byteOffset := 80 }], 13, 152, [.v (.int .i64 0), .v (.int .i64 0), .v (.string (mkS [])), .v (.string (mkS [])), .v (.int .i64 0), .v (.int .i64 0), .v (.string (mkS [])), .v (.int .i64 0), .v (.string (mkS [])), .v (.string (mkS [])), .v (.int .i64 0), .v (.int .i64 0), .v (.string (mkS []))], true⟩ := rfl
theorem te_56 : klook 56 te = some ⟨.struct #[{ name := "From", type := 9, offset := 0, embedded := false, tag := "", pkgPath := "", byteOffset := 0 }, { name := "To", type := 9, offset := 1, embedded := false, tag := "", pkgPath := "", byteOffset := 16 }, { name := "Path", type := 4, offset := 2, embedded := false, tag := "", pkgPath := "", byteOffset := 32 }, { name := "Label", type := 9, offset := 3, embedded := false, tag := "", pkgPath := "", byteOffset := 40 }, { name := "Name", type := 9, offset := 4, embedded := false, tag := "", pkgPath := "", byteOffset := 56 }, { name := "Expr", type := 30, offset := 5, embedded := false, tag := "", pkgPath := "", byteOffset := 72 }], 8, 120, [.v (.string (mkS [])), .v (.string (mkS [])), .v (.bool false), .v (.string (mkS [])), .v (.string (mkS [])), .v (.int .i64 0), .v (.string (mkS [])), .v (.slice none 0 0)], false⟩ := rfl
theorem te_58 : klook 58 te = some ⟨.func #[9] #[4] false, 1, 8, [.v (.nilFunc)], false⟩ := rfl
theorem te_59 : klook 59 te = some ⟨.slice 9, 1, 24, [.v (.slice none 0 0)], false⟩ := rfl
theorem te_76 : klook 76 te = some ⟨.func #[30] #[4] false, 1, 8, [.v (.nilFunc)], false⟩ := rfl
theorem te_83 : klook 83 te = some ⟨.func #[58] #[] false, 1, 8, [.v (.nilFunc)], false⟩ := rfl
theorem te_85 : klook 85 te = some ⟨.func #[56] #[9] false, 1, 8, [.v (.nilFunc)], false⟩ := rfl
theorem te_86 : klook 86 te = some ⟨.func #[51] #[9] false, 1, 8, [.v (.nilFunc)], false⟩ := rfl
theorem te_89 : klook 89 te = some ⟨.func #[30] #[9] false, 1, 8, [.v (.nilFunc)], false⟩ := rfl
theorem te_94 : klook 94 te = some ⟨.func #[146] #[] false, 1, 8, [.v (.nilFunc)], false⟩ := rfl
theorem te_107 : klook 107 te = some ⟨.func #[56] #[4] false, 1, 8, [.v (.nilFunc)], false⟩ := rfl
theorem te_109 : klook 109 te = some ⟨.func #[53] #[4] false, 1, 8, [.v (.nilFunc)], false⟩ := rfl
theorem te_111 : klook 111 te = some ⟨.func #[51] #[4] false, 1, 8, [.v (.nilFunc)], false⟩ := rfl
theorem te_121 : klook 121 te = some ⟨.func #[53] #[9] false, 1, 8, [.v (.nilFunc)], false⟩ := rfl
theorem te_124 : klook 124 te = some ⟨.array 4 9, 4, 64, [.v (.string (mkS [])), .v (.string (mkS [])), .v (.string (mkS [])), .v (.string (mkS []))], false⟩ := rfl
theorem te_137 : klook 137 te = some ⟨.struct #[{ name := "Kind", type := 3, offset := 0, embedded := false, tag := "", pkgPath := "", byteOffset := 0 }, { name := "Text", type := 9, offset := 1, embedded := false, tag := "", pkgPath := "", byteOffset := 8 }, { name := "At", type := 3, offset := 2, embedded := false, tag := "", pkgPath := "", byteOffset := 24 }, { name := "Val", type := 49, offset := 3, embedded := false, tag := "", pkgPath := "", byteOffset := 32 }], 6, 64, [.v (.int .i64 0), .v (.string (mkS [])), .v (.int .i64 0), .v (.int .i64 0), .v (.int .i64 0), .v (.string (mkS []))], true⟩ := rfl
theorem te_140 : klook 140 te = some ⟨.func #[3] #[] false, 1, 8, [.v (.nilFunc)], false⟩ := rfl
theorem te_143 : klook 143 te = some ⟨.func #[] #[3] false, 1, 8, [.v (.nilFunc)], false⟩ := rfl
theorem te_165 : klook 165 te = some ⟨.array 7 9, 7, 112, [.v (.string (mkS [])), .v (.string (mkS [])), .v (.string (mkS [])), .v (.string (mkS [])), .v (.string (mkS [])), .v (.string (mkS [])), .v (.string (mkS []))], false⟩ := rfl
theorem te_181 : klook 181 te = some ⟨.pointer 184, 1, 8, [.v (.pointer none)], false⟩ := rfl
theorem te_182 : klook 182 te = some ⟨.slice 5, 1, 24, [.v (.slice none 0 0)], false⟩ := rfl
theorem te_184 : klook 184 te = some ⟨.struct #[{ name := "addr", type := 181, offset := 0, embedded := false, tag := "", pkgPath := "strings", byteOffset := 0 }, { name := "buf", type := 182, offset := 1, embedded := false, tag := "", pkgPath := "strings", byteOffset := 8 }], 2, 32, [.v (.pointer none), .v (.slice none 0 0)], false⟩ := rfl
theorem te_190 : klook 190 te = some ⟨.array 24 5, 24, 24, [.v (.int .u8 0), .v (.int .u8 0), .v (.int .u8 0), .v (.int .u8 0), .v (.int .u8 0), .v (.int .u8 0), .v (.int .u8 0), .v (.int .u8 0), .v (.int .u8 0), .v (.int .u8 0), .v (.int .u8 0), .v (.int .u8 0), .v (.int .u8 0), .v (.int .u8 0), .v (.int .u8 0), .v (.int .u8 0), .v (.int .u8 0), .v (.int .u8 0), .v (.int .u8 0), .v (.int .u8 0), .v (.int .u8 0), .v (.int .u8 0), .v (.int .u8 0), .v (.int .u8 0)], false⟩ := rfl
theorem te_191 : klook 191 te = some ⟨.int .u64, 1, 8, [.v (.int .u64 0)], false⟩ := rfl
theorem te_203 : klook 203 te = some ⟨.pointer 5, 1, 8, [.v (.pointer none)], false⟩ := rfl
theorem te_206 : klook 206 te = some ⟨.array 20 191, 20, 160, [.v (.int .u64 0), .v (.int .u64 0), .v (.int .u64 0), .v (.int .u64 0), .v (.int .u64 0), .v (.int .u64 0), .v (.int .u64 0), .v (.int .u64 0), .v (.int .u64 0), .v (.int .u64 0), .v (.int .u64 0), .v (.int .u64 0), .v (.int .u64 0), .v (.int .u64 0), .v (.int .u64 0), .v (.int .u64 0), .v (.int .u64 0), .v (.int .u64 0), .v (.int .u64 0), .v (.int .u64 0)], false⟩ := rfl
theorem te_207 : klook 207 te = some ⟨.int .u32, 1, 4, [.v (.int .u32 0)], false⟩ := rfl
theorem te_209 : klook 209 te = some ⟨.int .u64, 1, 8, [.v (.int .u64 0)], false⟩ := rfl
theorem te_228 : klook 228 te = some ⟨.array 32 5, 32, 32, [.v (.int .u8 0), .v (.int .u8 0), .v (.int .u8 0), .v (.int .u8 0), .v (.int .u8 0), .v (.int .u8 0), .v (.int .u8 0), .v (.int .u8 0), .v (.int .u8 0), .v (.int .u8 0), .v (.int .u8 0), .v (.int .u8 0), .v (.int .u8 0), .v (.int .u8 0), .v (.int .u8 0), .v (.int .u8 0), .v (.int .u8 0), .v (.int .u8 0), .v (.int .u8 0), .v (.int .u8 0), .v (.int .u8 0), .v (.int .u8 0), .v (.int .u8 0), .v (.int .u8 0), .v (.int .u8 0), .v (.int .u8 0), .v (.int .u8 0), .v (.int .u8 0), .v (.int .u8 0), .v (.int .u8 0), .v (.int .u8 0), .v (.int .u8 0)], false⟩ := rfl
theorem te_ok : TEok Tryz.prog te := by
 unfold te
 refine TEok.cons (z := .nilFunc) Tryz.underlying1 (by as_aux_lemma => kernel_rfl) (fun w Z => (RdL_v0 RdL_n0)) (fun h => nomatch h) ?_
 refine TEok.cons (z := .int .i64 0) Tryz.underlying2 (by as_aux_lemma => kernel_rfl) (fun w Z => (RdL_v0 RdL_n0)) (fun h => nomatch h) ?_
 refine TEok.cons (z := .int .i64 0) Tryz.underlying3 (by as_aux_lemma => kernel_rfl) (fun w Z => (RdL_v0 RdL_n0)) (fun h => nomatch h) ?_
 refine TEok.cons (z := .bool false) Tryz.underlying4 (by as_aux_lemma => kernel_rfl) (fun w Z => (RdL_v0 RdL_n0)) (fun h => nomatch h) ?_
 refine TEok.cons (z := .int .u8 0) Tryz.underlying5 (by as_aux_lemma => kernel_rfl) (fun w Z => (RdL_v0 RdL_n0)) (fun h => nomatch h) ?_
 refine TEok.cons (z := .string ⟨#[]⟩) Tryz.underlying9 (by as_aux_lemma => kernel_rfl) (fun w Z => (RdL_v0 RdL_n0)) (fun h => nomatch h) ?_
 refine TEok.cons (z := .int .u64 0) Tryz.underlying12 (by as_aux_lemma => kernel_rfl) (fun w Z => (RdL_v0 RdL_n0)) (fun h => nomatch h) ?_
 refine TEok.cons (z := .nilIface) Tryz.underlying20 (by as_aux_lemma => kernel_rfl) (fun w Z => (RdL_v0 RdL_n0)) (fun h => nomatch h) ?_
 refine TEok.cons (z := .int .i32 0) Tryz.underlying21 (by as_aux_lemma => kernel_rfl) (fun w Z => (RdL_v0 RdL_n0)) (fun h => nomatch h) ?_
 refine TEok.cons (z := .slice none 0 0) Tryz.underlying22 (by as_aux_lemma => kernel_rfl) (fun w Z => (RdL_v0 RdL_n0)) (fun h => nomatch h) ?_
 refine TEok.cons (z := .slice none 0 0) Tryz.underlying23 (by as_aux_lemma => kernel_rfl) (fun w Z => (RdL_v0 RdL_n0)) (fun h => nomatch h) ?_
 refine TEok.cons (z := .slice none 0 0) Tryz.underlying24 (by as_aux_lemma => kernel_rfl) (fun w Z => (RdL_v0 RdL_n0)) (fun h => nomatch h) ?_
 refine TEok.cons (z := .agg #[.slice none 0 0, .slice none 0 0, .slice none 0 0, .int .i64 0, .int .i64 0]) Tryz.underlying26 (by as_aux_lemma => kernel_rfl) (fun w Z => (RdL_v0 (RdL_v0 (RdL_v0 (RdL_v0 (RdL_v0 RdL_n0)))))) (fun h => nomatch h) ?_
 refine TEok.cons (z := .int .i64 0) Tryz.underlying27 (by as_aux_lemma => kernel_rfl) (fun w Z => (RdL_v0 RdL_n0)) (fun h => nomatch h) ?_
 refine TEok.cons (z := .slice none 0 0) Tryz.underlying28 (by as_aux_lemma => kernel_rfl) (fun w Z => (RdL_v0 RdL_n0)) (fun h => nomatch h) ?_
 refine TEok.cons (z := .agg #[.int .i64 0, .string ⟨#[]⟩, .slice none 0 0]) Tryz.underlying30 (by as_aux_lemma => kernel_rfl) (fun w Z => (RdL_v0 (RdL_v0 (RdL_v0 RdL_n0)))) (fun h => nomatch h) ?_
 refine TEok.cons (z := .nilFunc) Tryz.underlying32 (by as_aux_lemma => kernel_rfl) (fun w Z => (RdL_v0 RdL_n0)) (fun h => nomatch h) ?_
 refine TEok.cons (z := .int .i64 0) Tryz.underlying36 (by as_aux_lemma => kernel_rfl) (fun w Z => (RdL_v0 RdL_n0)) (fun h => nomatch h) ?_
 refine TEok.cons (z := .nilFunc) Tryz.underlying41 (by as_aux_lemma => kernel_rfl) (fun w Z => (RdL_v0 RdL_n0)) (fun h => nomatch h) ?_
 refine TEok.cons (z := .int .i64 0) Tryz.underlying45 (by as_aux_lemma => kernel_rfl) (fun w Z => (RdL_v0 RdL_n0)) (fun h => nomatch h) ?_
 refine TEok.cons (z := .int .i64 0) Tryz.underlying46 (by as_aux_lemma => kernel_rfl) (fun w Z => (RdL_v0 RdL_n0)) (fun h => nomatch h) ?_
 refine TEok.cons (z := .int .i64 0) Tryz.underlying47 (by as_aux_lemma => kernel_rfl) (fun w Z => (RdL_v0 RdL_n0)) (fun h => nomatch h) ?_
 refine TEok.cons (z := .agg #[.int .i64 0, .int .i64 0, .string ⟨#[]⟩]) Tryz.underlying48 (by as_aux_lemma => kernel_rfl) (fun w Z => (RdL_v0 (RdL_v0 (RdL_v0 RdL_n0)))) (fun _ => ⟨by as_aux_lemma => kernel_rfl, by as_aux_lemma => kernel_rfl⟩) ?_
 refine TEok.cons (z := .agg #[.int .i64 0, .int .i64 0, .string ⟨#[]⟩]) Tryz.underlying49 (by as_aux_lemma => kernel_rfl) (fun w Z => (RdL_v0 (RdL_v0 (RdL_v0 RdL_n0)))) (fun _ => ⟨by as_aux_lemma => kernel_rfl, by as_aux_lemma => kernel_rfl⟩) ?_
 refine TEok.cons (z := .agg #[.int .i64 0, .string ⟨#[]⟩, .string ⟨#[]⟩, .int .i64 0, .int .i64 0, .string ⟨#[]⟩]) Tryz.underlying51 (by as_aux_lemma => kernel_rfl) (fun w Z => (RdL_v0 (RdL_v0 (RdL_v0 (RdL_v0 (RdL_v0 (RdL_v0 RdL_n0))))))) (fun _ => ⟨by as_aux_lemma => kernel_rfl, by as_aux_lemma => kernel_rfl⟩) ?_
 refine TEok.cons (z := .agg #[.int .i64 0, .int .i64 0, .string ⟨#[]⟩, .string ⟨#[]⟩, .int .i64 0, .int .i64 0, .string ⟨#[]⟩, .int .i64 0, .string ⟨#[]⟩, .string ⟨#[]⟩, .int .i64 0, .int .i64 0, .string ⟨#[]⟩]) Tryz.underlying53 (by as_aux_lemma => kernel_rfl) (fun w Z => (RdL_v0 (RdL_v0 (RdL_v0 (RdL_v0 (RdL_v0 (RdL_v0 (RdL_v0 (RdL_v0 (RdL_v0 (RdL_v0 (RdL_v0 (RdL_v0 (RdL_v0 RdL_n0)))))))))))))) (fun _ => ⟨by as_aux_lemma => kernel_rfl, by as_aux_lemma => kernel_rfl⟩) ?_
 refine TEok.cons (z := .agg #[.string ⟨#[]⟩, .string ⟨#[]⟩, .bool false, .string ⟨#[]⟩, .string ⟨#[]⟩, .int .i64 0, .string ⟨#[]⟩, .slice none 0 0]) Tryz.underlying56 (by as_aux_lemma => kernel_rfl) (fun w Z => (RdL_v0 (RdL_v0 (RdL_v0 (RdL_v0 (RdL_v0 (RdL_v0 (RdL_v0 (RdL_v0 RdL_n0))))))))) (fun h => nomatch h) ?_
 refine TEok.cons (z := .nilFunc) Tryz.underlying58 (by as_aux_lemma => kernel_rfl) (fun w Z => (RdL_v0 RdL_n0)) (fun h => nomatch h) ?_
 refine TEok.cons (z := .slice none 0 0) Tryz.underlying59 (by as_aux_lemma => kernel_rfl) (fun w Z => (RdL_v0 RdL_n0)) (fun h => nomatch h) ?_
 refine TEok.cons (z := .nilFunc) Tryz.underlying76 (by as_aux_lemma => kernel_rfl) (fun w Z => (RdL_v0 RdL_n0)) (fun h => nomatch h) ?_
 refine TEok.cons (z := .nilFunc) Tryz.underlying83 (by as_aux_lemma => kernel_rfl) (fun w Z => (RdL_v0 RdL_n0)) (fun h => nomatch h) ?_
 refine TEok.cons (z := .nilFunc) Tryz.underlying85 (by as_aux_lemma => kernel_rfl) (fun w Z => (RdL_v0 RdL_n0)) (fun h => nomatch h) ?_
 refine TEok.cons (z := .nilFunc) Tryz.underlying86 (by as_aux_lemma => kernel_rfl) (fun w Z => (RdL_v0 RdL_n0)) (fun h => nomatch h) ?_
 refine TEok.cons (z := .nilFunc) Tryz.underlying89 (by as_aux_lemma => kernel_rfl) (fun w Z => (RdL_v0 RdL_n0)) (fun h => nomatch h) ?_
 refine TEok.cons (z := .nilFunc) Tryz.underlying94 (by as_aux_lemma => kernel_rfl) (fun w Z => (RdL_v0 RdL_n0)) (fun h => nomatch h) ?_
 refine TEok.cons (z := .nilFunc) Tryz.underlying107 (by as_aux_lemma => kernel_rfl) (fun w Z => (RdL_v0 RdL_n0)) (fun h => nomatch h) ?_
 refine TEok.cons (z := .nilFunc) Tryz.underlying109 (by as_aux_lemma => kernel_rfl) (fun w Z => (RdL_v0 RdL_n0)) (fun h => nomatch h) ?_
 refine TEok.cons (z := .nilFunc) Tryz.underlying111 (by as_aux_lemma => kernel_rfl) (fun w Z => (RdL_v0 RdL_n0)) (fun h => nomatch h) ?_
 refine TEok.cons (z := .nilFunc) Tryz.underlying121 (by as_aux_lemma => kernel_rfl) (fun w Z => (RdL_v0 RdL_n0)) (fun h => nomatch h) ?_
 refine TEok.cons (z := .agg #[.string ⟨#[]⟩, .string ⟨#[]⟩, .string ⟨#[]⟩, .string ⟨#[]⟩]) Tryz.underlying124 (by as_aux_lemma => kernel_rfl) (fun w Z => (RdL_v0 (RdL_v0 (RdL_v0 (RdL_v0 RdL_n0))))) (fun h => nomatch h) ?_
 refine TEok.cons (z := .agg #[.int .i64 0, .string ⟨#[]⟩, .int .i64 0, .int .i64 0, .int .i64 0, .string ⟨#[]⟩]) Tryz.underlying137 (by as_aux_lemma => kernel_rfl) (fun w Z => (RdL_v0 (RdL_v0 (RdL_v0 (RdL_v0 (RdL_v0 (RdL_v0 RdL_n0))))))) (fun _ => ⟨by as_aux_lemma => kernel_rfl, by as_aux_lemma => kernel_rfl⟩) ?_
 refine TEok.cons (z := .nilFunc) Tryz.underlying140 (by as_aux_lemma => kernel_rfl) (fun w Z => (RdL_v0 RdL_n0)) (fun h => nomatch h) ?_
 refine TEok.cons (z := .nilFunc) Tryz.underlying143 (by as_aux_lemma => kernel_rfl) (fun w Z => (RdL_v0 RdL_n0)) (fun h => nomatch h) ?_
 refine TEok.cons (z := .agg #[.string ⟨#[]⟩, .string ⟨#[]⟩, .string ⟨#[]⟩, .string ⟨#[]⟩, .string ⟨#[]⟩, .string ⟨#[]⟩, .string ⟨#[]⟩]) Tryz.underlying165 (by as_aux_lemma => kernel_rfl) (fun w Z => (RdL_v0 (RdL_v0 (RdL_v0 (RdL_v0 (RdL_v0 (RdL_v0 (RdL_v0 RdL_n0)))))))) (fun h => nomatch h) ?_
 refine TEok.cons (z := .pointer none) Tryz.underlying181 (by as_aux_lemma => kernel_rfl) (fun w Z => (RdL_v0 RdL_n0)) (fun h => nomatch h) ?_
 refine TEok.cons (z := .slice none 0 0) Tryz.underlying182 (by as_aux_lemma => kernel_rfl) (fun w Z => (RdL_v0 RdL_n0)) (fun h => nomatch h) ?_
 refine TEok.cons (z := .agg #[.pointer none, .slice none 0 0]) Tryz.underlying184 (by as_aux_lemma => kernel_rfl) (fun w Z => (RdL_v0 (RdL_v0 RdL_n0))) (fun h => nomatch h) ?_
 refine TEok.cons (z := .agg #[.int .u8 0, .int .u8 0, .int .u8 0, .int .u8 0, .int .u8 0, .int .u8 0, .int .u8 0, .int .u8 0, .int .u8 0, .int .u8 0, .int .u8 0, .int .u8 0, .int .u8 0, .int .u8 0, .int .u8 0, .int .u8 0, .int .u8 0, .int .u8 0, .int .u8 0, .int .u8 0, .int .u8 0, .int .u8 0, .int .u8 0, .int .u8 0]) Tryz.underlying190 (by as_aux_lemma => kernel_rfl) (fun w Z => (RdL_v0 (RdL_v0 (RdL_v0 (RdL_v0 (RdL_v0 (RdL_v0 (RdL_v0 (RdL_v0 (RdL_v0 (RdL_v0 (RdL_v0 (RdL_v0 (RdL_v0 (RdL_v0 (RdL_v0 (RdL_v0 (RdL_v0 (RdL_v0 (RdL_v0 (RdL_v0 (RdL_v0 (RdL_v0 (RdL_v0 (RdL_v0 RdL_n0))))))))))))))))))))))))) (fun h => nomatch h) ?_
 refine TEok.cons (z := .int .u64 0) Tryz.underlying191 (by as_aux_lemma => kernel_rfl) (fun w Z => (RdL_v0 RdL_n0)) (fun h => nomatch h) ?_
 refine TEok.cons (z := .pointer none) Tryz.underlying203 (by as_aux_lemma => kernel_rfl) (fun w Z => (RdL_v0 RdL_n0)) (fun h => nomatch h) ?_
 refine TEok.cons (z := .agg #[.int .u64 0, .int .u64 0, .int .u64 0, .int .u64 0, .int .u64 0, .int .u64 0, .int .u64 0, .int .u64 0, .int .u64 0, .int .u64 0, .int .u64 0, .int .u64 0, .int .u64 0, .int .u64 0, .int .u64 0, .int .u64 0, .int .u64 0, .int .u64 0, .int .u64 0, .int .u64 0]) Tryz.underlying206 (by as_aux_lemma => kernel_rfl) (fun w Z => (RdL_v0 (RdL_v0 (RdL_v0 (RdL_v0 (RdL_v0 (RdL_v0 (RdL_v0 (RdL_v0 (RdL_v0 (RdL_v0 (RdL_v0 (RdL_v0 (RdL_v0 (RdL_v0 (RdL_v0 (RdL_v0 (RdL_v0 (RdL_v0 (RdL_v0 (RdL_v0 RdL_n0))))))))))))))))))))) (fun h => nomatch h) ?_
 refine TEok.cons (z := .int .u32 0) Tryz.underlying207 (by as_aux_lemma => kernel_rfl) (fun w Z => (RdL_v0 RdL_n0)) (fun h => nomatch h) ?_
 refine TEok.cons (z := .int .u64 0) Tryz.underlying209 (by as_aux_lemma => kernel_rfl) (fun w Z => (RdL_v0 RdL_n0)) (fun h => nomatch h) ?_
 refine TEok.cons (z := .agg #[.int .u8 0, .int .u8 0, .int .u8 0, .int .u8 0, .int .u8 0, .int .u8 0, .int .u8 0, .int .u8 0, .int .u8 0, .int .u8 0, .int .u8 0, .int .u8 0, .int .u8 0, .int .u8 0, .int .u8 0, .int .u8 0, .int .u8 0, .int .u8 0, .int .u8 0, .int .u8 0, .int .u8 0, .int .u8 0, .int .u8 0, .int .u8 0, .int .u8 0, .int .u8 0, .int .u8 0, .int .u8 0, .int .u8 0, .int .u8 0, .int .u8 0, .int .u8 0]) Tryz.underlying228 (by as_aux_lemma => kernel_rfl) (fun w Z => (RdL_v0 (RdL_v0 (RdL_v0 (RdL_v0 (RdL_v0 (RdL_v0 (RdL_v0 (RdL_v0 (RdL_v0 (RdL_v0 (RdL_v0 (RdL_v0 (RdL_v0 (RdL_v0 (RdL_v0 (RdL_v0 (RdL_v0 (RdL_v0 (RdL_v0 (RdL_v0 (RdL_v0 (RdL_v0 (RdL_v0 (RdL_v0 (RdL_v0 (RdL_v0 (RdL_v0 (RdL_v0 (RdL_v0 (RdL_v0 (RdL_v0 (RdL_v0 RdL_n0))))))))))))))))))))))))))))))))) (fun h => nomatch h) ?_
 exact TEok.nil
end Go.Proofs.YtonchjamoblioaaGreatDoor
