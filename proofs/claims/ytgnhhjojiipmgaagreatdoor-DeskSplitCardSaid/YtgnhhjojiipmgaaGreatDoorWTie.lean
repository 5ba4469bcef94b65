/- Steps of a function body on data, and contracts of the functions of the seat, walked. -/
import Derived.Test.YtgnhhjojiipmgaaGreatDoorRows
import Derived.LaidByTextLater
import Derived.SevenTiedAt
import Derived.LaidOnce
import Derived.KernelRfl
set_option linter.unusedSimpArgs false
set_option linter.unusedVariables false
set_option linter.unusedSectionVars false
namespace Go.Proofs.YtgnhhjojiipmgaaGreatDoor
open Go
set_option maxRecDepth 100000
theorem wPin : Tryz.pinned.checked.prog.pinnedFits "unicode/utf8.first" = true := by kernel_rfl
theorem wNoOwn : Tryz.pinned.checked.prog.headLifts.contains "ownunsafe" = false := by kernel_rfl
theorem wFits : Tryz.pinned.checked.prog.listedFits [("internal/strconv.uint64pow10", Rows.laid_internal_strconv_uint64pow10), ("math/bits.deBruijn32tab", Rows.laid_math_bits_deBruijn32tab), ("math/bits.deBruijn64tab", Rows.laid_math_bits_deBruijn64tab), ("strconv.ErrSyntax", Rows.laid_strconv_ErrSyntax), ("strconv.ErrRange", Rows.laid_strconv_ErrRange), ("strings.asciiSpace", Rows.laid_strings_asciiSpace), ("unicode.White_Space", Rows.laid_unicode_White_Space), ("unicode/utf8.first", Rows.laid_unicode_utf8_first), ("unicode/utf8.acceptRanges", Rows.laid_unicode_utf8_acceptRanges)] = true := by
  unfold Program.listedFits
  rw [wNoOwn]
  kernel_rfl
noncomputable def wLaid : List (String × DataW Unit) := [("internal/strconv.uint64pow10", Rows.laid_internal_strconv_uint64pow10), ("math/bits.deBruijn32tab", Rows.laid_math_bits_deBruijn32tab), ("math/bits.deBruijn64tab", Rows.laid_math_bits_deBruijn64tab), ("strconv.ErrSyntax", Rows.laid_strconv_ErrSyntax), ("strconv.ErrRange", Rows.laid_strconv_ErrRange), ("strings.asciiSpace", Rows.laid_strings_asciiSpace), ("unicode.White_Space", Rows.laid_unicode_White_Space), ("unicode/utf8.acceptRanges", Rows.laid_unicode_utf8_acceptRanges)]
theorem wVars : varsId Tryz.prog = 634 := by kernel_rfl
theorem wNamed : varsNamedLaterB Tryz.prog 634 wLaid = true := by kernel_rfl
theorem wRun (os : Os) (tape : Tape) : doorLeaves Tryz.prog 400 8 257 wLaid os tape = some (wLaid.filter fun x => x.2.handleName?.isNone, (funcsListed wLaid).map (·.2.funcsOut)) := by
  unfold doorLeaves
  rw [wVars]
  kernel_rfl
theorem wWord1 : Tryz.prog.worded (varsWordLater true) = true := by kernel_rfl
theorem wWord2 : Tryz.prog.worded (varsWordLater !true) = false := by kernel_rfl
theorem wWord3 : Tryz.prog.worded rootWordLater = true := by kernel_rfl
theorem wKinds : wLaid.map (fun x => Tryz.prog.kindOfLater x.1) = ([.data, .data, .data, .sentinel, .sentinel, .data, .listed, .data] : List LaidKind).map some := by kernel_rfl
theorem wVarsIs : (Tryz.prog.funcNamed "gosem.cut.vars").isSome = true := by kernel_rfl
theorem wTie : Tryz.prog.laidByTextLater [("internal/strconv.uint64pow10", Rows.laid_internal_strconv_uint64pow10), ("math/bits.deBruijn32tab", Rows.laid_math_bits_deBruijn32tab), ("math/bits.deBruijn64tab", Rows.laid_math_bits_deBruijn64tab), ("strconv.ErrSyntax", Rows.laid_strconv_ErrSyntax), ("strconv.ErrRange", Rows.laid_strconv_ErrRange), ("strings.asciiSpace", Rows.laid_strings_asciiSpace), ("unicode.White_Space", Rows.laid_unicode_White_Space), ("unicode/utf8.acceptRanges", Rows.laid_unicode_utf8_acceptRanges)] [.data, .data, .data, .sentinel, .sentinel, .data, .listed, .data] true :=
  Program.laidByTextLater_by_one (laid := wLaid) 400 8 257 wWord1 wWord2 wWord3 wKinds wVarsIs (by rw [wVars]; exact wNamed) wRun
theorem wWords_tie : Rows.deskWordsRow.laidByTextAt .later Tryz.pinned [.data, .data, .data, .sentinel, .sentinel, .data, .listed, .pinned, .data] true :=
  OpenClaim.laidByTextAt_pinned rfl rfl wTie rfl rfl rfl rfl (fun y hy _e => by
    simp only [Rows.deskWordsRow, List.zip_cons_cons, List.zip_nil_right, List.mem_cons, List.mem_nil_iff, or_false] at hy
    rcases hy with rfl | rfl | rfl | rfl | rfl | rfl | rfl | rfl | rfl
    · cases _e
    · cases _e
    · cases _e
    · cases _e
    · cases _e
    · cases _e
    · cases _e
    · exact ⟨wPin, by kernel_rfl⟩
    · cases _e) wFits
end Go.Proofs.YtgnhhjojiipmgaaGreatDoor
