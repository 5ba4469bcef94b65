/- Steps of a function body on data, and contracts of the functions of the seat, walked. -/
import Derived.Test.YtgnhhjojiipmgaaGreatDoorKRune
import Derived.Test.YtgnhhjojiipmgaaGreatDoorKRowL
import Derived.Test.YtgnhhjojiipmgaaGreatDoorWTie
import Derived.Test.YtgnhhjojiipmgaaGreatDoorWLo
import Derived.Test.YtgnhhjojiipmgaaGreatDoorCards
import Derived.Test.YtgnhhjojiipmgaaGreatDoorChecked
import Derived.ProofKit
import Derived.LaidMore
import Derived.Lay
import Derived.OpenShut
import Derived.Stop.Joined
import Derived.Stop.LaidErr
import Derived.Lib.LaidTab
set_option linter.unusedSimpArgs false
set_option linter.unusedVariables false
set_option linter.unusedSectionVars false
namespace Go.Proofs.YtgnhhjojiipmgaaGreatDoor
open Go.Kin
set_option maxRecDepth 100000
theorem own_ok : ownKnob Tryz.prog.godebug = none := by kernel_rfl
def tysX : List TypeId := [4, 9]
theorem tysX_ok : okAll te tysX = true := by kernel_rfl
theorem shp_str {x : D} (h : ArgShp te 9 x) : ∃ s, x = sv s ∧ s.length ≤ 140737488355328 := by
  obtain ⟨m, ds, h1, h2⟩ := h
  cases m with
  | zero => exact h1.elim
  | succ m =>
    simp only [Shp, te_9] at h1
    obtain ⟨s, rfl, h3⟩ := h1
    simp [aggT, te_9, aggD] at h2
    exact ⟨s, h2.symm, by unfold reachBytes at h3; omega⟩
/-! ### what the rows lay -/
def laidX : List (String × DataW Unit) := Rows.deskWordsRow.laid
theorem gSpc : Tryz.prog.globalNamed "strings.asciiSpace" = some 8 := by kernel_rfl
theorem tSpc : (Tryz.prog.globals[8]?).map (·.type) = some 178 := by kernel_rfl
theorem laidX_met {W : World} (h : laidMetH Tryz.prog laidX W) : LaidW W := by
  rw [MakeChecks.laidMetH_plain _ _ _ (by as_aux_lemma => kernel_rfl)] at h
  have h5 := h.tail.tail.tail.tail.tail
  have h6 : laidMet Tryz.prog (("strings.asciiSpace", Lib.tabData .u8 Lib.asciiSpaceTab) :: [("unicode.White_Space", Rows.laid_unicode_White_Space), ("unicode/utf8.first", Rows.laid_unicode_utf8_first), ("unicode/utf8.acceptRanges", Rows.laid_unicode_utf8_acceptRanges)]) W := h5
  exact ⟨Lib.tabIs_of_head gSpc tSpc Tryz.underlying178 Tryz.underlying5 (by as_aux_lemma => kernel_rfl) (by as_aux_lemma => kernel_rfl) h6⟩
theorem layF (os : Os) : (World.holding Tryz.prog os ⟨#[], #[], []⟩).layFits Tryz.prog laidX [] = true := by kernel_rfl
theorem layI (os : Os) : (World.holding Tryz.prog os ⟨#[], #[], []⟩).layIfaces Tryz.prog laidX (World.laidAll Tryz.prog os laidX) = true := by kernel_rfl
theorem doorX (os : Os) (args : Array Value) : laidMetH Tryz.prog laidX ((World.laidAll Tryz.prog os laidX).forCall (fun _ _ => 0) ⟨#[], args, []⟩).memory := by
  rw [MakeChecks.laidMetH_plain _ _ _ (by as_aux_lemma => kernel_rfl)]
  exact laidMet_laidAll args (layF os) (layI os)
end Go.Proofs.YtgnhhjojiipmgaaGreatDoor
