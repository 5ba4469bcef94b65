/- Steps of a function body on data, and contracts of the functions of the seat, walked. -/
import Derived.Test.YtgnhhjojiipmgaaGreatDoorXFa
import GoSem.ClaimGoes
set_option linter.unusedSimpArgs false
set_option linter.unusedVariables false
set_option linter.unusedSectionVars false
namespace Go.Proofs.YtgnhhjojiipmgaaGreatDoor
open Go
set_option maxRecDepth 100000
theorem wfNoGo : Tryz.prog.funcs.any Func.goes = false := by kernel_rfl
theorem wfGoes3 : Tryz.prog.goes 4 = false := by
  have h : ∀ (g : Nat), (Tryz.prog.funcs[g]?).any Func.goes = false := fun g => by
    cases hg : Tryz.prog.funcs[g]? with
    | none => rfl
    | some fn =>
      have hall := wfNoGo
      rw [Array.any_eq_false] at hall
      obtain ⟨hl, he⟩ := Array.getElem?_eq_some_iff.1 hg
      have := hall g hl
      rw [he] at this
      simpa using this
  unfold Program.goes
  rw [wfNoGo, Bool.and_false, Bool.or_false, List.any_eq_false]
  intro g _
  rw [h g]; simp
theorem wfGoes : false = Rows.deskSplitRow.goesBy Tryz.prog := by
  unfold OpenClaim.goesBy Program.goesAt Program.goesFrom
  rw [wfNamed, show Rows.deskSplitRow.start = Start.entering from rfl, Option.any_some, wfGoes3]
  rfl
end Go.Proofs.YtgnhhjojiipmgaaGreatDoor
