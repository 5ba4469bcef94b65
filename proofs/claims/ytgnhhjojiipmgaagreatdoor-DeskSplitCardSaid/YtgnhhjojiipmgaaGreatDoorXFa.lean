/- Steps of a function body on data, and contracts of the functions of the seat, walked. -/
import Derived.Test.YtgnhhjojiipmgaaGreatDoorWRow
import Derived.SevenTiedAt
import Derived.JoinedOf
set_option linter.unusedSimpArgs false
set_option linter.unusedVariables false
set_option linter.unusedSectionVars false
namespace Go.Proofs.YtgnhhjojiipmgaaGreatDoor
open Go
set_option maxRecDepth 100000
theorem wfNamed : Tryz.prog.funcNamed Rows.deskSplitRow.func = some 4 := by kernel_rfl
theorem wfLooks : true = Tryz.prog.looks [] := by kernel_rfl
theorem wfMain : Tryz.prog.mainIs = some (true, "91b372d0ce0aa283ce207167f4fc5b006fdb8f1e198232001308ae224c5d0a03".toList) := by kernel_rfl
theorem wfStand : ([9, 9].all fun u => !Tryz.prog.wantsStandIn u) = true := by kernel_rfl
theorem wfText : OpenClaim.wfByText (OpenSpec.ofChange Rows.deskSplitSpec) Rows.deskSplitRow = true := by kernel_rfl
theorem wfInst : Tryz.f4.isInstance Tryz.prog Rows.deskSplitRow.origin Rows.deskSplitRow.targs := of_decide_eq_true (by kernel_rfl)
theorem wfWrap : Tryz.f4.isWrapper Tryz.prog Rows.deskSplitRow.wrapper Rows.deskSplitRow.mainSum := by unfold Func.isWrapper; rw [if_neg (by decide +kernel)]; exact ⟨rfl, rfl⟩
end Go.Proofs.YtgnhhjojiipmgaaGreatDoor
