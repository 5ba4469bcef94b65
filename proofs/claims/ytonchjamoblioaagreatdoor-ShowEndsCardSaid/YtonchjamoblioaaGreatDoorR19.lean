/- A law of the seat: for every input it answers true, its arguments read as before; the listed variables hold what the program lays there. -/
import Derived.Test.YtonchjamoblioaaGreatDoorQU2
import Derived.Test.YtonchjamoblioaaGreatDoorQU1
import Derived.SevenTiedAt
set_option linter.unusedSimpArgs false
set_option linter.unusedVariables false
set_option linter.unusedSectionVars false
namespace Go.Proofs.YtonchjamoblioaaGreatDoor
open Go.Kin
set_option maxRecDepth 100000
theorem showEnds_lifted (os : Os) (started : os.Started) (H : Type) (enc : TypeId × Value → H) :
  ReturnsInHanded {} Tryz.checked os 4 .any (fun w args => (Rows.showEndsSpec.pre enc Tryz.prog Tryz.f4 [] false w args ∧ laidMetH Tryz.prog laidV w) ∧ sizedMet enc Tryz.prog Tryz.f4 (OpenSpec.ofChange Rows.showEndsSpec) false w args) (Rows.showEndsSpec.post enc Tryz.prog Tryz.f4 false true false false) :=
 law_rowL (C := Tryz.checked) (P := Tryz.prog) (tb := 4) (X := fun w _ => laidMetH Tryz.prog laidV w) (fun _ _ _ hh h => h.of_heap hh) (fun _ _ h => laidV_laid h) tys tys_ok rfl te_ok own_ok laid_ok started (by kernel_rfl) Tryz.func4
  (ChangeSpec.witness_shaped (enc := enc) (C := Tryz.checked) (os := os) (X := fun w _ => laidMetH Tryz.prog laidV w) false (World.doorLaid Tryz.prog 200 os) #[] 8 rfl (World.shaped_of_RefB (by kernel_rfl) (by kernel_rfl)) (by kernel_rfl) (by kernel_rfl) (by kernel_rfl) (doorV os _))
  rfl rfl Tryz.underlying4 (fun ds h => by
   have h2 : ds.length = 0 := h.trans (by rw [Tryz.params4]; rfl)
   match ds, h2 with
   | [], _ => exact ⟨rfl, rfl, rfl⟩) (by kernel_rfl) (fun xs h => by
   rw [Tryz.params4] at h
   obtain rfl := args_nil h
   exact ends_ok)
theorem showEnds_row : Rows.ShowEndsSaid :=
 OpenClaim.holds_of_wide 4 Tryz.f4 rfl rfl rfl rfl rfl rfl rfl ⟨rfl, rfl, rfl, rfl, rfl⟩ rfl rfl rfl rfl rfl (by kernel_rfl) Tryz.func4 (by kernel_rfl)
  (of_decide_eq_true (by kernel_rfl)) (by unfold Func.isWrapper; rw [if_neg (by decide +kernel)]; exact ⟨rfl, rfl⟩)
  (fun os started H enc _ => showEnds_lifted os started H enc)
theorem showEnds_holds : Rows.ShowEndsCardSaid :=
 Claim7.holds_tied_plain_at .later [] [.data, .data, .data] true (true, "d4617b708af924dbe28a7e7d733efad0004589994295c5299cd7e2650f78b5d1") true
  showEnds_row (fun _ h => by cases h) (by kernel_rfl) (fun _ h => by cases h) showEnds_row_tie rfl ⟨rfl, rfl⟩ (by kernel_rfl) rfl
  (fun f fn hf hfn => by
   obtain rfl : f = 4 := Option.some.inj ((show Tryz.prog.funcNamed Rows.showEndsRow.func = some 4 by kernel_rfl).symm.trans hf) |>.symm
   obtain rfl : fn = Tryz.f4 := (Option.some.inj (Tryz.func4.symm.trans hfn)).symm
   exact ⟨by kernel_rfl, fun j t ht => by
    rw [Tryz.params4] at ht
    have hm : t ∈ [] := by simpa using Array.mem_of_getElem? ht
    have hall : ([].all fun u => !Tryz.prog.wantsStandIn u) = true := by kernel_rfl
    exact (show Tryz.prog.wantsStandIn t = false by simpa using List.all_eq_true.1 hall t hm)⟩)
  (by kernel_rfl)
end Go.Proofs.YtonchjamoblioaaGreatDoor
