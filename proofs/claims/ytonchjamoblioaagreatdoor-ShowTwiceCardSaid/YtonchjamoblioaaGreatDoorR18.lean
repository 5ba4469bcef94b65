/- A law of the seat: for every input it answers true, its arguments read as before; the listed variables hold what the program lays there. -/
import Derived.Test.YtonchjamoblioaaGreatDoorZRowY
import Derived.SevenTiedAt
set_option linter.unusedSimpArgs false
set_option linter.unusedVariables false
set_option linter.unusedSectionVars false
namespace Go.Proofs.YtonchjamoblioaaGreatDoor
open Go.Kin
set_option maxRecDepth 100000
theorem showTwice_lifted (os : Os) (started : os.Started) (H : Type) (enc : TypeId × Value → H) :
  ReturnsInHanded {} Tryz.checked os 10 .any (fun w args => (Rows.showTwiceSpec.pre enc Tryz.prog Tryz.f10 [] false w args ∧ laidMetH Tryz.prog laidX w) ∧ sizedMet enc Tryz.prog Tryz.f10 (OpenSpec.ofChange Rows.showTwiceSpec) false w args) (Rows.showTwiceSpec.post enc Tryz.prog Tryz.f10 false true false false) :=
 law_rowL (C := Tryz.checked) (P := Tryz.prog) (tb := 4) (X := fun w _ => laidMetH Tryz.prog laidX w) (fun _ _ _ hh h => h.of_heap hh) (fun _ _ h => laidX_met h) tysX tysX_ok rfl te_ok own_ok laid_ok started (by kernel_rfl) Tryz.func10
  (ChangeSpec.witness_shaped (enc := enc) (C := Tryz.checked) (os := os) (X := fun w _ => laidMetH Tryz.prog laidX w) false (World.doorLaid Tryz.prog 200 os) #[.string ⟨#[]⟩] 8 rfl (World.shaped_of_RefB (by kernel_rfl) (by kernel_rfl)) (by kernel_rfl) (by kernel_rfl) (by kernel_rfl) (doorX os _))
  rfl rfl Tryz.underlying4 (fun ds h => by
   have h2 : ds.length = 1 := h.trans (by rw [Tryz.params10]; rfl)
   match ds, h2 with
   | [_], _ => exact ⟨rfl, rfl, rfl⟩) (by kernel_rfl) (fun xs h => by
   rw [Tryz.params10] at h
   obtain ⟨x0, r, rfl, h0, h⟩ := args_cons h
   obtain rfl := args_nil h
   obtain ⟨s0, rfl, q0⟩ := shp_str h0
   exact (showTwice_ok _ q0).args ⟨LeD.refl _, trivial⟩)
theorem showTwice_row : Rows.ShowTwiceSaid :=
 OpenClaim.holds_of_wide 10 Tryz.f10 rfl rfl rfl rfl rfl rfl rfl ⟨rfl, rfl, rfl, rfl, rfl⟩ rfl rfl rfl rfl rfl (by kernel_rfl) Tryz.func10 (by kernel_rfl)
  (of_decide_eq_true (by kernel_rfl)) (by unfold Func.isWrapper; rw [if_neg (by decide +kernel)]; exact ⟨rfl, rfl⟩)
  (fun os started H enc _ => showTwice_lifted os started H enc)
theorem showTwice_holds : Rows.ShowTwiceCardSaid :=
 Claim7.holds_tied_plain_at .later [] [.data, .data, .data, .sentinel, .sentinel, .listed, .data] true (true, "d4617b708af924dbe28a7e7d733efad0004589994295c5299cd7e2650f78b5d1") true
  showTwice_row (fun _ h => by cases h) (by kernel_rfl) (fun _ h => by cases h) showTwice_row_tie rfl ⟨rfl, rfl⟩ (by kernel_rfl) rfl
  (fun f fn hf hfn => by
   obtain rfl : f = 10 := Option.some.inj ((show Tryz.prog.funcNamed Rows.showTwiceRow.func = some 10 by kernel_rfl).symm.trans hf) |>.symm
   obtain rfl : fn = Tryz.f10 := (Option.some.inj (Tryz.func10.symm.trans hfn)).symm
   exact ⟨by kernel_rfl, fun j t ht => by
    rw [Tryz.params10] at ht
    have hm : t ∈ [9] := by simpa using Array.mem_of_getElem? ht
    have hall : ([9].all fun u => !Tryz.prog.wantsStandIn u) = true := by kernel_rfl
    exact (show Tryz.prog.wantsStandIn t = false by simpa using List.all_eq_true.1 hall t hm)⟩)
  (by kernel_rfl)
end Go.Proofs.YtonchjamoblioaaGreatDoor
