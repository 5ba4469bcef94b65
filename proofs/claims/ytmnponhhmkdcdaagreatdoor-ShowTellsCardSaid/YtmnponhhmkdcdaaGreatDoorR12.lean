/- A law of the seat: for every input it answers true, its arguments read as before; the listed variables hold what the program lays there. -/
import Derived.Test.YtmnponhhmkdcdaaGreatDoorZ15
import Derived.Test.YtmnponhhmkdcdaaGreatDoorZRow
import Derived.SevenTiedAt
namespace Go.Proofs.YtmnponhhmkdcdaaGreatDoor
open Go.Kin
set_option maxRecDepth 100000

theorem showTells_lifted (os : Os) (started : os.Started) (H : Type) (enc : TypeId × Value → H) :
    ReturnsInHanded {} Tryz.checked os 3 .any (fun w args => (Rows.showTellsSpec.pre enc Tryz.prog Tryz.f3 [] false w args ∧ laidMetH Tryz.prog laidV w) ∧ sizedMet enc Tryz.prog Tryz.f3 (OpenSpec.ofChange Rows.showTellsSpec) false w args) (Rows.showTellsSpec.post enc Tryz.prog Tryz.f3 false true false false) :=
  law_rowL (C := Tryz.checked) (P := Tryz.prog) (tb := 4) (X := fun w _ => laidMetH Tryz.prog laidV w) (fun _ _ _ hh h => h.of_heap hh) (fun _ _ h => laidV_laid h) tys tys_ok rfl te_ok own_ok laid_ok started (by kernel_rfl) Tryz.func3
    (ChangeSpec.witness_shaped (enc := enc) (C := Tryz.checked) (os := os) (X := fun w _ => laidMetH Tryz.prog laidV w) false (World.doorLaid Tryz.prog 200 os) #[.agg #[.slice none 0 0, .slice none 0 0, .slice none 0 0, .int .i64 0, .int .i64 0], .agg #[.int .i64 0, .string ⟨#[]⟩, .slice none 0 0]] 8 rfl (World.shaped_of_RefB (by kernel_rfl) (by kernel_rfl)) (by kernel_rfl) (by kernel_rfl) (by kernel_rfl) (doorV os _))
    rfl rfl Tryz.underlying4 (fun ds h => by
      have h2 : ds.length = 2 := h.trans (by rw [Tryz.params3]; rfl)
      match ds, h2 with
      | [_, _], _ => exact ⟨rfl, rfl, rfl⟩) (by kernel_rfl) (fun xs h => by
      rw [Tryz.params3] at h
      obtain ⟨x0, r, rfl, h0, h⟩ := args_cons h
      obtain ⟨x1, r, rfl, h1, h⟩ := args_cons h
      obtain rfl := args_nil h
      obtain ⟨q, le0, hq⟩ := shp_qu h0
      obtain ⟨e, le1, he⟩ := shp_ex h1
      exact (tells_ok q e hq he).args ⟨le0, le1, trivial⟩)

theorem showTells_row : Rows.ShowTellsSaid :=
  OpenClaim.holds_of_wide 3 Tryz.f3 rfl rfl rfl rfl rfl rfl rfl ⟨rfl, rfl, rfl, rfl, rfl⟩ rfl rfl rfl rfl rfl (by kernel_rfl) Tryz.func3 (by kernel_rfl)
    (of_decide_eq_true (by kernel_rfl)) (by unfold Func.isWrapper; rw [if_neg (by decide +kernel)]; exact ⟨rfl, rfl⟩)
    (fun os started H enc _ => showTells_lifted os started H enc)
theorem showTells_holds : Rows.ShowTellsCardSaid :=
  Claim7.holds_tied_plain_at .later [] [.data, .data, .data] true (true, "d4617b708af924dbe28a7e7d733efad0004589994295c5299cd7e2650f78b5d1") true
    showTells_row (fun _ h => by cases h) (by kernel_rfl) (fun _ h => by cases h) showTells_row_tie rfl ⟨rfl, rfl⟩ (by kernel_rfl) rfl
    (fun f fn hf hfn => by
      obtain rfl : f = 3 := Option.some.inj ((show Tryz.prog.funcNamed Rows.showTellsRow.func = some 3 by kernel_rfl).symm.trans hf) |>.symm
      obtain rfl : fn = Tryz.f3 := (Option.some.inj (Tryz.func3.symm.trans hfn)).symm
      exact ⟨by kernel_rfl, fun j t ht => by
        rw [Tryz.params3] at ht
        have hm : t ∈ [26, 30] := by simpa using Array.mem_of_getElem? ht
        have hall : ([26, 30].all fun u => !Tryz.prog.wantsStandIn u) = true := by kernel_rfl
        exact (show Tryz.prog.wantsStandIn t = false by simpa using List.all_eq_true.1 hall t hm)⟩)
    (by kernel_rfl)
end Go.Proofs.YtmnponhhmkdcdaaGreatDoor
