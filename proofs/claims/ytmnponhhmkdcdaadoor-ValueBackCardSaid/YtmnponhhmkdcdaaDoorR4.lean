/- A law of the seat: for every input it answers true, its arguments read as before; the listed variables hold what the program lays. -/
import Derived.Test.YtmnponhhmkdcdaaDoorV3
import Derived.Test.YtmnponhhmkdcdaaDoorDRow
import Derived.SevenTiedAt
namespace Go.Proofs.YtmnponhhmkdcdaaDoor
open Go.Kin
set_option maxRecDepth 100000

theorem valueBack_lifted (os : Os) (started : os.Started) (H : Type) (enc : TypeId × Value → H) :
    ReturnsInHanded {} Tryd.checked os 4 .any (fun w args => (Rows.valueBackSpec.pre enc Tryd.prog Tryd.f4 [] false w args ∧ laidMetH Tryd.prog laidV w) ∧ sizedMet enc Tryd.prog Tryd.f4 (OpenSpec.ofChange Rows.valueBackSpec) false w args) (Rows.valueBackSpec.post enc Tryd.prog Tryd.f4 false true false false) :=
  law_rowL (C := Tryd.checked) (P := Tryd.prog) (tb := 4) (X := fun w _ => laidMetH Tryd.prog laidV w) (fun _ _ _ hh h => h.of_heap hh) (fun _ _ h => laidV_laid h) tys tys_ok rfl te_ok own_ok laid_ok started (by kernel_rfl) Tryd.func4
    (ChangeSpec.witness_shaped (enc := enc) (C := Tryd.checked) (os := os) (X := fun w _ => laidMetH Tryd.prog laidV w) false (World.doorLaid Tryd.prog 86 os) #[.agg #[.int .i64 0, .int .i64 0, .string ⟨#[]⟩], .agg #[.int .i64 0, .int .i64 0, .string ⟨#[]⟩], .string ⟨#[]⟩] 8 rfl (World.shaped_of_RefB (by kernel_rfl) (by kernel_rfl)) (by kernel_rfl) (by kernel_rfl) (by kernel_rfl) (doorV os _))
    rfl rfl Tryd.underlying4 (fun ds h => by
      have h2 : ds.length = 3 := h.trans (by rw [Tryd.params4]; rfl)
      match ds, h2 with
      | [_, _, _], _ => exact ⟨rfl, rfl, rfl⟩) (by kernel_rfl) (fun xs h => by
      rw [Tryd.params4] at h
      obtain ⟨x0, r, rfl, h0, h⟩ := args_cons h
      obtain ⟨x1, r, rfl, h1, h⟩ := args_cons h
      obtain ⟨x2, r, rfl, h2, h⟩ := args_cons h
      obtain rfl := args_nil h
      obtain ⟨v0, rfl, q0⟩ := shp_val h0
      obtain ⟨v1, rfl, q1⟩ := shp_val h1
      obtain ⟨s2, rfl, q2⟩ := shp_str h2
      exact (back_ok _ _ _ _ _ _ _ q0 q1 q2).args ⟨LeD.refl _, LeD.refl _, LeD.refl _, trivial⟩)

theorem valueBack_row : Rows.ValueBackSaid :=
  OpenClaim.holds_of_wide 4 Tryd.f4 rfl rfl rfl rfl rfl rfl rfl ⟨rfl, rfl, rfl, rfl, rfl⟩ rfl rfl rfl rfl rfl (by kernel_rfl) Tryd.func4 (by kernel_rfl)
    (of_decide_eq_true (by kernel_rfl)) (by unfold Func.isWrapper; rw [if_neg (by decide +kernel)]; exact ⟨rfl, rfl⟩)
    (fun os started H enc _ => valueBack_lifted os started H enc)
theorem valueBack_holds : Rows.ValueBackCardSaid :=
  Claim7.holds_tied_plain_at .later [] [.data, .data, .data, .sentinel, .sentinel] true (true, "12527d5cdd446b7aa51d818c03b1d98ae2ecc1289a336f49796426920ca6fa37") true
    valueBack_row (fun _ h => by cases h) (by kernel_rfl) (fun _ h => by cases h) valueBack_row_tie rfl ⟨rfl, rfl⟩ (by kernel_rfl) rfl
    (fun f fn hf hfn => by
      obtain rfl : f = 4 := Option.some.inj ((show Tryd.prog.funcNamed Rows.valueBackRow.func = some 4 by kernel_rfl).symm.trans hf) |>.symm
      obtain rfl : fn = Tryd.f4 := (Option.some.inj (Tryd.func4.symm.trans hfn)).symm
      exact ⟨by kernel_rfl, fun j t ht => by
        rw [Tryd.params4] at ht
        have hm : t ∈ [24, 24, 9] := by simpa using Array.mem_of_getElem? ht
        have hall : ([24, 24, 9].all fun u => !Tryd.prog.wantsStandIn u) = true := by kernel_rfl
        exact (show Tryd.prog.wantsStandIn t = false by simpa using List.all_eq_true.1 hall t hm)⟩)
    (by kernel_rfl)
end Go.Proofs.YtmnponhhmkdcdaaDoor
