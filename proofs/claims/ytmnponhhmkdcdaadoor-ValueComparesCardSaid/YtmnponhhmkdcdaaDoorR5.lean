/- A law of the seat: for every input it answers true, its arguments read as before; the listed variables hold what the program lays. -/
import Derived.Test.YtmnponhhmkdcdaaDoorV3
import Derived.Test.YtmnponhhmkdcdaaDoorDRow
import Derived.SevenTiedAt
namespace Go.Proofs.YtmnponhhmkdcdaaDoor
open Go.Kin
set_option maxRecDepth 100000

theorem valueCompares_lifted (os : Os) (started : os.Started) (H : Type) (enc : TypeId × Value → H) :
    ReturnsInHanded {} Tryd.checked os 5 .any (fun w args => (Rows.valueComparesSpec.pre enc Tryd.prog Tryd.f5 [] false w args ∧ laidMetH Tryd.prog laidV w) ∧ sizedMet enc Tryd.prog Tryd.f5 (OpenSpec.ofChange Rows.valueComparesSpec) false w args) (Rows.valueComparesSpec.post enc Tryd.prog Tryd.f5 false true false false) :=
  law_rowL (C := Tryd.checked) (P := Tryd.prog) (tb := 4) (X := fun w _ => laidMetH Tryd.prog laidV w) (fun _ _ _ hh h => h.of_heap hh) (fun _ _ h => laidV_laid h) tys tys_ok rfl te_ok own_ok laid_ok started (by kernel_rfl) Tryd.func5
    (ChangeSpec.witness_shaped (enc := enc) (C := Tryd.checked) (os := os) (X := fun w _ => laidMetH Tryd.prog laidV w) false (World.doorLaid Tryd.prog 86 os) #[.int .i64 0, .agg #[.int .i64 0, .int .i64 0, .string ⟨#[]⟩], .agg #[.int .i64 0, .int .i64 0, .string ⟨#[]⟩]] 8 rfl (World.shaped_of_RefB (by kernel_rfl) (by kernel_rfl)) (by kernel_rfl) (by kernel_rfl) (by kernel_rfl) (doorV os _))
    rfl rfl Tryd.underlying4 (fun ds h => by
      have h2 : ds.length = 3 := h.trans (by rw [Tryd.params5]; rfl)
      match ds, h2 with
      | [_, _, _], _ => exact ⟨rfl, rfl, rfl⟩) (by kernel_rfl) (fun xs h => by
      rw [Tryd.params5] at h
      obtain ⟨x0, r, rfl, h0, h⟩ := args_cons h
      obtain ⟨x1, r, rfl, h1, h⟩ := args_cons h
      obtain ⟨x2, r, rfl, h2, h⟩ := args_cons h
      obtain rfl := args_nil h
      obtain ⟨n0, rfl, q0⟩ := shp_intT te_34 rfl h0
      obtain ⟨v1, rfl, q1⟩ := shp_val h1
      obtain ⟨v2, rfl, q2⟩ := shp_val h2
      exact (compares_ok _ _ _ _ _ _ _ q1 q2).args ⟨LeD.refl _, LeD.refl _, LeD.refl _, trivial⟩)

theorem valueCompares_row : Rows.ValueComparesSaid :=
  OpenClaim.holds_of_wide 5 Tryd.f5 rfl rfl rfl rfl rfl rfl rfl ⟨rfl, rfl, rfl, rfl, rfl⟩ rfl rfl rfl rfl rfl (by kernel_rfl) Tryd.func5 (by kernel_rfl)
    (of_decide_eq_true (by kernel_rfl)) (by unfold Func.isWrapper; rw [if_neg (by decide +kernel)]; exact ⟨rfl, rfl⟩)
    (fun os started H enc _ => valueCompares_lifted os started H enc)
theorem valueCompares_holds : Rows.ValueComparesCardSaid :=
  Claim7.holds_tied_plain_at .later [] [.data, .data, .data, .sentinel, .sentinel] true (true, "12527d5cdd446b7aa51d818c03b1d98ae2ecc1289a336f49796426920ca6fa37") true
    valueCompares_row (fun _ h => by cases h) (by kernel_rfl) (fun _ h => by cases h) valueCompares_row_tie rfl ⟨rfl, rfl⟩ (by kernel_rfl) rfl
    (fun f fn hf hfn => by
      obtain rfl : f = 5 := Option.some.inj ((show Tryd.prog.funcNamed Rows.valueComparesRow.func = some 5 by kernel_rfl).symm.trans hf) |>.symm
      obtain rfl : fn = Tryd.f5 := (Option.some.inj (Tryd.func5.symm.trans hfn)).symm
      exact ⟨by kernel_rfl, fun j t ht => by
        rw [Tryd.params5] at ht
        have hm : t ∈ [34, 24, 24] := by simpa using Array.mem_of_getElem? ht
        have hall : ([34, 24, 24].all fun u => !Tryd.prog.wantsStandIn u) = true := by kernel_rfl
        exact (show Tryd.prog.wantsStandIn t = false by simpa using List.all_eq_true.1 hall t hm)⟩)
    (by kernel_rfl)
end Go.Proofs.YtmnponhhmkdcdaaDoor
