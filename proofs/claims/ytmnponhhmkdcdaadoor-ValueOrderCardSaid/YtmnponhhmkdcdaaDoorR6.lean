/- A law of the seat: for every input it answers true, its arguments read as before; the listed variables hold what the program lays. -/
import Derived.Test.YtmnponhhmkdcdaaDoorV4
import Derived.Test.YtmnponhhmkdcdaaDoorDRow
import Derived.SevenTiedAt
namespace Go.Proofs.YtmnponhhmkdcdaaDoor
open Go.Kin
set_option maxRecDepth 100000

theorem valueOrder_lifted (os : Os) (started : os.Started) (H : Type) (enc : TypeId × Value → H) :
    ReturnsInHanded {} Tryd.checked os 6 .any (fun w args => (Rows.valueOrderSpec.pre enc Tryd.prog Tryd.f6 [] false w args ∧ laidMetH Tryd.prog laidV w) ∧ sizedMet enc Tryd.prog Tryd.f6 (OpenSpec.ofChange Rows.valueOrderSpec) false w args) (Rows.valueOrderSpec.post enc Tryd.prog Tryd.f6 false true false false) :=
  law_rowL (C := Tryd.checked) (P := Tryd.prog) (tb := 4) (X := fun w _ => laidMetH Tryd.prog laidV w) (fun _ _ _ hh h => h.of_heap hh) (fun _ _ h => laidV_laid h) tys tys_ok rfl te_ok own_ok laid_ok started (by kernel_rfl) Tryd.func6
    (ChangeSpec.witness_shaped (enc := enc) (C := Tryd.checked) (os := os) (X := fun w _ => laidMetH Tryd.prog laidV w) false (World.doorLaid Tryd.prog 86 os) #[.agg #[.int .i64 0, .int .i64 0, .string ⟨#[]⟩], .agg #[.int .i64 0, .int .i64 0, .string ⟨#[]⟩], .agg #[.int .i64 0, .int .i64 0, .string ⟨#[]⟩], .slice none 0 0, .slice none 0 0, .slice none 0 0] 8 rfl (World.shaped_of_RefB (by kernel_rfl) (by kernel_rfl)) (by kernel_rfl) (by kernel_rfl) (by kernel_rfl) (doorV os _))
    rfl rfl Tryd.underlying4 (fun ds h => by
      have h2 : ds.length = 6 := h.trans (by rw [Tryd.params6]; rfl)
      match ds, h2 with
      | [_, _, _, _, _, _], _ => exact ⟨rfl, rfl, rfl⟩) (by kernel_rfl) (fun xs h => by
      rw [Tryd.params6] at h
      obtain ⟨x0, r, rfl, h0, h⟩ := args_cons h
      obtain ⟨x1, r, rfl, h1, h⟩ := args_cons h
      obtain ⟨x2, r, rfl, h2, h⟩ := args_cons h
      obtain ⟨x3, r, rfl, h3, h⟩ := args_cons h
      obtain ⟨x4, r, rfl, h4, h⟩ := args_cons h
      obtain ⟨x5, r, rfl, h5, h⟩ := args_cons h
      obtain rfl := args_nil h
      obtain ⟨v0, rfl, q0⟩ := shp_val h0
      obtain ⟨v1, rfl, q1⟩ := shp_val h1
      obtain ⟨v2, rfl, q2⟩ := shp_val h2
      obtain ⟨l3, le3, q3, k3, _⟩ := shp_slice (f := vC) te_39 rfl te_24 (fun m ds h => shp1_val h) h3
      obtain ⟨l4, le4, q4, k4, _⟩ := shp_slice (f := vC) te_39 rfl te_24 (fun m ds h => shp1_val h) h4
      obtain ⟨l5, le5, q5, k5, _⟩ := shp_slice (f := vC) te_39 rfl te_24 (fun m ds h => shp1_val h) h5
      exact (order_ok _ _ _ _ _ _ k3 k4 k5).args ⟨LeD.refl _, LeD.refl _, LeD.refl _, le3.le, le4.le, le5.le, trivial⟩)

theorem valueOrder_row : Rows.ValueOrderSaid :=
  OpenClaim.holds_of_wide 6 Tryd.f6 rfl rfl rfl rfl rfl rfl rfl ⟨rfl, rfl, rfl, rfl, rfl⟩ rfl rfl rfl rfl rfl (by kernel_rfl) Tryd.func6 (by kernel_rfl)
    (of_decide_eq_true (by kernel_rfl)) (by unfold Func.isWrapper; rw [if_neg (by decide +kernel)]; exact ⟨rfl, rfl⟩)
    (fun os started H enc _ => valueOrder_lifted os started H enc)
theorem valueOrder_holds : Rows.ValueOrderCardSaid :=
  Claim7.holds_tied_plain_at .later [] [.data, .data, .data, .sentinel, .sentinel] true (true, "12527d5cdd446b7aa51d818c03b1d98ae2ecc1289a336f49796426920ca6fa37") true
    valueOrder_row (fun _ h => by cases h) (by kernel_rfl) (fun _ h => by cases h) valueOrder_row_tie rfl ⟨rfl, rfl⟩ (by kernel_rfl) rfl
    (fun f fn hf hfn => by
      obtain rfl : f = 6 := Option.some.inj ((show Tryd.prog.funcNamed Rows.valueOrderRow.func = some 6 by kernel_rfl).symm.trans hf) |>.symm
      obtain rfl : fn = Tryd.f6 := (Option.some.inj (Tryd.func6.symm.trans hfn)).symm
      exact ⟨by kernel_rfl, fun j t ht => by
        rw [Tryd.params6] at ht
        have hm : t ∈ [24, 24, 24, 39, 39, 39] := by simpa using Array.mem_of_getElem? ht
        have hall : ([24, 24, 24, 39, 39, 39].all fun u => !Tryd.prog.wantsStandIn u) = true := by kernel_rfl
        exact (show Tryd.prog.wantsStandIn t = false by simpa using List.all_eq_true.1 hall t hm)⟩)
    (by kernel_rfl)
end Go.Proofs.YtmnponhhmkdcdaaDoor
