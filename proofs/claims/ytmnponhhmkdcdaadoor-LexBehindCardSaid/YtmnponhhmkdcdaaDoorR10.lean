/- A law of the seat: for every input it answers true, its arguments read as before; the listed variables hold what the program lays. -/
import Derived.Test.YtmnponhhmkdcdaaDoorL8
import Derived.Test.YtmnponhhmkdcdaaDoorDRowX
import Derived.SevenTiedAt
namespace Go.Proofs.YtmnponhhmkdcdaaDoor
open Go.Kin
set_option maxRecDepth 100000

theorem lexBehind_lifted (os : Os) (started : os.Started) (H : Type) (enc : TypeId × Value → H) :
    ReturnsInHanded {} Tryd.checked os 10 .any (fun w args => (Rows.lexBehindSpec.pre enc Tryd.prog Tryd.f10 [] false w args ∧ laidMetH Tryd.prog laidX w) ∧ sizedMet enc Tryd.prog Tryd.f10 (OpenSpec.ofChange Rows.lexBehindSpec) false w args) (Rows.lexBehindSpec.post enc Tryd.prog Tryd.f10 false true false false) :=
  law_rowL (C := Tryd.checked) (P := Tryd.prog) (tb := 4) (X := fun w _ => laidMetH Tryd.prog laidX w) (fun _ _ _ hh h => h.of_heap hh) (fun _ _ h => laidX_met h) tys tys_ok rfl te_ok own_ok laid_ok started (by kernel_rfl) Tryd.func10
    (ChangeSpec.witness_shaped (enc := enc) (C := Tryd.checked) (os := os) (X := fun w _ => laidMetH Tryd.prog laidX w) false (World.doorLaid Tryd.prog 86 os) #[.string ⟨#[]⟩, .string ⟨#[]⟩, .int .i64 0] 8 rfl (World.shaped_of_RefB (by kernel_rfl) (by kernel_rfl)) (by kernel_rfl) (by kernel_rfl) (by kernel_rfl) (doorX os _))
    rfl rfl Tryd.underlying4 (fun ds h => by
      have h2 : ds.length = 3 := h.trans (by rw [Tryd.params10]; rfl)
      match ds, h2 with
      | [_, _, _], _ => exact ⟨rfl, rfl, rfl⟩) (by kernel_rfl) (fun xs h => by
      rw [Tryd.params10] at h
      obtain ⟨x0, r, rfl, h0, h⟩ := args_cons h
      obtain ⟨x1, r, rfl, h1, h⟩ := args_cons h
      obtain ⟨x2, r, rfl, h2, h⟩ := args_cons h
      obtain rfl := args_nil h
      obtain ⟨s0, rfl, q0⟩ := shp_str h0
      obtain ⟨s1, rfl, q1⟩ := shp_str h1
      obtain ⟨n2, rfl, q2⟩ := shp_intT te_3 rfl h2
      exact (behind_ok _ _ _ q0 q1).args ⟨LeD.refl _, LeD.refl _, LeD.refl _, trivial⟩)

theorem lexBehind_row : Rows.LexBehindSaid :=
  OpenClaim.holds_of_wide 10 Tryd.f10 rfl rfl rfl rfl rfl rfl rfl ⟨rfl, rfl, rfl, rfl, rfl⟩ rfl rfl rfl rfl rfl (by kernel_rfl) Tryd.func10 (by kernel_rfl)
    (of_decide_eq_true (by kernel_rfl)) (by unfold Func.isWrapper; rw [if_neg (by decide +kernel)]; exact ⟨rfl, rfl⟩)
    (fun os started H enc _ => lexBehind_lifted os started H enc)
theorem lexBehind_holds : Rows.LexBehindCardSaid :=
  Claim7.holds_tied_plain_at .later [] [.data, .data, .data, .sentinel, .sentinel, .listed, .data] true (true, "12527d5cdd446b7aa51d818c03b1d98ae2ecc1289a336f49796426920ca6fa37") true
    lexBehind_row (fun _ h => by cases h) (by kernel_rfl) (fun _ h => by cases h) lexBehind_row_tie rfl ⟨rfl, rfl⟩ (by kernel_rfl) rfl
    (fun f fn hf hfn => by
      obtain rfl : f = 10 := Option.some.inj ((show Tryd.prog.funcNamed Rows.lexBehindRow.func = some 10 by kernel_rfl).symm.trans hf) |>.symm
      obtain rfl : fn = Tryd.f10 := (Option.some.inj (Tryd.func10.symm.trans hfn)).symm
      exact ⟨by kernel_rfl, fun j t ht => by
        rw [Tryd.params10] at ht
        have hm : t ∈ [9, 9, 3] := by simpa using Array.mem_of_getElem? ht
        have hall : ([9, 9, 3].all fun u => !Tryd.prog.wantsStandIn u) = true := by kernel_rfl
        exact (show Tryd.prog.wantsStandIn t = false by simpa using List.all_eq_true.1 hall t hm)⟩)
    (by kernel_rfl)
end Go.Proofs.YtmnponhhmkdcdaaDoor
