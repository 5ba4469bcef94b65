/- A law of the seat: for every input it answers true, its arguments read as before; the listed variables hold what the program lays. -/
import Derived.Test.YtmnponhhmkdcdaaDoorV9
import Derived.Test.YtmnponhhmkdcdaaDoorDRow
import Derived.Test.YtmnponhhmkdcdaaDoorKRow2
import Derived.SevenTiedAt
namespace Go.Proofs.YtmnponhhmkdcdaaDoor
open Go.Kin
set_option maxRecDepth 100000
def tys2 : List TypeId := [3, 4, 9, 22, 24, 34, 39, 61]
theorem tys2_ok : okAll te tys2 = true := by kernel_rfl
theorem shp1_rows {m : Nat} {ds : List D} (h : Shp te m 39 ds) : ∃ l : List Vl, LeDs ds [rowD l] ∧ l.length ≤ 140737488355328 := by
  obtain ⟨l, g1, _, g3, _⟩ := shp1_slice (f := vC) (p := fun _ => True) te_39 rfl te_24 (fun _ => rfl) (fun m' ds _ h => by
    obtain ⟨v, rfl, _⟩ := shp1_val h
    exact ⟨v, LeDs.refl _, trivial⟩) h
  exact ⟨l, g1, g3⟩

theorem valueOnce_lifted (os : Os) (started : os.Started) (H : Type) (enc : TypeId × Value → H) :
    ReturnsInHanded {} Tryd.checked os 11 .any (fun w args => (Rows.valueOnceSpec.pre enc Tryd.prog Tryd.f11 [] false w args ∧ laidMetH Tryd.prog laidV w) ∧ sizedMet enc Tryd.prog Tryd.f11 (OpenSpec.ofChange Rows.valueOnceSpec) false w args) (Rows.valueOnceSpec.post enc Tryd.prog Tryd.f11 false true false false) :=
  law_rowL (C := Tryd.checked) (P := Tryd.prog) (tb := 4) (X := fun w _ => laidMetH Tryd.prog laidV w) (fun _ _ _ hh h => h.of_heap hh) (fun _ _ h => laidV_laid h) tys2 tys2_ok rfl te_ok own_ok laid_ok started (by kernel_rfl) Tryd.func11
    (ChangeSpec.witness_shaped (enc := enc) (C := Tryd.checked) (os := os) (X := fun w _ => laidMetH Tryd.prog laidV w) false (World.doorLaid Tryd.prog 86 os) #[.slice none 0 0, .int .i64 0] 8 rfl (World.shaped_of_RefB (by kernel_rfl) (by kernel_rfl)) (by kernel_rfl) (by kernel_rfl) (by kernel_rfl) (doorV os _))
    rfl rfl Tryd.underlying4 (fun ds h => by
      have h2 : ds.length = 2 := h.trans (by rw [Tryd.params11]; rfl)
      match ds, h2 with
      | [_, _], _ => exact ⟨rfl, rfl, rfl⟩) (by kernel_rfl) (fun xs h => by
      rw [Tryd.params11] at h
      obtain ⟨x0, r, rfl, h0, h⟩ := args_cons h
      obtain ⟨x1, r, rfl, h1, h⟩ := args_cons h
      obtain rfl := args_nil h
      obtain ⟨l0, le0, q0, k0, j0⟩ := argShp_slice (f := fun y => [rowD y]) (p := fun y => y.length ≤ 140737488355328) te_61 rfl te_39 (fun _ => rfl) (fun m ds h => shp1_rows h) h0
      obtain ⟨n1, rfl, q1⟩ := shp_intT te_3 rfl h1
      exact (once_ok _ _ (by simp only [reachBytes] at j0; omega) q0).args ⟨le0, LeD.refl _, trivial⟩)

theorem valueOnce_row : Rows.ValueOnceSaid :=
  OpenClaim.holds_of_wide 11 Tryd.f11 rfl rfl rfl rfl rfl rfl rfl ⟨rfl, rfl, rfl, rfl, rfl⟩ rfl rfl rfl rfl rfl (by kernel_rfl) Tryd.func11 (by kernel_rfl)
    (of_decide_eq_true (by kernel_rfl)) (by unfold Func.isWrapper; rw [if_neg (by decide +kernel)]; exact ⟨rfl, rfl⟩)
    (fun os started H enc _ => valueOnce_lifted os started H enc)
theorem valueOnce_holds : Rows.ValueOnceCardSaid :=
  Claim7.holds_tied_plain_at .later [] [.data, .data, .data, .sentinel, .sentinel] true (true, "12527d5cdd446b7aa51d818c03b1d98ae2ecc1289a336f49796426920ca6fa37") true
    valueOnce_row (fun _ h => by cases h) (by kernel_rfl) (fun _ h => by cases h) valueOnce_row_tie rfl ⟨rfl, rfl⟩ (by kernel_rfl) rfl
    (fun f fn hf hfn => by
      obtain rfl : f = 11 := Option.some.inj ((show Tryd.prog.funcNamed Rows.valueOnceRow.func = some 11 by kernel_rfl).symm.trans hf) |>.symm
      obtain rfl : fn = Tryd.f11 := (Option.some.inj (Tryd.func11.symm.trans hfn)).symm
      exact ⟨by kernel_rfl, fun j t ht => by
        rw [Tryd.params11] at ht
        have hm : t ∈ [61, 3] := by simpa using Array.mem_of_getElem? ht
        have hall : ([61, 3].all fun u => !Tryd.prog.wantsStandIn u) = true := by kernel_rfl
        exact (show Tryd.prog.wantsStandIn t = false by simpa using List.all_eq_true.1 hall t hm)⟩)
    (by kernel_rfl)
end Go.Proofs.YtmnponhhmkdcdaaDoor
