/- Contracts of functions of the seat, walked. -/
import Derived.Test.YtlcpglkbllhokaaMOr
import Derived.Test.YtlcpglkbllhokaaMRow
namespace Go.Proofs.Ytlcpglkbllhokaa
open Go.Kin

theorem order_lifted (os : Os) (started : os.Started) (H : Type) (enc : TypeId × Value → H) :
    ReturnsInHanded {} Try.checked os 4 .any (Rows.markOrderSpec.pre6 enc Try.prog Try.f4 Rows.markOrderRow.domain false) (Rows.markOrderSpec.post enc Try.prog Try.f4 false true false false) :=
  law_row (C := Try.checked) (P := Try.prog) (tb := 4) tys tys_ok rfl te_ok own_ok laid_ok started (by kernel_rfl) Try.func4
    (ChangeSpec.witness6 (enc := enc) (C := Try.checked) false ⟨#[], #[.int .i64 0, .slice none 0 0, .int .i64 0], []⟩ 8 (by kernel_rfl) (by kernel_rfl) (by kernel_rfl) (by kernel_rfl))
    rfl rfl Try.underlying4 (fun ds h => by
      have h2 : ds.length = 3 := h.trans (by rw [Try.params4]; rfl)
      match ds, h2 with
      | [_, _, _], _ => exact ⟨rfl, rfl, rfl⟩) (by kernel_rfl) (fun xs h => by
      rw [Try.params4] at h
      obtain ⟨x, r, rfl, h1, h⟩ := args_cons h
      obtain ⟨y, r, rfl, h2, h⟩ := args_cons h
      obtain ⟨z, r, rfl, h3, h⟩ := args_cons h
      obtain rfl := args_nil h
      obtain ⟨n, rfl, hn⟩ := shp_int h1
      obtain ⟨l, hl, h4, h5, _⟩ := shp_slice (f := fun n => [iv n]) te_33 rfl te_3 (fun m ds h => shp1_int h) h2
      obtain ⟨t, rfl, _⟩ := shp_int h3
      exact (order_ok hn l h4 h5 t).args ⟨LeD.refl _, hl.le, LeD.refl _, trivial⟩)

theorem markOrder_holds : Rows.MarkOrderSaid :=
  OpenClaim.holds_of_wide 4 Try.f4 rfl rfl rfl rfl rfl rfl rfl ⟨rfl, rfl, rfl, rfl, rfl⟩ rfl rfl rfl rfl rfl (by kernel_rfl) Try.func4 (by kernel_rfl)
    (of_decide_eq_true (by kernel_rfl)) (by unfold Func.isWrapper; rw [if_neg (by decide +kernel)]; exact ⟨rfl, rfl⟩)
    (fun os started H enc _ => order_lifted os started H enc)
end Go.Proofs.Ytlcpglkbllhokaa
