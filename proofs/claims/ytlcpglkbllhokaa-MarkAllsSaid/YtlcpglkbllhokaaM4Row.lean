/- Contracts of functions of the seat, walked. -/
import Derived.Test.YtlcpglkbllhokaaM4
import Derived.Test.YtlcpglkbllhokaaMRow
namespace Go.Proofs.Ytlcpglkbllhokaa
open Go.Kin

theorem markAlls_lifted (os : Os) (started : os.Started) (H : Type) (enc : TypeId × Value → H) :
    ReturnsInHanded {} Try.checked os 6 .any (Rows.markAllsSpec.pre6 enc Try.prog Try.f6 Rows.markAllsRow.domain false) (Rows.markAllsSpec.post enc Try.prog Try.f6 false true false false) :=
  law_row (C := Try.checked) (P := Try.prog) (tb := 4) tys tys_ok rfl te_ok own_ok laid_ok started (by kernel_rfl) Try.func6
    (ChangeSpec.witness6 (enc := enc) (C := Try.checked) false ⟨#[], #[.int .i64 0, .int .i64 0, .slice none 0 0], []⟩ 8 (by kernel_rfl) (by kernel_rfl) (by kernel_rfl) (by kernel_rfl))
    rfl rfl Try.underlying4 (fun ds h => by
      have h2 : ds.length = 3 := h.trans (by rw [Try.params6]; rfl)
      match ds, h2 with
      | [_, _, _], _ => exact ⟨rfl, rfl, rfl⟩) (by kernel_rfl) (fun xs h => by
      rw [Try.params6] at h
      obtain ⟨x0, r, rfl, h0, h⟩ := args_cons h
      obtain ⟨x1, r, rfl, h1, h⟩ := args_cons h
      obtain ⟨x2, r, rfl, h2, h⟩ := args_cons h
      obtain rfl := args_nil h
      obtain ⟨n0, rfl, hn0⟩ := shp_int h0
      obtain ⟨n1, rfl, hn1⟩ := shp_int h1
      obtain ⟨l2, hle2, hl2, hk2, _⟩ := shp_slice (f := fun n => [iv n]) te_33 rfl te_3 (fun m ds h => shp1_int h) h2
      exact (alls_ok hn0 hn1 l2 hl2 hk2).args ⟨LeD.refl _, LeD.refl _, hle2.le, trivial⟩)

theorem markAlls_holds : Rows.MarkAllsSaid :=
  OpenClaim.holds_of_wide 6 Try.f6 rfl rfl rfl rfl rfl rfl rfl ⟨rfl, rfl, rfl, rfl, rfl⟩ rfl rfl rfl rfl rfl (by kernel_rfl) Try.func6 (by kernel_rfl)
    (of_decide_eq_true (by kernel_rfl)) (by unfold Func.isWrapper; rw [if_neg (by decide +kernel)]; exact ⟨rfl, rfl⟩)
    (fun os started H enc _ => markAlls_lifted os started H enc)
end Go.Proofs.Ytlcpglkbllhokaa
