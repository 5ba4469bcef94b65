/- Contracts of functions of the seat, walked. -/
import Derived.Test.YtlcpglkbllhokaaM2
import Derived.Test.YtlcpglkbllhokaaMRow
import Derived.Test.YtlcpglkbllhokaaChecked
namespace Go.Proofs.Ytlcpglkbllhokaa
open Go.Kin

theorem markDoes_lifted (os : Os) (started : os.Started) (H : Type) (enc : TypeId × Value → H) :
    ReturnsInHanded {} Try.checked os 5 .any (Rows.markDoesSpec.pre6 enc Try.prog Try.f5 Rows.markDoesRow.domain false) (Rows.markDoesSpec.post enc Try.prog Try.f5 false true false false) :=
  law_row (C := Try.checked) (P := Try.prog) (tb := 4) tys tys_ok rfl te_ok own_ok laid_ok started (by kernel_rfl) Try.func5
    (ChangeSpec.witness6 (enc := enc) (C := Try.checked) false ⟨#[], #[.int .i64 0, .slice none 0 0], []⟩ 8 (by kernel_rfl) (by kernel_rfl) (by kernel_rfl) (by kernel_rfl))
    rfl rfl Try.underlying4 (fun ds h => by
      have h2 : ds.length = 2 := h.trans (by rw [Try.params5]; rfl)
      match ds, h2 with
      | [_, _], _ => exact ⟨rfl, rfl, rfl⟩) (by kernel_rfl) (fun xs h => by
      rw [Try.params5] at h
      obtain ⟨x0, r, rfl, h0, h⟩ := args_cons h
      obtain ⟨x1, r, rfl, h1, h⟩ := args_cons h
      obtain rfl := args_nil h
      obtain ⟨n0, rfl, hn0⟩ := shp_int h0
      obtain ⟨l1, hle1, hl1, hk1, _⟩ := shp_slice (f := fun (x : Bool × Int) => [.v (.bool x.1), iv x.2]) te_22 rfl te_30 (fun m ds h => shp1_deed h) h1
      exact (does_ok hn0 l1 hl1 hk1).args ⟨LeD.refl _, hle1.le, trivial⟩)

theorem markDoes_holds : Rows.MarkDoesSaid :=
  OpenClaim.holds_of_wide 5 Try.f5 rfl rfl rfl rfl rfl rfl rfl ⟨rfl, rfl, rfl, rfl, rfl⟩ rfl rfl rfl rfl rfl (by kernel_rfl) Try.func5 (by kernel_rfl)
    (of_decide_eq_true (by kernel_rfl)) (by unfold Func.isWrapper; rw [if_neg (by decide +kernel)]; exact ⟨rfl, rfl⟩)
    (fun os started H enc _ => markDoes_lifted os started H enc)
end Go.Proofs.Ytlcpglkbllhokaa
