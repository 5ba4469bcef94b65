/- Contracts of functions of the seat, walked. -/
import Derived.Test.YtlcpglkbllhokaaM5
import Derived.Test.YtlcpglkbllhokaaMRow
namespace Go.Proofs.Ytlcpglkbllhokaa
open Go.Kin

theorem markSmall_lifted (os : Os) (started : os.Started) (H : Type) (enc : TypeId × Value → H) :
    ReturnsInHanded {} Try.checked os 7 .any (Rows.markSmallSpec.pre6 enc Try.prog Try.f7 Rows.markSmallRow.domain false) (Rows.markSmallSpec.post enc Try.prog Try.f7 false true false false) :=
  law_row (C := Try.checked) (P := Try.prog) (tb := 4) tys tys_ok rfl te_ok own_ok laid_ok started (by kernel_rfl) Try.func7
    (ChangeSpec.witness6 (enc := enc) (C := Try.checked) false ⟨#[], #[], []⟩ 8 (by kernel_rfl) (by kernel_rfl) (by kernel_rfl) (by kernel_rfl))
    rfl rfl Try.underlying4 (fun ds h => by
      have h2 : ds.length = 0 := h.trans (by rw [Try.params7]; rfl)
      match ds, h2 with
      | [], _ => exact ⟨rfl, rfl, rfl⟩) (by kernel_rfl) (fun xs h => by
      rw [Try.params7] at h
      obtain rfl := args_nil h
      exact small_ok)

theorem markSmall_holds : Rows.MarkSmallSaid :=
  OpenClaim.holds_of_wide 7 Try.f7 rfl rfl rfl rfl rfl rfl rfl ⟨rfl, rfl, rfl, rfl, rfl⟩ rfl rfl rfl rfl rfl (by kernel_rfl) Try.func7 (by kernel_rfl)
    (of_decide_eq_true (by kernel_rfl)) (by unfold Func.isWrapper; rw [if_neg (by decide +kernel)]; exact ⟨rfl, rfl⟩)
    (fun os started H enc _ => markSmall_lifted os started H enc)
end Go.Proofs.Ytlcpglkbllhokaa
