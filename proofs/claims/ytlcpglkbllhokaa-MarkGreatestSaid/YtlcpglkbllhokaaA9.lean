/- Contracts of functions of the seat, walked. -/
import Derived.Test.YtlcpglkbllhokaaA8
import Derived.Test.YtlcpglkbllhokaaKRow
import Derived.Test.YtlcpglkbllhokaaChecked
namespace Go.Proofs.Ytlcpglkbllhokaa
set_option linter.unusedSimpArgs false
set_option maxRecDepth 100000
set_option maxHeartbeats 0
open Go.Kin

theorem own_ok : ownKnob Try.prog.godebug = none := by kernel_rfl
theorem laid_ok : laidOutB Try.prog = true := by kernel_rfl

theorem shp_int {x : D} (h : ArgShp te 4 3 x) : ∃ n, x = iv n ∧ I64 n := by
  obtain ⟨ds, h1, h2⟩ := h
  simp only [Shp, te_3] at h1
  obtain ⟨n, rfl, h3⟩ := h1
  simp [aggT, te_3, aggD] at h2
  exact ⟨n, h2.symm, h3⟩
theorem shp_deeds {x : D} (h : ArgShp te 4 22 x) : ∃ l : List (Bool × Int), x = .sl 2 (rowsD l) ∧ (∀ y ∈ l, I64 y.2) ∧ l.length ≤ topLen := by
  obtain ⟨ds, h1, h2⟩ := h
  simp only [Shp, te_22, te_30, te_3, te_4, ShpFs] at h1
  obtain ⟨es, rfl, hl, hr⟩ := h1
  simp [aggT, te_22, aggD] at h2
  subst h2
  have key : ∀ es : List (List D), (∀ row ∈ es, ∃ b n, row = [.v (.bool b), iv n] ∧ I64 n) → ∃ l : List (Bool × Int), es = rowsD l ∧ ∀ y ∈ l, I64 y.2 := by
    intro es
    induction es with
    | nil => exact fun _ => ⟨[], rfl, by simp⟩
    | cons row r ih =>
      intro h
      obtain ⟨b, n, rfl, hn⟩ := h row (List.mem_cons_self ..)
      obtain ⟨l, rfl, hl⟩ := ih fun row hr => h row (List.mem_cons_of_mem _ hr)
      exact ⟨(b, n) :: l, rfl, fun y hy => by rcases List.mem_cons.1 hy with rfl | hy; exact hn; exact hl y hy⟩
  obtain ⟨l, rfl, hy⟩ := key es fun row hrow => by
    obtain ⟨d1, d2, rfl, ⟨b, rfl⟩, d3, d4, rfl, ⟨n, rfl, hn⟩, rfl⟩ := hr row hrow
    exact ⟨b, n, rfl, hn⟩
  exact ⟨l, rfl, hy, by simpa [rowsD] using hl⟩

theorem great_lifted (os : Os) (started : os.Started) (H : Type) (enc : TypeId × Value → H) :
    ReturnsInHanded {} Try.checked os 3 .any (Rows.markGreatestSpec.pre6 enc Try.prog Try.f3 Rows.markGreatestRow.domain false) (Rows.markGreatestSpec.post enc Try.prog Try.f3 false true false false) :=
  law_row (C := Try.checked) (P := Try.prog) (tb := 4) 4 rfl te_ok own_ok laid_ok started (by kernel_rfl) Try.func3
    (ChangeSpec.witness6 (enc := enc) (C := Try.checked) false ⟨#[], #[.int .i64 0, .slice none 0 0], []⟩ 8 (by kernel_rfl) (by kernel_rfl) (by kernel_rfl) (by kernel_rfl))
    rfl rfl Try.underlying4 (fun ds h => by
      have h2 : ds.length = 2 := h.trans (by rw [Try.params3]; rfl)
      match ds, h2 with
      | [_, _], _ => exact ⟨rfl, rfl, rfl⟩) (by kernel_rfl) (fun xs h => by
      rw [Try.params3] at h
      obtain ⟨x, r, rfl, h1, h⟩ := args_cons h
      obtain ⟨y, r, rfl, h2, h⟩ := args_cons h
      obtain rfl := args_nil h
      obtain ⟨n, rfl, hn⟩ := shp_int h1
      obtain ⟨l, rfl, h3, h4⟩ := shp_deeds h2
      exact great_ok hn l h3 h4)

theorem markGreatest_holds : Rows.MarkGreatestSaid :=
  OpenClaim.holds_of_wide 3 Try.f3 rfl rfl rfl rfl rfl rfl rfl ⟨rfl, rfl, rfl, rfl, rfl⟩ rfl rfl rfl rfl rfl (by kernel_rfl) Try.func3 (by kernel_rfl)
    (of_decide_eq_true (by kernel_rfl)) (by unfold Func.isWrapper; rw [if_neg (by decide +kernel)]; exact ⟨rfl, rfl⟩)
    (fun os started H enc _ => great_lifted os started H enc)
end Go.Proofs.Ytlcpglkbllhokaa
