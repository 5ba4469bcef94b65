/- Contracts of functions of the seat, walked. -/
import Derived.Test.YtlcpglkbllhokaaM2
namespace Go.Proofs.Ytlcpglkbllhokaa
open Go.Kin
set_option linter.unusedSimpArgs false
set_option linter.unusedVariables false
set_option maxRecDepth 100000
set_option maxHeartbeats 0
def markI (k i : Int) : Int := IntKind.i64.wrap (IntKind.i64.wrap (1000003 * IntKind.i64.wrap (k + 7)) + i)
def marks1 : List Int := (List.range 12).map fun i => markI 1 (i : Nat)
theorem marks1_len : marks1.length = 12 := by simp [marks1]
theorem nth_marks {i : Nat} (h : i < 12) : nth marks1 i = markI 1 (i : Nat) := by
  have : marks1[i]? = some (markI 1 (i : Nat)) := by simp [marks1, h]
  simp [nth, this]
theorem nth_left {l r : List Int} {i : Nat} (h : i < l.length) : nth (l ++ r) i = nth l i := by simp [nth, List.getElem?_append_left h]
theorem nth_right {l r : List Int} {i : Nat} : nth (l ++ r) (l.length + i) = nth r i := by rw [nth_append_right (by omega)]; congr 1; omega
theorem lent_row {l : List Int} {i m : Nat} (hi : i < 12) (hm : m < l.length + (i + 1)) : catR (l.length + i) (fun k => [iv (nth (l ++ marks1) k)]) (lstR [[iv (markI 1 i)]]) m = [iv (nth (l ++ marks1) m)] := by
  unfold catR
  by_cases h : m < l.length + i
  · rw [if_pos h]
  · have : m = l.length + i := by omega
    subst this
    rw [if_neg (by omega), nth_right, nth_marks hi]
    simp [lstR]
/-- what is lent: the same, with marks behind it -/
def lentD (l : List Int) : D := .sl 1 l.length (l.length + 12) fun i => [iv (nth (l ++ marks1) i)]

theorem mark_ok (k i : Int) : FnOK Try.prog 32 [iv k, iv i] (iv (markI k i)) := by
  refine FnOK_of Try.func32 Try.ntmps32 rfl (by as_aux_lemma => kernel_rfl) (Nat.le_of_ble_eq_true rfl) (fun R hR => ?_)
  obtain ⟨_, b, cs, T, C⟩ := R
  obtain rfl : _ = Try.prog := hR.p
  refine Exec.seq ?_
  apply Exec.regionL te_ok
  · intro ops' Q hQ
    simp only [go_sem]
    repeat (refine And.intro (by first | assumption | omega | (simp; done) | (simp; omega) | (intros; omega) | (simp_all; done) | (simp_all; omega)) ?_)
    exact hQ
  refine Exec.seq ?_
  apply Exec.regionL te_ok
  · intro ops' Q hQ
    simp only [go_sem]
    repeat (refine And.intro (by first | assumption | omega | (simp; done) | (simp; omega) | (intros; omega) | (simp_all; done) | (simp_all; omega)) ?_)
    exact hQ
  refine Exec.rets hR te_ok rfl rfl rfl (LeX.le ?_) (.inr ⟨_, rfl⟩)
  simp only [go_sem, markI]
theorem values_ok (k n x : Nat) (row : Nat → List D) : FnOK Try.prog 20 [.sl k n x row] (.fn 33 [.ptr [.sl k n x row]]) := by
  refine FnOK_of Try.func20 Try.ntmps20 rfl (by as_aux_lemma => kernel_rfl) (Nat.le_of_ble_eq_true rfl) (fun R hR => ?_)
  obtain ⟨_, b, cs, T, C⟩ := R
  obtain rfl : _ = Try.prog := hR.p
  refine Exec.seq ?_
  apply Exec.regionL te_ok
  · intro ops' Q hQ
    simp only [go_sem]
    repeat (refine And.intro (by first | assumption | omega | (simp; done) | (simp; omega) | (intros; omega) | (simp_all; done) | (simp_all; omega)) ?_)
    exact hQ
  refine Exec.seq ?_
  apply Exec.regionL te_ok
  · intro ops' Q hQ
    simp only [go_sem]
    repeat (refine And.intro (by first | assumption | omega | (simp; done) | (simp; omega) | (intros; omega) | (simp_all; done) | (simp_all; omega)) ?_)
    exact hQ
  refine Exec.rets hR te_ok rfl rfl rfl (LeX.le ?_) (.inr ⟨_, rfl⟩)
  simp only [go_sem]
theorem lent_ok (l : List Int) (hl : l.length ≤ 100000) : FnOK Try.prog 18 [intsD l] (lentD l) := by
  refine FnOK_of Try.func18 Try.ntmps18 rfl (by as_aux_lemma => kernel_rfl) (Nat.le_of_ble_eq_true rfl) (fun R hR => ?_)
  obtain ⟨_, b, cs, T, C⟩ := R
  obtain rfl : _ = Try.prog := hR.p
  have hw12 : IntKind.i64.wrap ((l.length : Int) + 12) = ((l.length + 12 : Nat) : Int) := by rw [wrap_id (by constructor <;> omega)]; simp
  refine Exec.seq ?_
  apply Exec.regionL te_ok
  · intro ops' Q hQ
    simp only [go_sem, hw12]
    repeat (refine And.intro (by first | assumption | omega | (simp; done) | (simp; omega) | (intros; omega) | (simp_all; done) | (simp_all; omega)) ?_)
    exact hQ
  refine Exec.seq ?_
  apply Exec.regionL te_ok
  · intro ops' Q hQ
    simp only [go_sem, hw12]
    repeat (refine And.intro (by first | assumption | omega | (simp; done) | (simp; omega) | (intros; omega) | (simp_all; done) | (simp_all; omega)) ?_)
    exact hQ
  refine Exec.seq ?_
  apply Exec.regionL te_ok
  · intro ops' Q hQ
    simp only [go_sem, hw12]
    repeat (refine And.intro (by first | assumption | omega | (simp; done) | (simp; omega) | (intros; omega) | (simp_all; done) | (simp_all; omega)) ?_)
    exact hQ
  refine Exec.seq ?_
  refine Exec.seq ?_
  apply Exec.regionL te_ok
  · intro ops' Q hQ
    simp only [go_sem, hw12]
    repeat (refine And.intro (by first | assumption | omega | (simp; done) | (simp; omega) | (intros; omega) | (simp_all; done) | (simp_all; omega)) ?_)
    exact hQ
  refine Exec.block ?_
  apply Exec.loopU [0] (X := Nat) (fun i => [(4, .d (iv i)), (3, .own 8)]) (fun i => []) (fun i => [(8, ⟨3, 1, l.length + i, l.length + i, fun k => [iv (nth (l ++ marks1) k)]⟩)]) (fun i => 12 - i) (fun i => i ≤ 12) 0
  case h0 =>
    first | assumption | omega | (simp; done) | (simp; omega) | (intros; omega) | (simp_all; done) | (simp_all; omega)
  case hw =>
    simp only [go_sem]; intro i hi; rw [nth_left hi]
  case body =>
    rintro i hx ih0
    try simp only at hx
    apply Exec.norm
    · simp only [go_sem, hw12]
      rfl
    refine Exec.seq ?_
    refine Exec.seq ?_
    apply Exec.regionL te_ok
    · intro ops' Q hQ
      simp only [go_sem, hw12]
      repeat (refine And.intro (by first | assumption | omega | (simp; done) | (simp; omega) | (intros; omega) | (simp_all; done) | (simp_all; omega)) ?_)
      exact hQ
    refine Exec.cond_split rfl (fun h0 => ?_) (fun h0 => ?_)
    · skip
      have hi : i < 12 := by simp at h0; omega
      have hwi : IntKind.i64.wrap ((i : Int) + 1) = ((i + 1 : Nat) : Int) := by rw [wrap_id (by constructor <;> omega)]; simp
      refine Exec.skip ?_
      refine Exec.seq ?_
      refine Exec.block ?_
      apply Exec.regionL te_ok
      · intro ops' Q hQ
        simp only [go_sem, hw12, hwi]
        repeat (refine And.intro (by first | assumption | omega | (simp; done) | (simp; omega) | (intros; omega) | (simp_all; done) | (simp_all; omega)) ?_)
        refine kcall te_ok rfl rfl rfl rfl rfl rfl (mark_ok _ _) ?_
        simp only [go_sem, hw12, hwi]
        repeat (refine And.intro (by first | assumption | omega | (simp; done) | (simp; omega) | (intros; omega) | (simp_all; done) | (simp_all; omega)) ?_)
        exact hQ
      refine Exec.inBlock ?_
      apply Exec.regionL te_ok
      · intro ops' Q hQ
        simp only [go_sem, hw12, hwi]
        repeat (refine And.intro (by first | assumption | omega | (simp; done) | (simp; omega) | (intros; omega) | (simp_all; done) | (simp_all; omega)) ?_)
        exact hQ
      refine Exec.back (ih0 (i + 1) ?_ ?_) ?_ ?_ ?_ ?_ ?_ ?_ ?_
      · try simp only
        omega
      · try simp only
        omega
      · rfl
      · rfl
      · simp only [go_sem]
      · simp only [go_sem]
      · simp only [go_sem]
        exact ⟨by omega, .inl (by omega), fun m hm => lent_row hi hm⟩
      · simp only [go_sem, hw12, hwi]
      · rfl
    · skip
      refine Exec.exit rfl ?_
      refine Exec.seq ?_
      apply Exec.freeze 8 rfl
      apply Exec.norm
      · simp only [go_sem]
        rfl
      apply Exec.regionL te_ok
      · intro ops' Q hQ
        simp only [go_sem, hw12]
        repeat (refine And.intro (by first | assumption | omega | (simp; done) | (simp; omega) | (intros; omega) | (simp_all; done) | (simp_all; omega)) ?_)
        exact hQ
      refine Exec.rets hR te_ok rfl rfl rfl (LeX.le ?_) (.inr ⟨_, rfl⟩)
      have hi : i = 12 := by simp at h0; omega
      subst hi
      simp only [go_sem, lentD]
end Go.Proofs.Ytlcpglkbllhokaa
