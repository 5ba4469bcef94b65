/- Contracts of functions of the seat, walked. -/
import Derived.Test.YtmnponhhmkdcdaaDoorV2
namespace Go.Proofs.YtmnponhhmkdcdaaDoor
open Go.Kin
set_option linter.unusedSimpArgs false
set_option linter.unusedVariables false
set_option maxRecDepth 100000
set_option maxHeartbeats 0
abbrev rowsD (x : List (List Vl)) : D := .sl 1 x.length x.length fun i => [rowD (nth x i)]
attribute [go_sem] rowsD te_61
def sizeG : List (List Vl) → Nat → Nat
  | [], t => t
  | x :: r, t => if t ≤ 400 then sizeG r (t + x.length) else t
def sizeL (l : List (List Vl)) : Nat := sizeG l l.length
theorem sizeG_ge : ∀ (l : List (List Vl)) (t : Nat), t ≤ sizeG l t
  | [], t => Nat.le_refl _
  | x :: r, t => by
    simp only [sizeG]; split
    · have := sizeG_ge r (t + x.length); omega
    · exact Nat.le_refl _
theorem sizeG_small : ∀ (l : List (List Vl)) (t : Nat), sizeG l t ≤ 400 → ∀ x ∈ l, x.length ≤ 400
  | [], _, _, x, hx => by cases hx
  | y :: r, t, h, x, hx => by
    simp only [sizeG] at h
    split at h
    · have h2 := sizeG_ge r (t + y.length)
      rcases List.mem_cons.1 hx with rfl | hx
      · omega
      · exact sizeG_small r _ h x hx
    · omega
theorem drop_nth {α : Type} [Inhabited α] {l : List α} {i : Nat} (h : i < l.length) : l.drop i = nth l i :: l.drop (i + 1) := by
  rw [List.drop_eq_getElem_cons h]
  congr 1
  exact (nth_of (List.getElem?_eq_getElem h)).symm
theorem sizeG_step {l : List (List Vl)} {i t : Nat} (h : i < l.length) (ht : t ≤ 400) : sizeG (l.drop i) t = sizeG (l.drop (i + 1)) (t + (nth l i).length) := by
  rw [drop_nth h]; simp only [sizeG, if_pos ht]
theorem sizeG_stop {l : List (List Vl)} {i t : Nat} (h : l.length ≤ i ∨ 400 < t) : sizeG (l.drop i) t = t := by
  rcases h with h | h
  · rw [List.drop_eq_nil_of_le h]; rfl
  · cases l.drop i with
    | nil => rfl
    | cons x r => simp only [sizeG]; rw [if_neg (by omega)]

theorem size_ok (x : List (List Vl)) (hx0 : x.length ≤ 17592186044416) (hx1 : ∀ y ∈ x, y.length ≤ 140737488355328) : FnOK Laid Tryd.prog 34 [rowsD x] (iv (sizeL x)) := by
  refine FnOK_of laid_stable Tryd.func34 Tryd.ntmps34 rfl (by as_aux_lemma => kernel_rfl) (Nat.le_of_ble_eq_true rfl) (fun R hR => ?_)
  obtain ⟨_, b, cs, T, C⟩ := R
  obtain rfl : _ = Tryd.prog := hR.p
  refine Exec.seq ?_
  apply Exec.regionL te_ok
  · intro ops' Q hQ
    simp only [go_sem]
    repeat (refine And.intro (by first | assumption | omega | (simp only [Bool.not_eq_true', Bool.or_eq_false_iff, Bool.or_eq_true, Bool.and_eq_true, decide_eq_true_eq, decide_eq_false_iff_not, beq_iff_eq, Bool.not_eq_false']; omega) | (simp; done) | (simp; omega) | (intros; omega) | (simp_all; done) | (simp_all; omega)) ?_)
    exact hQ
  refine Exec.seq ?_
  apply Exec.regionL te_ok
  · intro ops' Q hQ
    simp only [go_sem]
    repeat (refine And.intro (by first | assumption | omega | (simp only [Bool.not_eq_true', Bool.or_eq_false_iff, Bool.or_eq_true, Bool.and_eq_true, decide_eq_true_eq, decide_eq_false_iff_not, beq_iff_eq, Bool.not_eq_false']; omega) | (simp; done) | (simp; omega) | (intros; omega) | (simp_all; done) | (simp_all; omega)) ?_)
    exact hQ
  refine Exec.seq ?_
  refine Exec.seq ?_
  apply Exec.regionL te_ok
  · intro ops' Q hQ
    simp only [go_sem]
    repeat (refine And.intro (by first | assumption | omega | (simp only [Bool.not_eq_true', Bool.or_eq_false_iff, Bool.or_eq_true, Bool.and_eq_true, decide_eq_true_eq, decide_eq_false_iff_not, beq_iff_eq, Bool.not_eq_false']; omega) | (simp; done) | (simp; omega) | (intros; omega) | (simp_all; done) | (simp_all; omega)) ?_)
    exact hQ
  refine Exec.block ?_
  apply Exec.loopU [0] (X := Nat × Nat) (fun ⟨i, t⟩ => [(4, .d (iv i)), (3, .d (iv t))]) (fun ⟨i, t⟩ => []) (fun ⟨i, t⟩ => []) (fun ⟨i, t⟩ => x.length - i) (fun ⟨i, t⟩ => i ≤ x.length ∧ sizeL x = sizeG (x.drop i) t) (0, x.length)
  case h0 =>
    exact ⟨Nat.zero_le _, rfl⟩
  case hw =>
    simp only [go_sem]
  case body =>
    rintro ⟨i, t⟩ hx ih0
    try simp only at hx
    apply Exec.norm
    · simp only [go_sem]
      rfl
    refine Exec.seq ?_
    refine Exec.seq ?_
    apply Exec.regionL te_ok
    · intro ops' Q hQ
      simp only [go_sem]
      repeat (refine And.intro (by first | assumption | omega | (simp only [Bool.not_eq_true', Bool.or_eq_false_iff, Bool.or_eq_true, Bool.and_eq_true, decide_eq_true_eq, decide_eq_false_iff_not, beq_iff_eq, Bool.not_eq_false']; omega) | (simp; done) | (simp; omega) | (intros; omega) | (simp_all; done) | (simp_all; omega)) ?_)
      exact hQ
    refine Exec.cond_split rfl (fun h0 => ?_) (fun h0 => ?_)
    · skip
      have hit : i < x.length ∧ t ≤ 400 := by simp at h0; omega
      obtain ⟨hi, ht⟩ := hit
      have hl := hx1 _ (nth_mem hi)
      have w1 : IntKind.i64.wrap ((t : Int) + ((nth x i).length : Int)) = ((t + (nth x i).length : Nat) : Int) := by rw [wrap_id (by omega)]; omega
      have w2 : IntKind.i64.wrap ((i : Int) + 1) = ((i + 1 : Nat) : Int) := by rw [wrap_id (by omega)]; omega
      refine Exec.skip ?_
      refine Exec.seq ?_
      refine Exec.block ?_
      apply Exec.regionL te_ok
      · intro ops' Q hQ
        simp only [go_sem, w1, w2]
        repeat (refine And.intro (by first | assumption | omega | (simp only [Bool.not_eq_true', Bool.or_eq_false_iff, Bool.or_eq_true, Bool.and_eq_true, decide_eq_true_eq, decide_eq_false_iff_not, beq_iff_eq, Bool.not_eq_false']; omega) | (simp; done) | (simp; omega) | (intros; omega) | (simp_all; done) | (simp_all; omega)) ?_)
        exact hQ
      refine Exec.inBlock ?_
      apply Exec.regionL te_ok
      · intro ops' Q hQ
        simp only [go_sem, w1, w2]
        repeat (refine And.intro (by first | assumption | omega | (simp only [Bool.not_eq_true', Bool.or_eq_false_iff, Bool.or_eq_true, Bool.and_eq_true, decide_eq_true_eq, decide_eq_false_iff_not, beq_iff_eq, Bool.not_eq_false']; omega) | (simp; done) | (simp; omega) | (intros; omega) | (simp_all; done) | (simp_all; omega)) ?_)
        exact hQ
      refine Exec.back (ih0 (i + 1, t + (nth x i).length) ?_ ?_) ?_ ?_ ?_ ?_ ?_ ?_ ?_
      · try simp only
        exact ⟨by omega, by rw [hx.2, sizeG_step hi ht]⟩
      · try simp only
        omega
      · rfl
      · rfl
      · (simp only [go_sem, w1, w2])
      · (simp only [go_sem, w1, w2])
      · (simp only [go_sem, w1, w2])
      · simp only [go_sem, w1, w2]
      · rfl
    · skip
      refine Exec.exit rfl ?_
      refine Exec.seq ?_
      apply Exec.regionL te_ok
      · intro ops' Q hQ
        simp only [go_sem]
        repeat (refine And.intro (by first | assumption | omega | (simp only [Bool.not_eq_true', Bool.or_eq_false_iff, Bool.or_eq_true, Bool.and_eq_true, decide_eq_true_eq, decide_eq_false_iff_not, beq_iff_eq, Bool.not_eq_false']; omega) | (simp; done) | (simp; omega) | (intros; omega) | (simp_all; done) | (simp_all; omega)) ?_)
        exact hQ
      refine Exec.rets hR te_ok rfl rfl rfl (LeX.le ?_) (.inr ⟨_, rfl⟩)
      simp only [go_sem]
      rw [hx.2, sizeG_stop]
      simp at h0; omega
theorem sameR_ok (x y : List (List Vl)) (hx0 : x.length ≤ 17592186044416) (hy0 : y.length ≤ 17592186044416) (hx1 : ∀ z ∈ x, z.length ≤ 140737488355328) (hy1 : ∀ z ∈ y, z.length ≤ 140737488355328) : FnOK Laid Tryd.prog 36 [rowsD x, rowsD y] (bv (decide (x = y))) := by
  refine FnOK_of laid_stable Tryd.func36 Tryd.ntmps36 rfl (by as_aux_lemma => kernel_rfl) (Nat.le_of_ble_eq_true rfl) (fun R hR => ?_)
  obtain ⟨_, b, cs, T, C⟩ := R
  obtain rfl : _ = Tryd.prog := hR.p
  refine Exec.seq ?_
  apply Exec.regionL te_ok
  · intro ops' Q hQ
    simp only [go_sem]
    repeat (refine And.intro (by first | assumption | omega | (simp only [Bool.not_eq_true', Bool.or_eq_false_iff, Bool.or_eq_true, Bool.and_eq_true, decide_eq_true_eq, decide_eq_false_iff_not, beq_iff_eq, Bool.not_eq_false']; omega) | (simp; done) | (simp; omega) | (intros; omega) | (simp_all; done) | (simp_all; omega)) ?_)
    exact hQ
  refine Exec.seq ?_
  refine Exec.seq ?_
  apply Exec.regionL te_ok
  · intro ops' Q hQ
    simp only [go_sem]
    repeat (refine And.intro (by first | assumption | omega | (simp only [Bool.not_eq_true', Bool.or_eq_false_iff, Bool.or_eq_true, Bool.and_eq_true, decide_eq_true_eq, decide_eq_false_iff_not, beq_iff_eq, Bool.not_eq_false']; omega) | (simp; done) | (simp; omega) | (intros; omega) | (simp_all; done) | (simp_all; omega)) ?_)
    exact hQ
  refine Exec.cond_split rfl (fun h0 => ?_) (fun h0 => ?_)
  · skip
    refine Exec.seq ?_
    apply Exec.regionL te_ok
    · intro ops' Q hQ
      simp only [go_sem]
      repeat (refine And.intro (by first | assumption | omega | (simp only [Bool.not_eq_true', Bool.or_eq_false_iff, Bool.or_eq_true, Bool.and_eq_true, decide_eq_true_eq, decide_eq_false_iff_not, beq_iff_eq, Bool.not_eq_false']; omega) | (simp; done) | (simp; omega) | (intros; omega) | (simp_all; done) | (simp_all; omega)) ?_)
      exact hQ
    refine Exec.rets hR te_ok rfl rfl rfl (LeX.le ?_) (.inr ⟨_, rfl⟩)
    simp only [go_sem]
    have : x ≠ y := fun e => by subst e; simp at h0
    simp [this]
  · skip
    have hl : x.length = y.length := by simp at h0; omega
    refine Exec.skip ?_
    refine Exec.seq ?_
    refine Exec.seq ?_
    apply Exec.regionL te_ok
    · intro ops' Q hQ
      simp only [go_sem]
      repeat (refine And.intro (by first | assumption | omega | (simp only [Bool.not_eq_true', Bool.or_eq_false_iff, Bool.or_eq_true, Bool.and_eq_true, decide_eq_true_eq, decide_eq_false_iff_not, beq_iff_eq, Bool.not_eq_false']; omega) | (simp; done) | (simp; omega) | (intros; omega) | (simp_all; done) | (simp_all; omega)) ?_)
      exact hQ
    refine Exec.block ?_
    apply Exec.loopU [0, 1] (X := Nat) (fun i => [(5, .d (iv i))]) (fun i => []) (fun i => []) (fun i => x.length - i) (fun i => i ≤ x.length ∧ x.take i = y.take i) 0
    case h0 =>
      simp
    case hw =>
      simp only [go_sem]
    case body =>
      rintro i hx ih0
      try simp only at hx
      apply Exec.norm
      · simp only [go_sem]
        rfl
      refine Exec.seq ?_
      refine Exec.seq ?_
      apply Exec.regionL te_ok
      · intro ops' Q hQ
        simp only [go_sem]
        repeat (refine And.intro (by first | assumption | omega | (simp only [Bool.not_eq_true', Bool.or_eq_false_iff, Bool.or_eq_true, Bool.and_eq_true, decide_eq_true_eq, decide_eq_false_iff_not, beq_iff_eq, Bool.not_eq_false']; omega) | (simp; done) | (simp; omega) | (intros; omega) | (simp_all; done) | (simp_all; omega)) ?_)
        exact hQ
      refine Exec.cond_split rfl (fun h1 => ?_) (fun h1 => ?_)
      · skip
        have hi : i < x.length := by simp at h1; omega
        have w2 : IntKind.i64.wrap ((i : Int) + 1) = ((i + 1 : Nat) : Int) := by rw [wrap_id (by omega)]; omega
        refine Exec.skip ?_
        refine Exec.seq ?_
        refine Exec.block ?_
        refine Exec.seq ?_
        apply Exec.draw (st := _) 11 10 [] [] te_ok (by as_aux_lemma => kernel_rfl) (by as_aux_lemma => kernel_rfl) (by as_aux_lemma => kernel_rfl)
        · intro ops' Q hQ
          simp only [go_sem, w2]
          repeat (refine And.intro (by first | assumption | omega | (simp only [Bool.not_eq_true', Bool.or_eq_false_iff, Bool.or_eq_true, Bool.and_eq_true, decide_eq_true_eq, decide_eq_false_iff_not, beq_iff_eq, Bool.not_eq_false']; omega) | (simp; done) | (simp; omega) | (intros; omega) | (simp_all; done) | (simp_all; omega)) ?_)
          refine kdcall hR.inv te_ok rfl rfl rfl rfl rfl rfl (sameV_ok _ _ (hx1 _ (nth_mem hi)) (hy1 _ (nth_mem (hl ▸ hi)))) ?_
          simp only [go_sem, w2]
          repeat (refine And.intro (by first | assumption | omega | (simp only [Bool.not_eq_true', Bool.or_eq_false_iff, Bool.or_eq_true, Bool.and_eq_true, decide_eq_true_eq, decide_eq_false_iff_not, beq_iff_eq, Bool.not_eq_false']; omega) | (simp; done) | (simp; omega) | (intros; omega) | (simp_all; done) | (simp_all; omega)) ?_)
          exact hQ
        refine Exec.cond_split rfl (fun h2 => ?_) (fun h2 => ?_)
        · skip
          refine Exec.seq ?_
          apply Exec.regionL te_ok
          · intro ops' Q hQ
            simp only [go_sem, w2]
            repeat (refine And.intro (by first | assumption | omega | (simp only [Bool.not_eq_true', Bool.or_eq_false_iff, Bool.or_eq_true, Bool.and_eq_true, decide_eq_true_eq, decide_eq_false_iff_not, beq_iff_eq, Bool.not_eq_false']; omega) | (simp; done) | (simp; omega) | (intros; omega) | (simp_all; done) | (simp_all; omega)) ?_)
            exact hQ
          refine Exec.rets hR te_ok rfl rfl rfl (LeX.le ?_) (.inr ⟨_, rfl⟩)
          simp only [go_sem]
          have : x ≠ y := fun e => by subst e; simp at h2
          simp [this]
        · skip
          refine Exec.skip ?_
          refine Exec.inBlock ?_
          apply Exec.regionL te_ok
          · intro ops' Q hQ
            simp only [go_sem, w2]
            repeat (refine And.intro (by first | assumption | omega | (simp only [Bool.not_eq_true', Bool.or_eq_false_iff, Bool.or_eq_true, Bool.and_eq_true, decide_eq_true_eq, decide_eq_false_iff_not, beq_iff_eq, Bool.not_eq_false']; omega) | (simp; done) | (simp; omega) | (intros; omega) | (simp_all; done) | (simp_all; omega)) ?_)
            exact hQ
          refine Exec.back (ih0 (i + 1) ?_ ?_) ?_ ?_ ?_ ?_ ?_ ?_ ?_
          · try simp only
            exact ⟨by omega, (same_step hl hi hx.2).2 (by simpa using h2)⟩
          · try simp only
            omega
          · rfl
          · rfl
          · (simp only [go_sem, w2])
          · (simp only [go_sem, w2])
          · (simp only [go_sem, w2])
          · simp only [go_sem, w2]
          · rfl
      · skip
        refine Exec.exit rfl ?_
        refine Exec.seq ?_
        apply Exec.regionL te_ok
        · intro ops' Q hQ
          simp only [go_sem]
          repeat (refine And.intro (by first | assumption | omega | (simp only [Bool.not_eq_true', Bool.or_eq_false_iff, Bool.or_eq_true, Bool.and_eq_true, decide_eq_true_eq, decide_eq_false_iff_not, beq_iff_eq, Bool.not_eq_false']; omega) | (simp; done) | (simp; omega) | (intros; omega) | (simp_all; done) | (simp_all; omega)) ?_)
          exact hQ
        refine Exec.rets hR te_ok rfl rfl rfl (LeX.le ?_) (.inr ⟨_, rfl⟩)
        simp only [go_sem]
        have : x = y := by have := hx.2; simp at h1; rw [List.take_of_length_le (by omega), List.take_of_length_le (by omega)] at this; exact this
        simp [this]
theorem within_no {x y : List (List Vl)} {i : Nat} (hi : i < x.length) (h : nth x i ∉ y) : decide (∀ a ∈ x, a ∈ y) = false := decide_eq_false fun q => h (q _ (nth_mem hi))
theorem mem_take_succ {y : List (List Vl)} {j : Nat} {a : List Vl} (hj : j < y.length) : a ∈ y.take (j + 1) ↔ a ∈ y.take j ∨ a = nth y j := by rw [take_nth hj]; simp

theorem within_ok (x y : List (List Vl)) (hx0 : x.length ≤ 17592186044416) (hy0 : y.length ≤ 17592186044416) (hx1 : ∀ z ∈ x, z.length ≤ 140737488355328) (hy1 : ∀ z ∈ y, z.length ≤ 140737488355328) : FnOK Laid Tryd.prog 37 [rowsD x, rowsD y] (bv (decide (∀ a ∈ x, a ∈ y))) := by
  refine FnOK_of laid_stable Tryd.func37 Tryd.ntmps37 rfl (by as_aux_lemma => kernel_rfl) (Nat.le_of_ble_eq_true rfl) (fun R hR => ?_)
  obtain ⟨_, b, cs, T, C⟩ := R
  obtain rfl : _ = Tryd.prog := hR.p
  refine Exec.seq ?_
  apply Exec.regionL te_ok
  · intro ops' Q hQ
    simp only [go_sem]
    repeat (refine And.intro (by first | assumption | omega | (simp only [Bool.not_eq_true', Bool.or_eq_false_iff, Bool.or_eq_true, Bool.and_eq_true, decide_eq_true_eq, decide_eq_false_iff_not, beq_iff_eq, Bool.not_eq_false']; omega) | (simp; done) | (simp; omega) | (intros; omega) | (simp_all; done) | (simp_all; omega)) ?_)
    exact hQ
  refine Exec.seq ?_
  refine Exec.seq ?_
  apply Exec.regionL te_ok
  · intro ops' Q hQ
    simp only [go_sem]
    repeat (refine And.intro (by first | assumption | omega | (simp only [Bool.not_eq_true', Bool.or_eq_false_iff, Bool.or_eq_true, Bool.and_eq_true, decide_eq_true_eq, decide_eq_false_iff_not, beq_iff_eq, Bool.not_eq_false']; omega) | (simp; done) | (simp; omega) | (intros; omega) | (simp_all; done) | (simp_all; omega)) ?_)
    exact hQ
  refine Exec.block ?_
  apply Exec.loopU [0, 1] (X := Nat) (fun i => [(5, .d (iv i))]) (fun i => []) (fun i => []) (fun i => x.length - i) (fun i => i ≤ x.length ∧ ∀ a ∈ x.take i, a ∈ y) 0
  case h0 =>
    exact ⟨Nat.zero_le _, by simp⟩
  case hw =>
    simp only [go_sem]
  case body =>
    rintro i hx ih0
    try simp only at hx
    apply Exec.norm
    · simp only [go_sem]
      rfl
    refine Exec.seq ?_
    refine Exec.seq ?_
    apply Exec.regionL te_ok
    · intro ops' Q hQ
      simp only [go_sem]
      repeat (refine And.intro (by first | assumption | omega | (simp only [Bool.not_eq_true', Bool.or_eq_false_iff, Bool.or_eq_true, Bool.and_eq_true, decide_eq_true_eq, decide_eq_false_iff_not, beq_iff_eq, Bool.not_eq_false']; omega) | (simp; done) | (simp; omega) | (intros; omega) | (simp_all; done) | (simp_all; omega)) ?_)
      exact hQ
    refine Exec.cond_split rfl (fun h0 => ?_) (fun h0 => ?_)
    · skip
      have hi : i < x.length := by simp at h0; omega
      have w2 : IntKind.i64.wrap ((i : Int) + 1) = ((i + 1 : Nat) : Int) := by rw [wrap_id (by omega)]; omega
      refine Exec.skip ?_
      refine Exec.seq ?_
      refine Exec.block ?_
      refine Exec.seq ?_
      apply Exec.regionL te_ok
      · intro ops' Q hQ
        simp only [go_sem, w2]
        repeat (refine And.intro (by first | assumption | omega | (simp only [Bool.not_eq_true', Bool.or_eq_false_iff, Bool.or_eq_true, Bool.and_eq_true, decide_eq_true_eq, decide_eq_false_iff_not, beq_iff_eq, Bool.not_eq_false']; omega) | (simp; done) | (simp; omega) | (intros; omega) | (simp_all; done) | (simp_all; omega)) ?_)
        exact hQ
      refine Exec.seq ?_
      refine Exec.seq ?_
      apply Exec.regionL te_ok
      · intro ops' Q hQ
        simp only [go_sem, w2]
        repeat (refine And.intro (by first | assumption | omega | (simp only [Bool.not_eq_true', Bool.or_eq_false_iff, Bool.or_eq_true, Bool.and_eq_true, decide_eq_true_eq, decide_eq_false_iff_not, beq_iff_eq, Bool.not_eq_false']; omega) | (simp; done) | (simp; omega) | (intros; omega) | (simp_all; done) | (simp_all; omega)) ?_)
        exact hQ
      refine Exec.block ?_
      apply Exec.loopU [0, 1, 5] (X := Nat × Bool) (fun ⟨j, v⟩ => [(7, .d (iv j)), (6, .d (bv v))]) (fun ⟨j, v⟩ => []) (fun ⟨j, v⟩ => []) (fun ⟨j, v⟩ => y.length - j) (fun ⟨j, v⟩ => j ≤ y.length ∧ (v = true ↔ nth x i ∈ y.take j)) (0, false)
      case h0 =>
        exact ⟨Nat.zero_le _, by simp⟩
      case hw =>
        simp only [go_sem, w2]
      case body =>
        rintro ⟨j, v⟩ hv ih1
        try simp only at hv
        apply Exec.norm
        · simp only [go_sem, w2]
          rfl
        refine Exec.seq ?_
        refine Exec.seq ?_
        apply Exec.regionL te_ok
        · intro ops' Q hQ
          simp only [go_sem, w2]
          repeat (refine And.intro (by first | assumption | omega | (simp only [Bool.not_eq_true', Bool.or_eq_false_iff, Bool.or_eq_true, Bool.and_eq_true, decide_eq_true_eq, decide_eq_false_iff_not, beq_iff_eq, Bool.not_eq_false']; omega) | (simp; done) | (simp; omega) | (intros; omega) | (simp_all; done) | (simp_all; omega)) ?_)
          exact hQ
        refine Exec.cond_split rfl (fun h1 => ?_) (fun h1 => ?_)
        · skip
          have hjv : j < y.length ∧ v = false := by simp at h1; omega
          obtain ⟨hj, hvf⟩ := hjv
          have w3 : IntKind.i64.wrap ((j : Int) + 1) = ((j + 1 : Nat) : Int) := by rw [wrap_id (by omega)]; omega
          refine Exec.skip ?_
          refine Exec.seq ?_
          refine Exec.block ?_
          apply Exec.draw (st := _) 11 10 [] [] te_ok (by as_aux_lemma => kernel_rfl) (by as_aux_lemma => kernel_rfl) (by as_aux_lemma => kernel_rfl)
          · intro ops' Q hQ
            simp only [go_sem, w2, w3]
            repeat (refine And.intro (by first | assumption | omega | (simp only [Bool.not_eq_true', Bool.or_eq_false_iff, Bool.or_eq_true, Bool.and_eq_true, decide_eq_true_eq, decide_eq_false_iff_not, beq_iff_eq, Bool.not_eq_false']; omega) | (simp; done) | (simp; omega) | (intros; omega) | (simp_all; done) | (simp_all; omega)) ?_)
            refine kdcall hR.inv te_ok rfl rfl rfl rfl rfl rfl (sameV_ok _ _ (hx1 _ (nth_mem hi)) (hy1 _ (nth_mem hj))) ?_
            simp only [go_sem, w2, w3]
            repeat (refine And.intro (by first | assumption | omega | (simp only [Bool.not_eq_true', Bool.or_eq_false_iff, Bool.or_eq_true, Bool.and_eq_true, decide_eq_true_eq, decide_eq_false_iff_not, beq_iff_eq, Bool.not_eq_false']; omega) | (simp; done) | (simp; omega) | (intros; omega) | (simp_all; done) | (simp_all; omega)) ?_)
            exact hQ
          refine Exec.inBlock ?_
          apply Exec.regionL te_ok
          · intro ops' Q hQ
            simp only [go_sem, w2, w3]
            repeat (refine And.intro (by first | assumption | omega | (simp only [Bool.not_eq_true', Bool.or_eq_false_iff, Bool.or_eq_true, Bool.and_eq_true, decide_eq_true_eq, decide_eq_false_iff_not, beq_iff_eq, Bool.not_eq_false']; omega) | (simp; done) | (simp; omega) | (intros; omega) | (simp_all; done) | (simp_all; omega)) ?_)
            exact hQ
          refine Exec.back (ih1 (j + 1, decide (nth x i = nth y j)) ?_ ?_) ?_ ?_ ?_ ?_ ?_ ?_ ?_
          · try simp only
            exact ⟨by omega, by
              have hq : nth x i ∉ y.take j := fun q => by have := hv.2.2 q; rw [hvf] at this; cases this
              rw [mem_take_succ hj]; simp [hq]⟩
          · try simp only
            omega
          · rfl
          · rfl
          · (simp only [go_sem, w2, w3])
          · (simp only [go_sem, w2, w3])
          · (simp only [go_sem, w2, w3])
          · simp only [go_sem, w2, w3]
          · rfl
        · skip
          refine Exec.exit rfl ?_
          refine Exec.seq ?_
          apply Exec.regionL te_ok
          · intro ops' Q hQ
            simp only [go_sem, w2]
            repeat (refine And.intro (by first | assumption | omega | (simp only [Bool.not_eq_true', Bool.or_eq_false_iff, Bool.or_eq_true, Bool.and_eq_true, decide_eq_true_eq, decide_eq_false_iff_not, beq_iff_eq, Bool.not_eq_false']; omega) | (simp; done) | (simp; omega) | (intros; omega) | (simp_all; done) | (simp_all; omega)) ?_)
            exact hQ
          refine Exec.cond_split rfl (fun h2 => ?_) (fun h2 => ?_)
          · skip
            refine Exec.seq ?_
            apply Exec.regionL te_ok
            · intro ops' Q hQ
              simp only [go_sem, w2]
              repeat (refine And.intro (by first | assumption | omega | (simp only [Bool.not_eq_true', Bool.or_eq_false_iff, Bool.or_eq_true, Bool.and_eq_true, decide_eq_true_eq, decide_eq_false_iff_not, beq_iff_eq, Bool.not_eq_false']; omega) | (simp; done) | (simp; omega) | (intros; omega) | (simp_all; done) | (simp_all; omega)) ?_)
              exact hQ
            refine Exec.rets hR te_ok rfl rfl rfl (LeX.le ?_) (.inr ⟨_, rfl⟩)
            simp only [go_sem]
            refine (within_no hi (fun hq => ?_)).symm
            have hv1 : v = false := by simpa using h2
            have hj : y.length ≤ j := by rw [hv1] at h1; simp at h1; omega
            have := hv.2.2 (by rw [List.take_of_length_le hj]; exact hq)
            rw [hv1] at this; cases this
          · skip
            refine Exec.skip ?_
            refine Exec.inBlock ?_
            apply Exec.regionL te_ok
            · intro ops' Q hQ
              simp only [go_sem, w2]
              repeat (refine And.intro (by first | assumption | omega | (simp only [Bool.not_eq_true', Bool.or_eq_false_iff, Bool.or_eq_true, Bool.and_eq_true, decide_eq_true_eq, decide_eq_false_iff_not, beq_iff_eq, Bool.not_eq_false']; omega) | (simp; done) | (simp; omega) | (intros; omega) | (simp_all; done) | (simp_all; omega)) ?_)
              exact hQ
            refine Exec.back (ih0 (i + 1) ?_ ?_) ?_ ?_ ?_ ?_ ?_ ?_ ?_
            · try simp only
              exact ⟨by omega, fun a ha => by
                rw [take_nth hi] at ha
                rcases List.mem_append.1 ha with h | h
                · exact hx.2 a h
                · simp at h; subst h; simp at h2; exact List.mem_of_mem_take (hv.2.1 h2)⟩
            · try simp only
              omega
            · rfl
            · rfl
            · (simp only [go_sem, w2])
            · (simp only [go_sem, w2])
            · (simp only [go_sem, w2])
            · simp only [go_sem, w2]
            · rfl
    · skip
      refine Exec.exit rfl ?_
      refine Exec.seq ?_
      apply Exec.regionL te_ok
      · intro ops' Q hQ
        simp only [go_sem]
        repeat (refine And.intro (by first | assumption | omega | (simp only [Bool.not_eq_true', Bool.or_eq_false_iff, Bool.or_eq_true, Bool.and_eq_true, decide_eq_true_eq, decide_eq_false_iff_not, beq_iff_eq, Bool.not_eq_false']; omega) | (simp; done) | (simp; omega) | (intros; omega) | (simp_all; done) | (simp_all; omega)) ?_)
        exact hQ
      refine Exec.rets hR te_ok rfl rfl rfl (LeX.le ?_) (.inr ⟨_, rfl⟩)
      simp only [go_sem]
      have hl : x.length ≤ i := by have := of_decide_eq_false h0; omega
      have hq := hx.2
      rw [List.take_of_length_le hl] at hq
      exact (decide_eq_true hq).symm
end Go.Proofs.YtmnponhhmkdcdaaDoor
