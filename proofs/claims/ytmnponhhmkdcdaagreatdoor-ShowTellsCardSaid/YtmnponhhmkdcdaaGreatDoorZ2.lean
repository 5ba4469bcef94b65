/- Contracts of functions of the seat, walked. -/
import Derived.Test.YtmnponhhmkdcdaaGreatDoorZ1
import Derived.Test.YtmnponhhmkdcdaaGreatDoorExDef
namespace Go.Proofs.YtmnponhhmkdcdaaGreatDoor
open Go.Kin
set_option linter.unusedSimpArgs false
set_option linter.unusedVariables false
set_option maxRecDepth 100000
set_option maxHeartbeats 0
attribute [go_sem] exC exD exsD
theorem lfD_kd (x : Ex) : lfD (kdX x) = true := by rw [kd_eq]; rfl
attribute [go_sem ↓] lfD_kd

theorem rsize_step (x : Ex) (hx0 : x.size ≤ 1000000) (ihx : ∀ y ∈ x.kids, FnOK Laid Tryz.prog 96 [exD y] (iv y.size)) : FnOK Laid Tryz.prog 96 [exD x] (iv x.size) := by
  refine FnOK_of laid_stable Tryz.func96 Tryz.ntmps96 rfl (by as_aux_lemma => kernel_rfl) (Nat.le_of_ble_eq_true rfl) (fun R hR => ?_)
  obtain ⟨_, b, cs, T, C⟩ := R
  obtain rfl : _ = Tryz.prog := hR.p
  have hk := kd_eq x
  have hse := x.size_eq
  have hln := Ex.len_le x.kids
  refine Exec.seq ?_
  apply Exec.regionL te_ok
  · intro ops' Q hQ
    simp only [go_sem, hk]
    repeat (refine And.intro (by first | assumption | omega | (simp; done) | (simp; omega) | (intros; omega) | (simp_all; done) | (simp_all; omega)) ?_)
    exact hQ
  refine Exec.seq ?_
  apply Exec.regionL te_ok
  · intro ops' Q hQ
    simp only [go_sem, hk]
    repeat (refine And.intro (by first | assumption | omega | (simp; done) | (simp; omega) | (intros; omega) | (simp_all; done) | (simp_all; omega)) ?_)
    exact hQ
  refine Exec.seq ?_
  refine Exec.seq ?_
  apply Exec.regionL te_ok
  · intro ops' Q hQ
    simp only [go_sem, hk]
    repeat (refine And.intro (by first | assumption | omega | (simp; done) | (simp; omega) | (intros; omega) | (simp_all; done) | (simp_all; omega)) ?_)
    exact hQ
  refine Exec.block ?_
  apply Exec.loopU [1] (X := Nat) (fun i => [(4, .d (iv i)), (3, .d (iv (1 + (Ex.sizes (x.kids.take i) : Nat) : Nat)))]) (fun i => []) (fun i => []) (fun i => x.kids.length - i) (fun i => i ≤ x.kids.length) 0
  case h0 =>
    first | assumption | omega | (simp; done) | (simp; omega) | (intros; omega) | (simp_all; done) | (simp_all; omega)
  case hw =>
    simp only [go_sem]; simp [Ex.sizes]
  case body =>
    rintro i hx ih0
    try simp only at hx
    apply Exec.norm
    · simp only [go_sem, hk]
      rfl
    refine Exec.seq ?_
    refine Exec.seq ?_
    apply Exec.regionL te_ok
    · intro ops' Q hQ
      simp only [go_sem, hk]
      repeat (refine And.intro (by first | assumption | omega | (simp; done) | (simp; omega) | (intros; omega) | (simp_all; done) | (simp_all; omega)) ?_)
      exact hQ
    refine Exec.cond_split rfl (fun h0 => ?_) (fun h0 => ?_)
    · skip
      have hi : i < x.kids.length := by have := of_decide_eq_true h0; omega
      have ha := kdR_at hi
      have hst := Ex.sizes_take hi
      have hsl := Ex.sizes_le x.kids (i + 1)
      have w2 : IntKind.i64.wrap ((i : Int) + 1) = ((i + 1 : Nat) : Int) := by rw [wrap_id (by omega)]; omega
      have w3 : IntKind.i64.wrap (((1 + Ex.sizes (x.kids.take i) : Nat) : Int) + ((nth x.kids i).size : Int)) = ((1 + Ex.sizes (x.kids.take (i + 1)) : Nat) : Int) := by rw [wrap_id (by omega)]; omega
      refine Exec.skip ?_
      refine Exec.seq ?_
      refine Exec.block ?_
      apply Exec.regionL te_ok
      · intro ops' Q hQ
        simp only [go_sem, hk, ha, w2, w3]
        repeat (refine And.intro (by first | assumption | omega | (simp; done) | (simp; omega) | (intros; omega) | (simp_all; done) | (simp_all; omega)) ?_)
        refine kcall hR.inv te_ok rfl rfl rfl rfl rfl rfl (ihx _ (nth_mem hi)) ?_
        simp only [go_sem, hk, ha, w2, w3]
        repeat (refine And.intro (by first | assumption | omega | (simp; done) | (simp; omega) | (intros; omega) | (simp_all; done) | (simp_all; omega)) ?_)
        exact hQ
      refine Exec.inBlock ?_
      apply Exec.regionL te_ok
      · intro ops' Q hQ
        simp only [go_sem, hk, ha, w2, w3]
        repeat (refine And.intro (by first | assumption | omega | (simp; done) | (simp; omega) | (intros; omega) | (simp_all; done) | (simp_all; omega)) ?_)
        exact hQ
      refine Exec.back (ih0 (i + 1) ?_ ?_) ?_ ?_ ?_ ?_ ?_ ?_ ?_
      · try simp only
        omega
      · try simp only
        omega
      · rfl
      · rfl
      · (simp only [go_sem, hk, ha, w2, w3])
      · (simp only [go_sem, hk, ha, w2, w3])
      · (simp only [go_sem, hk, ha, w2, w3])
      · simp only [go_sem, hk, ha, w2, w3]
      · rfl
    · skip
      refine Exec.exit rfl ?_
      refine Exec.seq ?_
      apply Exec.regionL te_ok
      · intro ops' Q hQ
        simp only [go_sem, hk]
        repeat (refine And.intro (by first | assumption | omega | (simp; done) | (simp; omega) | (intros; omega) | (simp_all; done) | (simp_all; omega)) ?_)
        exact hQ
      refine Exec.rets hR te_ok rfl rfl rfl (LeX.le ?_) (.inr ⟨_, rfl⟩)
      simp only [go_sem]
      rw [List.take_of_length_le (by have := of_decide_eq_false h0; omega), ← hse]
theorem rsize_ok (x : Ex) (hx0 : x.size ≤ 1000000) : FnOK Laid Tryz.prog 96 [exD x] (iv x.size) := by
  refine Ex.ind (p := fun x => x.size ≤ 1000000 → FnOK Laid Tryz.prog 96 [exD x] (iv x.size)) (fun x ih h => rsize_step x h fun y hy => ih y hy ?_) x hx0
  have := Ex.sizes_mem hy; have := x.size_eq; omega

theorem esize_step (x : Ex) (d : Nat) (hd : d ≤ 61) (hx0 : x.kids.length ≤ 140737488355328) (ihx : ∀ y ∈ x.kids, d + 1 ≤ 61 → FnOK Laid Tryz.prog 12 [exD y, iv ((d + 1 : Nat) : Int)] (iv (y.lim (d + 1)))) : FnOK Laid Tryz.prog 12 [exD x, iv d] (iv (x.lim d)) := by
  refine FnOK_of laid_stable Tryz.func12 Tryz.ntmps12 rfl (by as_aux_lemma => kernel_rfl) (Nat.le_of_ble_eq_true rfl) (fun R hR => ?_)
  obtain ⟨_, b, cs, T, C⟩ := R
  obtain rfl : _ = Tryz.prog := hR.p
  have hk := kd_eq x
  have hse := x.lim_eq d
  refine Exec.seq ?_
  apply Exec.regionL te_ok
  · intro ops' Q hQ
    simp only [go_sem, hk]
    repeat (refine And.intro (by first | assumption | omega | (simp; done) | (simp; omega) | (intros; omega) | (simp_all; done) | (simp_all; omega)) ?_)
    exact hQ
  refine Exec.seq ?_
  apply Exec.regionL te_ok
  · intro ops' Q hQ
    simp only [go_sem, hk]
    repeat (refine And.intro (by first | assumption | omega | (simp; done) | (simp; omega) | (intros; omega) | (simp_all; done) | (simp_all; omega)) ?_)
    exact hQ
  refine Exec.seq ?_
  refine Exec.seq ?_
  apply Exec.regionL te_ok
  · intro ops' Q hQ
    simp only [go_sem, hk]
    repeat (refine And.intro (by first | assumption | omega | (simp; done) | (simp; omega) | (intros; omega) | (simp_all; done) | (simp_all; omega)) ?_)
    exact hQ
  refine Exec.cond_split rfl (fun h0 => ?_) (fun h0 => ?_)
  · skip
    refine Exec.seq ?_
    apply Exec.regionL te_ok
    · intro ops' Q hQ
      simp only [go_sem, hk]
      repeat (refine And.intro (by first | assumption | omega | (simp; done) | (simp; omega) | (intros; omega) | (simp_all; done) | (simp_all; omega)) ?_)
      exact hQ
    refine Exec.rets hR te_ok rfl rfl rfl (LeX.le ?_) (.inr ⟨_, rfl⟩)
    simp only [go_sem]
    rw [hse, if_pos (by simp at h0; omega)]
    rfl
  · skip
    have hd2 : d ≤ 60 := by simp at h0; omega
    refine Exec.skip ?_
    refine Exec.seq ?_
    refine Exec.seq ?_
    apply Exec.regionL te_ok
    · intro ops' Q hQ
      simp only [go_sem, hk]
      repeat (refine And.intro (by first | assumption | omega | (simp; done) | (simp; omega) | (intros; omega) | (simp_all; done) | (simp_all; omega)) ?_)
      exact hQ
    refine Exec.block ?_
    apply Exec.loopU [1, 2] (X := Nat × Nat) (fun ⟨i, n⟩ => [(6, .d (iv i)), (5, .d (iv n))]) (fun ⟨i, n⟩ => []) (fun ⟨i, n⟩ => []) (fun ⟨i, n⟩ => x.kids.length - i) (fun ⟨i, n⟩ => i ≤ x.kids.length ∧ Ex.limL x.kids (d + 1) 1 = Ex.limL (x.kids.drop i) (d + 1) n ∧ n ≤ 100400) (0, 1)
    case h0 =>
      exact ⟨Nat.zero_le _, rfl, by omega⟩
    case hw =>
      simp only [go_sem]; rfl
    case body =>
      rintro ⟨i, n⟩ hx ih0
      try simp only at hx
      apply Exec.norm
      · simp only [go_sem, hk]
        rfl
      refine Exec.seq ?_
      refine Exec.seq ?_
      apply Exec.regionL te_ok
      · intro ops' Q hQ
        simp only [go_sem, hk]
        repeat (refine And.intro (by first | assumption | omega | (simp; done) | (simp; omega) | (intros; omega) | (simp_all; done) | (simp_all; omega)) ?_)
        exact hQ
      refine Exec.cond_split rfl (fun h1 => ?_) (fun h1 => ?_)
      · skip
        have hit : i < x.kids.length ∧ n ≤ 400 := by simp at h1; omega
        obtain ⟨hi, hn⟩ := hit
        have ha := kdR_at hi
        have hlb := Ex.lim_le (nth x.kids i) (d := d + 1) (by omega)
        have w2 : IntKind.i64.wrap ((i : Int) + 1) = ((i + 1 : Nat) : Int) := by rw [wrap_id (by omega)]; omega
        have w3 : IntKind.i64.wrap ((n : Int) + (((nth x.kids i).lim (d + 1) : Nat) : Int)) = ((n + (nth x.kids i).lim (d + 1) : Nat) : Int) := by rw [wrap_id (by omega)]; omega
        have w4 : IntKind.i64.wrap ((d : Int) + 1) = ((d + 1 : Nat) : Int) := by rw [wrap_id (by omega)]; omega
        refine Exec.skip ?_
        refine Exec.seq ?_
        refine Exec.block ?_
        apply Exec.regionL te_ok
        · intro ops' Q hQ
          simp only [go_sem, hk, ha, w2, w3, w4]
          repeat (refine And.intro (by first | assumption | omega | (simp; done) | (simp; omega) | (intros; omega) | (simp_all; done) | (simp_all; omega)) ?_)
          refine kcall hR.inv te_ok rfl rfl rfl rfl rfl rfl (ihx _ (nth_mem hi) (by omega)) ?_
          simp only [go_sem, hk, ha, w2, w3, w4]
          repeat (refine And.intro (by first | assumption | omega | (simp; done) | (simp; omega) | (intros; omega) | (simp_all; done) | (simp_all; omega)) ?_)
          exact hQ
        refine Exec.inBlock ?_
        apply Exec.regionL te_ok
        · intro ops' Q hQ
          simp only [go_sem, hk, ha, w2, w3, w4]
          repeat (refine And.intro (by first | assumption | omega | (simp; done) | (simp; omega) | (intros; omega) | (simp_all; done) | (simp_all; omega)) ?_)
          exact hQ
        refine Exec.back (ih0 (i + 1, n + (nth x.kids i).lim (d + 1)) ?_ ?_) ?_ ?_ ?_ ?_ ?_ ?_ ?_
        · try simp only
          have hlb := Ex.lim_le (nth x.kids i) (d := d + 1) (by omega)
          exact ⟨by omega, by rw [hx.2.1, Ex.limL_step hi hn], by omega⟩
        · try simp only
          omega
        · rfl
        · rfl
        · (simp only [go_sem, hk, ha, w2, w3, w4])
        · (simp only [go_sem, hk, ha, w2, w3, w4])
        · (simp only [go_sem, hk, ha, w2, w3, w4])
        · simp only [go_sem, hk, ha, w2, w3, w4]
        · rfl
      · skip
        refine Exec.exit rfl ?_
        refine Exec.seq ?_
        apply Exec.regionL te_ok
        · intro ops' Q hQ
          simp only [go_sem, hk]
          repeat (refine And.intro (by first | assumption | omega | (simp; done) | (simp; omega) | (intros; omega) | (simp_all; done) | (simp_all; omega)) ?_)
          exact hQ
        refine Exec.rets hR te_ok rfl rfl rfl (LeX.le ?_) (.inr ⟨_, rfl⟩)
        simp only [go_sem]
        rw [hse, if_neg (by omega), hx.2.1, Ex.limL_stop (by simp at h1; omega)]
/-- all lists of kids are short -/
def Ex.fits (B : Nat) (x : Ex) : Prop := x.kids.length ≤ B
theorem esize_ok (B : Ex → Prop) (hB : ∀ x, B x → x.kids.length ≤ 140737488355328 ∧ ∀ y ∈ x.kids, B y) (x : Ex) (h : B x) (d : Nat) (hd : d ≤ 61) : FnOK Laid Tryz.prog 12 [exD x, iv d] (iv (x.lim d)) := by
  refine Ex.ind (p := fun x => B x → ∀ d : Nat, d ≤ 61 → FnOK Laid Tryz.prog 12 [exD x, iv d] (iv (x.lim d))) (fun x ih h d hd => ?_) x h d hd
  exact esize_step x d hd (hB x h).1 fun y hy hd2 => ih y hy ((hB x h).2 y hy) (d + 1) hd2

theorem kSames_ok (l m : List Ex) (hl : l.length ≤ 140737488355328) (ihx : ∀ x ∈ l, ∀ y, FnOK Laid Tryz.prog 55 [exD x, exD y] (bv (decide (x = y)))) : FnOK Laid Tryz.prog 104 [exsD l, exsD m] (bv (decide (l = m))) := by
  refine FnOK_of laid_stable Tryz.func104 Tryz.ntmps104 rfl (by as_aux_lemma => kernel_rfl) (Nat.le_of_ble_eq_true rfl) (fun R hR => ?_)
  obtain ⟨_, b, cs, T, C⟩ := R
  obtain rfl : _ = Tryz.prog := hR.p
  refine Exec.seq ?_
  apply Exec.regionL te_ok
  · intro ops' Q hQ
    simp only [go_sem]
    repeat (refine And.intro (by first | assumption | omega | (simp; done) | (simp; omega) | (intros; omega) | (simp_all; done) | (simp_all; omega)) ?_)
    exact hQ
  refine Exec.seq ?_
  refine Exec.seq ?_
  apply Exec.regionL te_ok
  · intro ops' Q hQ
    simp only [go_sem]
    repeat (refine And.intro (by first | assumption | omega | (simp; done) | (simp; omega) | (intros; omega) | (simp_all; done) | (simp_all; omega)) ?_)
    exact hQ
  refine Exec.cond_split rfl (fun h0 => ?_) (fun h0 => ?_)
  · skip
    refine Exec.seq ?_
    apply Exec.regionL te_ok
    · intro ops' Q hQ
      simp only [go_sem]
      repeat (refine And.intro (by first | assumption | omega | (simp; done) | (simp; omega) | (intros; omega) | (simp_all; done) | (simp_all; omega)) ?_)
      exact hQ
    refine Exec.rets hR te_ok rfl rfl rfl (LeX.le ?_) (.inr ⟨_, rfl⟩)
    simp only [go_sem]
    have : l ≠ m := fun e => by subst e; simp at h0
    simp [this]
  · skip
    have hlm : l.length = m.length := by simp at h0; omega
    refine Exec.skip ?_
    refine Exec.seq ?_
    refine Exec.seq ?_
    apply Exec.regionL te_ok
    · intro ops' Q hQ
      simp only [go_sem]
      repeat (refine And.intro (by first | assumption | omega | (simp; done) | (simp; omega) | (intros; omega) | (simp_all; done) | (simp_all; omega)) ?_)
      exact hQ
    refine Exec.block ?_
    apply Exec.loopU [0, 1] (X := Nat) (fun i => [(5, .d (iv i))]) (fun i => []) (fun i => []) (fun i => l.length - i) (fun i => i ≤ l.length ∧ l.take i = m.take i) 0
    case h0 =>
      simp
    case hw =>
      simp only [go_sem]
    case body =>
      rintro i hx ih0
      try simp only at hx
      apply Exec.norm
      · simp only [go_sem]
        rfl
      refine Exec.seq ?_
      refine Exec.seq ?_
      apply Exec.regionL te_ok
      · intro ops' Q hQ
        simp only [go_sem]
        repeat (refine And.intro (by first | assumption | omega | (simp; done) | (simp; omega) | (intros; omega) | (simp_all; done) | (simp_all; omega)) ?_)
        exact hQ
      refine Exec.cond_split rfl (fun h1 => ?_) (fun h1 => ?_)
      · skip
        have hi : i < l.length := by simp at h1; omega
        have ha := kdR_at hi
        have hb := kdR_at (show i < m.length by omega)
        have w2 : IntKind.i64.wrap ((i : Int) + 1) = ((i + 1 : Nat) : Int) := by rw [wrap_id (by omega)]; omega
        refine Exec.skip ?_
        refine Exec.seq ?_
        refine Exec.block ?_
        refine Exec.seq ?_
        apply Exec.draw (st := _) 11 10 [] [] te_ok (by as_aux_lemma => kernel_rfl) (by as_aux_lemma => kernel_rfl) (by as_aux_lemma => kernel_rfl)
        · intro ops' Q hQ
          simp only [go_sem, ha, hb, w2]
          repeat (refine And.intro (by first | assumption | omega | (simp; done) | (simp; omega) | (intros; omega) | (simp_all; done) | (simp_all; omega)) ?_)
          refine kdcall hR.inv te_ok rfl rfl rfl rfl rfl rfl (ihx _ (nth_mem hi) _) ?_
          simp only [go_sem, ha, hb, w2]
          repeat (refine And.intro (by first | assumption | omega | (simp; done) | (simp; omega) | (intros; omega) | (simp_all; done) | (simp_all; omega)) ?_)
          exact hQ
        refine Exec.cond_split rfl (fun h2 => ?_) (fun h2 => ?_)
        · skip
          refine Exec.seq ?_
          apply Exec.regionL te_ok
          · intro ops' Q hQ
            simp only [go_sem, ha, hb, w2]
            repeat (refine And.intro (by first | assumption | omega | (simp; done) | (simp; omega) | (intros; omega) | (simp_all; done) | (simp_all; omega)) ?_)
            exact hQ
          refine Exec.rets hR te_ok rfl rfl rfl (LeX.le ?_) (.inr ⟨_, rfl⟩)
          simp only [go_sem]
          have : l ≠ m := fun e => by subst e; simp at h2
          simp [this]
        · skip
          refine Exec.skip ?_
          refine Exec.inBlock ?_
          apply Exec.regionL te_ok
          · intro ops' Q hQ
            simp only [go_sem, ha, hb, w2]
            repeat (refine And.intro (by first | assumption | omega | (simp; done) | (simp; omega) | (intros; omega) | (simp_all; done) | (simp_all; omega)) ?_)
            exact hQ
          refine Exec.back (ih0 (i + 1) ?_ ?_) ?_ ?_ ?_ ?_ ?_ ?_ ?_
          · try simp only
            exact ⟨by omega, (same_step hlm hi hx.2).2 (by simpa using h2)⟩
          · try simp only
            omega
          · rfl
          · rfl
          · (simp only [go_sem, ha, hb, w2])
          · (simp only [go_sem, ha, hb, w2])
          · (simp only [go_sem, ha, hb, w2])
          · simp only [go_sem, ha, hb, w2]
          · rfl
      · skip
        refine Exec.exit rfl ?_
        refine Exec.seq ?_
        apply Exec.regionL te_ok
        · intro ops' Q hQ
          simp only [go_sem]
          repeat (refine And.intro (by first | assumption | omega | (simp; done) | (simp; omega) | (intros; omega) | (simp_all; done) | (simp_all; omega)) ?_)
          exact hQ
        refine Exec.rets hR te_ok rfl rfl rfl (LeX.le ?_) (.inr ⟨_, rfl⟩)
        simp only [go_sem]
        have : l = m := by have := hx.2; simp at h1; rw [List.take_of_length_le (by omega), List.take_of_length_le (by omega)] at this; exact this
        simp [this]
theorem ex_eq (x y : Ex) : (x.k == y.k && (x.s == y.s && decide (x.kids = y.kids))) = decide (x = y) := by
  by_cases h : x = y
  · subst h; simp
  · rw [decide_eq_false h]
    by_cases h1 : x.k = y.k
    · by_cases h2 : x.s = y.s
      · have : ¬ x.kids = y.kids := fun h3 => h (Ex.ext h1 h2 h3)
        simp [this]
      · simp [h2]
    · simp [h1]

theorem kSame_step (x y : Ex) (hx0 : x.size ≤ 1000000) (ihx : ∀ x2 ∈ x.kids, ∀ y, FnOK Laid Tryz.prog 55 [exD x2, exD y] (bv (decide (x2 = y)))) : FnOK Laid Tryz.prog 55 [exD x, exD y] (bv (decide (x = y))) := by
  refine FnOK_of laid_stable Tryz.func55 Tryz.ntmps55 rfl (by as_aux_lemma => kernel_rfl) (Nat.le_of_ble_eq_true rfl) (fun R hR => ?_)
  obtain ⟨_, b, cs, T, C⟩ := R
  obtain rfl : _ = Tryz.prog := hR.p
  have hk := kd_eq x
  have hk2 := kd_eq y
  have hln := Ex.len_le x.kids
  have hse := x.size_eq
  refine Exec.seq ?_
  apply Exec.regionL te_ok
  · intro ops' Q hQ
    simp only [go_sem, hk, hk2]
    repeat (refine And.intro (by first | assumption | omega | (simp; done) | (simp; omega) | (intros; omega) | (simp_all; done) | (simp_all; omega)) ?_)
    exact hQ
  refine Exec.seq ?_
  apply Exec.regionL te_ok
  · intro ops' Q hQ
    simp only [go_sem, hk, hk2]
    repeat (refine And.intro (by first | assumption | omega | (simp; done) | (simp; omega) | (intros; omega) | (simp_all; done) | (simp_all; omega)) ?_)
    refine kcallG hR.inv te_ok rfl rfl rfl rfl rfl rfl (by simp only [go_sem] <;> (first | assumption | omega | (simp; done) | (simp; omega) | (intros; omega) | (simp_all; done) | (simp_all; omega))) (fun hq => kSames_ok x.kids y.kids (by omega) ihx) ?_
    simp only [go_sem, hk, hk2]
    repeat (refine And.intro (by first | assumption | omega | (simp; done) | (simp; omega) | (intros; omega) | (simp_all; done) | (simp_all; omega)) ?_)
    exact hQ
  refine Exec.rets hR te_ok rfl rfl rfl (LeX.le ?_) (.inr ⟨_, rfl⟩)
  simp only [go_sem]
  rw [← ex_eq]
  cases (x.k == y.k) <;> cases (x.s == y.s) <;> simp
theorem kSame_ok (x y : Ex) (hx0 : x.size ≤ 1000000) : FnOK Laid Tryz.prog 55 [exD x, exD y] (bv (decide (x = y))) := by
  refine Ex.ind (p := fun x => x.size ≤ 1000000 → ∀ y, FnOK Laid Tryz.prog 55 [exD x, exD y] (bv (decide (x = y)))) (fun x ih h y => kSame_step x y h fun x2 h2 => ih x2 h2 ?_) x hx0 y
  have := Ex.sizes_mem h2; have := x.size_eq; omega
theorem kSamesA_ok (l m : List Ex) (hl : Ex.sizes l ≤ 1000000) : FnOK Laid Tryz.prog 104 [exsD l, exsD m] (bv (decide (l = m))) :=
  kSames_ok l m (by have := Ex.len_le l; omega) fun x hx y => kSame_ok x y (by have := Ex.sizes_mem hx; omega)

end Go.Proofs.YtmnponhhmkdcdaaGreatDoor
