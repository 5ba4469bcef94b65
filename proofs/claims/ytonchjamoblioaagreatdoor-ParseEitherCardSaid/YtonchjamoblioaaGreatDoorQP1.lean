/- Steps of a function body on data, and contracts of the functions of the seat, walked. -/
import Derived.Test.YtonchjamoblioaaGreatDoorP0
import Derived.Test.YtonchjamoblioaaGreatDoorKOb
import Derived.Test.YtonchjamoblioaaGreatDoorQD
import Derived.Test.YtonchjamoblioaaGreatDoorP1
import Derived.Test.YtonchjamoblioaaGreatDoorPS
import Derived.Test.YtonchjamoblioaaGreatDoorP4
import Derived.Test.YtonchjamoblioaaGreatDoorQC
set_option linter.unusedSimpArgs false
set_option linter.unusedVariables false
set_option linter.unusedSectionVars false
namespace Go.Proofs.YtonchjamoblioaaGreatDoor
open Go.Kin
set_option maxRecDepth 100000
set_option maxHeartbeats 0
attribute [go_sem] te_101 te_22 te_23 te_24 te_53 te_51 te_56
theorem samePt_ok (x y : Pt) (hfx : FitX x.e) : FnOK Laid Tryz.prog 63 [ptD x, ptD y] (bv (decide (x = y))) := by
 refine FnOK_of laid_stable Tryz.func63 Tryz.ntmps63 rfl (by as_aux_lemma => kernel_rfl) (Nat.le_of_ble_eq_true rfl) (fun R hR => ?_)
 obtain ⟨_, b, cs, T, C⟩ := R
 obtain rfl : _ = Tryz.prog := hR.p
 refine sreg te_ok ?_
 refine sq ?_
 apply Exec.regionL te_ok
 ·intro u' Q hQ
  simp only [go_sem]
  repeat refine ob2 ?_
  refine kcall hR.inv te_ok rfl rfl rfl rfl rfl rfl (xsame_ok x.e y.e hfx) ?_
  simp only [go_sem]
  repeat refine ob2 ?_
  exact hQ
 refine sreg te_ok ?_
 refine Exec.rets hR te_ok rfl rfl rfl (LeX.le ?_) (.inr ⟨_, rfl⟩)
 simp only [go_sem]
 rw [← pt_eq]
 cases (x.a == y.a) <;> cases (x.z == y.z) <;> cases (x.path == y.path) <;> cases (x.lab == y.lab) <;> cases (x.name == y.name) <;> cases decide (x.e = y.e) <;> rfl
theorem eqPt_ok (l m : List Pt) (hl : l.length ≤ 1000000) (hx0 : ∀ p ∈ l, FitX p.e) : FnOK Laid Tryz.prog 62 [ptsD l, ptsD m, .fn 63 []] (bv (decide (l = m))) := by
 refine FnOK_of laid_stable Tryz.func62 Tryz.ntmps62 rfl (by as_aux_lemma => kernel_rfl) (Nat.le_of_ble_eq_true rfl) (fun R hR => ?_)
 obtain ⟨_, b, cs, T, C⟩ := R
 obtain rfl : _ = Tryz.prog := hR.p
 refine sreg te_ok ?_
 refine sq ?_
 refine sreg te_ok ?_
 refine Exec.cond_split rfl (fun h0 => ?_) (fun h0 => ?_)
 ·refine sreg te_ok ?_
  refine Exec.rets hR te_ok rfl rfl rfl (LeX.le ?_) (.inr ⟨_, rfl⟩)
  simp only [go_sem]
  have : l ≠ m := fun e => by subst e; simp at h0
  simp [this]
 ·have hlm : l.length = m.length := by simp at h0; omega
  refine sk ?_
  refine sq ?_
  refine sreg te_ok ?_
  refine Exec.block ?_
  apply Exec.loopU [1, 2, 15, 16] (X := Nat) (fun i => [(17, .d (iv i))]) (fun i => []) (fun i => []) (fun i => l.length - i) (fun i => i ≤ l.length ∧ l.take i = m.take i) 0
  case h0 =>
   simp
  case hw =>
   simp only [go_sem]
  case body =>
   rintro i hx ih0
   try simp only at hx
   apply Exec.norm
   ·simp only [go_sem]
    rfl
   refine sreg te_ok ?_
   refine sq ?_
   refine Exec.cond_split rfl (fun h1 => ?_) (fun h1 => ?_)
   ·have hi : i < l.length := by simp at h1; omega
    have hi2 : i < m.length := by omega
    have w2 : IntKind.i64.wrap ((i : Int) + 1) = ((i + 1 : Nat) : Int) := by rw [wrap_id (by omega)]; omega
    refine sk ?_
    refine sq ?_
    refine Exec.block ?_
    refine sq ?_
    apply Exec.regionL te_ok
    ·intro u' Q hQ
     simp only [go_sem, w2]
     repeat refine ob2 ?_
     exact hQ
    refine sq ?_
    apply Exec.regionL te_ok
    ·intro u' Q hQ
     simp only [go_sem, w2]
     repeat refine ob2 ?_
     exact hQ
    refine sq ?_
    apply Exec.regionL te_ok
    ·intro u' Q hQ
     simp only [go_sem, w2]
     repeat refine ob2 ?_
     refine kcall hR.inv te_ok rfl rfl rfl rfl rfl rfl (samePt_ok _ _ (hx0 _ (nth_mem hi))) ?_
     simp only [go_sem, w2]
     repeat refine ob2 ?_
     exact hQ
    refine Exec.cond_split rfl (fun h2 => ?_) (fun h2 => ?_)
    ·refine sq ?_
     apply Exec.regionL te_ok
     ·intro u' Q hQ
      simp only [go_sem, w2]
      repeat refine ob2 ?_
      exact hQ
     refine Exec.rets hR te_ok rfl rfl rfl (LeX.le ?_) (.inr ⟨_, rfl⟩)
     simp only [go_sem]
     have : l ≠ m := fun e => by subst e; simp [decide_eq_true_eq] at h2
     simp [this]
    ·refine sk ?_
     refine Exec.inBlock ?_
     apply Exec.regionL te_ok
     ·intro u' Q hQ
      simp only [go_sem, w2]
      repeat refine ob2 ?_
      exact hQ
     refine Exec.back (ih0 (i + 1) ?_ ?_) ?_ ?_ ?_ ?_ ?_ ?_ ?_
     ·try simp only
      exact ⟨by omega, (same_step hlm hi hx.2).2 (by simpa [decide_eq_true_eq] using h2)⟩
     ·try simp only
      omega
     ·rfl
     ·rfl
     ·(simp only [go_sem, w2])
     ·(simp only [go_sem, w2])
     ·(simp only [go_sem, w2])
     ·simp only [go_sem, w2]
     ·rfl
   ·refine Exec.exit rfl ?_
    refine sreg te_ok ?_
    refine Exec.rets hR te_ok rfl rfl rfl (LeX.le ?_) (.inr ⟨_, rfl⟩)
    simp only [go_sem]
    have : l = m := by have := hx.2; simp at h1; rw [List.take_of_length_le (by omega), List.take_of_length_le (by omega)] at this; exact this
    simp [this]
theorem eqCd_ok (l m : List Cd) (hl : l.length ≤ 1000000)  : FnOK Laid Tryz.prog 64 [cdsD l, cdsD m] (bv (decide (l = m))) := by
 refine FnOK_of laid_stable Tryz.func64 Tryz.ntmps64 rfl (by as_aux_lemma => kernel_rfl) (Nat.le_of_ble_eq_true rfl) (fun R hR => ?_)
 obtain ⟨_, b, cs, T, C⟩ := R
 obtain rfl : _ = Tryz.prog := hR.p
 refine sreg te_ok ?_
 refine sq ?_
 refine sreg te_ok ?_
 refine Exec.cond_split rfl (fun h0 => ?_) (fun h0 => ?_)
 ·refine sreg te_ok ?_
  refine Exec.rets hR te_ok rfl rfl rfl (LeX.le ?_) (.inr ⟨_, rfl⟩)
  simp only [go_sem]
  have : l ≠ m := fun e => by subst e; simp at h0
  simp [this]
 ·have hlm : l.length = m.length := by simp at h0; omega
  refine sk ?_
  refine sq ?_
  refine sreg te_ok ?_
  refine Exec.block ?_
  apply Exec.loopU [0, 1, 12] (X := Nat) (fun i => [(13, .d (iv i))]) (fun i => []) (fun i => []) (fun i => l.length - i) (fun i => i ≤ l.length ∧ l.take i = m.take i) 0
  case h0 =>
   simp
  case hw =>
   simp only [go_sem]
  case body =>
   rintro i hx ih0
   try simp only at hx
   apply Exec.norm
   ·simp only [go_sem]
    rfl
   refine sreg te_ok ?_
   refine sq ?_
   refine Exec.cond_split rfl (fun h1 => ?_) (fun h1 => ?_)
   ·have hi : i < l.length := by simp at h1; omega
    have hi2 : i < m.length := by omega
    have w2 : IntKind.i64.wrap ((i : Int) + 1) = ((i + 1 : Nat) : Int) := by rw [wrap_id (by omega)]; omega
    refine sk ?_
    refine sq ?_
    refine Exec.block ?_
    refine sq ?_
    apply Exec.regionL te_ok
    ·intro u' Q hQ
     simp only [go_sem, w2]
     repeat refine ob2 ?_
     exact hQ
    refine sq ?_
    apply Exec.draw (st := _) 10 9 [] [] te_ok (by as_aux_lemma => kernel_rfl) (by as_aux_lemma => kernel_rfl) (by as_aux_lemma => kernel_rfl)
    ·intro u' Q hQ
     simp only [go_sem, w2]
     repeat refine ob2 ?_
     exact hQ
    refine Exec.cond_split rfl (fun h2 => ?_) (fun h2 => ?_)
    ·refine sq ?_
     apply Exec.regionL te_ok
     ·intro u' Q hQ
      simp only [go_sem, w2]
      repeat refine ob2 ?_
      exact hQ
     refine Exec.rets hR te_ok rfl rfl rfl (LeX.le ?_) (.inr ⟨_, rfl⟩)
     simp only [go_sem]
     have : l ≠ m := fun e => by subst e; simp [cdx, and_assoc] at h2
     simp [this]
    ·refine sk ?_
     refine Exec.inBlock ?_
     apply Exec.regionL te_ok
     ·intro u' Q hQ
      simp only [go_sem, w2]
      repeat refine ob2 ?_
      exact hQ
     refine Exec.back (ih0 (i + 1) ?_ ?_) ?_ ?_ ?_ ?_ ?_ ?_ ?_
     ·try simp only
      exact ⟨by omega, (same_step hlm hi hx.2).2 (by simpa [cdx, and_assoc] using h2)⟩
     ·try simp only
      omega
     ·rfl
     ·rfl
     ·(simp only [go_sem, w2])
     ·(simp only [go_sem, w2])
     ·(simp only [go_sem, w2])
     ·simp only [go_sem, w2]
     ·rfl
   ·refine Exec.exit rfl ?_
    refine sreg te_ok ?_
    refine Exec.rets hR te_ok rfl rfl rfl (LeX.le ?_) (.inr ⟨_, rfl⟩)
    simp only [go_sem]
    have : l = m := by have := hx.2; simp at h1; rw [List.take_of_length_le (by omega), List.take_of_length_le (by omega)] at this; exact this
    simp [this]
theorem eqOp_ok (l m : List Opd) (hl : l.length ≤ 1000000)  : FnOK Laid Tryz.prog 65 [opsD l, opsD m] (bv (decide (l = m))) := by
 refine FnOK_of laid_stable Tryz.func65 Tryz.ntmps65 rfl (by as_aux_lemma => kernel_rfl) (Nat.le_of_ble_eq_true rfl) (fun R hR => ?_)
 obtain ⟨_, b, cs, T, C⟩ := R
 obtain rfl : _ = Tryz.prog := hR.p
 refine sreg te_ok ?_
 refine sq ?_
 refine sreg te_ok ?_
 refine Exec.cond_split rfl (fun h0 => ?_) (fun h0 => ?_)
 ·refine sreg te_ok ?_
  refine Exec.rets hR te_ok rfl rfl rfl (LeX.le ?_) (.inr ⟨_, rfl⟩)
  simp only [go_sem]
  have : l ≠ m := fun e => by subst e; simp at h0
  simp [this]
 ·have hlm : l.length = m.length := by simp at h0; omega
  refine sk ?_
  refine sq ?_
  refine sreg te_ok ?_
  refine Exec.block ?_
  apply Exec.loopU [0, 1, 12] (X := Nat) (fun i => [(13, .d (iv i))]) (fun i => []) (fun i => []) (fun i => l.length - i) (fun i => i ≤ l.length ∧ l.take i = m.take i) 0
  case h0 =>
   simp
  case hw =>
   simp only [go_sem]
  case body =>
   rintro i hx ih0
   try simp only at hx
   apply Exec.norm
   ·simp only [go_sem]
    rfl
   refine sreg te_ok ?_
   refine sq ?_
   refine Exec.cond_split rfl (fun h1 => ?_) (fun h1 => ?_)
   ·have hi : i < l.length := by simp at h1; omega
    have hi2 : i < m.length := by omega
    have w2 : IntKind.i64.wrap ((i : Int) + 1) = ((i + 1 : Nat) : Int) := by rw [wrap_id (by omega)]; omega
    refine sk ?_
    refine sq ?_
    refine Exec.block ?_
    refine sq ?_
    apply Exec.regionL te_ok
    ·intro u' Q hQ
     simp only [go_sem, w2]
     repeat refine ob2 ?_
     exact hQ
    refine sq ?_
    apply Exec.draw (st := _) 10 9 [] [] te_ok (by as_aux_lemma => kernel_rfl) (by as_aux_lemma => kernel_rfl) (by as_aux_lemma => kernel_rfl)
    ·intro u' Q hQ
     simp only [go_sem, w2]
     repeat refine ob2 ?_
     exact hQ
    refine Exec.cond_split rfl (fun h2 => ?_) (fun h2 => ?_)
    ·refine sq ?_
     apply Exec.regionL te_ok
     ·intro u' Q hQ
      simp only [go_sem, w2]
      repeat refine ob2 ?_
      exact hQ
     refine Exec.rets hR te_ok rfl rfl rfl (LeX.le ?_) (.inr ⟨_, rfl⟩)
     simp only [go_sem]
     have : l ≠ m := fun e => by subst e; simp [op_eq] at h2
     simp [this]
    ·refine sk ?_
     refine Exec.inBlock ?_
     apply Exec.regionL te_ok
     ·intro u' Q hQ
      simp only [go_sem, w2]
      repeat refine ob2 ?_
      exact hQ
     refine Exec.back (ih0 (i + 1) ?_ ?_) ?_ ?_ ?_ ?_ ?_ ?_ ?_
     ·try simp only
      exact ⟨by omega, (same_step hlm hi hx.2).2 (by simpa [op_eq] using h2)⟩
     ·try simp only
      omega
     ·rfl
     ·rfl
     ·(simp only [go_sem, w2])
     ·(simp only [go_sem, w2])
     ·(simp only [go_sem, w2])
     ·simp only [go_sem, w2]
     ·rfl
   ·refine Exec.exit rfl ?_
    refine sreg te_ok ?_
    refine Exec.rets hR te_ok rfl rfl rfl (LeX.le ?_) (.inr ⟨_, rfl⟩)
    simp only [go_sem]
    have : l = m := by have := hx.2; simp at h1; rw [List.take_of_length_le (by omega), List.take_of_length_le (by omega)] at this; exact this
    simp [this]
theorem tsame_ok (x y : Qu) (h1 : x.p.length ≤ 1000000) (h2 : x.c.length ≤ 1000000) (h3 : x.r.length ≤ 1000000) (hx0 : ∀ p ∈ x.p, FitX p.e) : FnOK Laid Tryz.prog 33 [quD x, quD y] (bv (decide (x = y))) := by
 refine FnOK_of laid_stable Tryz.func33 Tryz.ntmps33 rfl (by as_aux_lemma => kernel_rfl) (Nat.le_of_ble_eq_true rfl) (fun R hR => ?_)
 obtain ⟨_, b, cs, T, C⟩ := R
 obtain rfl : _ = Tryz.prog := hR.p
 refine sreg te_ok ?_
 refine sq ?_
 apply Exec.regionL te_ok
 ·intro u' Q hQ
  simp only [go_sem]
  repeat refine ob2 ?_
  refine kcallG hR.inv te_ok rfl rfl rfl rfl rfl rfl ob1 (fun hq => eqPt_ok x.p y.p (by omega) hx0) ?_
  simp only [go_sem]
  repeat refine ob2 ?_
  refine kcallG hR.inv te_ok rfl rfl rfl rfl rfl rfl ob1 (fun hq => eqCd_ok x.c y.c (by omega)) ?_
  simp only [go_sem]
  repeat refine ob2 ?_
  refine kcallG hR.inv te_ok rfl rfl rfl rfl rfl rfl ob1 (fun hq => eqOp_ok x.r y.r (by omega)) ?_
  simp only [go_sem]
  repeat refine ob2 ?_
  exact hQ
 refine Exec.rets hR te_ok rfl rfl rfl (LeX.le ?_) (.inr ⟨_, rfl⟩)
 simp only [go_sem]
 rw [← qu_eq]
 cases decide (x.p = y.p) <;> cases decide (x.c = y.c) <;> cases decide (x.r = y.r) <;> cases (x.range == y.range) <;> cases (x.slide == y.slide) <;> rfl
end Go.Proofs.YtonchjamoblioaaGreatDoor
namespace Go.Proofs.YtonchjamoblioaaGreatDoor
open Go.Kin Go.Lib
/-! ### what is right is small -/
theorem free_le {s : List UInt8} (h : freeB s = true) : s.length ≤ 20 := by
 unfold freeB vertexB at h; simp at h; omega
theorem ex_fit : ∀ x : Ex, exOk x = true → x.size ≤ 1000000 → FitX x := fun x => by
 refine Ex.ind (p := fun x => exOk x = true → x.size ≤ 1000000 → FitX x) (fun x ih h hs => ?_) x
 have hl := Ex.len_le x.kids
 have he := x.size_eq
 have hmem : ∀ y ∈ x.kids, exOk y = true := fun y hy => by
  rw [exOk_eq, Bool.and_eq_true] at h
  have : ∀ {l : List Ex}, exsOk l = true → ∀ y ∈ l, exOk y = true := fun {l} => by
   induction l with
   | nil => intro _ y hy; cases hy
   | cons a r ih =>
    intro h y hy
    simp only [exsOk, Bool.and_eq_true] at h
    rcases List.mem_cons.1 hy with rfl | hy
    ·exact h.1
    ·exact ih h.2 y hy
  exact this h.2 y hy
 refine .mk ?_ (by omega) fun y hy => ih y hy (hmem y hy) (by have := Ex.sizes_mem hy; omega)
 by_cases h1 : x.k = 1
 ·rw [partR_1 h1, Bool.and_eq_true] at h; have := free_le h.1; omega
 ·by_cases h2 : x.k = 2 ∨ x.k = 3
  ·rw [partR_2 h2] at h; simp only [Bool.and_eq_true, beq_iff_eq] at h; rw [h.2.1]; simp
  ·by_cases h4 : x.k = 4 ∨ x.k = 5 ∨ x.k = 6
   ·rw [partR_4 h4] at h; simp only [Bool.and_eq_true, beq_iff_eq] at h; rw [h.2.1]; simp
   ·rw [partR_0 h1 h2 h4] at h; cases h
theorem zEx_fit : FitX (.mk 0 [] []) := .mk (by simp [Ex.s]) (by simp [Ex.kids]) fun y hy => by cases hy
theorem exr_fit {x : Ex} (h : exRight x = true ∨ x = xz) : FitX x ∧ x.size ≤ 24 := by
 rcases h with h | rfl
 ·unfold exRight at h
  rw [Bool.and_eq_true] at h
  have := of_decide_eq_true h.1
  exact ⟨ex_fit x h.2 (by omega), this⟩
 ·exact ⟨zEx_fit, by show Ex.size (.mk 0 [] []) ≤ 24; rw [Ex.size_eq]; decide⟩
theorem op_fit {o : Opd} (h : opR o = true) : FitO o := by
 unfold opR at h
 by_cases h1 : o.k = 1
 ·rw [if_pos h1] at h; simp only [Bool.and_eq_true, beq_iff_eq] at h
  have := free_le h.1
  exact ⟨by omega, by rw [h.2.1]; simp, by rw [h.2.2.2.2]; simp⟩
 ·rw [if_neg h1] at h
  by_cases h2 : o.k = 2
  ·rw [if_pos h2] at h; simp only [Bool.and_eq_true, beq_iff_eq] at h
   have := free_le h.1
   have := free_le h.2.1
   exact ⟨by omega, by omega, by rw [h.2.2.2.2]; simp⟩
  ·rw [if_neg h2] at h
   by_cases h3 : o.k = 3
   ·rw [if_pos h3] at h; simp only [Bool.and_eq_true, beq_iff_eq] at h
    refine ⟨by rw [h.1]; simp, by rw [h.2.1]; simp, ?_⟩
    have hr := h.2.2
    unfold rightV at hr
    by_cases hk : o.vk = 1
    ·rw [if_pos hk] at hr; simp at hr; rw [hr.1.1]; simp
    ·rw [if_neg hk] at hr
     by_cases hk2 : o.vk = 2
     ·rw [if_pos hk2] at hr; simp at hr; omega
     ·rw [if_neg hk2] at hr; cases hr
   ·rw [if_neg h3] at h; cases h
theorem pt_fit {p : Pt} (h : ptR p = true) : FitP p := by
 unfold ptR at h
 simp only [Bool.and_eq_true] at h
 obtain ⟨h1, h2, h3⟩ := h
 have l1 := free_le h1
 have l2 := free_le h2
 by_cases hp : p.path = true
 ·rw [if_pos hp] at h3; simp only [Bool.and_eq_true, beq_iff_eq] at h3
  obtain ⟨e1, e2⟩ := exr_fit (.inl h3.2.2)
  exact ⟨by omega, by omega, by rw [h3.1]; simp, by rw [h3.2.1]; simp, e1, by omega⟩
 ·rw [if_neg hp] at h3; simp only [Bool.and_eq_true, Bool.or_eq_true, beq_iff_eq, decide_eq_true_eq] at h3
  have l3 := free_le h3.1
  have l4 : p.name.length ≤ 20 := by
   rcases h3.2.1 with h | h
   ·rw [h]; simp
   ·exact free_le h
  have he := h3.2.2
  refine ⟨by omega, by omega, by omega, by omega, by rw [he]; exact zEx_fit, ?_⟩
  rw [he]; exact Nat.le_trans (exr_fit (.inr rfl)).2 (by decide)
theorem qu_fit {q : Qu} (h : quR q = true ∨ q = qz) : FitQ q ∧ (∀ p ∈ q.p, FitX p.e) ∧ q.p.length ≤ 4 ∧ q.c.length ≤ 6 ∧ q.r.length ≤ 4 := by
 rcases h with h | rfl
 ·unfold quR at h
  simp only [Bool.and_eq_true, decide_eq_true_eq, List.all_eq_true] at h
  obtain ⟨h1, h2, h3, h4, h5, h6, h7, h8⟩ := h
  refine ⟨⟨by omega, by omega, by omega, fun p hp => pt_fit (h6 p hp), fun c hc => ?_, fun o ho => op_fit (h8 o ho).2⟩, fun p hp => (pt_fit (h6 p hp)).e, by omega, by omega, by omega⟩
  have := h7 c hc
  unfold cdR at this
  simp only [Bool.and_eq_true] at this
  exact ⟨op_fit this.2.2.1, op_fit this.2.2.2⟩
 ·exact ⟨⟨by decide, by decide, by decide, fun p hp => (by cases hp), fun p hp => (by cases hp), fun p hp => (by cases hp)⟩, fun p hp => (by cases hp), by decide, by decide, by decide⟩
/-! ### the text that the law writes anew -/
section
variable (g : List UInt8) (l : List Tk)
def othK : Nat → List UInt8
 | 0 => []
 | i + 1 => (if 0 < i then othK i ++ g else othK i) ++ (nth l i).t
def othB (i : Nat) : List UInt8 := if 0 < i then othK g l i ++ g else othK g l i
end
theorem othK_on (g : List UInt8) (l : List Tk) (i : Nat) : othK g l (i + 1) = othB g l i ++ (nth l i).t := rfl
/-! ### the gaps -/
def gapsW : List (List UInt8) := [[32], [10], [9, 32]]
def pick3 (x : Int) : Int := if x.tmod 3 < 0 then x.tmod 3 + 3 else x.tmod 3
def gP (n : Int) : List UInt8 := nth gapsW (pick3 n).toNat
end Go.Proofs.YtonchjamoblioaaGreatDoor
namespace Go.Proofs.YtonchjamoblioaaGreatDoor
open Go.Kin
set_option maxRecDepth 100000
set_option maxHeartbeats 0
/-! ### the document's rules, as functions of rows of tokens -/
structure RS where
 n : Nat
 b : Int
 m : Int
abbrev rfC (l : List Tk) (s : RS) : List D := [tksD l, .v (.int .i64 s.n), .v (.int .i64 s.b), .v (.int .i64 s.m)]
section
variable (l : List Tk)
def RS.step (s : RS) : RS := ⟨if s.n + 1 < l.length then s.n + 1 else s.n, s.b, s.m⟩
def RS.fail (s : RS) : RS := ⟨s.n, if s.b < 0 then (nth l s.n).a else s.b, s.m⟩
def RS.much (a : Int) (s : RS) : RS := ⟨s.n, s.b, if (decide (s.m < 0) || decide (a < s.m)) = true then a else s.m⟩
def isR (w : List UInt8) (s : RS) : Bool := decide (s.b < 0) && isP l w ⟨s.n, s.m⟩
def mustR (w : List UInt8) (s : RS) : RS := if isR l w s = true then s.step l else s.fail l
def freeR (s : RS) : Bool := decide (s.b < 0) && nameB l ⟨s.n, s.m⟩
def nameS (s : RS) : RS := if freeR l s = true then s.step l else s.fail l
def nameT (s : RS) : List UInt8 := if freeR l s = true then (nth l s.n).t else []
def vertexS (s : RS) : RS := mustR l [41] (nameS l (mustR l [40] s))
def vertexT (s : RS) : List UInt8 := nameT l (mustR l [40] s)
def toldS (s : RS) : RS := if isR l [46] (nameS l s) = true then nameS l ((nameS l s).step l) else nameS l s
def toldO (s : RS) : Opd := if isR l [46] (nameS l s) = true then ⟨2, nameT l s, nameT l ((nameS l s).step l), 0, 0, []⟩ else ⟨1, nameT l s, [], 0, 0, []⟩
def opdR (s : RS) : Bool := decide (s.b < 0) && opdB l ⟨s.n, s.m⟩
def opdS (s : RS) : RS := if opdR l s = true then s.step l else toldS l s
def opdO (s : RS) : Opd := if opdR l s = true then ⟨3, [], [], (nth l s.n).v.k, (nth l s.n).v.n, (nth l s.n).v.s⟩ else toldO l s
def opz : Opd := ⟨0, [], [], 0, 0, []⟩
def cmpR (a : Opd) (s : RS) : Nat → List (List UInt8) → RS × Cd
 | _, [] => (s.fail l, ⟨0, a, opz⟩)
 | i, w :: r => if isR l w s = true then (opdS l (s.step l), ⟨1 + i, a, opdO l (s.step l)⟩) else cmpR a s (i + 1) r
def condR (s : RS) : RS × Cd := cmpR l (opdO l s) (opdS l s) 0 cmpsW
def numO (s : RS) : Bool := decide (0 ≤ s.b) || !((nth l s.n).k == 2)
def numS (s : RS) : RS := if numO l s = true then s.fail l else (if numB (nth l s.n).v.n = true then s.much (nth l s.n).a else s).step l
def numV (s : RS) : Int := if numO l s = true then 0 else (nth l s.n).v.n
def signR : Nat → RS → Ex → RS × Ex
 | 0, s, x => (s, x)
 | f + 1, s, x => if (isR l [42] s || isR l [43] s || isR l [63] s) = true then signR f (s.step l) (.mk (if isR l [63] s = true then 6 else if isR l [43] s = true then 5 else 4) [] [x]) else (s, x)
def sepR (it : RS → RS × Ex) (w : List UInt8) : Nat → RS → List Ex → RS × List Ex
 | 0, s, acc => (s, acc)
 | f + 1, s, acc => if isR l w s = true then sepR it w f (it (s.step l)).1 (acc ++ [(it (s.step l)).2]) else (s, acc)
def joinR (it : RS → RS × Ex) (w : List UInt8) (k : Int) (s : RS) : RS × Ex := ((sepR l it w (l.length + 1) (it s).1 [(it s).2]).1, oneEx k (sepR l it w (l.length + 1) (it s).1 [(it s).2]).2)
def rowR (it : RS → RS × Ex) : RS → RS × Ex := joinR l it [46] 2
def exprR (it : RS → RS × Ex) : RS → RS × Ex := joinR l (rowR l it) [124] 3
def itemR : Nat → RS → RS × Ex
 | 0, s => (s, .mk 0 [] [])
 | f + 1, s => if isR l [40] s = true then signR l (l.length + 1) (mustR l [41] (exprR l (itemR f) (s.step l)).1) (exprR l (itemR f) (s.step l)).2 else signR l (l.length + 1) (nameS l s) (.mk 1 (nameT l s) [])
def exR (s : RS) : RS × Ex := exprR l (itemR l (l.length + 1)) s
def wholeB (s : RS) : Bool := decide ((exR l s).1.b < 0) && decide (24 < (exR l s).2.size)
def wholeR (s : RS) : RS × Ex := (if wholeB l s = true then (exR l s).1.much (nth l s.n).a else (exR l s).1, (exR l s).2)
def patR (s : RS) : RS × Pt :=
 if isR l [61, 91] (vertexS l s) = true then (vertexS l (mustR l [93, 61, 62] (wholeR l ((vertexS l s).step l)).1), ⟨vertexT l s, vertexT l (mustR l [93, 61, 62] (wholeR l ((vertexS l s).step l)).1), true, [], [], (wholeR l ((vertexS l s).step l)).2⟩)
 else if isR l [97, 115] (nameS l (mustR l [45, 91] (vertexS l s))) = true then
  (vertexS l (mustR l [93, 45, 62] (nameS l ((nameS l (mustR l [45, 91] (vertexS l s))).step l))), ⟨vertexT l s, vertexT l (mustR l [93, 45, 62] (nameS l ((nameS l (mustR l [45, 91] (vertexS l s))).step l))), false, nameT l (mustR l [45, 91] (vertexS l s)), nameT l ((nameS l (mustR l [45, 91] (vertexS l s))).step l), .mk 0 [] []⟩)
 else (vertexS l (mustR l [93, 45, 62] (nameS l (mustR l [45, 91] (vertexS l s)))), ⟨vertexT l s, vertexT l (mustR l [93, 45, 62] (nameS l (mustR l [45, 91] (vertexS l s)))), false, nameT l (mustR l [45, 91] (vertexS l s)), [], .mk 0 [] []⟩)
def manyR {α : Type} (rd : RS → RS × α) (w : List UInt8) (mx : Nat) : Nat → RS → List α → RS × List α
 | 0, s, acc => (s, acc)
 | f + 1, s, acc => if isR l w (if acc.length = mx then (rd s).1.much (nth l s.n).a else (rd s).1) = true then manyR rd w mx f ((if acc.length = mx then (rd s).1.much (nth l s.n).a else (rd s).1).step l) (acc ++ [(rd s).2])
  else (if acc.length = mx then (rd s).1.much (nth l s.n).a else (rd s).1, acc ++ [(rd s).2])
end
section
variable {l : List Tk}
/-- a rule that does not go back -/
def OnR {α : Type} (l : List Tk) (n0 : Nat) (it : RS → RS × α) : Prop := ∀ s, n0 ≤ s.n → s.n < l.length → s.n ≤ (it s).1.n ∧ (it s).1.n < l.length
end
end Go.Proofs.YtonchjamoblioaaGreatDoor
namespace Go.Proofs.YtonchjamoblioaaGreatDoor
open Go.Kin
set_option maxRecDepth 100000
set_option maxHeartbeats 0
attribute [go_sem] unl te_132 te_134 te_137 te_129 rfC RS.n RS.b RS.m
end Go.Proofs.YtonchjamoblioaaGreatDoor
namespace Go.Proofs.YtonchjamoblioaaGreatDoor
open Go.Kin
set_option maxRecDepth 100000
set_option maxHeartbeats 0
end Go.Proofs.YtonchjamoblioaaGreatDoor
namespace Go.Proofs.YtonchjamoblioaaGreatDoor
open Go.Kin
set_option maxRecDepth 100000
set_option maxHeartbeats 0
end Go.Proofs.YtonchjamoblioaaGreatDoor
namespace Go.Proofs.YtonchjamoblioaaGreatDoor
open Go.Kin
/-! ### the document's rules read what the program's read -/
/-- from a state that is good: the same; or the document's reader stands at the place that the program throws. One that is bad stays so -/
def Rel {α : Type} (s : RS) (r : PR α) (q : RS × α) : Prop :=
 (s.b < 0 → match r with | .ok s1 x => q = (⟨s1.n, s.b, s1.m⟩, x) | .err a => q.1.b = a ∧ 0 ≤ a) ∧ (0 ≤ s.b → q.1.b = s.b)
section
variable {l : List Tk}
theorem Rel.bind {α β : Type} {s : RS} {r : PR α} {q : RS × α} {f : PS → α → PR β} {g : RS × α → RS × β} (h : Rel s r q) (h1 : s.b < 0 → ∀ s1 x, r = .ok s1 x → Rel ⟨s1.n, s.b, s1.m⟩ (f s1 x) (g (⟨s1.n, s.b, s1.m⟩, x))) (h2 : ∀ p : RS × α, 0 ≤ p.1.b → (g p).1.b = p.1.b) : Rel s (r.bind f) (g q) := by
 refine ⟨fun hb => ?_, fun hb => ?_⟩
 ·have h3 := h.1 hb
  cases r with
  | ok s1 x => simp only at h3; subst h3; exact (h1 hb s1 x rfl).1 hb
  | err a => simp only at h3; simp only [PR.bind]; rw [h2 q (by omega)]; exact h3
 ·have := h.2 hb
  rw [h2 q (by omega)]; exact this
theorem Rel.map {α β : Type} {s : RS} {r : PR α} {q : RS × α} {F : α → β} (h : Rel s r q) : Rel s (r.bind fun s1 x => .ok s1 (F x)) (q.1, F q.2) :=
 h.bind (g := fun p => (p.1, F p.2)) (fun hb s1 x _ => ⟨fun _ => rfl, fun h => by simp only at h; omega⟩) (fun p _ => rfl)
theorem Rel.to {α : Type} {s : RS} {r : PR α} {q q' : RS × α} (h : Rel s r q) (e : q = q') : Rel s r q' := e ▸ h
variable (hk : TkOk l)
include hk
/-- a rule of both -/
def RelR (l : List Tk) (n0 : Nat) (rd : PS → PR Ex) (it : RS → RS × Ex) : Prop := ∀ s : RS, n0 ≤ s.n → s.n < l.length → Rel s (rd ⟨s.n, s.m⟩) (it s)
end
end Go.Proofs.YtonchjamoblioaaGreatDoor
namespace Go.Proofs.YtonchjamoblioaaGreatDoor
open Go.Kin
set_option maxRecDepth 100000
set_option maxHeartbeats 0
end Go.Proofs.YtonchjamoblioaaGreatDoor
namespace Go.Proofs.YtonchjamoblioaaGreatDoor
open Go.Kin
set_option maxRecDepth 100000
set_option maxHeartbeats 0
section
variable {l : List Tk} {s : RS}
end
end Go.Proofs.YtonchjamoblioaaGreatDoor
namespace Go.Proofs.YtonchjamoblioaaGreatDoor
open Go.Kin
/-! ### where a limit is passed, a rule reads the same -/
def MC {α : Type} (a : Int) (rd : PS → PR α) : Prop := ∀ s, rd (limS true a s) = (rd s).bind fun s1 x => .ok (limS true a s1) x
section
variable {l : List Tk} {a : Int}
/-! ### patterns; how many -/
theorem Rel.ok {α : Type} {n : Nat} {m b : Int} {x : α} : Rel ⟨n, b, m⟩ (.ok ⟨n, m⟩ x) (⟨n, b, m⟩, x) := ⟨fun _ => rfl, fun _ => rfl⟩
variable (hk : TkOk l)
include hk
/-- the rest of a pattern, behind its first vertex -/
def patT (l : List Tk) (p : RS × List UInt8) : RS × Pt :=
 if isR l [61, 91] p.1 = true then (vertexS l (mustR l [93, 61, 62] (wholeR l (p.1.step l)).1), ⟨p.2, vertexT l (mustR l [93, 61, 62] (wholeR l (p.1.step l)).1), true, [], [], (wholeR l (p.1.step l)).2⟩)
 else if isR l [97, 115] (nameS l (mustR l [45, 91] p.1)) = true then
  (vertexS l (mustR l [93, 45, 62] (nameS l ((nameS l (mustR l [45, 91] p.1)).step l))), ⟨p.2, vertexT l (mustR l [93, 45, 62] (nameS l ((nameS l (mustR l [45, 91] p.1)).step l))), false, nameT l (mustR l [45, 91] p.1), nameT l ((nameS l (mustR l [45, 91] p.1)).step l), .mk 0 [] []⟩)
 else (vertexS l (mustR l [93, 45, 62] (nameS l (mustR l [45, 91] p.1))), ⟨p.2, vertexT l (mustR l [93, 45, 62] (nameS l (mustR l [45, 91] p.1))), false, nameT l (mustR l [45, 91] p.1), [], .mk 0 [] []⟩)
end
end Go.Proofs.YtonchjamoblioaaGreatDoor
namespace Go.Proofs.YtonchjamoblioaaGreatDoor
open Go.Kin
/-! ### the document's queries -/
section
variable (l : List Tk)
def toldR (s : RS) : RS × Opd := (toldS l s, toldO l s)
def qu1 (s : RS) : RS := mustR l [109, 97, 116, 99, 104] s
def qu2 (s : RS) : RS × List Pt := manyR l (patR l) [44] 4 (l.length + 1) (qu1 l s) []
def qu3 (p : RS) : RS × List Cd := if isR l [119, 104, 101, 114, 101] p = true then manyR l (condR l) [97, 110, 100] 6 (l.length + 1) (p.step l) [] else (p, [])
def qu4 (p : RS) : RS := mustR l [114, 101, 116, 117, 114, 110] p
def qu5 (p : RS) : RS × List Opd := manyR l (toldR l) [44] 4 (l.length + 1) p []
def qu6 (p : RS) : RS := mustR l [114, 97, 110, 103, 101] p
def qu8 (p : RS) : RS := mustR l [115, 108, 105, 100, 101] p
def quT (ps : List Pt) (cs : List Cd) (rs : List Opd) (p : RS) : RS × Qu := (numS l (qu8 l (numS l (qu6 l p))), ⟨ps, cs, rs, numV l (qu6 l p), numV l (qu8 l (numS l (qu6 l p)))⟩)
def queryR (s : RS) : RS × Qu := quT l (qu2 l s).2 (qu3 l (qu2 l s).1).2 (qu5 l (qu4 l (qu3 l (qu2 l s).1).1)).2 (qu5 l (qu4 l (qu3 l (qu2 l s).1).1)).1
def endB (s : RS) : Bool := decide (s.b < 0) && !((nth l s.n).k == 5)
def endR (s : RS) : RS := if endB l s = true then s.fail l else s
end
def wrongA (s : RS) : Int := if 0 ≤ s.b then s.b else if 0 ≤ s.m then s.m else 0
def wrongE (s : RS) : Int := if 0 ≤ s.b then 7 else if 0 ≤ s.m then 3 else 0
def readR {α : Type} (z : α) (rule : List Tk → RS → RS × α) (s : List UInt8) : α × Int × Int :=
 if lexE s = 0 then (if wrongE (endR (lexT s) (rule (lexT s) ⟨0, -1, -1⟩).1) = 0 then (rule (lexT s) ⟨0, -1, -1⟩).2 else z, wrongA (endR (lexT s) (rule (lexT s) ⟨0, -1, -1⟩).1), wrongE (endR (lexT s) (rule (lexT s) ⟨0, -1, -1⟩).1))
 else (z, lexA s, lexE s)
section
variable {l : List Tk}
variable (hk : TkOk l)
include hk
end
end Go.Proofs.YtonchjamoblioaaGreatDoor
namespace Go.Proofs.YtonchjamoblioaaGreatDoor
open Go.Kin
set_option maxRecDepth 100000
set_option maxHeartbeats 0
end Go.Proofs.YtonchjamoblioaaGreatDoor
namespace Go.Proofs.YtonchjamoblioaaGreatDoor
open Go.Kin
set_option maxRecDepth 100000
set_option maxHeartbeats 0
section
variable {α : Type} {z : α} {rule : List Tk → RS → RS × α} {s : List UInt8}
end
end Go.Proofs.YtonchjamoblioaaGreatDoor
namespace Go.Proofs.YtonchjamoblioaaGreatDoor
open Go.Kin
set_option maxRecDepth 100000
set_option maxHeartbeats 0
end Go.Proofs.YtonchjamoblioaaGreatDoor
namespace Go.Proofs.YtonchjamoblioaaGreatDoor
open Go.Kin
/-! ### what is read is small; the chapter's examples -/
section
variable {l : List Tk}
structure SmQ (q : Qu) : Prop where
 p : q.p.length ≤ 1000000
 c : q.c.length ≤ 1000000
 r : q.r.length ≤ 1000000
 e : ∀ p ∈ q.p, p.e.size ≤ 1000000
end
end Go.Proofs.YtonchjamoblioaaGreatDoor
namespace Go.Proofs.YtonchjamoblioaaGreatDoor
open Go.Kin
set_option maxRecDepth 100000
set_option maxHeartbeats 0
theorem dg5 : Lib.decDigits 5 = [53] := by rw [Lib.decDigits, dif_pos (by omega)]; rfl
theorem parse_d5 : parseV [53] = ⟨1, 5, []⟩ ∧ parseE [53] = 0 := by
 have hb : parseB [53] = true := by
  have e : parseT [53] = ⟨1, 5, []⟩ := by decide
  have : Lib.itoa 5 = [53] := by unfold Lib.itoa; rw [if_neg (by decide), show (5 : Int).toNat = 5 from rfl, dg5]
  unfold parseB; rw [e]; unfold Vl.right Vl.shown shownV; simp [this, rightV]
 have e : parseT [53] = ⟨1, 5, []⟩ := by decide
 unfold parseV parseE; rw [hb, e]; exact ⟨rfl, rfl⟩
theorem dg1 : Lib.decDigits 1 = [49] := by rw [Lib.decDigits, dif_pos (by omega)]; rfl
theorem parse_d1 : parseV [49] = ⟨1, 1, []⟩ ∧ parseE [49] = 0 := by
 have hb : parseB [49] = true := by
  have e : parseT [49] = ⟨1, 1, []⟩ := by decide
  have : Lib.itoa 1 = [49] := by unfold Lib.itoa; rw [if_neg (by decide), show (1 : Int).toNat = 1 from rfl, dg1]
  unfold parseB; rw [e]; unfold Vl.right Vl.shown shownV; simp [this, rightV]
 have e : parseT [49] = ⟨1, 1, []⟩ := by decide
 unfold parseV parseE; rw [hb, e]; exact ⟨rfl, rfl⟩
def awA : List UInt8 := [109, 97, 116, 99, 104, 32, 40, 97, 41, 45, 91, 120, 93, 45, 62, 40, 98, 41, 32, 114, 101, 116, 117, 114, 110, 32, 97, 32, 114, 97, 110, 103, 101, 32, 53, 32, 115, 108, 105, 100, 101, 32, 49]
def awAT : List Tk := [⟨1, [109, 97, 116, 99, 104], 0, v0⟩, ⟨4, [40], 6, v0⟩, ⟨1, [97], 7, v0⟩, ⟨4, [41], 8, v0⟩, ⟨4, [45, 91], 9, v0⟩, ⟨1, [120], 11, v0⟩, ⟨4, [93, 45, 62], 12, v0⟩, ⟨4, [40], 15, v0⟩, ⟨1, [98], 16, v0⟩, ⟨4, [41], 17, v0⟩, ⟨1, [114, 101, 116, 117, 114, 110], 19, v0⟩, ⟨1, [97], 26, v0⟩, ⟨1, [114, 97, 110, 103, 101], 28, v0⟩, ⟨2, [53], 34, ⟨1, 5, []⟩⟩, ⟨1, [115, 108, 105, 100, 101], 36, v0⟩, ⟨2, [49], 42, ⟨1, 1, []⟩⟩, ⟨5, [], 43, v0⟩]
theorem awA_all : lexAll awA = (awAT, none) := by
 have s0 := lexAt_on (s := awA) (a := 0) (by decide +kernel) (by decide +kernel) (by decide +kernel)
 have n0 : thenA awA 0 = 5 := by decide +kernel
 have s1 := lexAt_on (s := awA) (a := 5) (by decide +kernel) (by decide +kernel) (by decide +kernel)
 have n1 : thenA awA 5 = 7 := by decide +kernel
 have s2 := lexAt_on (s := awA) (a := 7) (by decide +kernel) (by decide +kernel) (by decide +kernel)
 have n2 : thenA awA 7 = 8 := by decide +kernel
 have s3 := lexAt_on (s := awA) (a := 8) (by decide +kernel) (by decide +kernel) (by decide +kernel)
 have n3 : thenA awA 8 = 9 := by decide +kernel
 have s4 := lexAt_on (s := awA) (a := 9) (by decide +kernel) (by decide +kernel) (by decide +kernel)
 have n4 : thenA awA 9 = 11 := by decide +kernel
 have s5 := lexAt_on (s := awA) (a := 11) (by decide +kernel) (by decide +kernel) (by decide +kernel)
 have n5 : thenA awA 11 = 12 := by decide +kernel
 have s6 := lexAt_on (s := awA) (a := 12) (by decide +kernel) (by decide +kernel) (by decide +kernel)
 have n6 : thenA awA 12 = 15 := by decide +kernel
 have s7 := lexAt_on (s := awA) (a := 15) (by decide +kernel) (by decide +kernel) (by decide +kernel)
 have n7 : thenA awA 15 = 16 := by decide +kernel
 have s8 := lexAt_on (s := awA) (a := 16) (by decide +kernel) (by decide +kernel) (by decide +kernel)
 have n8 : thenA awA 16 = 17 := by decide +kernel
 have s9 := lexAt_on (s := awA) (a := 17) (by decide +kernel) (by decide +kernel) (by decide +kernel)
 have n9 : thenA awA 17 = 18 := by decide +kernel
 have s10 := lexAt_on (s := awA) (a := 18) (by decide +kernel) (by decide +kernel) (by decide +kernel)
 have n10 : thenA awA 18 = 25 := by decide +kernel
 have s11 := lexAt_on (s := awA) (a := 25) (by decide +kernel) (by decide +kernel) (by decide +kernel)
 have n11 : thenA awA 25 = 27 := by decide +kernel
 have s12 := lexAt_on (s := awA) (a := 27) (by decide +kernel) (by decide +kernel) (by decide +kernel)
 have n12 : thenA awA 27 = 33 := by decide +kernel
 have s13 := lexAt_on (s := awA) (a := 33) (by decide +kernel) (by show (parseE [53] == 0) = true; rw [parse_d5.2]; rfl) (by decide +kernel)
 have n13 : thenA awA 33 = 35 := by decide +kernel
 have s14 := lexAt_on (s := awA) (a := 35) (by decide +kernel) (by decide +kernel) (by decide +kernel)
 have n14 : thenA awA 35 = 41 := by decide +kernel
 have s15 := lexAt_on (s := awA) (a := 41) (by decide +kernel) (by show (parseE [49] == 0) = true; rw [parse_d1.2]; rfl) (by decide +kernel)
 have n15 : thenA awA 41 = 43 := by decide +kernel
 have s16 := lexAt_end (s := awA) (a := 43) (by decide +kernel) (by decide +kernel) (by decide +kernel)
 have t13 : tokA awA 33 = ⟨2, [53], 34, ⟨1, 5, []⟩⟩ := by show (⟨2, [53], 34, parseV [53]⟩ : Tk) = _; rw [parse_d5.1]
 have t15 : tokA awA 41 = ⟨2, [49], 42, ⟨1, 1, []⟩⟩ := by show (⟨2, [49], 42, parseV [49]⟩ : Tk) = _; rw [parse_d1.1]
 unfold lexAll
 rw [s0, n0, s1, n1, s2, n2, s3, n3, s4, n4, s5, n5, s6, n6, s7, n7, s8, n8, s9, n9, s10, n10, s11, n11, s12, n12, s13, n13, s14, n14, s15, n15, s16, t13, t15]
 rfl
def awB : List UInt8 := [109, 97, 116, 99, 104, 32, 40, 97, 41, 45, 91, 120, 93, 45, 40, 98, 41]
theorem awB_all : (lexAll awB).2 = some 13 := by
 have s0 := lexAt_on (s := awB) (a := 0) (by decide +kernel) (by decide +kernel) (by decide +kernel)
 have n0 : thenA awB 0 = 5 := by decide +kernel
 have s1 := lexAt_on (s := awB) (a := 5) (by decide +kernel) (by decide +kernel) (by decide +kernel)
 have n1 : thenA awB 5 = 7 := by decide +kernel
 have s2 := lexAt_on (s := awB) (a := 7) (by decide +kernel) (by decide +kernel) (by decide +kernel)
 have n2 : thenA awB 7 = 8 := by decide +kernel
 have s3 := lexAt_on (s := awB) (a := 8) (by decide +kernel) (by decide +kernel) (by decide +kernel)
 have n3 : thenA awB 8 = 9 := by decide +kernel
 have s4 := lexAt_on (s := awB) (a := 9) (by decide +kernel) (by decide +kernel) (by decide +kernel)
 have n4 : thenA awB 9 = 11 := by decide +kernel
 have s5 := lexAt_on (s := awB) (a := 11) (by decide +kernel) (by decide +kernel) (by decide +kernel)
 have n5 : thenA awB 11 = 12 := by decide +kernel
 have s6 := lexAt_on (s := awB) (a := 12) (by decide +kernel) (by decide +kernel) (by decide +kernel)
 have n6 : thenA awB 12 = 13 := by decide +kernel
 have s7 := lexAt_no (s := awB) (a := 13) (by decide +kernel) (by decide +kernel)
 have r0 : (lexAt awB 0).2 = (lexAt awB 5).2 := by rw [s0, n0]
 have r1 : (lexAt awB 5).2 = (lexAt awB 7).2 := by rw [s1, n1]
 have r2 : (lexAt awB 7).2 = (lexAt awB 8).2 := by rw [s2, n2]
 have r3 : (lexAt awB 8).2 = (lexAt awB 9).2 := by rw [s3, n3]
 have r4 : (lexAt awB 9).2 = (lexAt awB 11).2 := by rw [s4, n4]
 have r5 : (lexAt awB 11).2 = (lexAt awB 12).2 := by rw [s5, n5]
 have r6 : (lexAt awB 12).2 = (lexAt awB 13).2 := by rw [s6, n6]
 show (lexAt awB 0).2 = _
 rw [r0, r1, r2, r3, r4, r5, r6, s7]
 decide +kernel
def awX : List UInt8 := [40, 120, 124, 121, 41, 42, 46, 122]
def awXT : List Tk := [⟨4, [40], 0, v0⟩, ⟨1, [120], 1, v0⟩, ⟨4, [124], 2, v0⟩, ⟨1, [121], 3, v0⟩, ⟨4, [41], 4, v0⟩, ⟨4, [42], 5, v0⟩, ⟨4, [46], 6, v0⟩, ⟨1, [122], 7, v0⟩, ⟨5, [], 8, v0⟩]
theorem awX_all : lexAll awX = (awXT, none) := by
 have s0 := lexAt_on (s := awX) (a := 0) (by decide +kernel) (by decide +kernel) (by decide +kernel)
 have n0 : thenA awX 0 = 1 := by decide +kernel
 have s1 := lexAt_on (s := awX) (a := 1) (by decide +kernel) (by decide +kernel) (by decide +kernel)
 have n1 : thenA awX 1 = 2 := by decide +kernel
 have s2 := lexAt_on (s := awX) (a := 2) (by decide +kernel) (by decide +kernel) (by decide +kernel)
 have n2 : thenA awX 2 = 3 := by decide +kernel
 have s3 := lexAt_on (s := awX) (a := 3) (by decide +kernel) (by decide +kernel) (by decide +kernel)
 have n3 : thenA awX 3 = 4 := by decide +kernel
 have s4 := lexAt_on (s := awX) (a := 4) (by decide +kernel) (by decide +kernel) (by decide +kernel)
 have n4 : thenA awX 4 = 5 := by decide +kernel
 have s5 := lexAt_on (s := awX) (a := 5) (by decide +kernel) (by decide +kernel) (by decide +kernel)
 have n5 : thenA awX 5 = 6 := by decide +kernel
 have s6 := lexAt_on (s := awX) (a := 6) (by decide +kernel) (by decide +kernel) (by decide +kernel)
 have n6 : thenA awX 6 = 7 := by decide +kernel
 have s7 := lexAt_on (s := awX) (a := 7) (by decide +kernel) (by decide +kernel) (by decide +kernel)
 have n7 : thenA awX 7 = 8 := by decide +kernel
 have s8 := lexAt_end (s := awX) (a := 8) (by decide +kernel) (by decide +kernel) (by decide +kernel)
 unfold lexAll
 rw [s0, n0, s1, n1, s2, n2, s3, n3, s4, n4, s5, n5, s6, n6, s7, n7, s8]
 rfl
def awQ : Qu := ⟨[⟨[97], [98], false, [120], [], .mk 0 [] []⟩], [], [⟨1, [97], [], 0, 0, []⟩], 5, 1⟩
def awE : Ex := .mk 2 [] [.mk 4 [] [.mk 3 [] [.mk 1 [120] [], .mk 1 [121] []]], .mk 1 [122] []]
theorem kd_lst : ∀ l : List Ex, kdR l = lstR (l.map exC)
 | [] => by funext i; simp [kdR, lstR]
 | x :: r => by
  funext i
  cases i with
  | zero => cases x; simp [kdR, lstR, exC, Ex.k, Ex.s, kdX]
  | succ i => cases x; rw [kdR, kd_lst r]; simp [lstR]
theorem kd_mk (k : Int) (s : List UInt8) (l : List Ex) : kdX (.mk k s l) = .sl 3 l.length l.length (lstR (l.map exC)) := by rw [kd_eq, kd_lst]; rfl
theorem awA_ok : FnOK LaidX Tryz.prog 32 [sv awA] (.tup [quD awQ, iv 0, iv 0]) := by
 have h := pQuery_ok awA (by decide)
 obtain ⟨e1, e2, e3⟩ := lex_some (s := awA) (by decide) awA_all
 have hq : queryP awAT ⟨0, -1⟩ = .ok ⟨16, -1⟩ awQ := by kernel_rfl
 rw [readV_ok (s1 := ⟨16, -1⟩) (x := awQ) e3 (by rw [e1]; exact hq) (by rw [e1]; decide +kernel) (by decide)] at h
 exact h
theorem awB_ok : FnOK LaidX Tryz.prog 32 [sv awB] (.tup [quD qz, iv 13, iv 7]) := by
 have h := pQuery_ok awB (by decide)
 obtain ⟨e1, e2, e3⟩ := lex_none (s := awB) (by decide) awB_all
 rw [readV_no (by rw [e3]; decide), e2, e3] at h
 exact h
theorem awX_ok : FnOK LaidX Tryz.prog 34 [sv awX] (.tup [.ag [iv 2, sv [], .sl 3 2 2 (lstR [[iv 4, sv [], .sl 3 1 1 (lstR [[iv 3, sv [], .sl 3 2 2 (lstR [exC (.mk 1 [120] []), exC (.mk 1 [121] [])])]])], exC (.mk 1 [122] [])])], iv 0, iv 0]) := by
 have h := pExpr_ok awX (by decide)
 obtain ⟨e1, e2, e3⟩ := lex_some (s := awX) (by decide) awX_all
 have hq : wholeP awXT ⟨0, -1⟩ = .ok ⟨8, -1⟩ awE := by kernel_rfl
 rw [readV_ok (s1 := ⟨8, -1⟩) (x := awE) e3 (by rw [e1]; exact hq) (by rw [e1]; decide +kernel) (by decide)] at h
 have e : exD awE = .ag [iv 2, sv [], .sl 3 2 2 (lstR [[iv 4, sv [], .sl 3 1 1 (lstR [[iv 3, sv [], .sl 3 2 2 (lstR [exC (.mk 1 [120] []), exC (.mk 1 [121] [])])]])], exC (.mk 1 [122] [])])] := by
  unfold awE; simp only [exD, kd_mk, List.map, exC]; rfl
 rw [e] at h
 exact h
end Go.Proofs.YtonchjamoblioaaGreatDoor
namespace Go.Proofs.YtonchjamoblioaaGreatDoor
open Go.Kin
set_option maxRecDepth 100000
set_option maxHeartbeats 0
theorem lst_0 (a : List D) (l : List (List D)) : lstR (a :: l) 0 = a := rfl
attribute [go_sem] lst_0 awQ Qu.p Qu.c Qu.r Qu.range Qu.slide
theorem pawake_ok  : FnOK LaidX Tryz.prog 27 [] (bv true) := by
 refine FnOK_of laidX_stable Tryz.func27 Tryz.ntmps27 rfl (by as_aux_lemma => kernel_rfl) (Nat.le_of_ble_eq_true rfl) (fun R hR => ?_)
 obtain ⟨_, b, cs, T, C⟩ := R
 obtain rfl : _ = Tryz.prog := hR.p
 refine sreg te_ok ?_
 refine sq ?_
 apply Exec.regionL te_ok
 ·intro u' Q hQ
  simp only [go_sem]
  repeat refine ob2 ?_
  refine kcall hR.inv te_ok rfl rfl rfl rfl rfl rfl (awA_ok) ?_
  simp only [go_sem]
  repeat refine ob2 ?_
  exact hQ
 refine sq ?_
 apply Exec.regionL te_ok
 ·intro u' Q hQ
  simp only [go_sem]
  repeat refine ob2 ?_
  refine kcall hR.inv te_ok rfl rfl rfl rfl rfl rfl (awB_ok) ?_
  simp only [go_sem]
  repeat refine ob2 ?_
  exact hQ
 refine sq ?_
 apply Exec.regionL te_ok
 ·intro u' Q hQ
  simp only [go_sem]
  repeat refine ob2 ?_
  refine kcall hR.inv te_ok rfl rfl rfl rfl rfl rfl (awX_ok) ?_
  simp only [go_sem]
  repeat refine ob2 ?_
  exact hQ
 refine sreg te_ok ?_
 refine Exec.rets hR te_ok rfl rfl rfl (LeX.le ?_) (.inr ⟨_, rfl⟩)
 simp only [go_sem]
 all_goals (try decide)
end Go.Proofs.YtonchjamoblioaaGreatDoor
namespace Go.Proofs.YtonchjamoblioaaGreatDoor
open Go.Kin
set_option maxRecDepth 100000
set_option maxHeartbeats 0
end Go.Proofs.YtonchjamoblioaaGreatDoor
namespace Go.Proofs.YtonchjamoblioaaGreatDoor
open Go.Kin
set_option maxRecDepth 100000
set_option maxHeartbeats 0
attribute [go_sem] te_62 te_66 te_69
/-- places, so far -/
def atR (g : List UInt8) (l : List Tk) (i : Nat) : Nat → List D := fun j => [iv (if j < i then ((othB g l j).length : Int) else 0)]
end Go.Proofs.YtonchjamoblioaaGreatDoor
