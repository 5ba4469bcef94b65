/- Steps of a function body on data, and contracts of the functions of the seat, walked. -/
import Derived.Test.YtonchjamoblioaaGreatDoorExLent
set_option linter.unusedSimpArgs false
set_option linter.unusedVariables false
set_option linter.unusedSectionVars false
namespace Go.Proofs.YtonchjamoblioaaGreatDoor
open Go.Kin
set_option maxRecDepth 100000
set_option maxHeartbeats 0
attribute [go_sem] exLC exLD exsLD mkC mkEx
attribute [go_sem ↓] lfD_kdL
theorem leaf_kd (x : Ex) : leafSV (.d (kdX x)) = true := by rw [kd_eq]; rfl
theorem leaf_kdL (x : Ex) : leafSV (.d (kdL x)) = true := by rw [kdL_eq]; rfl
attribute [go_sem ↓] leaf_kd leaf_kdL
theorem mark_ok (a i : Int) (ha : 0 ≤ a ∧ a ≤ 1000) (hi : 0 ≤ i ∧ i ≤ 10000000) : FnOK Laid Tryz.prog 146 [iv a, iv i] (iv (mkI a i)) := by
 refine FnOK_of laid_stable Tryz.func146 Tryz.ntmps146 rfl (by as_aux_lemma => kernel_rfl) (Nat.le_of_ble_eq_true rfl) (fun R hR => ?_)
 obtain ⟨_, b, cs, T, C⟩ := R
 obtain rfl : _ = Tryz.prog := hR.p
 have w1 : IntKind.i64.wrap (a + 7) = a + 7 := wrap_id (by omega)
 have w2 : IntKind.i64.wrap (1000003 * (a + 7)) = 1000003 * (a + 7) := wrap_id (by omega)
 have w3 : IntKind.i64.wrap (1000003 * (a + 7) + i) = 1000003 * (a + 7) + i := wrap_id (by omega)
 refine sq ?_
 apply Exec.regionL te_ok
 ·intro u' Q hQ
  simp only [go_sem, w1, w2, w3, mkI]
  repeat refine ob2 ?_
  exact hQ
 refine sq ?_
 apply Exec.regionL te_ok
 ·intro u' Q hQ
  simp only [go_sem, w1, w2, w3, mkI]
  repeat refine ob2 ?_
  exact hQ
 refine Exec.rets hR te_ok rfl rfl rfl (LeX.le ?_) (.inr ⟨_, rfl⟩)
 simp only [go_sem, w1, w2, w3, mkI]
theorem markE_ok (a i : Int) (ha : 0 ≤ a ∧ a ≤ 1000) (hi : 0 ≤ i ∧ i ≤ 10000000) : FnOK Laid Tryz.prog 82 [iv a, iv i] (.ag (mkC a i)) := by
 refine FnOK_of laid_stable Tryz.func82 Tryz.ntmps82 rfl (by as_aux_lemma => kernel_rfl) (Nat.le_of_ble_eq_true rfl) (fun R hR => ?_)
 obtain ⟨_, b, cs, T, C⟩ := R
 obtain rfl : _ = Tryz.prog := hR.p
 refine sreg te_ok ?_
 refine sq ?_
 apply Exec.regionL te_ok
 ·intro u' Q hQ
  simp only [go_sem]
  repeat refine ob2 ?_
  refine kcall hR.inv te_ok rfl rfl rfl rfl rfl rfl (mark_ok _ _ (by omega) (by omega)) ?_
  simp only [go_sem]
  repeat refine ob2 ?_
  exact hQ
 refine Exec.rets hR te_ok rfl rfl rfl (LeX.le ?_) (.inr ⟨_, rfl⟩)
 simp only [go_sem]
theorem catR_row {row : Nat → List D} {n : Nat} {r : List D} (h : row n = r) (q : Nat) (hq : q < n + 1) : catR n row (lstR [r]) q = row q := by
 unfold catR
 by_cases hj : q < n
 ·rw [if_pos hj]
 ·obtain rfl : q = n := by omega
  rw [if_neg hj, h]; simp [lstR]
theorem lentEs_step (l : List Ex) (hl : Ex.sizes l ≤ 1000000) (ihx : ∀ x ∈ l, FnOK Laid Tryz.prog 15 [exD x] (exLD x)) : FnOK Laid Tryz.prog 41 [exsD l] (exsLD l) := by
 refine FnOK_of laid_stable Tryz.func41 Tryz.ntmps41 rfl (by as_aux_lemma => kernel_rfl) (Nat.le_of_ble_eq_true rfl) (fun R hR => ?_)
 obtain ⟨_, b, cs, T, C⟩ := R
 obtain rfl : _ = Tryz.prog := hR.p
 have hln := Ex.len_le l
 have w5 : IntKind.i64.wrap ((l.length : Int) + 12) = ((l.length + 12 : Nat) : Int) := by rw [wrap_id (by omega)]; omega
 refine sq ?_
 apply Exec.regionL te_ok
 ·intro u' Q hQ
  simp only [go_sem, w5]
  repeat refine ob2 ?_
  exact hQ
 refine sq ?_
 apply Exec.regionL te_ok
 ·intro u' Q hQ
  simp only [go_sem, w5]
  repeat refine ob2 ?_
  exact hQ
 refine sq ?_
 refine sq ?_
 apply Exec.regionL te_ok
 ·intro u' Q hQ
  simp only [go_sem, w5]
  repeat refine ob2 ?_
  exact hQ
 refine Exec.block ?_
 apply Exec.loopU [0] (X := Nat) (fun i => [(4, .d (iv i)), (3, .own 10)]) (fun i => []) (fun i => [(10, ⟨30, 3, i, i, lenR l⟩)]) (fun i => l.length - i) (fun i => i ≤ l.length) 0
 case h0 =>
  first | assumption | omega | (simp only [Bool.not_eq_true', Bool.or_eq_false_iff, Bool.or_eq_true, Bool.and_eq_true, decide_eq_true_eq, decide_eq_false_iff_not, beq_iff_eq, Bool.not_eq_false']; omega) | (simp; done) | (simp; omega) | (intros; omega) | (simp_all; done) | (simp_all; omega)
 case hw =>
  simp only [go_sem]; simp
 case body =>
  rintro i hx ih0
  try simp only at hx
  apply Exec.norm
  ·simp only [go_sem, w5]
   rfl
  refine sq ?_
  refine sq ?_
  apply Exec.regionL te_ok
  ·intro u' Q hQ
   simp only [go_sem, w5]
   repeat refine ob2 ?_
   exact hQ
  refine Exec.cond_split rfl (fun h0 => ?_) (fun h0 => ?_)
  ·have hi : i < l.length := by have := of_decide_eq_true h0; omega
   have ha := kdR_at hi
   have hr := lenR_at hi
   have w2 : IntKind.i64.wrap ((i : Int) + 1) = ((i + 1 : Nat) : Int) := by rw [wrap_id (by omega)]; omega
   refine sk ?_
   refine sq ?_
   refine Exec.block ?_
   refine sq ?_
   apply Exec.regionL te_ok
   ·intro u' Q hQ
    simp only [go_sem, w5, ha, w2]
    repeat refine ob2 ?_
    refine kcall hR.inv te_ok rfl rfl rfl rfl rfl rfl (ihx _ (nth_mem hi)) ?_
    simp only [go_sem, w5, ha, w2]
    repeat refine ob2 ?_
    exact hQ
   apply Exec.regionL te_ok
   ·intro u' Q hQ
    simp only [go_sem, w5, ha, w2]
    repeat refine ob2 ?_
    exact hQ
   refine Exec.inBlock ?_
   apply Exec.regionL te_ok
   ·intro u' Q hQ
    simp only [go_sem, w5, ha, w2]
    repeat refine ob2 ?_
    exact hQ
   refine Exec.back (ih0 (i + 1) ?_ ?_) ?_ ?_ ?_ ?_ ?_ ?_ ?_
   ·try simp only
    omega
   ·try simp only
    omega
   ·rfl
   ·rfl
   ·(simp only [go_sem, w2, ha])
   ·(simp only [go_sem, w2, ha])
   ·simp only [go_sem, w2, ha]
    exact fun q hq => catR_row hr q hq
   ·simp only [go_sem, w5, ha, w2]
   ·rfl
  ·obtain rfl : i = l.length := by have := of_decide_eq_false h0; omega
   refine Exec.exit rfl ?_
   refine sq ?_
   refine sq ?_
   apply Exec.regionL te_ok
   ·intro u' Q hQ
    simp only [go_sem, w5]
    repeat refine ob2 ?_
    exact hQ
   refine Exec.block ?_
   apply Exec.loopU [0] (X := Nat) (fun j => [(6, .d (iv j)), (3, .own 10)]) (fun j => []) (fun j => [(10, ⟨30, 3, l.length + j, l.length + j, lenR l⟩)]) (fun j => 12 - j) (fun j => j ≤ 12) 0
   case h0 =>
    first | assumption | omega | (simp only [Bool.not_eq_true', Bool.or_eq_false_iff, Bool.or_eq_true, Bool.and_eq_true, decide_eq_true_eq, decide_eq_false_iff_not, beq_iff_eq, Bool.not_eq_false']; omega) | (simp; done) | (simp; omega) | (intros; omega) | (simp_all; done) | (simp_all; omega)
   case hw =>
    simp only [go_sem]
   case body =>
    rintro j hx ih1
    try simp only at hx
    apply Exec.norm
    ·simp only [go_sem, w5]
     rfl
    refine sq ?_
    refine sq ?_
    apply Exec.regionL te_ok
    ·intro u' Q hQ
     simp only [go_sem, w5]
     repeat refine ob2 ?_
     exact hQ
    refine Exec.cond_split rfl (fun h1 => ?_) (fun h1 => ?_)
    ·have hj : j < 12 := by have := of_decide_eq_true h1; omega
     have hr : lenR l (l.length + j) = mkC 1 (j : Int) := by rw [lenR_mk (by omega)]; simp
     have w3 : IntKind.i64.wrap ((j : Int) + 1) = ((j + 1 : Nat) : Int) := by rw [wrap_id (by omega)]; omega
     refine sk ?_
     refine sq ?_
     refine Exec.block ?_
     apply Exec.regionL te_ok
     ·intro u' Q hQ
      simp only [go_sem, w5, w3]
      repeat refine ob2 ?_
      refine kcall hR.inv te_ok rfl rfl rfl rfl rfl rfl (markE_ok _ _ (by omega) (by omega)) ?_
      simp only [go_sem, w5, w3]
      repeat refine ob2 ?_
      exact hQ
     refine Exec.inBlock ?_
     apply Exec.regionL te_ok
     ·intro u' Q hQ
      simp only [go_sem, w5, w3]
      repeat refine ob2 ?_
      exact hQ
     refine Exec.back (ih1 (j + 1) ?_ ?_) ?_ ?_ ?_ ?_ ?_ ?_ ?_
     ·try simp only
      omega
     ·try simp only
      omega
     ·rfl
     ·rfl
     ·(simp only [go_sem, w3])
     ·(simp only [go_sem, w3])
     ·simp only [go_sem, w3]
      exact ⟨by omega, .inl (by omega), fun q hq => catR_row hr q (by omega)⟩
     ·simp only [go_sem, w5, w3]
     ·rfl
    ·obtain rfl : j = 12 := by have := of_decide_eq_false h1; omega
     refine Exec.exit rfl ?_
     refine sq ?_
     refine Exec.freeze 10 rfl ?_
     apply Exec.norm
     ·simp only [go_sem]
      rfl
     apply Exec.regionL te_ok
     ·intro u' Q hQ
      simp only [go_sem, w5]
      repeat refine ob2 ?_
      exact hQ
     refine Exec.rets hR te_ok rfl rfl rfl (LeX.le ?_) (.inr ⟨_, rfl⟩)
     simp only [go_sem, w5]
theorem lentE_step (x : Ex) (hk0 : FnOK Laid Tryz.prog 41 [exsD x.kids] (exsLD x.kids)) : FnOK Laid Tryz.prog 15 [exD x] (exLD x) := by
 refine FnOK_of laid_stable Tryz.func15 Tryz.ntmps15 rfl (by as_aux_lemma => kernel_rfl) (Nat.le_of_ble_eq_true rfl) (fun R hR => ?_)
 obtain ⟨_, b, cs, T, C⟩ := R
 obtain rfl : _ = Tryz.prog := hR.p
 have hk := kd_eq x
 have hkL := kdL_eq x
 refine sq ?_
 apply Exec.regionL te_ok
 ·intro u' Q hQ
  simp only [go_sem, hk, hkL]
  repeat refine ob2 ?_
  exact hQ
 refine sq ?_
 apply Exec.regionL te_ok
 ·intro u' Q hQ
  simp only [go_sem, hk, hkL]
  repeat refine ob2 ?_
  refine kcall hR.inv te_ok rfl rfl rfl rfl rfl rfl (hk0) ?_
  simp only [go_sem, hk, hkL]
  repeat refine ob2 ?_
  exact hQ
 refine sq ?_
 apply Exec.regionL te_ok
 ·intro u' Q hQ
  simp only [go_sem, hk, hkL]
  repeat refine ob2 ?_
  exact hQ
 refine Exec.rets hR te_ok rfl rfl rfl (LeX.le ?_) (.inr ⟨_, rfl⟩)
 simp only [go_sem, hk, hkL]
theorem lentE_ok (x : Ex) (hx0 : x.size ≤ 1000000) : FnOK Laid Tryz.prog 15 [exD x] (exLD x) := by
 refine Ex.ind (p := fun x => x.size ≤ 1000000 → FnOK Laid Tryz.prog 15 [exD x] (exLD x)) (fun x ih h => lentE_step x (lentEs_step x.kids ?_ fun y hy => ih y hy ?_)) x hx0
 ·have := x.size_eq; omega
 ·have := Ex.sizes_mem hy; have := x.size_eq; omega
theorem kSame_true {x : Ex} {a b : D} (ha : LeD a (exD x)) (hb : LeD b (exD x)) (hx0 : x.size ≤ 1000000) : FnOK Laid Tryz.prog 55 [a, b] (bv true) := by
 have h := FnOK.args (xs := [a, b]) (kSame_ok x x hx0) ⟨ha, hb, trivial⟩
 rwa [decide_eq_true rfl] at h
theorem keptEs_step (l : List Ex) (hl : Ex.sizes l ≤ 1000000) (ihx : ∀ x ∈ l, FnOK Laid Tryz.prog 21 [exLD x, exD x] (bv true)) : FnOK Laid Tryz.prog 56 [exsLD l, exsD l] (bv true) := by
 refine FnOK_of laid_stable Tryz.func56 Tryz.ntmps56 rfl (by as_aux_lemma => kernel_rfl) (Nat.le_of_ble_eq_true rfl) (fun R hR => ?_)
 obtain ⟨_, b, cs, T, C⟩ := R
 obtain rfl : _ = Tryz.prog := hR.p
 have hln := Ex.len_le l
 have w5 : IntKind.i64.wrap ((l.length : Int) + 12) = ((l.length + 12 : Nat) : Int) := by rw [wrap_id (by omega)]; omega
 refine sq ?_
 apply Exec.regionL te_ok
 ·intro u' Q hQ
  simp only [go_sem, w5]
  repeat refine ob2 ?_
  exact hQ
 refine sq ?_
 refine sq ?_
 apply Exec.regionL te_ok
 ·intro u' Q hQ
  simp only [go_sem, w5]
  repeat refine ob2 ?_
  exact hQ
 refine Exec.cond (t := false) rfl ?_
 simp only [reduceIte, Bool.false_eq_true]
 refine sk ?_
 refine sq ?_
 apply Exec.regionL te_ok
 ·intro u' Q hQ
  simp only [go_sem, w5]
  repeat refine ob2 ?_
  exact hQ
 refine sq ?_
 refine sq ?_
 apply Exec.regionL te_ok
 ·intro u' Q hQ
  simp only [go_sem, w5]
  repeat refine ob2 ?_
  exact hQ
 refine Exec.block ?_
 apply Exec.loopU [1, 5] (X := Nat) (fun i => [(6, .d (iv i))]) (fun i => []) (fun i => []) (fun i => l.length + 12 - i) (fun i => i ≤ l.length + 12) 0
 case h0 =>
  first | assumption | omega | (simp only [Bool.not_eq_true', Bool.or_eq_false_iff, Bool.or_eq_true, Bool.and_eq_true, decide_eq_true_eq, decide_eq_false_iff_not, beq_iff_eq, Bool.not_eq_false']; omega) | (simp; done) | (simp; omega) | (intros; omega) | (simp_all; done) | (simp_all; omega)
 case hw =>
  simp only [go_sem]
 case body =>
  rintro i hx ih0
  try simp only at hx
  apply Exec.norm
  ·simp only [go_sem, w5]
   rfl
  refine sq ?_
  refine sq ?_
  apply Exec.regionL te_ok
  ·intro u' Q hQ
   simp only [go_sem, w5]
   repeat refine ob2 ?_
   exact hQ
  refine Exec.cond_split rfl (fun h1 => ?_) (fun h1 => ?_)
  ·have hi : i < l.length + 12 := by have := of_decide_eq_true h1; omega
   have w2 : IntKind.i64.wrap ((i : Int) + 1) = ((i + 1 : Nat) : Int) := by rw [wrap_id (by omega)]; omega
   refine sk ?_
   refine sq ?_
   refine Exec.block ?_
   refine sq ?_
   rcases Classical.em (i < l.length) with hs7 | hs7
   ·have hr := lenR_at hs7
    have hr2 := kdR_at hs7
    have hd1 : decide ((i : Int) < (l.length : Int)) = true := by simp; omega
    have hd2 : decide ((l.length : Int) ≤ (i : Int)) = false := by simp; omega
    apply Exec.draw (st := _) 36 35 [] [] te_ok (by as_aux_lemma => kernel_rfl) (by as_aux_lemma => kernel_rfl) (by as_aux_lemma => kernel_rfl)
    ·intro u' Q hQ
     simp only [go_sem, w5, w2, hr, hr2, hd1, hd2]
     repeat refine ob2 ?_
     refine kdcallG hR.inv te_ok rfl rfl rfl rfl rfl rfl ob1 (fun hq => ihx _ (nth_mem hs7)) ?_
     simp only [go_sem, w5, w2, hr, hr2, hd1, hd2]
     repeat refine ob2 ?_
     refine kdcallG hR.inv te_ok rfl rfl rfl rfl rfl rfl ob1 (fun hq => (show FnOK _ _ _ _ (.ag (mkC 1 0)) from by simp at hq)) ?_
     simp only [go_sem, w5, w2, hr, hr2, hd1, hd2]
     repeat refine ob2 ?_
     refine kdcallG hR.inv te_ok rfl rfl rfl rfl rfl rfl ob1 (fun hq => (show FnOK _ _ _ _ (bv true) from by simp at hq)) ?_
     simp only [go_sem, w5, w2, hr, hr2, hd1, hd2]
     repeat refine ob2 ?_
     exact hQ
    refine Exec.cond (t := false) rfl ?_
    simp only [reduceIte, Bool.false_eq_true]
    refine sk ?_
    refine Exec.inBlock ?_
    apply Exec.regionL te_ok
    ·intro u' Q hQ
     simp only [go_sem, w5, w2, hr, hr2, hd1, hd2]
     repeat refine ob2 ?_
     exact hQ
    refine Exec.back (ih0 (i + 1) ?_ ?_) ?_ ?_ ?_ ?_ ?_ ?_ ?_
    ·try simp only
     omega
    ·try simp only
     omega
    ·rfl
    ·rfl
    ·(simp only [go_sem, w5, w2, hr, hr2, hd1, hd2])
    ·(simp only [go_sem, w5, w2, hr, hr2, hd1, hd2])
    ·(simp only [go_sem, w5, w2, hr, hr2, hd1, hd2])
    ·simp only [go_sem, w5, w2, hr, hr2, hd1, hd2]
    ·rfl
   ·have hr := lenR_mk (l := l) (i := i) (by omega)
    have hr2 := kdR_out (l := l) (i := i) (by omega)
    have hd1 : decide ((i : Int) < (l.length : Int)) = false := by simp; omega
    have hd2 : decide ((l.length : Int) ≤ (i : Int)) = true := by simp; omega
    have w6 : IntKind.i64.wrap ((i : Int) - (l.length : Int)) = ((i - l.length : Nat) : Int) := by rw [wrap_id (by omega)]; omega
    apply Exec.draw (st := _) 36 35 [] [] te_ok (by as_aux_lemma => kernel_rfl) (by as_aux_lemma => kernel_rfl) (by as_aux_lemma => kernel_rfl)
    ·intro u' Q hQ
     simp only [go_sem, w5, w2, hr, hr2, hd1, hd2, w6]
     repeat refine ob2 ?_
     refine kdcallG hR.inv te_ok rfl rfl rfl rfl rfl rfl ob1 (fun hq => (show FnOK _ _ _ _ (bv true) from by simp at hq)) ?_
     simp only [go_sem, w5, w2, hr, hr2, hd1, hd2, w6]
     repeat refine ob2 ?_
     refine kdcallG hR.inv te_ok rfl rfl rfl rfl rfl rfl ob1 (fun hq => markE_ok 1 ((i - l.length : Nat) : Int) (by omega) (by omega)) ?_
     simp only [go_sem, w5, w2, hr, hr2, hd1, hd2, w6]
     repeat refine ob2 ?_
     refine kdcallG hR.inv te_ok rfl rfl rfl rfl rfl rfl ob1 (fun hq => kSame_true (mk_le 1 ((i - l.length : Nat) : Int)) (mk_le _ _) (by simp [Ex.size_eq, Ex.kids, Ex.sizes])) ?_
     simp only [go_sem, w5, w2, hr, hr2, hd1, hd2, w6]
     repeat refine ob2 ?_
     exact hQ
    refine Exec.cond (t := false) rfl ?_
    simp only [reduceIte, Bool.false_eq_true]
    refine sk ?_
    refine Exec.inBlock ?_
    apply Exec.regionL te_ok
    ·intro u' Q hQ
     simp only [go_sem, w5, w2, hr, hr2, hd1, hd2, w6]
     repeat refine ob2 ?_
     exact hQ
    refine Exec.back (ih0 (i + 1) ?_ ?_) ?_ ?_ ?_ ?_ ?_ ?_ ?_
    ·try simp only
     omega
    ·try simp only
     omega
    ·rfl
    ·rfl
    ·(simp only [go_sem, w5, w2, hr, hr2, hd1, hd2, w6])
    ·(simp only [go_sem, w5, w2, hr, hr2, hd1, hd2, w6])
    ·(simp only [go_sem, w5, w2, hr, hr2, hd1, hd2, w6])
    ·simp only [go_sem, w5, w2, hr, hr2, hd1, hd2, w6]
    ·rfl
  ·refine Exec.exit rfl ?_
   refine sq ?_
   apply Exec.regionL te_ok
   ·intro u' Q hQ
    simp only [go_sem, w5]
    repeat refine ob2 ?_
    exact hQ
   refine Exec.rets hR te_ok rfl rfl rfl (LeX.le ?_) (.inr ⟨_, rfl⟩)
   simp only [go_sem, w5]
theorem keptE_step (x : Ex) (hx0 : x.size ≤ 1000000) (hk0 : FnOK Laid Tryz.prog 56 [exsLD x.kids, exsD x.kids] (bv true)) : FnOK Laid Tryz.prog 21 [exLD x, exD x] (bv true) := by
 refine FnOK_of laid_stable Tryz.func21 Tryz.ntmps21 rfl (by as_aux_lemma => kernel_rfl) (Nat.le_of_ble_eq_true rfl) (fun R hR => ?_)
 obtain ⟨_, b, cs, T, C⟩ := R
 obtain rfl : _ = Tryz.prog := hR.p
 have hk := kd_eq x
 have hkL := kdL_eq x
 refine sq ?_
 apply Exec.regionL te_ok
 ·intro u' Q hQ
  simp only [go_sem, hk, hkL]
  repeat refine ob2 ?_
  exact hQ
 refine sq ?_
 apply Exec.regionL te_ok
 ·intro u' Q hQ
  simp only [go_sem, hk, hkL]
  repeat refine ob2 ?_
  refine kcall hR.inv te_ok rfl rfl rfl rfl rfl rfl (kSame_true (x := x) (by simpa only [exLD, hkL] using exLD_le x) (by simpa only [exD, hk] using LeD.refl (exD x)) hx0) ?_
  simp only [go_sem, hk, hkL]
  repeat refine ob2 ?_
  refine kcallG hR.inv te_ok rfl rfl rfl rfl rfl rfl ob1 (fun hq => hk0) ?_
  simp only [go_sem, hk, hkL]
  repeat refine ob2 ?_
  exact hQ
 refine Exec.rets hR te_ok rfl rfl rfl (LeX.le ?_) (.inr ⟨_, rfl⟩)
 simp only [go_sem, hk, hkL]
theorem keptE_ok (x : Ex) (hx0 : x.size ≤ 1000000) : FnOK Laid Tryz.prog 21 [exLD x, exD x] (bv true) := by
 refine Ex.ind (p := fun x => x.size ≤ 1000000 → FnOK Laid Tryz.prog 21 [exLD x, exD x] (bv true)) (fun x ih h => keptE_step x h (keptEs_step x.kids ?_ fun y hy => ih y hy ?_)) x hx0
 ·have := x.size_eq; omega
 ·have := Ex.sizes_mem hy; have := x.size_eq; omega
end Go.Proofs.YtonchjamoblioaaGreatDoor
namespace Go.Kin
/-! ### queries -/
structure Opd where
 k : Int
 n : List UInt8
 key : List UInt8
 vk : Int
 vn : Int
 vs : List UInt8
 deriving Inhabited, DecidableEq
structure Cd where
 op : Int
 l : Opd
 r : Opd
 deriving Inhabited, DecidableEq
structure Pt where
 a : List UInt8
 z : List UInt8
 path : Bool
 lab : List UInt8
 name : List UInt8
 e : Ex
 deriving Inhabited
noncomputable instance : DecidableEq Pt := fun _ _ => Classical.propDecidable _
structure Qu where
 p : List Pt
 c : List Cd
 r : List Opd
 range : Int
 slide : Int
 deriving Inhabited
noncomputable instance : DecidableEq Qu := fun _ _ => Classical.propDecidable _
abbrev opC (o : Opd) : List D := [.v (.int .i64 o.k), .v (.string (mkS o.n)), .v (.string (mkS o.key)), .v (.int .i64 o.vk), .v (.int .i64 o.vn), .v (.string (mkS o.vs))]
abbrev cdC (c : Cd) : List D := [.v (.int .i64 c.op), .v (.int .i64 c.l.k), .v (.string (mkS c.l.n)), .v (.string (mkS c.l.key)), .v (.int .i64 c.l.vk), .v (.int .i64 c.l.vn), .v (.string (mkS c.l.vs)),
 .v (.int .i64 c.r.k), .v (.string (mkS c.r.n)), .v (.string (mkS c.r.key)), .v (.int .i64 c.r.vk), .v (.int .i64 c.r.vn), .v (.string (mkS c.r.vs))]
abbrev ptC (p : Pt) : List D := [.v (.string (mkS p.a)), .v (.string (mkS p.z)), .v (.bool p.path), .v (.string (mkS p.lab)), .v (.string (mkS p.name)), .v (.int .i64 p.e.k), .v (.string (mkS p.e.s)), kdX p.e]
abbrev ptLC (p : Pt) : List D := [.v (.string (mkS p.a)), .v (.string (mkS p.z)), .v (.bool p.path), .v (.string (mkS p.lab)), .v (.string (mkS p.name)), .v (.int .i64 p.e.k), .v (.string (mkS p.e.s)), kdL p.e]
abbrev ptsD (l : List Pt) : D := .sl 8 l.length l.length fun i => ptC (nth l i)
abbrev cdsD (l : List Cd) : D := .sl 13 l.length l.length fun i => cdC (nth l i)
abbrev opsD (l : List Opd) : D := .sl 6 l.length l.length fun i => opC (nth l i)
abbrev quD (q : Qu) : D := .ag [ptsD q.p, cdsD q.c, opsD q.r, .v (.int .i64 q.range), .v (.int .i64 q.slide)]
/-! #### lent -/
def lentR {α : Type} [Inhabited α] (f : α → List D) (m : Nat → List D) (l : List α) (i : Nat) : List D := if i < l.length then f (nth l i) else m (i - l.length)
theorem lentR_at {α : Type} [Inhabited α] {f : α → List D} {m : Nat → List D} {l : List α} {i : Nat} (h : i < l.length) : lentR f m l i = f (nth l i) := if_pos h
theorem lentR_mk {α : Type} [Inhabited α] {f : α → List D} {m : Nat → List D} {l : List α} {i : Nat} (h : l.length ≤ i) : lentR f m l i = m (i - l.length) := if_neg (by omega)
theorem lentR_put {α : Type} [Inhabited α] {f : α → List D} {m : Nat → List D} {l : List α} {r : List D} {n : Nat} (h : lentR f m l n = r) (q : Nat) (hq : q < n + 1) : catR n (lentR f m l) (lstR [r]) q = lentR f m l q := by
 unfold catR
 by_cases hj : q < n
 ·rw [if_pos hj]
 ·obtain rfl : q = n := by omega
  rw [if_neg hj, h]; simp [lstR]
abbrev opMk (i : Nat) : List D := [.v (.int .i64 0), .v (.string (mkS [])), .v (.string (mkS [])), .v (.int .i64 0), .v (.int .i64 (mkI 1 i)), .v (.string (mkS []))]
abbrev cdMk (i : Nat) : List D := [.v (.int .i64 (mkI 1 i)), .v (.int .i64 0), .v (.string (mkS [])), .v (.string (mkS [])), .v (.int .i64 0), .v (.int .i64 0), .v (.string (mkS [])),
 .v (.int .i64 0), .v (.string (mkS [])), .v (.string (mkS [])), .v (.int .i64 0), .v (.int .i64 0), .v (.string (mkS []))]
abbrev ptMk (i : Nat) : List D := [.v (.string (mkS [])), .v (.string (mkS [])), .v (.bool false), .v (.string (mkS [109])), .v (.string (mkS [])), .v (.int .i64 (mkI 1 i)), .v (.string (mkS [])), .v (.slice none 0 0)]
abbrev ptsLD (l : List Pt) : D := .sl 8 l.length (l.length + 12) (lentR ptLC ptMk l)
abbrev cdsLD (l : List Cd) : D := .sl 13 l.length (l.length + 12) (lentR cdC cdMk l)
abbrev opsLD (l : List Opd) : D := .sl 6 l.length (l.length + 12) (lentR opC opMk l)
abbrev quLD (q : Qu) : D := .ag [ptsLD q.p, cdsLD q.c, opsLD q.r, .v (.int .i64 q.range), .v (.int .i64 q.slide)]
theorem ptC_lf (p : Pt) : lfR (ptC p) = true := by simp [lfR, lfD, kd_eq]
theorem ptLC_le (p : Pt) : LeDs (ptLC p) (ptC p) := ⟨LeD.refl _, LeD.refl _, LeD.refl _, LeD.refl _, LeD.refl _, LeD.refl _, LeD.refl _, kdL_le p.e, trivial⟩
theorem ptsLD_le (l : List Pt) : LeD (ptsLD l) (ptsD l) :=
 LeD.trans (LeD.slice (x' := l.length) (row' := lentR ptLC ptMk l) (Nat.le_refl _) (by omega) (fun _ _ => rfl)) (LeD.rows fun i hi => by
  rw [lentR_at hi]; exact ⟨ptLC_le _, ptC_lf _⟩)
theorem cdsLD_le (l : List Cd) : LeD (cdsLD l) (cdsD l) := LeD.slice (Nat.le_refl _) (by omega) fun i hi => lentR_at hi
theorem opsLD_le (l : List Opd) : LeD (opsLD l) (opsD l) := LeD.slice (Nat.le_refl _) (by omega) fun i hi => lentR_at hi
theorem quLD_le (q : Qu) : LeD (quLD q) (quD q) := LeD.ag ⟨ptsLD_le _, cdsLD_le _, opsLD_le _, LeD.refl _, LeD.refl _, trivial⟩
abbrev mkPt (i : Nat) : Pt := ⟨[], [], false, [109], [], mkEx 1 i⟩
theorem ptMk_le (i : Nat) : LeDs (ptMk i) (ptC (mkPt i)) := ⟨LeD.refl _, LeD.refl _, LeD.refl _, LeD.refl _, LeD.refl _, LeD.refl _, LeD.refl _, by rw [kd_eq]; exact LeD.nil 3 _, trivial⟩
theorem op_eq (x y : Opd) : (x.k == y.k && (x.n == y.n && (x.key == y.key && (x.vk == y.vk && (x.vn == y.vn && x.vs == y.vs))))) = decide (x = y) := by
 cases x; cases y; rw [Bool.eq_iff_iff]; simp
end Go.Kin
