/- Steps of a function body on data, and contracts of the functions of the seat, walked. -/
import Derived.Test.YtonchjamoblioaaGreatDoorZ9
import Derived.Lib.ItoaLen
set_option linter.unusedSimpArgs false
set_option linter.unusedVariables false
set_option linter.unusedSectionVars false
namespace Go.Proofs.YtonchjamoblioaaGreatDoor
open Go.Kin
set_option maxRecDepth 100000
set_option maxHeartbeats 0
theorem op_ok (k : Int) (h : 1 ≤ k ∧ k ≤ 6) : FnOK Laid Tryz.prog 46 [iv k] (sv (opS k)) := by
 rcases (show k = 1 ∨ k = 2 ∨ k = 3 ∨ k = 4 ∨ k = 5 ∨ k = 6 by omega) with rfl | rfl | rfl | rfl | rfl | rfl
 ·exact op1_ok
 ·exact op2_ok
 ·exact op3_ok
 ·exact op4_ok
 ·exact op5_ok
 ·exact op6_ok
theorem opS_len (k : Int) : (opS k).length ≤ 2 := by unfold opS; repeat (first | split | simp)
theorem showT_len (k n : Int) (s : List UInt8) : (showT ⟨k, n, s⟩).length ≤ 100 := by
 unfold showT
 by_cases hr : Vl.right ⟨k, n, s⟩ = true
 ·rw [if_pos hr]
  unfold Vl.right rightV at hr
  unfold Vl.shown shownV
  simp only at hr ⊢
  by_cases h2 : k = 2
  ·rw [if_pos h2]
   rw [if_neg (by omega), if_pos h2] at hr
   simp at hr ⊢; omega
  ·rw [if_neg h2]
   by_cases h1 : k = 1
   ·rw [if_pos h1] at hr
    simp at hr
    have := Lib.itoa_length_le n (by omega) (by omega); omega
   ·rw [if_neg h1, if_neg h2] at hr; cases hr
 ·rw [if_neg hr]; simp
theorem opT_len {o : Opd} (h : opR o = true) : (opT o).length ≤ 100 := by
 unfold opR at h; unfold opT
 by_cases h1 : o.k = 1
 ·rw [if_pos h1] at h ⊢
  simp only [Bool.and_eq_true] at h
  have := free_len h.1; omega
 ·rw [if_neg h1] at h ⊢
  by_cases h2 : o.k = 2
  ·rw [if_pos h2] at h ⊢
   simp only [Bool.and_eq_true] at h
   have := free_len h.1
   have := free_len h.2.1
   simp only [List.length_append, List.length_singleton]; omega
  ·rw [if_neg h2]
   exact showT_len _ _ _
structure CdF (c : Cd) : Prop where
 o : 1 ≤ c.op ∧ c.op ≤ 6
 l : opR c.l = true
 r : opR c.r = true
theorem cd_f {c : Cd} (h : cdR c = true) : CdF c := by
 unfold cdR at h
 simp only [Bool.and_eq_true, decide_eq_true_eq] at h
 exact ⟨⟨h.1, h.2.1⟩, h.2.2.1, h.2.2.2⟩
theorem xcondT_ok (c : Cd) (hc : FitC c) (hr : cdR c = true) : FnOK Laid Tryz.prog 85 [cdD c] (sv (cdT c)) := by
 obtain ⟨h, h1, h2⟩ := cd_f hr
 have l1 := opT_len h1
 have l2 := opT_len h2
 rcases (show c.op = 1 ∨ c.op = 2 ∨ c.op = 3 ∨ c.op = 4 ∨ c.op = 5 ∨ c.op = 6 by omega) with e | e | e | e | e | e
 ·exact xcond1_ok c e hc.l hc.r (by omega) (by omega)
 ·exact xcond2_ok c e hc.l hc.r (by omega) (by omega)
 ·exact xcond3_ok c e hc.l hc.r (by omega) (by omega)
 ·exact xcond4_ok c e hc.l hc.r (by omega) (by omega)
 ·exact xcond5_ok c e hc.l hc.r (by omega) (by omega)
 ·exact xcond6_ok c e hc.l hc.r (by omega) (by omega)
theorem cdT_len {c : Cd} (h : cdR c = true) : (cdT c).length ≤ 300 := by
 obtain ⟨_, h1, h2⟩ := cd_f h
 have l1 := opT_len h1
 have l2 := opT_len h2
 have l3 := opS_len c.op
 unfold cdT; simp only [List.length_append, List.length_singleton]; omega
structure PtF (p : Pt) : Prop where
 a : p.a.length ≤ 20
 z : p.z.length ≤ 20
 lab : p.lab.length ≤ 20
 name : p.name.length ≤ 20
 e : p.path = true → exOk p.e = true ∧ p.e.size ≤ 24 ∧ (exT p.e).length ≤ 600
theorem pt_f {p : Pt} (h : ptR p = true) : PtF p := by
 unfold ptR at h
 simp only [Bool.and_eq_true] at h
 obtain ⟨h1, h2, h3⟩ := h
 have e1 := free_len h1
 have e2 := free_len h2
 by_cases hp : p.path = true
 ·rw [if_pos hp] at h3
  simp only [Bool.and_eq_true, beq_iff_eq] at h3
  obtain ⟨h4, h5, h6⟩ := h3
  refine ⟨e1, e2, by rw [h4]; simp, by rw [h5]; simp, fun _ => ?_⟩
  unfold exRight at h6
  simp only [Bool.and_eq_true, decide_eq_true_eq] at h6
  have := exT_len _ h6.2
  exact ⟨h6.2, h6.1, by omega⟩
 ·rw [if_neg hp] at h3
  simp only [Bool.and_eq_true, Bool.or_eq_true, beq_iff_eq] at h3
  refine ⟨e1, e2, free_len h3.1, ?_, fun h => absurd h hp⟩
  rcases h3.2.1 with h | h
  ·rw [h]; simp
  ·exact free_len h
theorem ptT_len {p : Pt} (h : ptR p = true) : (ptT p).length ≤ 1000 := by
 obtain ⟨h1, h2, h3, h4, h5⟩ := pt_f h
 unfold ptT
 by_cases hp : p.path = true
 ·have := (h5 hp).2.2
  rw [if_pos hp]; simp only [List.length_append, List.length_cons, List.length_nil]; omega
 ·rw [if_neg hp]
  split <;> simp only [List.length_append, List.length_cons, List.length_nil] <;> omega
theorem xptT_ok (p : Pt) (hr : ptR p = true) : FnOK Laid Tryz.prog 87 [ptD p] (sv (ptT p)) := by
 refine FnOK_of laid_stable Tryz.func87 Tryz.ntmps87 rfl (by as_aux_lemma => kernel_rfl) (Nat.le_of_ble_eq_true rfl) (fun R hR => ?_)
 obtain ⟨_, b, cs, T, C⟩ := R
 obtain rfl : _ = Tryz.prog := hR.p
 obtain ⟨f1, f2, f3, f4, f5⟩ := pt_f hr
 refine sreg te_ok ?_
 refine sreg te_ok ?_
 refine sq ?_
 refine Exec.block ?_
 refine sreg te_ok ?_
 refine Exec.cond_split rfl (fun h0 => ?_) (fun h0 => ?_)
 ·obtain ⟨g1, g2, g3⟩ := f5 h0
  apply Exec.regionL te_ok
  ·intro u' Q hQ
   simp only [go_sem]
   repeat refine ob2 ?_
   refine kcall hR.inv te_ok rfl rfl rfl rfl rfl rfl (shown_ok' p.e g1 (by omega)) ?_
   simp only [go_sem]
   repeat refine ob2 ?_
   exact hQ
  refine Exec.inBlock ?_
  refine sreg te_ok ?_
  refine Exec.rets hR te_ok rfl rfl rfl (LeX.le ?_) (.inr ⟨_, rfl⟩)
  simp only [go_sem, ptT]
  simp_all [List.append_assoc]
 ·refine sreg te_ok ?_
  refine Exec.cond_split rfl (fun h1 => ?_) (fun h1 => ?_)
  ·refine Exec.reg te_ok ?_
   refine Exec.inBlock ?_
   refine sreg te_ok ?_
   refine Exec.rets hR te_ok rfl rfl rfl (LeX.le ?_) (.inr ⟨_, rfl⟩)
   simp only [go_sem, ptT]
   simp_all [List.append_assoc]
  ·refine sk ?_
   refine Exec.inBlock ?_
   refine sreg te_ok ?_
   refine Exec.rets hR te_ok rfl rfl rfl (LeX.le ?_) (.inr ⟨_, rfl⟩)
   simp only [go_sem, ptT]
   simp_all [List.append_assoc]
theorem rptT_ok (p : Pt) (hr : ptR p = true) : FnOK Laid Tryz.prog 44 [ptD p] (sv (ptT p)) := by
 refine FnOK_of laid_stable Tryz.func44 Tryz.ntmps44 rfl (by as_aux_lemma => kernel_rfl) (Nat.le_of_ble_eq_true rfl) (fun R hR => ?_)
 obtain ⟨_, b, cs, T, C⟩ := R
 obtain rfl : _ = Tryz.prog := hR.p
 obtain ⟨f1, f2, f3, f4, f5⟩ := pt_f hr
 refine sreg te_ok ?_
 refine sq ?_
 refine sreg te_ok ?_
 refine Exec.cond_split rfl (fun h0 => ?_) (fun h0 => ?_)
 ·obtain ⟨g1, g2, g3⟩ := f5 h0
  refine sq ?_
  apply Exec.draw (st := _) 15 14 [] [] te_ok (by as_aux_lemma => kernel_rfl) (by as_aux_lemma => kernel_rfl) (by as_aux_lemma => kernel_rfl)
  ·intro u' Q hQ
   simp only [go_sem]
   repeat refine ob2 ?_
   refine kdcall hR.inv te_ok rfl rfl rfl rfl rfl rfl (rexpr_ok' p.e g1 (by omega)) ?_
   simp only [go_sem]
   repeat refine ob2 ?_
   exact hQ
  refine Exec.rets hR te_ok rfl rfl rfl (LeX.le ?_) (.inr ⟨_, rfl⟩)
  simp only [go_sem, ptT]
  simp_all [List.append_assoc]
 ·refine sk ?_
  refine sreg te_ok ?_
  refine sq ?_
  refine sreg te_ok ?_
  refine Exec.cond_split rfl (fun h1 => ?_) (fun h1 => ?_)
  ·refine Exec.reg te_ok ?_
   refine sreg te_ok ?_
   refine Exec.rets hR te_ok rfl rfl rfl (LeX.le ?_) (.inr ⟨_, rfl⟩)
   simp only [go_sem, ptT]
   simp_all [List.append_assoc]
  ·refine sk ?_
   refine sreg te_ok ?_
   refine Exec.rets hR te_ok rfl rfl rfl (LeX.le ?_) (.inr ⟨_, rfl⟩)
   simp only [go_sem, ptT]
   simp_all [List.append_assoc]
theorem joinedP_ok (l : List Pt) (s : List UInt8) (g : Pt → List UInt8)  (hl : l.length ≤ 1000000) (hj : (Lib.join (l.map g) s).length ≤ 140737488355328) (ihx : ∀ y ∈ l, FnOK Laid Tryz.prog 87 [ptD y] (sv (g y))) : FnOK Laid Tryz.prog 86 [ptsD l, sv s, .fn 87 []] (sv (Lib.join (l.map g) s)) := by
 refine FnOK_of laid_stable Tryz.func86 Tryz.ntmps86 rfl (by as_aux_lemma => kernel_rfl) (Nat.le_of_ble_eq_true rfl) (fun R hR => ?_)
 obtain ⟨_, b, cs, T, C⟩ := R
 obtain rfl : _ = Tryz.prog := hR.p
 refine sreg te_ok ?_
 refine sreg te_ok ?_
 refine sq ?_
 refine sreg te_ok ?_
 refine Exec.block ?_
 refine Exec.ownNil 7 1500 9 1 rfl rfl ?_
 apply Exec.norm
 ·simp only [go_sem]
  rfl
 apply Exec.loopU [1, 2, 10, 11] (X := Nat) (fun i => [(12, .d (iv i)), (7, .own 1500)]) (fun i => []) (fun i => [(1500, ⟨9, 1, i, i, fun j => [sv (nth (l.map g) j)]⟩)]) (fun i => l.length - i) (fun i => i ≤ l.length) 0
 case h0 =>
  first | assumption | omega | (simp only [Bool.not_eq_true', Bool.or_eq_false_iff, Bool.or_eq_true, Bool.and_eq_true, decide_eq_true_eq, decide_eq_false_iff_not, beq_iff_eq, Bool.not_eq_false']; omega) | (simp; done) | (simp; omega) | (intros; omega) | (simp_all; done) | (simp_all; omega)
 case hw =>
  simp only [go_sem]; exact fun i hi => absurd hi (Nat.not_lt_zero i)
 case body =>
  rintro i hx ih0
  try simp only at hx
  apply Exec.norm
  ·simp only [go_sem]
   rfl
  refine sreg te_ok ?_
  refine sq ?_
  refine Exec.cond_split rfl (fun h0 => ?_) (fun h0 => ?_)
  ·have hi : i < l.length := by have := of_decide_eq_true h0; omega
   have hr : nth (l.map g) i = g (nth l i) := nth_map g hi
   have w2 : IntKind.i64.wrap ((i : Int) + 1) = ((i + 1 : Nat) : Int) := by rw [wrap_id (by omega)]; omega
   refine sk ?_
   refine sq ?_
   refine Exec.block ?_
   refine sq ?_
   apply Exec.regionL te_ok
   ·intro u' Q hQ
    simp only [go_sem, w2]
    repeat refine ob2 ?_
    exact hQ
   apply Exec.regionL te_ok
   ·intro u' Q hQ
    simp only [go_sem, w2]
    repeat refine ob2 ?_
    refine kcall hR.inv te_ok rfl rfl rfl rfl rfl rfl (ihx _ (nth_mem hi)) ?_
    simp only [go_sem, w2]
    repeat refine ob2 ?_
    exact hQ
   refine Exec.inBlock ?_
   apply Exec.regionL te_ok
   ·intro u' Q hQ
    simp only [go_sem, w2]
    repeat refine ob2 ?_
    exact hQ
   refine Exec.back (ih0 (i + 1) ?_ ?_) ?_ ?_ ?_ ?_ ?_ ?_ ?_
   ·try simp only
    omega
   ·try simp only
    omega
   ·rfl
   ·rfl
   ·(simp only [go_sem, w2])
   ·(simp only [go_sem, w2])
   ·simp only [go_sem, w2]
    exact fun q hq => catR_row (row := fun j => [sv (nth (l.map g) j)]) (by simp only [hr]) q hq
   ·simp only [go_sem, w2]
   ·rfl
  ·obtain rfl : i = l.length := by have := of_decide_eq_false h0; omega
   refine Exec.exit rfl ?_
   refine sq ?_
   refine Exec.freeze 1500 rfl ?_
   apply Exec.norm
   ·simp only [go_sem]
    rfl
   apply Exec.regionL te_ok
   ·intro u' Q hQ
    simp only [go_sem]
    repeat refine ob2 ?_
    refine kcall hR.inv te_ok rfl rfl rfl rfl rfl rfl (join_map l g s (by omega) hj) ?_
    simp only [go_sem]
    repeat refine ob2 ?_
    exact hQ
   refine Exec.rets hR te_ok rfl rfl rfl (LeX.le ?_) (.inr ⟨_, rfl⟩)
   simp only [go_sem]
theorem joinedC_ok (l : List Cd) (s : List UInt8) (g : Cd → List UInt8)  (hl : l.length ≤ 1000000) (hj : (Lib.join (l.map g) s).length ≤ 140737488355328) (ihx : ∀ y ∈ l, FnOK Laid Tryz.prog 85 [cdD y] (sv (g y))) : FnOK Laid Tryz.prog 84 [cdsD l, sv s, .fn 85 []] (sv (Lib.join (l.map g) s)) := by
 refine FnOK_of laid_stable Tryz.func84 Tryz.ntmps84 rfl (by as_aux_lemma => kernel_rfl) (Nat.le_of_ble_eq_true rfl) (fun R hR => ?_)
 obtain ⟨_, b, cs, T, C⟩ := R
 obtain rfl : _ = Tryz.prog := hR.p
 refine sreg te_ok ?_
 refine sreg te_ok ?_
 refine sq ?_
 refine sreg te_ok ?_
 refine Exec.block ?_
 refine Exec.ownNil 7 1500 9 1 rfl rfl ?_
 apply Exec.norm
 ·simp only [go_sem]
  rfl
 apply Exec.loopU [1, 2, 10, 11] (X := Nat) (fun i => [(12, .d (iv i)), (7, .own 1500)]) (fun i => []) (fun i => [(1500, ⟨9, 1, i, i, fun j => [sv (nth (l.map g) j)]⟩)]) (fun i => l.length - i) (fun i => i ≤ l.length) 0
 case h0 =>
  first | assumption | omega | (simp only [Bool.not_eq_true', Bool.or_eq_false_iff, Bool.or_eq_true, Bool.and_eq_true, decide_eq_true_eq, decide_eq_false_iff_not, beq_iff_eq, Bool.not_eq_false']; omega) | (simp; done) | (simp; omega) | (intros; omega) | (simp_all; done) | (simp_all; omega)
 case hw =>
  simp only [go_sem]; exact fun i hi => absurd hi (Nat.not_lt_zero i)
 case body =>
  rintro i hx ih0
  try simp only at hx
  apply Exec.norm
  ·simp only [go_sem]
   rfl
  refine sreg te_ok ?_
  refine sq ?_
  refine Exec.cond_split rfl (fun h0 => ?_) (fun h0 => ?_)
  ·have hi : i < l.length := by have := of_decide_eq_true h0; omega
   have hr : nth (l.map g) i = g (nth l i) := nth_map g hi
   have w2 : IntKind.i64.wrap ((i : Int) + 1) = ((i + 1 : Nat) : Int) := by rw [wrap_id (by omega)]; omega
   refine sk ?_
   refine sq ?_
   refine Exec.block ?_
   refine sq ?_
   apply Exec.regionL te_ok
   ·intro u' Q hQ
    simp only [go_sem, w2]
    repeat refine ob2 ?_
    exact hQ
   apply Exec.regionL te_ok
   ·intro u' Q hQ
    simp only [go_sem, w2]
    repeat refine ob2 ?_
    refine kcall hR.inv te_ok rfl rfl rfl rfl rfl rfl (ihx _ (nth_mem hi)) ?_
    simp only [go_sem, w2]
    repeat refine ob2 ?_
    exact hQ
   refine Exec.inBlock ?_
   apply Exec.regionL te_ok
   ·intro u' Q hQ
    simp only [go_sem, w2]
    repeat refine ob2 ?_
    exact hQ
   refine Exec.back (ih0 (i + 1) ?_ ?_) ?_ ?_ ?_ ?_ ?_ ?_ ?_
   ·try simp only
    omega
   ·try simp only
    omega
   ·rfl
   ·rfl
   ·(simp only [go_sem, w2])
   ·(simp only [go_sem, w2])
   ·simp only [go_sem, w2]
    exact fun q hq => catR_row (row := fun j => [sv (nth (l.map g) j)]) (by simp only [hr]) q hq
   ·simp only [go_sem, w2]
   ·rfl
  ·obtain rfl : i = l.length := by have := of_decide_eq_false h0; omega
   refine Exec.exit rfl ?_
   refine sq ?_
   refine Exec.freeze 1500 rfl ?_
   apply Exec.norm
   ·simp only [go_sem]
    rfl
   apply Exec.regionL te_ok
   ·intro u' Q hQ
    simp only [go_sem]
    repeat refine ob2 ?_
    refine kcall hR.inv te_ok rfl rfl rfl rfl rfl rfl (join_map l g s (by omega) hj) ?_
    simp only [go_sem]
    repeat refine ob2 ?_
    exact hQ
   refine Exec.rets hR te_ok rfl rfl rfl (LeX.le ?_) (.inr ⟨_, rfl⟩)
   simp only [go_sem]
theorem joinedO_ok (l : List Opd) (s : List UInt8) (g : Opd → List UInt8)  (hl : l.length ≤ 1000000) (hj : (Lib.join (l.map g) s).length ≤ 140737488355328) (ihx : ∀ y ∈ l, FnOK Laid Tryz.prog 89 [opD y] (sv (g y))) : FnOK Laid Tryz.prog 88 [opsD l, sv s, .fn 89 []] (sv (Lib.join (l.map g) s)) := by
 refine FnOK_of laid_stable Tryz.func88 Tryz.ntmps88 rfl (by as_aux_lemma => kernel_rfl) (Nat.le_of_ble_eq_true rfl) (fun R hR => ?_)
 obtain ⟨_, b, cs, T, C⟩ := R
 obtain rfl : _ = Tryz.prog := hR.p
 refine sreg te_ok ?_
 refine sreg te_ok ?_
 refine sq ?_
 refine sreg te_ok ?_
 refine Exec.block ?_
 refine Exec.ownNil 7 1500 9 1 rfl rfl ?_
 apply Exec.norm
 ·simp only [go_sem]
  rfl
 apply Exec.loopU [1, 2, 10, 11] (X := Nat) (fun i => [(12, .d (iv i)), (7, .own 1500)]) (fun i => []) (fun i => [(1500, ⟨9, 1, i, i, fun j => [sv (nth (l.map g) j)]⟩)]) (fun i => l.length - i) (fun i => i ≤ l.length) 0
 case h0 =>
  first | assumption | omega | (simp only [Bool.not_eq_true', Bool.or_eq_false_iff, Bool.or_eq_true, Bool.and_eq_true, decide_eq_true_eq, decide_eq_false_iff_not, beq_iff_eq, Bool.not_eq_false']; omega) | (simp; done) | (simp; omega) | (intros; omega) | (simp_all; done) | (simp_all; omega)
 case hw =>
  simp only [go_sem]; exact fun i hi => absurd hi (Nat.not_lt_zero i)
 case body =>
  rintro i hx ih0
  try simp only at hx
  apply Exec.norm
  ·simp only [go_sem]
   rfl
  refine sreg te_ok ?_
  refine sq ?_
  refine Exec.cond_split rfl (fun h0 => ?_) (fun h0 => ?_)
  ·have hi : i < l.length := by have := of_decide_eq_true h0; omega
   have hr : nth (l.map g) i = g (nth l i) := nth_map g hi
   have w2 : IntKind.i64.wrap ((i : Int) + 1) = ((i + 1 : Nat) : Int) := by rw [wrap_id (by omega)]; omega
   refine sk ?_
   refine sq ?_
   refine Exec.block ?_
   refine sq ?_
   apply Exec.regionL te_ok
   ·intro u' Q hQ
    simp only [go_sem, w2]
    repeat refine ob2 ?_
    exact hQ
   apply Exec.regionL te_ok
   ·intro u' Q hQ
    simp only [go_sem, w2]
    repeat refine ob2 ?_
    refine kcall hR.inv te_ok rfl rfl rfl rfl rfl rfl (ihx _ (nth_mem hi)) ?_
    simp only [go_sem, w2]
    repeat refine ob2 ?_
    exact hQ
   refine Exec.inBlock ?_
   apply Exec.regionL te_ok
   ·intro u' Q hQ
    simp only [go_sem, w2]
    repeat refine ob2 ?_
    exact hQ
   refine Exec.back (ih0 (i + 1) ?_ ?_) ?_ ?_ ?_ ?_ ?_ ?_ ?_
   ·try simp only
    omega
   ·try simp only
    omega
   ·rfl
   ·rfl
   ·(simp only [go_sem, w2])
   ·(simp only [go_sem, w2])
   ·simp only [go_sem, w2]
    exact fun q hq => catR_row (row := fun j => [sv (nth (l.map g) j)]) (by simp only [hr]) q hq
   ·simp only [go_sem, w2]
   ·rfl
  ·obtain rfl : i = l.length := by have := of_decide_eq_false h0; omega
   refine Exec.exit rfl ?_
   refine sq ?_
   refine Exec.freeze 1500 rfl ?_
   apply Exec.norm
   ·simp only [go_sem]
    rfl
   apply Exec.regionL te_ok
   ·intro u' Q hQ
    simp only [go_sem]
    repeat refine ob2 ?_
    refine kcall hR.inv te_ok rfl rfl rfl rfl rfl rfl (join_map l g s (by omega) hj) ?_
    simp only [go_sem]
    repeat refine ob2 ?_
    exact hQ
   refine Exec.rets hR te_ok rfl rfl rfl (LeX.le ?_) (.inr ⟨_, rfl⟩)
   simp only [go_sem]
end Go.Proofs.YtonchjamoblioaaGreatDoor
namespace Go.Proofs.YtonchjamoblioaaGreatDoor
open Go.Kin
set_option maxRecDepth 100000
set_option maxHeartbeats 0
def accS (b hd sep : List UInt8) (l : List (List UInt8)) (i : Nat) : List UInt8 := b ++ (if i = 0 then [] else hd ++ Lib.join (l.take i) sep)
theorem accS_0 (b hd sep : List UInt8) (l : List (List UInt8)) : accS b hd sep l 0 = b := by simp [accS]
theorem accS_1 {b hd sep : List UInt8} {l : List (List UInt8)} {i : Nat} (h0 : i = 0) (hi : i < l.length) : accS b hd sep l (i + 1) = accS b hd sep l i ++ hd ++ nth l i := by
 subst h0
 have e : Lib.join (l.take (0 + 1)) sep = nth l 0 := by rw [take_succ_nth hi]; exact Lib.join_one _ _
 unfold accS
 rw [if_neg (by omega), if_pos rfl, e]; simp
theorem accS_s {b hd sep : List UInt8} {l : List (List UInt8)} {i : Nat} (h0 : ¬ i = 0) (hi : i < l.length) : accS b hd sep l (i + 1) = accS b hd sep l i ++ sep ++ nth l i := by
 unfold accS
 rw [if_neg (by omega), if_neg h0, join_take (by omega) hi]; simp
theorem sumL_le {M c : Nat} : ∀ {l : List (List UInt8)}, (∀ x ∈ l, x.length ≤ M) → sumL c l ≤ (M + c) * l.length
 | [], _ => by simp [sumL]
 | x :: r, h => by
  have h1 := sumL_le (c := c) fun y hy => h y (List.mem_cons_of_mem _ hy)
  have h2 := h x List.mem_cons_self
  simp only [sumL, List.length_cons, Nat.mul_add, Nat.mul_one]; omega
theorem accS_len (b hd sep : List UInt8) (l : List (List UInt8)) (i : Nat) : (accS b hd sep l i).length ≤ b.length + hd.length + sumL sep.length l := by
 have := join_le l sep i
 unfold accS
 split <;> simp only [List.length_append, List.length_nil] <;> omega
theorem accS_len' {c : Nat} (b hd sep : List UInt8) (l : List (List UInt8)) (i : Nat) (hc : sep.length = c) : (accS b hd sep l i).length ≤ b.length + hd.length + sumL c l := by
 subst hc; exact accS_len b hd sep l i
theorem accS_all {b hd sep : List UInt8} {l : List (List UInt8)} {i : Nat} (h : l.length ≤ i) : accS b hd sep l i = b ++ (if i = 0 then [] else hd ++ Lib.join l sep) := by
 unfold accS; rw [List.take_of_length_le h]
/-! #### the text of a query -/
def txP (q : Qu) : List UInt8 := accS [109, 97, 116, 99, 104, 32] [] [44, 32] (q.p.map ptT) q.p.length
def txC (q : Qu) : List UInt8 := accS (txP q) [32, 119, 104, 101, 114, 101, 32] [32, 97, 110, 100, 32] (q.c.map cdT) q.c.length
def txR (q : Qu) : List UInt8 := accS (txC q ++ [32, 114, 101, 116, 117, 114, 110, 32]) [] [44, 32] (q.r.map opT) q.r.length
def quT (q : Qu) : List UInt8 := txR q ++ [32, 114, 97, 110, 103, 101, 32] ++ Lib.itoa q.range ++ [32, 115, 108, 105, 100, 101, 32] ++ Lib.itoa q.slide
noncomputable def quS (q : Qu) : List UInt8 := if quR q = true then (if 2000 < (quT q).length then [] else quT q) else []
noncomputable def quE (q : Qu) : Int := if quR q = true then (if 2000 < (quT q).length then 3 else 0) else 2
structure QuF (q : Qu) : Prop where
 p : ∀ p ∈ q.p, ptR p = true
 c : ∀ c ∈ q.c, cdR c = true
 r : ∀ o ∈ q.r, opR o = true
 lp : 1 ≤ q.p.length ∧ q.p.length ≤ 4
 lc : q.c.length ≤ 6
 lr : 1 ≤ q.r.length ∧ q.r.length ≤ 4
 ra : 1 ≤ q.range ∧ q.range ≤ 1048576
 sl : 1 ≤ q.slide ∧ q.slide ≤ 1048576
theorem qu_f {q : Qu} (h : quR q = true) : QuF q := by
 unfold quR at h
 simp only [Bool.and_eq_true, decide_eq_true_eq, List.all_eq_true] at h
 obtain ⟨h1, h2, h3, h4, h5, h6, h7, h8⟩ := h
 exact ⟨h6, h7, fun o ho => (h8 o ho).2, h1, h2, h3, h4, h5⟩
theorem sum_p {q : Qu} (h : QuF q) : sumL 2 (q.p.map ptT) ≤ 4008 := by
 have h1 := sumL_le (M := 1000) (c := 2) (l := q.p.map ptT) fun x hx => by
  obtain ⟨p, hp, rfl⟩ := List.mem_map.1 hx; exact ptT_len (h.p p hp)
 rw [List.length_map] at h1
 have := h.lp; omega
theorem sum_c {q : Qu} (h : QuF q) : sumL 5 (q.c.map cdT) ≤ 1830 := by
 have h1 := sumL_le (M := 300) (c := 5) (l := q.c.map cdT) fun x hx => by
  obtain ⟨p, hp, rfl⟩ := List.mem_map.1 hx; exact cdT_len (h.c p hp)
 rw [List.length_map] at h1
 have := h.lc; omega
theorem sum_r {q : Qu} (h : QuF q) : sumL 2 (q.r.map opT) ≤ 408 := by
 have h1 := sumL_le (M := 100) (c := 2) (l := q.r.map opT) fun x hx => by
  obtain ⟨p, hp, rfl⟩ := List.mem_map.1 hx; exact opT_len (h.r p hp)
 rw [List.length_map] at h1
 have := h.lr; omega
theorem txP_len {q : Qu} (h : QuF q) : (txP q).length ≤ 4014 := by
 have := accS_len [109, 97, 116, 99, 104, 32] [] [44, 32] (q.p.map ptT) q.p.length
 have := sum_p h
 unfold txP; simp at *; omega
theorem txC_len {q : Qu} (h : QuF q) : (txC q).length ≤ 6000 := by
 have := accS_len (txP q) [32, 119, 104, 101, 114, 101, 32] [32, 97, 110, 100, 32] (q.c.map cdT) q.c.length
 have := sum_c h
 have := txP_len h
 unfold txC; simp at *; omega
theorem txR_len {q : Qu} (h : QuF q) : (txR q).length ≤ 7000 := by
 have := accS_len (txC q ++ [32, 114, 101, 116, 117, 114, 110, 32]) [] [44, 32] (q.r.map opT) q.r.length
 have := sum_r h
 have := txC_len h
 unfold txR; simp at *; omega
theorem rquery_ok (q : Qu) (hfq : FitQ q) : FnOK Laid Tryz.prog 17 [quD q] (.tup [sv (quS q), iv (quE q)]) := by
 refine FnOK_of laid_stable Tryz.func17 Tryz.ntmps17 rfl (by as_aux_lemma => kernel_rfl) (Nat.le_of_ble_eq_true rfl) (fun R hR => ?_)
 obtain ⟨_, b, cs, T, C⟩ := R
 obtain rfl : _ = Tryz.prog := hR.p
 refine sreg te_ok ?_
 refine sq ?_
 refine sq ?_
 apply Exec.regionL te_ok
 ·intro u' Q hQ
  simp only [go_sem]
  repeat refine ob2 ?_
  refine kcall hR.inv te_ok rfl rfl rfl rfl rfl rfl (rtree_ok q hfq) ?_
  simp only [go_sem]
  repeat refine ob2 ?_
  exact hQ
 refine Exec.cond_split rfl (fun h0 => ?_) (fun h0 => ?_)
 ·refine sreg te_ok ?_
  refine Exec.rets hR te_ok rfl rfl rfl (LeX.le ?_) (.inr ⟨_, rfl⟩)
  simp only [go_sem]
  have : quR q = false := by simpa using h0
  simp [quS, quE, this]
 ·have hr : quR q = true := by simpa using h0
  have hf := qu_f hr
  have fl1 := hf.lp
  have fl2 := hf.lc
  have fl3 := hf.lr
  have t1 := txP_len hf
  have t2 := txC_len hf
  have t3 := txR_len hf
  have fi1 := hf.ra
  have fi2 := hf.sl
  have il1 := Lib.itoa_length_le q.range (by omega) (by omega)
  have il2 := Lib.itoa_length_le q.slide (by omega) (by omega)
  refine sk ?_
  refine sreg te_ok ?_
  refine sq ?_
  refine sreg te_ok ?_
  refine Exec.block ?_
  apply Exec.loopU [1] (X := Nat) (fun i => [(5, .d (iv i)), (4, .d (sv (accS [109, 97, 116, 99, 104, 32] [] [44, 32] (q.p.map ptT) i)))]) (fun i => []) (fun i => []) (fun i => q.p.length - i) (fun i => i ≤ q.p.length) 0
  case h0 =>
   first | assumption | omega | (simp only [Bool.not_eq_true', Bool.or_eq_false_iff, Bool.or_eq_true, Bool.and_eq_true, decide_eq_true_eq, decide_eq_false_iff_not, beq_iff_eq, Bool.not_eq_false']; omega) | (simp; done) | (simp; omega) | (intros; omega) | (simp_all; done) | (simp_all; omega)
  case hw =>
   simp only [go_sem, accS_0]
  case body =>
   rintro i hx ih0
   try simp only at hx
   apply Exec.norm
   ·simp only [go_sem]
    rfl
   refine sq ?_
   refine sreg te_ok ?_
   refine Exec.cond_split rfl (fun h1 => ?_) (fun h1 => ?_)
   ·have hi : i < q.p.length := by have := of_decide_eq_true h1; omega
    have hnm : nth (q.p.map ptT) i = ptT (nth q.p i) := nth_map _ hi
    have hal := accS_len' (c := 2) [109, 97, 116, 99, 104, 32] [] [44, 32] (q.p.map ptT) i rfl
    have hsm := sum_p hf
    simp only [List.length_cons, List.length_nil, List.length_append] at hal
    have w2 : IntKind.i64.wrap ((i : Int) + 1) = ((i + 1 : Nat) : Int) := by rw [wrap_id (by omega)]; omega
    have hle := ptT_len (hf.p _ (nth_mem hi))
    refine sk ?_
    refine sq ?_
    refine Exec.block ?_
    refine sq ?_
    refine sq ?_
    rcases Classical.em (i = 0) with hs7 | hs7
    ·have ha := accS_1 (b := [109, 97, 116, 99, 104, 32]) (hd := []) (sep := [44, 32]) (l := q.p.map ptT) hs7 (by simpa using hi)
     rw [hnm] at ha
     try simp only [List.append_nil] at ha
     have hd1 : decide ((0 : Int) < (i : Int)) = false := by simp; omega
     have hd2 : ((i : Int) == 0) = true := by simp; omega
     apply Exec.regionL te_ok
     ·intro u' Q hQ
      simp only [go_sem, w2, ha, hd1, hd2]
      repeat refine ob2 ?_
      exact hQ
     refine Exec.cond (t := false) rfl ?_
     simp only [reduceIte, Bool.false_eq_true]
     refine sk ?_
     apply Exec.regionL te_ok
     ·intro u' Q hQ
      simp only [go_sem, w2, ha, hd1, hd2]
      repeat refine ob2 ?_
      refine kcall hR.inv te_ok rfl rfl rfl rfl rfl rfl (rptT_ok _ (hf.p _ (nth_mem hi))) ?_
      simp only [go_sem, w2, ha, hd1, hd2]
      repeat refine ob2 ?_
      exact hQ
     refine Exec.inBlock ?_
     apply Exec.regionL te_ok
     ·intro u' Q hQ
      simp only [go_sem, w2, ha, hd1, hd2]
      repeat refine ob2 ?_
      exact hQ
     refine Exec.back (ih0 (i + 1) ?_ ?_) ?_ ?_ ?_ ?_ ?_ ?_ ?_
     ·try simp only
      omega
     ·try simp only
      omega
     ·rfl
     ·rfl
     ·(simp only [go_sem, w2, ha, hd1, hd2])
     ·(simp only [go_sem, w2, ha, hd1, hd2])
     ·(simp only [go_sem, w2, ha, hd1, hd2])
     ·simp only [go_sem, w2, ha, hd1, hd2]
     ·rfl
    ·have ha := accS_s (b := [109, 97, 116, 99, 104, 32]) (hd := []) (sep := [44, 32]) (l := q.p.map ptT) hs7 (by simpa using hi)
     rw [hnm] at ha
     have hd1 : decide ((0 : Int) < (i : Int)) = true := by simp; omega
     have hd2 : ((i : Int) == 0) = false := by simp; omega
     apply Exec.regionL te_ok
     ·intro u' Q hQ
      simp only [go_sem, w2, ha, hd1, hd2]
      repeat refine ob2 ?_
      exact hQ
     refine Exec.cond (t := true) rfl ?_
     simp only [reduceIte, Bool.false_eq_true]
     apply Exec.regionL te_ok
     ·intro u' Q hQ
      simp only [go_sem, w2, ha, hd1, hd2]
      repeat refine ob2 ?_
      exact hQ
     apply Exec.regionL te_ok
     ·intro u' Q hQ
      simp only [go_sem, w2, ha, hd1, hd2]
      repeat refine ob2 ?_
      refine kcall hR.inv te_ok rfl rfl rfl rfl rfl rfl (rptT_ok _ (hf.p _ (nth_mem hi))) ?_
      simp only [go_sem, w2, ha, hd1, hd2]
      repeat refine ob2 ?_
      exact hQ
     refine Exec.inBlock ?_
     apply Exec.regionL te_ok
     ·intro u' Q hQ
      simp only [go_sem, w2, ha, hd1, hd2]
      repeat refine ob2 ?_
      exact hQ
     refine Exec.back (ih0 (i + 1) ?_ ?_) ?_ ?_ ?_ ?_ ?_ ?_ ?_
     ·try simp only
      omega
     ·try simp only
      omega
     ·rfl
     ·rfl
     ·(simp only [go_sem, w2, ha, hd1, hd2])
     ·(simp only [go_sem, w2, ha, hd1, hd2])
     ·(simp only [go_sem, w2, ha, hd1, hd2])
     ·simp only [go_sem, w2, ha, hd1, hd2]
     ·rfl
   ·obtain rfl : i = q.p.length := by have := of_decide_eq_false h1; omega
    have hTP : accS [109, 97, 116, 99, 104, 32] [] [44, 32] (q.p.map ptT) q.p.length = txP q := rfl
    refine Exec.exit rfl ?_
    refine sq ?_
    refine sq ?_
    apply Exec.regionL te_ok
    ·intro u' Q hQ
     simp only [go_sem, hTP]
     repeat refine ob2 ?_
     exact hQ
    refine Exec.block ?_
    apply Exec.loopU [1] (X := Nat) (fun i => [(6, .d (iv i)), (4, .d (sv (accS (txP q) [32, 119, 104, 101, 114, 101, 32] [32, 97, 110, 100, 32] (q.c.map cdT) i)))]) (fun i => []) (fun i => []) (fun i => q.c.length - i) (fun i => i ≤ q.c.length) 0
    case h0 =>
     first | assumption | omega | (simp only [Bool.not_eq_true', Bool.or_eq_false_iff, Bool.or_eq_true, Bool.and_eq_true, decide_eq_true_eq, decide_eq_false_iff_not, beq_iff_eq, Bool.not_eq_false']; omega) | (simp; done) | (simp; omega) | (intros; omega) | (simp_all; done) | (simp_all; omega)
    case hw =>
     simp only [go_sem, accS_0]
    case body =>
     rintro i hx ih1
     try simp only at hx
     apply Exec.norm
     ·simp only [go_sem, hTP]
      rfl
     refine sq ?_
     refine sq ?_
     apply Exec.regionL te_ok
     ·intro u' Q hQ
      simp only [go_sem, hTP]
      repeat refine ob2 ?_
      exact hQ
     refine Exec.cond_split rfl (fun h4 => ?_) (fun h4 => ?_)
     ·have hi : i < q.c.length := by have := of_decide_eq_true h4; omega
      have hnm : nth (q.c.map cdT) i = cdT (nth q.c i) := nth_map _ hi
      have hal := accS_len' (c := 5) (txP q) [32, 119, 104, 101, 114, 101, 32] [32, 97, 110, 100, 32] (q.c.map cdT) i rfl
      have hsm := sum_c hf
      simp only [List.length_cons, List.length_nil, List.length_append] at hal
      have w2 : IntKind.i64.wrap ((i : Int) + 1) = ((i + 1 : Nat) : Int) := by rw [wrap_id (by omega)]; omega
      have hle1 := opT_len (cd_f (hf.c _ (nth_mem hi))).l
      have hle2 := opT_len (cd_f (hf.c _ (nth_mem hi))).r
      have hle3 := opS_len (nth q.c i).op
      refine sk ?_
      refine sq ?_
      refine Exec.block ?_
      refine sq ?_
      refine sq ?_
      rcases Classical.em (i = 0) with hs13 | hs13
      ·have ha := accS_1 (b := (txP q)) (hd := [32, 119, 104, 101, 114, 101, 32]) (sep := [32, 97, 110, 100, 32]) (l := q.c.map cdT) hs13 (by simpa using hi)
       rw [hnm] at ha
       try simp only [List.append_nil] at ha
       have hd1 : decide ((0 : Int) < (i : Int)) = false := by simp; omega
       have hd2 : ((i : Int) == 0) = true := by simp; omega
       rw [show cdT (nth q.c i) = opT (nth q.c i).l ++ [32] ++ opS (nth q.c i).op ++ [32] ++ opT (nth q.c i).r from rfl] at ha
       simp only [List.append_assoc, List.cons_append, List.nil_append] at ha
       apply Exec.regionL te_ok
       ·intro u' Q hQ
        simp only [go_sem, hTP, w2, ha, hd1, hd2, List.append_assoc, List.cons_append, List.nil_append]
        repeat refine ob2 ?_
        exact hQ
       refine Exec.cond (t := true) rfl ?_
       simp only [reduceIte, Bool.false_eq_true]
       apply Exec.regionL te_ok
       ·intro u' Q hQ
        simp only [go_sem, hTP, w2, ha, hd1, hd2, List.append_assoc, List.cons_append, List.nil_append]
        repeat refine ob2 ?_
        exact hQ
       apply Exec.draw (st := _) 29 27 [] [] te_ok (by as_aux_lemma => kernel_rfl) (by as_aux_lemma => kernel_rfl) (by as_aux_lemma => kernel_rfl)
       ·intro u' Q hQ
        simp only [go_sem, hTP, w2, ha, hd1, hd2, List.append_assoc, List.cons_append, List.nil_append]
        repeat refine ob2 ?_
        refine kdcall hR.inv te_ok rfl rfl rfl rfl rfl rfl (ropT_ok _ (hfq.ca _ (nth_mem hi)).l) ?_
        simp only [go_sem, hTP, w2, ha, hd1, hd2, List.append_assoc, List.cons_append, List.nil_append]
        repeat refine ob2 ?_
        refine kdcall hR.inv te_ok rfl rfl rfl rfl rfl rfl (op_ok _ (cd_f (hf.c _ (nth_mem hi))).o) ?_
        simp only [go_sem, hTP, w2, ha, hd1, hd2, List.append_assoc, List.cons_append, List.nil_append]
        repeat refine ob2 ?_
        refine kdcall hR.inv te_ok rfl rfl rfl rfl rfl rfl (ropT_ok _ (hfq.ca _ (nth_mem hi)).r) ?_
        simp only [go_sem, hTP, w2, ha, hd1, hd2, List.append_assoc, List.cons_append, List.nil_append]
        repeat refine ob2 ?_
        exact hQ
       refine Exec.inBlock ?_
       apply Exec.regionL te_ok
       ·intro u' Q hQ
        simp only [go_sem, hTP, w2, ha, hd1, hd2, List.append_assoc, List.cons_append, List.nil_append]
        repeat refine ob2 ?_
        exact hQ
       refine Exec.back (ih1 (i + 1) ?_ ?_) ?_ ?_ ?_ ?_ ?_ ?_ ?_
       ·try simp only
        omega
       ·try simp only
        omega
       ·rfl
       ·rfl
       ·(simp only [go_sem, hTP, w2, ha, hd1, hd2, List.append_assoc, List.cons_append, List.nil_append])
       ·(simp only [go_sem, hTP, w2, ha, hd1, hd2, List.append_assoc, List.cons_append, List.nil_append])
       ·(simp only [go_sem, hTP, w2, ha, hd1, hd2, List.append_assoc, List.cons_append, List.nil_append])
       ·simp only [go_sem, hTP, w2, ha, hd1, hd2, List.append_assoc, List.cons_append, List.nil_append]
       ·rfl
      ·have ha := accS_s (b := (txP q)) (hd := [32, 119, 104, 101, 114, 101, 32]) (sep := [32, 97, 110, 100, 32]) (l := q.c.map cdT) hs13 (by simpa using hi)
       rw [hnm] at ha
       have hd1 : decide ((0 : Int) < (i : Int)) = true := by simp; omega
       have hd2 : ((i : Int) == 0) = false := by simp; omega
       rw [show cdT (nth q.c i) = opT (nth q.c i).l ++ [32] ++ opS (nth q.c i).op ++ [32] ++ opT (nth q.c i).r from rfl] at ha
       simp only [List.append_assoc, List.cons_append, List.nil_append] at ha
       apply Exec.regionL te_ok
       ·intro u' Q hQ
        simp only [go_sem, hTP, w2, ha, hd1, hd2, List.append_assoc, List.cons_append, List.nil_append]
        repeat refine ob2 ?_
        exact hQ
       refine Exec.cond (t := false) rfl ?_
       simp only [reduceIte, Bool.false_eq_true]
       apply Exec.regionL te_ok
       ·intro u' Q hQ
        simp only [go_sem, hTP, w2, ha, hd1, hd2, List.append_assoc, List.cons_append, List.nil_append]
        repeat refine ob2 ?_
        exact hQ
       apply Exec.draw (st := _) 29 27 [] [] te_ok (by as_aux_lemma => kernel_rfl) (by as_aux_lemma => kernel_rfl) (by as_aux_lemma => kernel_rfl)
       ·intro u' Q hQ
        simp only [go_sem, hTP, w2, ha, hd1, hd2, List.append_assoc, List.cons_append, List.nil_append]
        repeat refine ob2 ?_
        refine kdcall hR.inv te_ok rfl rfl rfl rfl rfl rfl (ropT_ok _ (hfq.ca _ (nth_mem hi)).l) ?_
        simp only [go_sem, hTP, w2, ha, hd1, hd2, List.append_assoc, List.cons_append, List.nil_append]
        repeat refine ob2 ?_
        refine kdcall hR.inv te_ok rfl rfl rfl rfl rfl rfl (op_ok _ (cd_f (hf.c _ (nth_mem hi))).o) ?_
        simp only [go_sem, hTP, w2, ha, hd1, hd2, List.append_assoc, List.cons_append, List.nil_append]
        repeat refine ob2 ?_
        refine kdcall hR.inv te_ok rfl rfl rfl rfl rfl rfl (ropT_ok _ (hfq.ca _ (nth_mem hi)).r) ?_
        simp only [go_sem, hTP, w2, ha, hd1, hd2, List.append_assoc, List.cons_append, List.nil_append]
        repeat refine ob2 ?_
        exact hQ
       refine Exec.inBlock ?_
       apply Exec.regionL te_ok
       ·intro u' Q hQ
        simp only [go_sem, hTP, w2, ha, hd1, hd2, List.append_assoc, List.cons_append, List.nil_append]
        repeat refine ob2 ?_
        exact hQ
       refine Exec.back (ih1 (i + 1) ?_ ?_) ?_ ?_ ?_ ?_ ?_ ?_ ?_
       ·try simp only
        omega
       ·try simp only
        omega
       ·rfl
       ·rfl
       ·(simp only [go_sem, hTP, w2, ha, hd1, hd2, List.append_assoc, List.cons_append, List.nil_append])
       ·(simp only [go_sem, hTP, w2, ha, hd1, hd2, List.append_assoc, List.cons_append, List.nil_append])
       ·(simp only [go_sem, hTP, w2, ha, hd1, hd2, List.append_assoc, List.cons_append, List.nil_append])
       ·simp only [go_sem, hTP, w2, ha, hd1, hd2, List.append_assoc, List.cons_append, List.nil_append]
       ·rfl
     ·obtain rfl : i = q.c.length := by have := of_decide_eq_false h4; omega
      have hTC : accS (txP q) [32, 119, 104, 101, 114, 101, 32] [32, 97, 110, 100, 32] (q.c.map cdT) q.c.length = txC q := rfl
      refine Exec.exit rfl ?_
      refine sq ?_
      apply Exec.regionL te_ok
      ·intro u' Q hQ
       simp only [go_sem, hTP, hTC]
       repeat refine ob2 ?_
       exact hQ
      refine sq ?_
      refine sq ?_
      apply Exec.regionL te_ok
      ·intro u' Q hQ
       simp only [go_sem, hTP, hTC]
       repeat refine ob2 ?_
       exact hQ
      refine Exec.block ?_
      apply Exec.loopU [1] (X := Nat) (fun i => [(7, .d (iv i)), (4, .d (sv (accS (txC q ++ [32, 114, 101, 116, 117, 114, 110, 32]) [] [44, 32] (q.r.map opT) i)))]) (fun i => []) (fun i => []) (fun i => q.r.length - i) (fun i => i ≤ q.r.length) 0
      case h0 =>
       first | assumption | omega | (simp only [Bool.not_eq_true', Bool.or_eq_false_iff, Bool.or_eq_true, Bool.and_eq_true, decide_eq_true_eq, decide_eq_false_iff_not, beq_iff_eq, Bool.not_eq_false']; omega) | (simp; done) | (simp; omega) | (intros; omega) | (simp_all; done) | (simp_all; omega)
      case hw =>
       simp only [go_sem, accS_0]
      case body =>
       rintro i hx ih2
       try simp only at hx
       apply Exec.norm
       ·simp only [go_sem, hTP, hTC]
        rfl
       refine sq ?_
       refine sq ?_
       apply Exec.regionL te_ok
       ·intro u' Q hQ
        simp only [go_sem, hTP, hTC]
        repeat refine ob2 ?_
        exact hQ
       refine Exec.cond_split rfl (fun h7 => ?_) (fun h7 => ?_)
       ·have hi : i < q.r.length := by have := of_decide_eq_true h7; omega
        have hnm : nth (q.r.map opT) i = opT (nth q.r i) := nth_map _ hi
        have hal := accS_len' (c := 2) (txC q ++ [32, 114, 101, 116, 117, 114, 110, 32]) [] [44, 32] (q.r.map opT) i rfl
        have hsm := sum_r hf
        simp only [List.length_cons, List.length_nil, List.length_append] at hal
        have w2 : IntKind.i64.wrap ((i : Int) + 1) = ((i + 1 : Nat) : Int) := by rw [wrap_id (by omega)]; omega
        have hle1 := opT_len (hf.r _ (nth_mem hi))
        refine sk ?_
        refine sq ?_
        refine Exec.block ?_
        refine sq ?_
        refine sq ?_
        rcases Classical.em (i = 0) with hs21 | hs21
        ·have ha := accS_1 (b := (txC q ++ [32, 114, 101, 116, 117, 114, 110, 32])) (hd := []) (sep := [44, 32]) (l := q.r.map opT) hs21 (by simpa using hi)
         rw [hnm] at ha
         try simp only [List.append_nil] at ha
         have hd1 : decide ((0 : Int) < (i : Int)) = false := by simp; omega
         have hd2 : ((i : Int) == 0) = true := by simp; omega
         apply Exec.regionL te_ok
         ·intro u' Q hQ
          simp only [go_sem, hTP, hTC, w2, ha, hd1, hd2]
          repeat refine ob2 ?_
          exact hQ
         refine Exec.cond (t := false) rfl ?_
         simp only [reduceIte, Bool.false_eq_true]
         refine sk ?_
         apply Exec.regionL te_ok
         ·intro u' Q hQ
          simp only [go_sem, hTP, hTC, w2, ha, hd1, hd2]
          repeat refine ob2 ?_
          refine kcall hR.inv te_ok rfl rfl rfl rfl rfl rfl (ropT_ok _ (hfq.ra _ (nth_mem hi))) ?_
          simp only [go_sem, hTP, hTC, w2, ha, hd1, hd2]
          repeat refine ob2 ?_
          exact hQ
         refine Exec.inBlock ?_
         apply Exec.regionL te_ok
         ·intro u' Q hQ
          simp only [go_sem, hTP, hTC, w2, ha, hd1, hd2]
          repeat refine ob2 ?_
          exact hQ
         refine Exec.back (ih2 (i + 1) ?_ ?_) ?_ ?_ ?_ ?_ ?_ ?_ ?_
         ·try simp only
          omega
         ·try simp only
          omega
         ·rfl
         ·rfl
         ·(simp only [go_sem, hTP, hTC, w2, ha, hd1, hd2])
         ·(simp only [go_sem, hTP, hTC, w2, ha, hd1, hd2])
         ·(simp only [go_sem, hTP, hTC, w2, ha, hd1, hd2])
         ·simp only [go_sem, hTP, hTC, w2, ha, hd1, hd2]
         ·rfl
        ·have ha := accS_s (b := (txC q ++ [32, 114, 101, 116, 117, 114, 110, 32])) (hd := []) (sep := [44, 32]) (l := q.r.map opT) hs21 (by simpa using hi)
         rw [hnm] at ha
         have hd1 : decide ((0 : Int) < (i : Int)) = true := by simp; omega
         have hd2 : ((i : Int) == 0) = false := by simp; omega
         apply Exec.regionL te_ok
         ·intro u' Q hQ
          simp only [go_sem, hTP, hTC, w2, ha, hd1, hd2]
          repeat refine ob2 ?_
          exact hQ
         refine Exec.cond (t := true) rfl ?_
         simp only [reduceIte, Bool.false_eq_true]
         apply Exec.regionL te_ok
         ·intro u' Q hQ
          simp only [go_sem, hTP, hTC, w2, ha, hd1, hd2]
          repeat refine ob2 ?_
          exact hQ
         apply Exec.regionL te_ok
         ·intro u' Q hQ
          simp only [go_sem, hTP, hTC, w2, ha, hd1, hd2]
          repeat refine ob2 ?_
          refine kcall hR.inv te_ok rfl rfl rfl rfl rfl rfl (ropT_ok _ (hfq.ra _ (nth_mem hi))) ?_
          simp only [go_sem, hTP, hTC, w2, ha, hd1, hd2]
          repeat refine ob2 ?_
          exact hQ
         refine Exec.inBlock ?_
         apply Exec.regionL te_ok
         ·intro u' Q hQ
          simp only [go_sem, hTP, hTC, w2, ha, hd1, hd2]
          repeat refine ob2 ?_
          exact hQ
         refine Exec.back (ih2 (i + 1) ?_ ?_) ?_ ?_ ?_ ?_ ?_ ?_ ?_
         ·try simp only
          omega
         ·try simp only
          omega
         ·rfl
         ·rfl
         ·(simp only [go_sem, hTP, hTC, w2, ha, hd1, hd2])
         ·(simp only [go_sem, hTP, hTC, w2, ha, hd1, hd2])
         ·(simp only [go_sem, hTP, hTC, w2, ha, hd1, hd2])
         ·simp only [go_sem, hTP, hTC, w2, ha, hd1, hd2]
         ·rfl
       ·obtain rfl : i = q.r.length := by have := of_decide_eq_false h7; omega
        have hTR : accS (txC q ++ [32, 114, 101, 116, 117, 114, 110, 32]) [] [44, 32] (q.r.map opT) q.r.length = txR q := rfl
        refine Exec.exit rfl ?_
        refine sq ?_
        apply Exec.draw (st := _) 13 11 [] [] te_ok (by as_aux_lemma => kernel_rfl) (by as_aux_lemma => kernel_rfl) (by as_aux_lemma => kernel_rfl)
        ·intro u' Q hQ
         simp only [go_sem, hTP, hTC, hTR]
         repeat refine ob2 ?_
         refine kdcall hR.inv te_ok rfl rfl rfl rfl rfl rfl (itoa_ok q.range (by constructor <;> omega)) ?_
         simp only [go_sem, hTP, hTC, hTR]
         repeat refine ob2 ?_
         refine kdcall hR.inv te_ok rfl rfl rfl rfl rfl rfl (itoa_ok q.slide (by constructor <;> omega)) ?_
         simp only [go_sem, hTP, hTC, hTR]
         repeat refine ob2 ?_
         exact hQ
        refine sq ?_
        refine sq ?_
        apply Exec.regionL te_ok
        ·intro u' Q hQ
         simp only [go_sem, hTP, hTC, hTR]
         repeat refine ob2 ?_
         exact hQ
        refine Exec.cond_split rfl (fun h10 => ?_) (fun h10 => ?_)
        ·refine sq ?_
         apply Exec.regionL te_ok
         ·intro u' Q hQ
          simp only [go_sem, hTP, hTC, hTR]
          repeat refine ob2 ?_
          exact hQ
         refine Exec.rets hR te_ok rfl rfl rfl (LeX.le ?_) (.inr ⟨_, rfl⟩)
         simp only [go_sem]
         have hq3 : 2000 < (quT q).length := by have := of_decide_eq_true h10; unfold quT; simp at this ⊢; omega
         simp [quS, quE, hr, hq3]
        ·refine sk ?_
         refine sq ?_
         apply Exec.regionL te_ok
         ·intro u' Q hQ
          simp only [go_sem, hTP, hTC, hTR]
          repeat refine ob2 ?_
          exact hQ
         refine Exec.rets hR te_ok rfl rfl rfl (LeX.le ?_) (.inr ⟨_, rfl⟩)
         simp only [go_sem]
         have hq3 : ¬ 2000 < (quT q).length := by have := of_decide_eq_false h10; unfold quT; simp at this ⊢; omega
         rw [show quS q = quT q from by unfold quS; rw [if_pos hr, if_neg hq3], show quE q = 0 from by unfold quE; rw [if_pos hr, if_neg hq3]]
         simp [quT]
end Go.Proofs.YtonchjamoblioaaGreatDoor
