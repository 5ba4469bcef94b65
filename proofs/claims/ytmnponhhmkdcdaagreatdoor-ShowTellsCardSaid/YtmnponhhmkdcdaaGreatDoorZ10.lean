/- Contracts of functions of the seat, walked. -/
import Derived.Test.YtmnponhhmkdcdaaGreatDoorZ9
import Derived.Lib.ItoaLen
namespace Go.Proofs.YtmnponhhmkdcdaaGreatDoor
open Go.Kin
set_option linter.unusedSimpArgs false
set_option linter.unusedVariables false
set_option maxRecDepth 100000
set_option maxHeartbeats 0
theorem op_ok (k : Int) (h : 1 ≤ k ∧ k ≤ 6) : FnOK Laid Tryz.prog 46 [iv k] (sv (opS k)) := by
  rcases (show k = 1 ∨ k = 2 ∨ k = 3 ∨ k = 4 ∨ k = 5 ∨ k = 6 by omega) with rfl | rfl | rfl | rfl | rfl | rfl
  · exact op1_ok
  · exact op2_ok
  · exact op3_ok
  · exact op4_ok
  · exact op5_ok
  · exact op6_ok
theorem opS_len (k : Int) : (opS k).length ≤ 2 := by unfold opS; repeat (first | split | simp)
theorem showT_len (k n : Int) (s : List UInt8) : (showT ⟨k, n, s⟩).length ≤ 100 := by
  unfold showT
  by_cases hr : Vl.right ⟨k, n, s⟩ = true
  · rw [if_pos hr]
    unfold Vl.right rightV at hr
    unfold Vl.shown shownV
    simp only at hr ⊢
    by_cases h2 : k = 2
    · rw [if_pos h2]
      rw [if_neg (by omega), if_pos h2] at hr
      simp at hr ⊢; omega
    · rw [if_neg h2]
      by_cases h1 : k = 1
      · rw [if_pos h1] at hr
        simp at hr
        have := Lib.itoa_length_le n (by omega) (by omega); omega
      · rw [if_neg h1, if_neg h2] at hr; cases hr
  · rw [if_neg hr]; simp
theorem opT_len {o : Opd} (h : opR o = true) : (opT o).length ≤ 100 := by
  unfold opR at h; unfold opT
  by_cases h1 : o.k = 1
  · rw [if_pos h1] at h ⊢
    simp only [Bool.and_eq_true] at h
    have := free_len h.1; omega
  · rw [if_neg h1] at h ⊢
    by_cases h2 : o.k = 2
    · rw [if_pos h2] at h ⊢
      simp only [Bool.and_eq_true] at h
      have := free_len h.1
      have := free_len h.2.1
      simp only [List.length_append, List.length_singleton]; omega
    · rw [if_neg h2]
      exact showT_len _ _ _
structure CdF (c : Cd) : Prop where
  o : 1 ≤ c.op ∧ c.op ≤ 6
  l : opR c.l = true
  r : opR c.r = true
theorem cd_f {c : Cd} (h : cdR c = true) : CdF c := by
  unfold cdR at h
  simp only [Bool.and_eq_true, decide_eq_true_eq] at h
  exact ⟨⟨h.1, h.2.1⟩, h.2.2.1, h.2.2.2⟩
theorem xcondT_ok (c : Cd) (hc : FitC c) (hr : cdR c = true) : FnOK Laid Tryz.prog 85 [cdD c] (sv (cdT c)) := by
  obtain ⟨h, h1, h2⟩ := cd_f hr
  have l1 := opT_len h1
  have l2 := opT_len h2
  rcases (show c.op = 1 ∨ c.op = 2 ∨ c.op = 3 ∨ c.op = 4 ∨ c.op = 5 ∨ c.op = 6 by omega) with e | e | e | e | e | e
  · exact xcond1_ok c e hc.l hc.r (by omega) (by omega)
  · exact xcond2_ok c e hc.l hc.r (by omega) (by omega)
  · exact xcond3_ok c e hc.l hc.r (by omega) (by omega)
  · exact xcond4_ok c e hc.l hc.r (by omega) (by omega)
  · exact xcond5_ok c e hc.l hc.r (by omega) (by omega)
  · exact xcond6_ok c e hc.l hc.r (by omega) (by omega)
theorem cdT_len {c : Cd} (h : cdR c = true) : (cdT c).length ≤ 300 := by
  obtain ⟨_, h1, h2⟩ := cd_f h
  have l1 := opT_len h1
  have l2 := opT_len h2
  have l3 := opS_len c.op
  unfold cdT; simp only [List.length_append, List.length_singleton]; omega
structure PtF (p : Pt) : Prop where
  a : p.a.length ≤ 20
  z : p.z.length ≤ 20
  lab : p.lab.length ≤ 20
  name : p.name.length ≤ 20
  e : p.path = true → exOk p.e = true ∧ p.e.size ≤ 24 ∧ (exT p.e).length ≤ 600
theorem pt_f {p : Pt} (h : ptR p = true) : PtF p := by
  unfold ptR at h
  simp only [Bool.and_eq_true] at h
  obtain ⟨h1, h2, h3⟩ := h
  have e1 := free_len h1
  have e2 := free_len h2
  by_cases hp : p.path = true
  · rw [if_pos hp] at h3
    simp only [Bool.and_eq_true, beq_iff_eq] at h3
    obtain ⟨h4, h5, h6⟩ := h3
    refine ⟨e1, e2, by rw [h4]; simp, by rw [h5]; simp, fun _ => ?_⟩
    unfold exRight at h6
    simp only [Bool.and_eq_true, decide_eq_true_eq] at h6
    have := exT_len _ h6.2
    exact ⟨h6.2, h6.1, by omega⟩
  · rw [if_neg hp] at h3
    simp only [Bool.and_eq_true, Bool.or_eq_true, beq_iff_eq] at h3
    refine ⟨e1, e2, free_len h3.1, ?_, fun h => absurd h hp⟩
    rcases h3.2.1 with h | h
    · rw [h]; simp
    · exact free_len h
theorem ptT_len {p : Pt} (h : ptR p = true) : (ptT p).length ≤ 1000 := by
  obtain ⟨h1, h2, h3, h4, h5⟩ := pt_f h
  unfold ptT
  by_cases hp : p.path = true
  · have := (h5 hp).2.2
    rw [if_pos hp]; simp only [List.length_append, List.length_cons, List.length_nil]; omega
  · rw [if_neg hp]
    split <;> simp only [List.length_append, List.length_cons, List.length_nil] <;> omega

theorem xptT_ok (p : Pt) (hr : ptR p = true) : FnOK Laid Tryz.prog 87 [ptD p] (sv (ptT p)) := by
  refine FnOK_of laid_stable Tryz.func87 Tryz.ntmps87 rfl (by as_aux_lemma => kernel_rfl) (Nat.le_of_ble_eq_true rfl) (fun R hR => ?_)
  obtain ⟨_, b, cs, T, C⟩ := R
  obtain rfl : _ = Tryz.prog := hR.p
  obtain ⟨f1, f2, f3, f4, f5⟩ := pt_f hr
  refine Exec.seq ?_
  apply Exec.regionL te_ok
  · intro ops' Q hQ
    simp only [go_sem]
    repeat (refine And.intro (by first | assumption | omega | (simp; done) | (simp; omega) | (intros; omega) | (simp_all; done) | (simp_all; omega)) ?_)
    exact hQ
  refine Exec.seq ?_
  apply Exec.regionL te_ok
  · intro ops' Q hQ
    simp only [go_sem]
    repeat (refine And.intro (by first | assumption | omega | (simp; done) | (simp; omega) | (intros; omega) | (simp_all; done) | (simp_all; omega)) ?_)
    exact hQ
  refine Exec.seq ?_
  refine Exec.block ?_
  refine Exec.seq ?_
  apply Exec.regionL te_ok
  · intro ops' Q hQ
    simp only [go_sem]
    repeat (refine And.intro (by first | assumption | omega | (simp; done) | (simp; omega) | (intros; omega) | (simp_all; done) | (simp_all; omega)) ?_)
    exact hQ
  refine Exec.cond_split rfl (fun h0 => ?_) (fun h0 => ?_)
  · skip
    obtain ⟨g1, g2, g3⟩ := f5 h0
    apply Exec.regionL te_ok
    · intro ops' Q hQ
      simp only [go_sem]
      repeat (refine And.intro (by first | assumption | omega | (simp; done) | (simp; omega) | (intros; omega) | (simp_all; done) | (simp_all; omega)) ?_)
      refine kcall hR.inv te_ok rfl rfl rfl rfl rfl rfl (shown_ok' p.e g1 (by omega)) ?_
      simp only [go_sem]
      repeat (refine And.intro (by first | assumption | omega | (simp; done) | (simp; omega) | (intros; omega) | (simp_all; done) | (simp_all; omega)) ?_)
      exact hQ
    refine Exec.inBlock ?_
    refine Exec.seq ?_
    apply Exec.regionL te_ok
    · intro ops' Q hQ
      simp only [go_sem]
      repeat (refine And.intro (by first | assumption | omega | (simp; done) | (simp; omega) | (intros; omega) | (simp_all; done) | (simp_all; omega)) ?_)
      exact hQ
    refine Exec.rets hR te_ok rfl rfl rfl (LeX.le ?_) (.inr ⟨_, rfl⟩)
    simp only [go_sem, ptT]
    simp_all [List.append_assoc]
  · skip
    refine Exec.seq ?_
    apply Exec.regionL te_ok
    · intro ops' Q hQ
      simp only [go_sem]
      repeat (refine And.intro (by first | assumption | omega | (simp; done) | (simp; omega) | (intros; omega) | (simp_all; done) | (simp_all; omega)) ?_)
      exact hQ
    refine Exec.cond_split rfl (fun h1 => ?_) (fun h1 => ?_)
    · skip
      apply Exec.regionL te_ok
      · intro ops' Q hQ
        simp only [go_sem]
        repeat (refine And.intro (by first | assumption | omega | (simp; done) | (simp; omega) | (intros; omega) | (simp_all; done) | (simp_all; omega)) ?_)
        exact hQ
      refine Exec.inBlock ?_
      refine Exec.seq ?_
      apply Exec.regionL te_ok
      · intro ops' Q hQ
        simp only [go_sem]
        repeat (refine And.intro (by first | assumption | omega | (simp; done) | (simp; omega) | (intros; omega) | (simp_all; done) | (simp_all; omega)) ?_)
        exact hQ
      refine Exec.rets hR te_ok rfl rfl rfl (LeX.le ?_) (.inr ⟨_, rfl⟩)
      simp only [go_sem, ptT]
      simp_all [List.append_assoc]
    · skip
      refine Exec.skip ?_
      refine Exec.inBlock ?_
      refine Exec.seq ?_
      apply Exec.regionL te_ok
      · intro ops' Q hQ
        simp only [go_sem]
        repeat (refine And.intro (by first | assumption | omega | (simp; done) | (simp; omega) | (intros; omega) | (simp_all; done) | (simp_all; omega)) ?_)
        exact hQ
      refine Exec.rets hR te_ok rfl rfl rfl (LeX.le ?_) (.inr ⟨_, rfl⟩)
      simp only [go_sem, ptT]
      simp_all [List.append_assoc]
theorem rptT_ok (p : Pt) (hr : ptR p = true) : FnOK Laid Tryz.prog 44 [ptD p] (sv (ptT p)) := by
  refine FnOK_of laid_stable Tryz.func44 Tryz.ntmps44 rfl (by as_aux_lemma => kernel_rfl) (Nat.le_of_ble_eq_true rfl) (fun R hR => ?_)
  obtain ⟨_, b, cs, T, C⟩ := R
  obtain rfl : _ = Tryz.prog := hR.p
  obtain ⟨f1, f2, f3, f4, f5⟩ := pt_f hr
  refine Exec.seq ?_
  apply Exec.regionL te_ok
  · intro ops' Q hQ
    simp only [go_sem]
    repeat (refine And.intro (by first | assumption | omega | (simp; done) | (simp; omega) | (intros; omega) | (simp_all; done) | (simp_all; omega)) ?_)
    exact hQ
  refine Exec.seq ?_
  refine Exec.seq ?_
  apply Exec.regionL te_ok
  · intro ops' Q hQ
    simp only [go_sem]
    repeat (refine And.intro (by first | assumption | omega | (simp; done) | (simp; omega) | (intros; omega) | (simp_all; done) | (simp_all; omega)) ?_)
    exact hQ
  refine Exec.cond_split rfl (fun h0 => ?_) (fun h0 => ?_)
  · skip
    obtain ⟨g1, g2, g3⟩ := f5 h0
    refine Exec.seq ?_
    apply Exec.draw (st := _) 15 14 [] [] te_ok (by as_aux_lemma => kernel_rfl) (by as_aux_lemma => kernel_rfl) (by as_aux_lemma => kernel_rfl)
    · intro ops' Q hQ
      simp only [go_sem]
      repeat (refine And.intro (by first | assumption | omega | (simp; done) | (simp; omega) | (intros; omega) | (simp_all; done) | (simp_all; omega)) ?_)
      refine kdcall hR.inv te_ok rfl rfl rfl rfl rfl rfl (rexpr_ok' p.e g1 (by omega)) ?_
      simp only [go_sem]
      repeat (refine And.intro (by first | assumption | omega | (simp; done) | (simp; omega) | (intros; omega) | (simp_all; done) | (simp_all; omega)) ?_)
      exact hQ
    refine Exec.rets hR te_ok rfl rfl rfl (LeX.le ?_) (.inr ⟨_, rfl⟩)
    simp only [go_sem, ptT]
    simp_all [List.append_assoc]
  · skip
    refine Exec.skip ?_
    refine Exec.seq ?_
    apply Exec.regionL te_ok
    · intro ops' Q hQ
      simp only [go_sem]
      repeat (refine And.intro (by first | assumption | omega | (simp; done) | (simp; omega) | (intros; omega) | (simp_all; done) | (simp_all; omega)) ?_)
      exact hQ
    refine Exec.seq ?_
    refine Exec.seq ?_
    apply Exec.regionL te_ok
    · intro ops' Q hQ
      simp only [go_sem]
      repeat (refine And.intro (by first | assumption | omega | (simp; done) | (simp; omega) | (intros; omega) | (simp_all; done) | (simp_all; omega)) ?_)
      exact hQ
    refine Exec.cond_split rfl (fun h1 => ?_) (fun h1 => ?_)
    · skip
      apply Exec.regionL te_ok
      · intro ops' Q hQ
        simp only [go_sem]
        repeat (refine And.intro (by first | assumption | omega | (simp; done) | (simp; omega) | (intros; omega) | (simp_all; done) | (simp_all; omega)) ?_)
        exact hQ
      refine Exec.seq ?_
      apply Exec.regionL te_ok
      · intro ops' Q hQ
        simp only [go_sem]
        repeat (refine And.intro (by first | assumption | omega | (simp; done) | (simp; omega) | (intros; omega) | (simp_all; done) | (simp_all; omega)) ?_)
        exact hQ
      refine Exec.rets hR te_ok rfl rfl rfl (LeX.le ?_) (.inr ⟨_, rfl⟩)
      simp only [go_sem, ptT]
      simp_all [List.append_assoc]
    · skip
      refine Exec.skip ?_
      refine Exec.seq ?_
      apply Exec.regionL te_ok
      · intro ops' Q hQ
        simp only [go_sem]
        repeat (refine And.intro (by first | assumption | omega | (simp; done) | (simp; omega) | (intros; omega) | (simp_all; done) | (simp_all; omega)) ?_)
        exact hQ
      refine Exec.rets hR te_ok rfl rfl rfl (LeX.le ?_) (.inr ⟨_, rfl⟩)
      simp only [go_sem, ptT]
      simp_all [List.append_assoc]
theorem joinedP_ok (l : List Pt) (s : List UInt8) (g : Pt → List UInt8)  (hl : l.length ≤ 1000000) (hj : (Lib.join (l.map g) s).length ≤ 140737488355328) (ihx : ∀ y ∈ l, FnOK Laid Tryz.prog 87 [ptD y] (sv (g y))) : FnOK Laid Tryz.prog 86 [ptsD l, sv s, .fn 87 []] (sv (Lib.join (l.map g) s)) := by
  refine FnOK_of laid_stable Tryz.func86 Tryz.ntmps86 rfl (by as_aux_lemma => kernel_rfl) (Nat.le_of_ble_eq_true rfl) (fun R hR => ?_)
  obtain ⟨_, b, cs, T, C⟩ := R
  obtain rfl : _ = Tryz.prog := hR.p
  refine Exec.seq ?_
  apply Exec.regionL te_ok
  · intro ops' Q hQ
    simp only [go_sem]
    repeat (refine And.intro (by first | assumption | omega | (simp; done) | (simp; omega) | (intros; omega) | (simp_all; done) | (simp_all; omega)) ?_)
    exact hQ
  refine Exec.seq ?_
  apply Exec.regionL te_ok
  · intro ops' Q hQ
    simp only [go_sem]
    repeat (refine And.intro (by first | assumption | omega | (simp; done) | (simp; omega) | (intros; omega) | (simp_all; done) | (simp_all; omega)) ?_)
    exact hQ
  refine Exec.seq ?_
  refine Exec.seq ?_
  apply Exec.regionL te_ok
  · intro ops' Q hQ
    simp only [go_sem]
    repeat (refine And.intro (by first | assumption | omega | (simp; done) | (simp; omega) | (intros; omega) | (simp_all; done) | (simp_all; omega)) ?_)
    exact hQ
  refine Exec.block ?_
  refine Exec.ownNil 7 1500 9 1 rfl rfl ?_
  apply Exec.norm
  · simp only [go_sem]
    rfl
  apply Exec.loopU [1, 2, 10, 11] (X := Nat) (fun i => [(12, .d (iv i)), (7, .own 1500)]) (fun i => []) (fun i => [(1500, ⟨9, 1, i, i, fun j => [sv (nth (l.map g) j)]⟩)]) (fun i => l.length - i) (fun i => i ≤ l.length) 0
  case h0 =>
    first | assumption | omega | (simp; done) | (simp; omega) | (intros; omega) | (simp_all; done) | (simp_all; omega)
  case hw =>
    simp only [go_sem]; exact fun i hi => absurd hi (Nat.not_lt_zero i)
  case body =>
    rintro i hx ih0
    try simp only at hx
    apply Exec.norm
    · simp only [go_sem]
      rfl
    refine Exec.seq ?_
    apply Exec.regionL te_ok
    · intro ops' Q hQ
      simp only [go_sem]
      repeat (refine And.intro (by first | assumption | omega | (simp; done) | (simp; omega) | (intros; omega) | (simp_all; done) | (simp_all; omega)) ?_)
      exact hQ
    refine Exec.seq ?_
    refine Exec.cond_split rfl (fun h0 => ?_) (fun h0 => ?_)
    · skip
      have hi : i < l.length := by have := of_decide_eq_true h0; omega
      have hr : nth (l.map g) i = g (nth l i) := nth_map g hi
      have w2 : IntKind.i64.wrap ((i : Int) + 1) = ((i + 1 : Nat) : Int) := by rw [wrap_id (by omega)]; omega
      refine Exec.skip ?_
      refine Exec.seq ?_
      refine Exec.block ?_
      refine Exec.seq ?_
      apply Exec.regionL te_ok
      · intro ops' Q hQ
        simp only [go_sem, w2]
        repeat (refine And.intro (by first | assumption | omega | (simp; done) | (simp; omega) | (intros; omega) | (simp_all; done) | (simp_all; omega)) ?_)
        exact hQ
      apply Exec.regionL te_ok
      · intro ops' Q hQ
        simp only [go_sem, w2]
        repeat (refine And.intro (by first | assumption | omega | (simp; done) | (simp; omega) | (intros; omega) | (simp_all; done) | (simp_all; omega)) ?_)
        refine kcall hR.inv te_ok rfl rfl rfl rfl rfl rfl (ihx _ (nth_mem hi)) ?_
        simp only [go_sem, w2]
        repeat (refine And.intro (by first | assumption | omega | (simp; done) | (simp; omega) | (intros; omega) | (simp_all; done) | (simp_all; omega)) ?_)
        exact hQ
      refine Exec.inBlock ?_
      apply Exec.regionL te_ok
      · intro ops' Q hQ
        simp only [go_sem, w2]
        repeat (refine And.intro (by first | assumption | omega | (simp; done) | (simp; omega) | (intros; omega) | (simp_all; done) | (simp_all; omega)) ?_)
        exact hQ
      refine Exec.back (ih0 (i + 1) ?_ ?_) ?_ ?_ ?_ ?_ ?_ ?_ ?_
      · try simp only
        omega
      · try simp only
        omega
      · rfl
      · rfl
      · (simp only [go_sem, w2])
      · (simp only [go_sem, w2])
      · simp only [go_sem, w2]
        exact fun q hq => catR_row (row := fun j => [sv (nth (l.map g) j)]) (by simp only [hr]) q hq
      · simp only [go_sem, w2]
      · rfl
    · skip
      obtain rfl : i = l.length := by have := of_decide_eq_false h0; omega
      refine Exec.exit rfl ?_
      refine Exec.seq ?_
      refine Exec.freeze 1500 rfl ?_
      apply Exec.norm
      · simp only [go_sem]
        rfl
      apply Exec.regionL te_ok
      · intro ops' Q hQ
        simp only [go_sem]
        repeat (refine And.intro (by first | assumption | omega | (simp; done) | (simp; omega) | (intros; omega) | (simp_all; done) | (simp_all; omega)) ?_)
        refine kcall hR.inv te_ok rfl rfl rfl rfl rfl rfl (join_map l g s (by omega) hj) ?_
        simp only [go_sem]
        repeat (refine And.intro (by first | assumption | omega | (simp; done) | (simp; omega) | (intros; omega) | (simp_all; done) | (simp_all; omega)) ?_)
        exact hQ
      refine Exec.rets hR te_ok rfl rfl rfl (LeX.le ?_) (.inr ⟨_, rfl⟩)
      simp only [go_sem]
theorem joinedC_ok (l : List Cd) (s : List UInt8) (g : Cd → List UInt8)  (hl : l.length ≤ 1000000) (hj : (Lib.join (l.map g) s).length ≤ 140737488355328) (ihx : ∀ y ∈ l, FnOK Laid Tryz.prog 85 [cdD y] (sv (g y))) : FnOK Laid Tryz.prog 84 [cdsD l, sv s, .fn 85 []] (sv (Lib.join (l.map g) s)) := by
  refine FnOK_of laid_stable Tryz.func84 Tryz.ntmps84 rfl (by as_aux_lemma => kernel_rfl) (Nat.le_of_ble_eq_true rfl) (fun R hR => ?_)
  obtain ⟨_, b, cs, T, C⟩ := R
  obtain rfl : _ = Tryz.prog := hR.p
  refine Exec.seq ?_
  apply Exec.regionL te_ok
  · intro ops' Q hQ
    simp only [go_sem]
    repeat (refine And.intro (by first | assumption | omega | (simp; done) | (simp; omega) | (intros; omega) | (simp_all; done) | (simp_all; omega)) ?_)
    exact hQ
  refine Exec.seq ?_
  apply Exec.regionL te_ok
  · intro ops' Q hQ
    simp only [go_sem]
    repeat (refine And.intro (by first | assumption | omega | (simp; done) | (simp; omega) | (intros; omega) | (simp_all; done) | (simp_all; omega)) ?_)
    exact hQ
  refine Exec.seq ?_
  refine Exec.seq ?_
  apply Exec.regionL te_ok
  · intro ops' Q hQ
    simp only [go_sem]
    repeat (refine And.intro (by first | assumption | omega | (simp; done) | (simp; omega) | (intros; omega) | (simp_all; done) | (simp_all; omega)) ?_)
    exact hQ
  refine Exec.block ?_
  refine Exec.ownNil 7 1500 9 1 rfl rfl ?_
  apply Exec.norm
  · simp only [go_sem]
    rfl
  apply Exec.loopU [1, 2, 10, 11] (X := Nat) (fun i => [(12, .d (iv i)), (7, .own 1500)]) (fun i => []) (fun i => [(1500, ⟨9, 1, i, i, fun j => [sv (nth (l.map g) j)]⟩)]) (fun i => l.length - i) (fun i => i ≤ l.length) 0
  case h0 =>
    first | assumption | omega | (simp; done) | (simp; omega) | (intros; omega) | (simp_all; done) | (simp_all; omega)
  case hw =>
    simp only [go_sem]; exact fun i hi => absurd hi (Nat.not_lt_zero i)
  case body =>
    rintro i hx ih0
    try simp only at hx
    apply Exec.norm
    · simp only [go_sem]
      rfl
    refine Exec.seq ?_
    apply Exec.regionL te_ok
    · intro ops' Q hQ
      simp only [go_sem]
      repeat (refine And.intro (by first | assumption | omega | (simp; done) | (simp; omega) | (intros; omega) | (simp_all; done) | (simp_all; omega)) ?_)
      exact hQ
    refine Exec.seq ?_
    refine Exec.cond_split rfl (fun h0 => ?_) (fun h0 => ?_)
    · skip
      have hi : i < l.length := by have := of_decide_eq_true h0; omega
      have hr : nth (l.map g) i = g (nth l i) := nth_map g hi
      have w2 : IntKind.i64.wrap ((i : Int) + 1) = ((i + 1 : Nat) : Int) := by rw [wrap_id (by omega)]; omega
      refine Exec.skip ?_
      refine Exec.seq ?_
      refine Exec.block ?_
      refine Exec.seq ?_
      apply Exec.regionL te_ok
      · intro ops' Q hQ
        simp only [go_sem, w2]
        repeat (refine And.intro (by first | assumption | omega | (simp; done) | (simp; omega) | (intros; omega) | (simp_all; done) | (simp_all; omega)) ?_)
        exact hQ
      apply Exec.regionL te_ok
      · intro ops' Q hQ
        simp only [go_sem, w2]
        repeat (refine And.intro (by first | assumption | omega | (simp; done) | (simp; omega) | (intros; omega) | (simp_all; done) | (simp_all; omega)) ?_)
        refine kcall hR.inv te_ok rfl rfl rfl rfl rfl rfl (ihx _ (nth_mem hi)) ?_
        simp only [go_sem, w2]
        repeat (refine And.intro (by first | assumption | omega | (simp; done) | (simp; omega) | (intros; omega) | (simp_all; done) | (simp_all; omega)) ?_)
        exact hQ
      refine Exec.inBlock ?_
      apply Exec.regionL te_ok
      · intro ops' Q hQ
        simp only [go_sem, w2]
        repeat (refine And.intro (by first | assumption | omega | (simp; done) | (simp; omega) | (intros; omega) | (simp_all; done) | (simp_all; omega)) ?_)
        exact hQ
      refine Exec.back (ih0 (i + 1) ?_ ?_) ?_ ?_ ?_ ?_ ?_ ?_ ?_
      · try simp only
        omega
      · try simp only
        omega
      · rfl
      · rfl
      · (simp only [go_sem, w2])
      · (simp only [go_sem, w2])
      · simp only [go_sem, w2]
        exact fun q hq => catR_row (row := fun j => [sv (nth (l.map g) j)]) (by simp only [hr]) q hq
      · simp only [go_sem, w2]
      · rfl
    · skip
      obtain rfl : i = l.length := by have := of_decide_eq_false h0; omega
      refine Exec.exit rfl ?_
      refine Exec.seq ?_
      refine Exec.freeze 1500 rfl ?_
      apply Exec.norm
      · simp only [go_sem]
        rfl
      apply Exec.regionL te_ok
      · intro ops' Q hQ
        simp only [go_sem]
        repeat (refine And.intro (by first | assumption | omega | (simp; done) | (simp; omega) | (intros; omega) | (simp_all; done) | (simp_all; omega)) ?_)
        refine kcall hR.inv te_ok rfl rfl rfl rfl rfl rfl (join_map l g s (by omega) hj) ?_
        simp only [go_sem]
        repeat (refine And.intro (by first | assumption | omega | (simp; done) | (simp; omega) | (intros; omega) | (simp_all; done) | (simp_all; omega)) ?_)
        exact hQ
      refine Exec.rets hR te_ok rfl rfl rfl (LeX.le ?_) (.inr ⟨_, rfl⟩)
      simp only [go_sem]
theorem joinedO_ok (l : List Opd) (s : List UInt8) (g : Opd → List UInt8)  (hl : l.length ≤ 1000000) (hj : (Lib.join (l.map g) s).length ≤ 140737488355328) (ihx : ∀ y ∈ l, FnOK Laid Tryz.prog 89 [opD y] (sv (g y))) : FnOK Laid Tryz.prog 88 [opsD l, sv s, .fn 89 []] (sv (Lib.join (l.map g) s)) := by
  refine FnOK_of laid_stable Tryz.func88 Tryz.ntmps88 rfl (by as_aux_lemma => kernel_rfl) (Nat.le_of_ble_eq_true rfl) (fun R hR => ?_)
  obtain ⟨_, b, cs, T, C⟩ := R
  obtain rfl : _ = Tryz.prog := hR.p
  refine Exec.seq ?_
  apply Exec.regionL te_ok
  · intro ops' Q hQ
    simp only [go_sem]
    repeat (refine And.intro (by first | assumption | omega | (simp; done) | (simp; omega) | (intros; omega) | (simp_all; done) | (simp_all; omega)) ?_)
    exact hQ
  refine Exec.seq ?_
  apply Exec.regionL te_ok
  · intro ops' Q hQ
    simp only [go_sem]
    repeat (refine And.intro (by first | assumption | omega | (simp; done) | (simp; omega) | (intros; omega) | (simp_all; done) | (simp_all; omega)) ?_)
    exact hQ
  refine Exec.seq ?_
  refine Exec.seq ?_
  apply Exec.regionL te_ok
  · intro ops' Q hQ
    simp only [go_sem]
    repeat (refine And.intro (by first | assumption | omega | (simp; done) | (simp; omega) | (intros; omega) | (simp_all; done) | (simp_all; omega)) ?_)
    exact hQ
  refine Exec.block ?_
  refine Exec.ownNil 7 1500 9 1 rfl rfl ?_
  apply Exec.norm
  · simp only [go_sem]
    rfl
  apply Exec.loopU [1, 2, 10, 11] (X := Nat) (fun i => [(12, .d (iv i)), (7, .own 1500)]) (fun i => []) (fun i => [(1500, ⟨9, 1, i, i, fun j => [sv (nth (l.map g) j)]⟩)]) (fun i => l.length - i) (fun i => i ≤ l.length) 0
  case h0 =>
    first | assumption | omega | (simp; done) | (simp; omega) | (intros; omega) | (simp_all; done) | (simp_all; omega)
  case hw =>
    simp only [go_sem]; exact fun i hi => absurd hi (Nat.not_lt_zero i)
  case body =>
    rintro i hx ih0
    try simp only at hx
    apply Exec.norm
    · simp only [go_sem]
      rfl
    refine Exec.seq ?_
    apply Exec.regionL te_ok
    · intro ops' Q hQ
      simp only [go_sem]
      repeat (refine And.intro (by first | assumption | omega | (simp; done) | (simp; omega) | (intros; omega) | (simp_all; done) | (simp_all; omega)) ?_)
      exact hQ
    refine Exec.seq ?_
    refine Exec.cond_split rfl (fun h0 => ?_) (fun h0 => ?_)
    · skip
      have hi : i < l.length := by have := of_decide_eq_true h0; omega
      have hr : nth (l.map g) i = g (nth l i) := nth_map g hi
      have w2 : IntKind.i64.wrap ((i : Int) + 1) = ((i + 1 : Nat) : Int) := by rw [wrap_id (by omega)]; omega
      refine Exec.skip ?_
      refine Exec.seq ?_
      refine Exec.block ?_
      refine Exec.seq ?_
      apply Exec.regionL te_ok
      · intro ops' Q hQ
        simp only [go_sem, w2]
        repeat (refine And.intro (by first | assumption | omega | (simp; done) | (simp; omega) | (intros; omega) | (simp_all; done) | (simp_all; omega)) ?_)
        exact hQ
      apply Exec.regionL te_ok
      · intro ops' Q hQ
        simp only [go_sem, w2]
        repeat (refine And.intro (by first | assumption | omega | (simp; done) | (simp; omega) | (intros; omega) | (simp_all; done) | (simp_all; omega)) ?_)
        refine kcall hR.inv te_ok rfl rfl rfl rfl rfl rfl (ihx _ (nth_mem hi)) ?_
        simp only [go_sem, w2]
        repeat (refine And.intro (by first | assumption | omega | (simp; done) | (simp; omega) | (intros; omega) | (simp_all; done) | (simp_all; omega)) ?_)
        exact hQ
      refine Exec.inBlock ?_
      apply Exec.regionL te_ok
      · intro ops' Q hQ
        simp only [go_sem, w2]
        repeat (refine And.intro (by first | assumption | omega | (simp; done) | (simp; omega) | (intros; omega) | (simp_all; done) | (simp_all; omega)) ?_)
        exact hQ
      refine Exec.back (ih0 (i + 1) ?_ ?_) ?_ ?_ ?_ ?_ ?_ ?_ ?_
      · try simp only
        omega
      · try simp only
        omega
      · rfl
      · rfl
      · (simp only [go_sem, w2])
      · (simp only [go_sem, w2])
      · simp only [go_sem, w2]
        exact fun q hq => catR_row (row := fun j => [sv (nth (l.map g) j)]) (by simp only [hr]) q hq
      · simp only [go_sem, w2]
      · rfl
    · skip
      obtain rfl : i = l.length := by have := of_decide_eq_false h0; omega
      refine Exec.exit rfl ?_
      refine Exec.seq ?_
      refine Exec.freeze 1500 rfl ?_
      apply Exec.norm
      · simp only [go_sem]
        rfl
      apply Exec.regionL te_ok
      · intro ops' Q hQ
        simp only [go_sem]
        repeat (refine And.intro (by first | assumption | omega | (simp; done) | (simp; omega) | (intros; omega) | (simp_all; done) | (simp_all; omega)) ?_)
        refine kcall hR.inv te_ok rfl rfl rfl rfl rfl rfl (join_map l g s (by omega) hj) ?_
        simp only [go_sem]
        repeat (refine And.intro (by first | assumption | omega | (simp; done) | (simp; omega) | (intros; omega) | (simp_all; done) | (simp_all; omega)) ?_)
        exact hQ
      refine Exec.rets hR te_ok rfl rfl rfl (LeX.le ?_) (.inr ⟨_, rfl⟩)
      simp only [go_sem]
end Go.Proofs.YtmnponhhmkdcdaaGreatDoor
