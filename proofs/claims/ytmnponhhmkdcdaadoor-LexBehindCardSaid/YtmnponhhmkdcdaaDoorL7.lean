/- Contracts of functions of the seat, walked. -/
import Derived.Test.YtmnponhhmkdcdaaDoorL6
import Derived.Test.YtmnponhhmkdcdaaDoorLxLaw3
namespace Go.Proofs.YtmnponhhmkdcdaaDoor
open Go.Kin
set_option linter.unusedSimpArgs false
set_option linter.unusedVariables false
set_option maxRecDepth 100000
set_option maxHeartbeats 0
theorem blank_not (c : Int) : (!(c == 32) && (!(c == 9) && !(c == 10))) = !blankI c := by
  unfold blankI; cases c == 32 <;> cases c == 9 <;> cases c == 10 <;> rfl

theorem lblank_ok (s : List UInt8) (hs : s.length ≤ 140737488355328) : FnOK LaidX Tryd.prog 32 [sv s] (bv (blankS s)) := by
  refine FnOK_of laidX_stable Tryd.func32 Tryd.ntmps32 rfl (by as_aux_lemma => kernel_rfl) (Nat.le_of_ble_eq_true rfl) (fun R hR => ?_)
  obtain ⟨_, b, cs, T, C⟩ := R
  obtain rfl : _ = Tryd.prog := hR.p
  refine Exec.seq ?_
  apply Exec.regionL te_ok
  · intro ops' Q hQ
    simp only [go_sem]
    repeat (refine And.intro (by first | assumption | omega | (simp only [Bool.not_eq_true', Bool.or_eq_false_iff, Bool.or_eq_true, Bool.and_eq_true, decide_eq_true_eq, decide_eq_false_iff_not, beq_iff_eq, Bool.not_eq_false']; omega) | (simp; done) | (simp; omega) | (intros; omega) | (simp_all; done) | (simp_all; omega)) ?_)
    exact hQ
  refine Exec.seq ?_
  refine Exec.seq ?_
  apply Exec.regionL te_ok
  · intro ops' Q hQ
    simp only [go_sem]
    repeat (refine And.intro (by first | assumption | omega | (simp only [Bool.not_eq_true', Bool.or_eq_false_iff, Bool.or_eq_true, Bool.and_eq_true, decide_eq_true_eq, decide_eq_false_iff_not, beq_iff_eq, Bool.not_eq_false']; omega) | (simp; done) | (simp; omega) | (intros; omega) | (simp_all; done) | (simp_all; omega)) ?_)
    exact hQ
  refine Exec.block ?_
  apply Exec.loopU [0] (X := Nat) (fun i => [(3, .d (iv i))]) (fun i => []) (fun i => []) (fun i => s.length - i) (fun i => i ≤ s.length ∧ blankS s = blankS (s.drop i)) 0
  case h0 =>
    simp
  case hw =>
    simp only [go_sem]
  case body =>
    rintro i hx ih0
    try simp only at hx
    apply Exec.norm
    · simp only [go_sem]
      rfl
    refine Exec.seq ?_
    refine Exec.seq ?_
    apply Exec.regionL te_ok
    · intro ops' Q hQ
      simp only [go_sem]
      repeat (refine And.intro (by first | assumption | omega | (simp only [Bool.not_eq_true', Bool.or_eq_false_iff, Bool.or_eq_true, Bool.and_eq_true, decide_eq_true_eq, decide_eq_false_iff_not, beq_iff_eq, Bool.not_eq_false']; omega) | (simp; done) | (simp; omega) | (intros; omega) | (simp_all; done) | (simp_all; omega)) ?_)
      exact hQ
    refine Exec.cond_split rfl (fun h0 => ?_) (fun h0 => ?_)
    · skip
      have hi : i < s.length := by simp at h0; omega
      have hwi : IntKind.i64.wrap ((i : Int) + 1) = ((i + 1 : Nat) : Int) := by rw [wrap_id (by omega)]; simp
      refine Exec.skip ?_
      refine Exec.seq ?_
      refine Exec.block ?_
      refine Exec.seq ?_
      apply Exec.regionL te_ok
      · intro ops' Q hQ
        simp only [go_sem, hwi]
        repeat (refine And.intro (by first | assumption | omega | (simp only [Bool.not_eq_true', Bool.or_eq_false_iff, Bool.or_eq_true, Bool.and_eq_true, decide_eq_true_eq, decide_eq_false_iff_not, beq_iff_eq, Bool.not_eq_false']; omega) | (simp; done) | (simp; omega) | (intros; omega) | (simp_all; done) | (simp_all; omega)) ?_)
        exact hQ
      refine Exec.cond_split rfl (fun h1 => ?_) (fun h1 => ?_)
      · skip
        refine Exec.seq ?_
        apply Exec.regionL te_ok
        · intro ops' Q hQ
          simp only [go_sem, hwi]
          repeat (refine And.intro (by first | assumption | omega | (simp only [Bool.not_eq_true', Bool.or_eq_false_iff, Bool.or_eq_true, Bool.and_eq_true, decide_eq_true_eq, decide_eq_false_iff_not, beq_iff_eq, Bool.not_eq_false']; omega) | (simp; done) | (simp; omega) | (intros; omega) | (simp_all; done) | (simp_all; omega)) ?_)
          exact hQ
        refine Exec.rets hR te_ok rfl rfl rfl (LeX.le ?_) (.inr ⟨_, rfl⟩)
        simp only [go_sem]
        rw [hx.2, blank_drop hi (b := false) (by simp at h1; unfold blankI; simp; omega)]; rfl
      · skip
        refine Exec.skip ?_
        refine Exec.inBlock ?_
        apply Exec.regionL te_ok
        · intro ops' Q hQ
          simp only [go_sem, hwi]
          repeat (refine And.intro (by first | assumption | omega | (simp only [Bool.not_eq_true', Bool.or_eq_false_iff, Bool.or_eq_true, Bool.and_eq_true, decide_eq_true_eq, decide_eq_false_iff_not, beq_iff_eq, Bool.not_eq_false']; omega) | (simp; done) | (simp; omega) | (intros; omega) | (simp_all; done) | (simp_all; omega)) ?_)
          exact hQ
        refine Exec.back (ih0 (i + 1) ?_ ?_) ?_ ?_ ?_ ?_ ?_ ?_ ?_
        · try simp only
          exact ⟨by omega, by rw [hx.2, blank_drop hi (b := true) (by simp at h1; unfold blankI; simp; omega)]; rfl⟩
        · try simp only
          omega
        · rfl
        · rfl
        · (simp only [go_sem, hwi])
        · (simp only [go_sem, hwi])
        · (simp only [go_sem, hwi])
        · simp only [go_sem, hwi]
        · rfl
    · skip
      refine Exec.exit rfl ?_
      refine Exec.seq ?_
      apply Exec.regionL te_ok
      · intro ops' Q hQ
        simp only [go_sem]
        repeat (refine And.intro (by first | assumption | omega | (simp only [Bool.not_eq_true', Bool.or_eq_false_iff, Bool.or_eq_true, Bool.and_eq_true, decide_eq_true_eq, decide_eq_false_iff_not, beq_iff_eq, Bool.not_eq_false']; omega) | (simp; done) | (simp; omega) | (intros; omega) | (simp_all; done) | (simp_all; omega)) ?_)
        exact hQ
      refine Exec.rets hR te_ok rfl rfl rfl (LeX.le ?_) (.inr ⟨_, rfl⟩)
      simp only [go_sem]
      simp at h0
      rw [hx.2, List.drop_eq_nil_of_le (by omega)]; rfl
theorem between_7 {s : List UInt8} (h : ¬ 2000 < (s.length : Int)) (h2 : lexE s ≠ 0) : lexE s = 7 := by
  rcases lexE_or s with ⟨h1, _⟩ | ⟨_, e, _⟩ | ⟨_, e, _⟩
  · omega
  · exact absurd e h2
  · exact e
theorem between_tok {s : List UInt8} {i a : Nat} (hi : i < (lexT s).length) (ha : a ≤ s.length) (h : ((lexT s).drop i = (lexAt s a).1 ∧ (lexAt s a).2 = none) ∨ ((lexT s).drop i = [] ∧ a = s.length)) :
    firstB (s.drop (nextA s a)) = true ∧ nth (lexT s) i = tokA s a ∧ nextA s a ≤ s.length ∧
      ((firstT (s.drop (nextA s a))).k ≠ 5 ∧ i + 1 < (lexT s).length ∧ (lexT s).drop (i + 1) = (lexAt s (thenA s a)).1 ∧ (lexAt s (thenA s a)).2 = none ∨ (firstT (s.drop (nextA s a))).k = 5 ∧ i + 1 = (lexT s).length ∧ thenA s a = s.length) := by
  have hd : (lexT s).drop i = (lexT s)[i] :: (lexT s).drop (i + 1) := List.drop_eq_getElem_cons hi
  have hnt : nth (lexT s) i = (lexT s)[i] := nth_of (List.getElem?_eq_getElem hi)
  rcases h with ⟨h1, h2⟩ | ⟨h1, _⟩
  · have hna := nextA_le ha
    cases hb : firstB (s.drop (nextA s a)) with
    | false => rw [lexAt_no ha hb] at h2; cases h2
    | true =>
      refine ⟨rfl, ?_⟩
      by_cases hk : (firstT (s.drop (nextA s a))).k = 5
      · rw [lexAt_end ha hb hk, hd] at h1
        simp only [List.cons.injEq] at h1
        have hl : (lexT s).length ≤ i + 1 := by
          have := congrArg List.length h1.2
          rw [List.length_drop] at this; simp at this; omega
        refine ⟨hnt.trans h1.1, hna, .inr ⟨hk, by omega, ?_⟩⟩
        have he := first_end.1 hk
        unfold thenA
        rw [he]
        have : (s.drop (nextA s a)).length = 0 := by rw [he]; rfl
        rw [List.length_drop] at this
        show nextA s a + 0 = _
        omega
      · rw [lexAt_on ha hb hk, hd] at h1
        rw [lexAt_on ha hb hk] at h2
        simp only [List.cons.injEq] at h1
        refine ⟨hnt.trans h1.1, hna, .inl ⟨hk, ?_, h1.2, h2⟩⟩
        rcases Nat.lt_or_ge (i + 1) (lexT s).length with h | h
        · exact h
        · rw [List.drop_eq_nil_of_le h] at h1
          obtain ⟨t1, _⟩ := thenA_le ha hb
          cases hb2 : firstB (s.drop (nextA s (thenA s a))) with
          | false => rw [lexAt_no t1 hb2] at h2; cases h2
          | true =>
            obtain ⟨r, o, hr⟩ := at_head t1 hb2
            rw [hr] at h1; cases h1.2
  · rw [hd] at h1; cases h1
theorem between_init {s : List UInt8} (h : ¬ 2000 < (s.length : Int)) (h2 : lexE s = 0) : (lexT s).drop 0 = (lexAt s 0).1 ∧ (lexAt s 0).2 = none := by
  rcases lexE_or s with ⟨h1, _⟩ | ⟨_, _, e, e'⟩ | ⟨_, e, _⟩
  · omega
  · exact ⟨e', e⟩
  · rw [h2] at e; cases e
theorem between_one {A : Nat} {s : List UInt8} (hA : A < s.length) (h : blankI ((s.getD A 0).toNat : Int) = false) : (decide ((A : Int) < 0) || decide ((s.length : Int) ≤ (A : Int)) || blankS (List.take ((A : Int) + 1 - (A : Int)).toNat (List.drop A s))) = false := by
  have e1 : ((A : Int) + 1 - (A : Int)).toNat = 1 := by omega
  rw [e1, drop_getD hA]
  have e2 : blankS (List.take 1 (s.getD A 0 :: s.drop (A + 1))) = false := by unfold blankS; simp only [List.take_succ_cons, List.take_zero, List.all_cons, List.all_nil, h]; rfl
  rw [e2, decide_eq_false (by omega), decide_eq_false (by omega)]; rfl
theorem tokA_k (s : List UInt8) (a : Nat) : (tokA s a).k = (firstT (s.drop (nextA s a))).k := rfl
theorem tokA_t (s : List UInt8) (a : Nat) : (tokA s a).t = (firstT (s.drop (nextA s a))).t := rfl
theorem tokA_a (s : List UInt8) (a : Nat) : (tokA s a).a = (nextA s a : Nat) := rfl
theorem tokA_v (s : List UInt8) (a : Nat) : (tokA s a).v = (firstT (s.drop (nextA s a))).v := rfl
theorem between_f4 (s : List UInt8) (a : Nat) : blankS (List.take ((nextA s a : Int) - (a : Int)).toNat (List.drop a s)) = true := by
  have e : ((nextA s a : Int) - (a : Int)).toNat = spanN blankI (s.drop a) := by unfold nextA; omega
  rw [e]; exact span_all blankI (s.drop a)
theorem between_f5 {s : List UInt8} {a : Nat} (hb : firstB (s.drop (nextA s a)) = true) : (List.take ((thenA s a : Int) - (nextA s a : Int)).toNat (List.drop (nextA s a) s) == (firstT (s.drop (nextA s a))).t) = true := by
  have e : ((thenA s a : Int) - (nextA s a : Int)).toNat = (firstT (s.drop (nextA s a))).t.length := by unfold thenA; omega
  rw [e, beq_iff_eq]
  by_cases hk : (firstT (s.drop (nextA s a))).k = 5
  · rw [first_end.1 hk]; rfl
  · exact (first_text hb hk).symm
theorem between_f6 {k : Int} {i n : Nat} (h : k ≠ 5 ∧ i + 1 < n ∨ k = 5 ∧ i + 1 = n) : ((k == 5) != ((i : Int) == (n : Int) - 1)) = false := by
  rcases h with ⟨h1, h2⟩ | ⟨h1, h2⟩
  · have e1 : (k == 5) = false := by simpa using h1
    have e2 : ((i : Int) == (n : Int) - 1) = false := by simp; omega
    rw [e1, e2]; rfl
  · have e1 : (k == 5) = true := by simpa using h1
    have e2 : ((i : Int) == (n : Int) - 1) = true := by simp; omega
    rw [e1, e2]; rfl
theorem between_f7 {z : List UInt8} (hb : firstB z = true) : (((firstT z).t == []) != ((firstT z).k == 5)) = false := by
  by_cases hk : (firstT z).k = 5
  · rw [first_end.1 hk]; rfl
  · have e1 : ((firstT z).k == 5) = false := by simpa using hk
    have := (first_len hb hk).1
    have e2 : ((firstT z).t == []) = false := by
      cases hq : (firstT z).t with
      | nil => rw [hq] at this; simp at this
      | cons c r => rfl
    rw [e1, e2]; rfl
theorem lexAt_ne {s : List UInt8} {a : Nat} (ha : a ≤ s.length) (h : (lexAt s a).2 = none) : (lexAt s a).1 ≠ [] := by
  cases hb : firstB (s.drop (nextA s a)) with
  | false => rw [lexAt_no ha hb] at h; cases h
  | true => obtain ⟨r, o, hr⟩ := at_head ha hb; rw [hr]; exact List.cons_ne_nil _ _
theorem between_end {s : List UInt8} {i a : Nat} (h : ¬ 2000 < (s.length : Int)) (h2 : lexE s = 0) (hi : (lexT s).length ≤ i) (ha : a ≤ s.length) (hx : ((lexT s).drop i = (lexAt s a).1 ∧ (lexAt s a).2 = none) ∨ ((lexT s).drop i = [] ∧ a = s.length)) :
    (((a : Int) == (s.length : Int)) && decide (0 < ((lexT s).length : Int))) = true := by
  obtain ⟨q1, q2⟩ := between_init h h2
  have q3 := lexAt_ne (Nat.zero_le _) q2
  rw [← q1, List.drop_zero] at q3
  have q4 : 0 < (lexT s).length := List.length_pos_iff.2 q3
  have q5 : a = s.length := by
    rcases hx with ⟨h1, h2⟩ | ⟨_, h⟩
    · exact absurd (h1.symm.trans (List.drop_eq_nil_of_le hi)) (lexAt_ne ha h2)
    · exact h
  rw [q5]; simp; omega
theorem between_h6 {s : List UInt8} {a : Nat} (hs : s.length ≤ 2000) (hb : firstB (s.drop (nextA s a)) = true) :
    (lexE (firstT (s.drop (nextA s a))).t != 0 || (firstT (s.drop (nextA s a))).k != 5 && (((lexT (firstT (s.drop (nextA s a))).t).length : Int) != 2 || !((nth (lexT (firstT (s.drop (nextA s a))).t) 0).k == (firstT (s.drop (nextA s a))).k && ((nth (lexT (firstT (s.drop (nextA s a))).t) 0).t == (firstT (s.drop (nextA s a))).t && ((nth (lexT (firstT (s.drop (nextA s a))).t) 0).a == 0 && ((nth (lexT (firstT (s.drop (nextA s a))).t) 0).v.k == (firstT (s.drop (nextA s a))).v.k && ((nth (lexT (firstT (s.drop (nextA s a))).t) 0).v.n == (firstT (s.drop (nextA s a))).v.n && (nth (lexT (firstT (s.drop (nextA s a))).t) 0).v.s == (firstT (s.drop (nextA s a))).v.s))))))) = false := by
  by_cases hk : (firstT (s.drop (nextA s a))).k = 5
  · have he := first_end.1 hk
    rw [he]; decide
  · have h0 : spanN blankI (s.drop (nextA s a)) = 0 := by
      have := spanN_zero (p := blankI) (s := s.drop a)
      rw [List.drop_drop] at this
      exact this
    obtain ⟨e1, e2⟩ := lex_alone hb hk h0 (by rw [List.length_drop]; omega)
    have e3 := first_a (s.drop (nextA s a))
    rw [e1, e2]
    simp [nth, e3]
theorem between_len {s : List UInt8} {a : Nat} (hb : firstB (s.drop (nextA s a)) = true) : (firstT (s.drop (nextA s a))).t.length ≤ s.length - nextA s a := by
  by_cases hk : (firstT (s.drop (nextA s a))).k = 5
  · rw [first_end.1 hk]; exact Nat.zero_le _
  · have := (first_len hb hk).2
    rw [List.length_drop] at this; exact this

theorem between_ok (s : List UInt8) (hs : s.length ≤ 140737488355328) : FnOK LaidX Tryd.prog 9 [sv s] (bv true) := by
  refine FnOK_of laidX_stable Tryd.func9 Tryd.ntmps9 rfl (by as_aux_lemma => kernel_rfl) (Nat.le_of_ble_eq_true rfl) (fun R hR => ?_)
  obtain ⟨_, b, cs, T, C⟩ := R
  obtain rfl : _ = Tryd.prog := hR.p
  refine Exec.seq ?_
  apply Exec.regionL te_ok
  · intro ops' Q hQ
    simp only [go_sem]
    repeat (refine And.intro (by first | assumption | omega | (simp only [Bool.not_eq_true', Bool.or_eq_false_iff, Bool.or_eq_true, Bool.and_eq_true, decide_eq_true_eq, decide_eq_false_iff_not, beq_iff_eq, Bool.not_eq_false']; omega) | (simp; done) | (simp; omega) | (intros; omega) | (simp_all; done) | (simp_all; omega)) ?_)
    exact hQ
  refine Exec.seq ?_
  refine Exec.seq ?_
  apply Exec.regionL te_ok
  · intro ops' Q hQ
    simp only [go_sem]
    repeat (refine And.intro (by first | assumption | omega | (simp only [Bool.not_eq_true', Bool.or_eq_false_iff, Bool.or_eq_true, Bool.and_eq_true, decide_eq_true_eq, decide_eq_false_iff_not, beq_iff_eq, Bool.not_eq_false']; omega) | (simp; done) | (simp; omega) | (intros; omega) | (simp_all; done) | (simp_all; omega)) ?_)
    refine kcall hR.inv te_ok rfl rfl rfl rfl rfl rfl (lawake_ok) ?_
    simp only [go_sem]
    repeat (refine And.intro (by first | assumption | omega | (simp only [Bool.not_eq_true', Bool.or_eq_false_iff, Bool.or_eq_true, Bool.and_eq_true, decide_eq_true_eq, decide_eq_false_iff_not, beq_iff_eq, Bool.not_eq_false']; omega) | (simp; done) | (simp; omega) | (intros; omega) | (simp_all; done) | (simp_all; omega)) ?_)
    exact hQ
  refine Exec.cond (t := false) rfl ?_
  simp only [reduceIte, Bool.false_eq_true]
  refine Exec.skip ?_
  refine Exec.seq ?_
  apply Exec.regionL te_ok
  · intro ops' Q hQ
    simp only [go_sem]
    repeat (refine And.intro (by first | assumption | omega | (simp only [Bool.not_eq_true', Bool.or_eq_false_iff, Bool.or_eq_true, Bool.and_eq_true, decide_eq_true_eq, decide_eq_false_iff_not, beq_iff_eq, Bool.not_eq_false']; omega) | (simp; done) | (simp; omega) | (intros; omega) | (simp_all; done) | (simp_all; omega)) ?_)
    refine kcall hR.inv te_ok rfl rfl rfl rfl rfl rfl (lex_ok _ (by first | omega | (simp; done) | (simp; omega))) ?_
    simp only [go_sem]
    repeat (refine And.intro (by first | assumption | omega | (simp only [Bool.not_eq_true', Bool.or_eq_false_iff, Bool.or_eq_true, Bool.and_eq_true, decide_eq_true_eq, decide_eq_false_iff_not, beq_iff_eq, Bool.not_eq_false']; omega) | (simp; done) | (simp; omega) | (intros; omega) | (simp_all; done) | (simp_all; omega)) ?_)
    exact hQ
  refine Exec.seq ?_
  refine Exec.seq ?_
  apply Exec.regionL te_ok
  · intro ops' Q hQ
    simp only [go_sem]
    repeat (refine And.intro (by first | assumption | omega | (simp only [Bool.not_eq_true', Bool.or_eq_false_iff, Bool.or_eq_true, Bool.and_eq_true, decide_eq_true_eq, decide_eq_false_iff_not, beq_iff_eq, Bool.not_eq_false']; omega) | (simp; done) | (simp; omega) | (intros; omega) | (simp_all; done) | (simp_all; omega)) ?_)
    exact hQ
  refine Exec.cond_split rfl (fun h1 => ?_) (fun h1 => ?_)
  · skip
    obtain ⟨e1, e2, e3⟩ := lex_long h1
    refine Exec.seq ?_
    apply Exec.regionL te_ok
    · intro ops' Q hQ
      simp only [go_sem, e1, e2, e3]
      repeat (refine And.intro (by first | assumption | omega | (simp only [Bool.not_eq_true', Bool.or_eq_false_iff, Bool.or_eq_true, Bool.and_eq_true, decide_eq_true_eq, decide_eq_false_iff_not, beq_iff_eq, Bool.not_eq_false']; omega) | (simp; done) | (simp; omega) | (intros; omega) | (simp_all; done) | (simp_all; omega)) ?_)
      exact hQ
    refine Exec.rets hR te_ok rfl rfl rfl (LeX.le ?_) (.inr ⟨_, rfl⟩)
    simp only [go_sem, e1, e2, e3]
  · skip
    refine Exec.skip ?_
    refine Exec.seq ?_
    refine Exec.seq ?_
    apply Exec.regionL te_ok
    · intro ops' Q hQ
      simp only [go_sem]
      repeat (refine And.intro (by first | assumption | omega | (simp only [Bool.not_eq_true', Bool.or_eq_false_iff, Bool.or_eq_true, Bool.and_eq_true, decide_eq_true_eq, decide_eq_false_iff_not, beq_iff_eq, Bool.not_eq_false']; omega) | (simp; done) | (simp; omega) | (intros; omega) | (simp_all; done) | (simp_all; omega)) ?_)
      exact hQ
    refine Exec.cond_split rfl (fun h2 => ?_) (fun h2 => ?_)
    · skip
      have h7 : lexE s = 7 := between_7 (of_decide_eq_false h1) (by simpa using h2)
      obtain ⟨A, eA, hA, hs2, hA3, eT, eC⟩ := lex_cut h7
      have w1 : IntKind.i64.wrap ((A : Int) + 1) = (A : Int) + 1 := wrap_id (by omega)
      refine Exec.seq ?_
      refine Exec.seq ?_
      apply Exec.regionL te_ok
      · intro ops' Q hQ
        simp only [go_sem, h7, eA, eT, w1]
        repeat (refine And.intro (by first | assumption | omega | (simp only [Bool.not_eq_true', Bool.or_eq_false_iff, Bool.or_eq_true, Bool.and_eq_true, decide_eq_true_eq, decide_eq_false_iff_not, beq_iff_eq, Bool.not_eq_false']; omega) | (simp; done) | (simp; omega) | (intros; omega) | (simp_all; done) | (simp_all; omega)) ?_)
        refine kcallG hR.inv te_ok rfl rfl rfl rfl rfl rfl (by simp only [go_sem] <;> (first | assumption | omega | (simp only [Bool.not_eq_true', Bool.or_eq_false_iff, Bool.or_eq_true, Bool.and_eq_true, decide_eq_true_eq, decide_eq_false_iff_not, beq_iff_eq, Bool.not_eq_false']; omega) | (simp; done) | (simp; omega) | (intros; omega) | (simp_all; done) | (simp_all; omega))) (fun hq => lblank_ok _ (by first | omega | (simp; done) | (simp; omega))) ?_
        simp only [go_sem, h7, eA, eT, w1]
        repeat (refine And.intro (by first | assumption | omega | (simp only [Bool.not_eq_true', Bool.or_eq_false_iff, Bool.or_eq_true, Bool.and_eq_true, decide_eq_true_eq, decide_eq_false_iff_not, beq_iff_eq, Bool.not_eq_false']; omega) | (simp; done) | (simp; omega) | (intros; omega) | (simp_all; done) | (simp_all; omega)) ?_)
        exact hQ
      refine Exec.cond_split rfl (fun h3 => ?_) (fun h3 => ?_)
      · exfalso
        exact Bool.noConfusion (h3.symm.trans (between_one hA hA3))
      refine Exec.skip ?_
      refine Exec.seq ?_
      apply Exec.regionL te_ok
      · intro ops' Q hQ
        simp only [go_sem, h7, eA, eT, w1]
        repeat (refine And.intro (by first | assumption | omega | (simp only [Bool.not_eq_true', Bool.or_eq_false_iff, Bool.or_eq_true, Bool.and_eq_true, decide_eq_true_eq, decide_eq_false_iff_not, beq_iff_eq, Bool.not_eq_false']; omega) | (simp; done) | (simp; omega) | (intros; omega) | (simp_all; done) | (simp_all; omega)) ?_)
        refine kcall hR.inv te_ok rfl rfl rfl rfl rfl rfl (lex_ok _ (by first | omega | (simp; done) | (simp; omega))) ?_
        simp only [go_sem, h7, eA, eT, w1]
        repeat (refine And.intro (by first | assumption | omega | (simp only [Bool.not_eq_true', Bool.or_eq_false_iff, Bool.or_eq_true, Bool.and_eq_true, decide_eq_true_eq, decide_eq_false_iff_not, beq_iff_eq, Bool.not_eq_false']; omega) | (simp; done) | (simp; omega) | (intros; omega) | (simp_all; done) | (simp_all; omega)) ?_)
        exact hQ
      refine Exec.seq ?_
      apply Exec.regionL te_ok
      · intro ops' Q hQ
        simp only [go_sem, h7, eA, eT, w1]
        repeat (refine And.intro (by first | assumption | omega | (simp only [Bool.not_eq_true', Bool.or_eq_false_iff, Bool.or_eq_true, Bool.and_eq_true, decide_eq_true_eq, decide_eq_false_iff_not, beq_iff_eq, Bool.not_eq_false']; omega) | (simp; done) | (simp; omega) | (intros; omega) | (simp_all; done) | (simp_all; omega)) ?_)
        exact hQ
      refine Exec.rets hR te_ok rfl rfl rfl (LeX.le ?_) (.inr ⟨_, rfl⟩)
      simp only [go_sem, eC, beq_self_eq_true]
    · skip
      refine Exec.skip ?_
      refine Exec.seq ?_
      apply Exec.regionL te_ok
      · intro ops' Q hQ
        simp only [go_sem]
        repeat (refine And.intro (by first | assumption | omega | (simp only [Bool.not_eq_true', Bool.or_eq_false_iff, Bool.or_eq_true, Bool.and_eq_true, decide_eq_true_eq, decide_eq_false_iff_not, beq_iff_eq, Bool.not_eq_false']; omega) | (simp; done) | (simp; omega) | (intros; omega) | (simp_all; done) | (simp_all; omega)) ?_)
        exact hQ
      refine Exec.seq ?_
      refine Exec.seq ?_
      apply Exec.regionL te_ok
      · intro ops' Q hQ
        simp only [go_sem]
        repeat (refine And.intro (by first | assumption | omega | (simp only [Bool.not_eq_true', Bool.or_eq_false_iff, Bool.or_eq_true, Bool.and_eq_true, decide_eq_true_eq, decide_eq_false_iff_not, beq_iff_eq, Bool.not_eq_false']; omega) | (simp; done) | (simp; omega) | (intros; omega) | (simp_all; done) | (simp_all; omega)) ?_)
        exact hQ
      refine Exec.block ?_
      apply Exec.loopU [0, 3] (X := Nat × Nat) (fun ⟨i, a⟩ => [(9, .d (iv a)), (10, .d (iv i))]) (fun ⟨i, a⟩ => []) (fun ⟨i, a⟩ => []) (fun ⟨i, a⟩ => (lexT s).length - i) (fun ⟨i, a⟩ => i ≤ (lexT s).length ∧ a ≤ s.length ∧ (((lexT s).drop i = (lexAt s a).1 ∧ (lexAt s a).2 = none) ∨ ((lexT s).drop i = [] ∧ a = s.length))) (0, 0)
      case h0 =>
        exact ⟨by omega, by omega, .inl (between_init (of_decide_eq_false h1) (by simpa using h2))⟩
      case hw =>
        simp only [go_sem]
      case body =>
        rintro ⟨i, a⟩ hx ih0
        try simp only at hx
        have ul := lexT_len s
        apply Exec.norm
        · simp only [go_sem]
          rfl
        refine Exec.seq ?_
        refine Exec.seq ?_
        apply Exec.regionL te_ok
        · intro ops' Q hQ
          simp only [go_sem]
          repeat (refine And.intro (by first | assumption | omega | (simp only [Bool.not_eq_true', Bool.or_eq_false_iff, Bool.or_eq_true, Bool.and_eq_true, decide_eq_true_eq, decide_eq_false_iff_not, beq_iff_eq, Bool.not_eq_false']; omega) | (simp; done) | (simp; omega) | (intros; omega) | (simp_all; done) | (simp_all; omega)) ?_)
          exact hQ
        refine Exec.cond_split rfl (fun h4 => ?_) (fun h4 => ?_)
        · skip
          have hi : i < (lexT s).length := by have := of_decide_eq_true h4; omega
          obtain ⟨i1, i2, i3⟩ := hx
          obtain ⟨hb, ht, hn, hd⟩ := between_tok hi i2 i3
          have hl2 := between_len hb
          have hna : a ≤ nextA s a := by unfold nextA; omega
          have hs2 : s.length ≤ 2000 := by have := of_decide_eq_false h1; omega
          have w1 : IntKind.i64.wrap ((s.length : Int) - (nextA s a : Int)) = (s.length : Int) - (nextA s a : Int) := wrap_id (by omega)
          have tl : nextA s a + (firstT (s.drop (nextA s a))).t.length ≤ s.length := by omega
          have tn : nextA s a ≤ thenA s a := by unfold thenA; omega
          have tl2 : thenA s a ≤ s.length := tl
          have w2 := add_wrap (m := nextA s a) (n := (firstT (s.drop (nextA s a))).t.length) (by omega)
          have w3 : IntKind.i64.wrap (((lexT s).length : Int) - 1) = ((lexT s).length : Int) - 1 := wrap_id (by omega)
          have w4 : IntKind.i64.wrap ((i : Int) + 1) = ((i + 1 : Nat) : Int) := by rw [wrap_id (by omega)]; omega
          have f1 : decide ((nextA s a : Int) < (a : Int)) = false := decide_eq_false (by omega)
          have f2 : decide ((s.length : Int) < (nextA s a : Int)) = false := decide_eq_false (by omega)
          have f3 : decide ((s.length : Int) - (nextA s a : Int) < ((firstT (s.drop (nextA s a))).t.length : Int)) = false := decide_eq_false (by omega)
          have f4 := between_f4 s a
          have f5 := between_f5 hb
          have f6 := between_f6 (k := (firstT (s.drop (nextA s a))).k) (i := i) (n := (lexT s).length) (hd.imp (fun h => ⟨h.1, h.2.1⟩) (fun h => ⟨h.1, h.2.1⟩))
          have f7 := between_f7 hb
          refine Exec.skip ?_
          refine Exec.seq ?_
          refine Exec.block ?_
          refine Exec.seq ?_
          apply Exec.regionL te_ok
          · intro ops' Q hQ
            simp only [go_sem, f1, f2, f3, f4, f5, f6, f7, ht, tokA_k, tokA_t, tokA_a, tokA_v, w1, w2, w3, w4, thenA_eq]
            repeat (refine And.intro (by first | assumption | omega | (simp only [Bool.not_eq_true', Bool.or_eq_false_iff, Bool.or_eq_true, Bool.and_eq_true, decide_eq_true_eq, decide_eq_false_iff_not, beq_iff_eq, Bool.not_eq_false']; omega) | (simp; done) | (simp; omega) | (intros; omega) | (simp_all; done) | (simp_all; omega)) ?_)
            exact hQ
          refine Exec.seq ?_
          refine Exec.seq ?_
          apply Exec.draw (st := _) 67 66 [] [100011] te_ok (by as_aux_lemma => kernel_rfl) (by as_aux_lemma => kernel_rfl) (by as_aux_lemma => kernel_rfl)
          · intro ops' Q hQ
            simp only [go_sem, f1, f2, f3, f4, f5, f6, f7, ht, tokA_k, tokA_t, tokA_a, tokA_v, w1, w2, w3, w4, thenA_eq, List.append_eq, List.cons_append, List.nil_append]
            repeat (refine And.intro (by first | assumption | omega | (simp only [Bool.not_eq_true', Bool.or_eq_false_iff, Bool.or_eq_true, Bool.and_eq_true, decide_eq_true_eq, decide_eq_false_iff_not, beq_iff_eq, Bool.not_eq_false']; omega) | (simp; done) | (simp; omega) | (intros; omega) | (simp_all; done) | (simp_all; omega)) ?_)
            refine kdcallG hR.inv te_ok rfl rfl rfl rfl rfl rfl (by simp only [go_sem] <;> (first | assumption | omega | (simp only [Bool.not_eq_true', Bool.or_eq_false_iff, Bool.or_eq_true, Bool.and_eq_true, decide_eq_true_eq, decide_eq_false_iff_not, beq_iff_eq, Bool.not_eq_false']; omega) | (simp; done) | (simp; omega) | (intros; omega) | (simp_all; done) | (simp_all; omega))) (fun hq => lblank_ok _ (by first | omega | (simp; done) | (simp; omega))) ?_
            simp only [go_sem, f1, f2, f3, f4, f5, f6, f7, ht, tokA_k, tokA_t, tokA_a, tokA_v, w1, w2, w3, w4, thenA_eq, List.append_eq, List.cons_append, List.nil_append]
            repeat (refine And.intro (by first | assumption | omega | (simp only [Bool.not_eq_true', Bool.or_eq_false_iff, Bool.or_eq_true, Bool.and_eq_true, decide_eq_true_eq, decide_eq_false_iff_not, beq_iff_eq, Bool.not_eq_false']; omega) | (simp; done) | (simp; omega) | (intros; omega) | (simp_all; done) | (simp_all; omega)) ?_)
            exact hQ
          refine Exec.cond (t := false) rfl ?_
          simp only [reduceIte, Bool.false_eq_true]
          refine Exec.skip ?_
          refine Exec.seq ?_
          apply Exec.regionL te_ok
          · intro ops' Q hQ
            simp only [go_sem, f1, f2, f3, f4, f5, f6, f7, ht, tokA_k, tokA_t, tokA_a, tokA_v, w1, w2, w3, w4, thenA_eq]
            repeat (refine And.intro (by first | assumption | omega | (simp only [Bool.not_eq_true', Bool.or_eq_false_iff, Bool.or_eq_true, Bool.and_eq_true, decide_eq_true_eq, decide_eq_false_iff_not, beq_iff_eq, Bool.not_eq_false']; omega) | (simp; done) | (simp; omega) | (intros; omega) | (simp_all; done) | (simp_all; omega)) ?_)
            exact hQ
          refine Exec.seq ?_
          apply Exec.regionL te_ok
          · intro ops' Q hQ
            simp only [go_sem, f1, f2, f3, f4, f5, f6, f7, ht, tokA_k, tokA_t, tokA_a, tokA_v, w1, w2, w3, w4, thenA_eq]
            repeat (refine And.intro (by first | assumption | omega | (simp only [Bool.not_eq_true', Bool.or_eq_false_iff, Bool.or_eq_true, Bool.and_eq_true, decide_eq_true_eq, decide_eq_false_iff_not, beq_iff_eq, Bool.not_eq_false']; omega) | (simp; done) | (simp; omega) | (intros; omega) | (simp_all; done) | (simp_all; omega)) ?_)
            refine kcall hR.inv te_ok rfl rfl rfl rfl rfl rfl (lex_ok _ (by first | omega | (simp; done) | (simp; omega))) ?_
            simp only [go_sem, f1, f2, f3, f4, f5, f6, f7, ht, tokA_k, tokA_t, tokA_a, tokA_v, w1, w2, w3, w4, thenA_eq]
            repeat (refine And.intro (by first | assumption | omega | (simp only [Bool.not_eq_true', Bool.or_eq_false_iff, Bool.or_eq_true, Bool.and_eq_true, decide_eq_true_eq, decide_eq_false_iff_not, beq_iff_eq, Bool.not_eq_false']; omega) | (simp; done) | (simp; omega) | (intros; omega) | (simp_all; done) | (simp_all; omega)) ?_)
            exact hQ
          refine Exec.seq ?_
          apply Exec.regionL te_ok
          · intro ops' Q hQ
            simp only [go_sem, f1, f2, f3, f4, f5, f6, f7, ht, tokA_k, tokA_t, tokA_a, tokA_v, w1, w2, w3, w4, thenA_eq]
            repeat (refine And.intro (by first | assumption | omega | (simp only [Bool.not_eq_true', Bool.or_eq_false_iff, Bool.or_eq_true, Bool.and_eq_true, decide_eq_true_eq, decide_eq_false_iff_not, beq_iff_eq, Bool.not_eq_false']; omega) | (simp; done) | (simp; omega) | (intros; omega) | (simp_all; done) | (simp_all; omega)) ?_)
            exact hQ
          refine Exec.seq ?_
          apply Exec.draw (st := _) 20 19 [] [100011] te_ok (by as_aux_lemma => kernel_rfl) (by as_aux_lemma => kernel_rfl) (by as_aux_lemma => kernel_rfl)
          · intro ops' Q hQ
            simp only [go_sem, f1, f2, f3, f4, f5, f6, f7, ht, tokA_k, tokA_t, tokA_a, tokA_v, w1, w2, w3, w4, thenA_eq]
            repeat (refine And.intro (by first | assumption | omega | (simp only [Bool.not_eq_true', Bool.or_eq_false_iff, Bool.or_eq_true, Bool.and_eq_true, decide_eq_true_eq, decide_eq_false_iff_not, beq_iff_eq, Bool.not_eq_false']; omega) | (simp; done) | (simp; omega) | (intros; omega) | (simp_all; done) | (simp_all; omega)) ?_)
            exact hQ
          refine Exec.cond_split rfl (fun h6 => ?_) (fun h6 => ?_)
          · exfalso
            exact Bool.noConfusion (h6.symm.trans (between_h6 hs2 hb))
          refine Exec.skip ?_
          refine Exec.inBlock ?_
          apply Exec.regionL te_ok
          · intro ops' Q hQ
            simp only [go_sem, f1, f2, f3, f4, f5, f6, f7, ht, tokA_k, tokA_t, tokA_a, tokA_v, w1, w2, w3, w4, thenA_eq]
            repeat (refine And.intro (by first | assumption | omega | (simp only [Bool.not_eq_true', Bool.or_eq_false_iff, Bool.or_eq_true, Bool.and_eq_true, decide_eq_true_eq, decide_eq_false_iff_not, beq_iff_eq, Bool.not_eq_false']; omega) | (simp; done) | (simp; omega) | (intros; omega) | (simp_all; done) | (simp_all; omega)) ?_)
            exact hQ
          refine Exec.back (ih0 (i + 1, thenA s a) ?_ ?_) ?_ ?_ ?_ ?_ ?_ ?_ ?_
          · try simp only
            exact ⟨by omega, tl2, hd.elim (fun h => .inl ⟨h.2.2.1, h.2.2.2⟩) (fun h => .inr ⟨List.drop_eq_nil_of_le (by omega), h.2.2⟩)⟩
          · try simp only
            omega
          · rfl
          · rfl
          · (simp only [go_sem, f1, f2, f3, f4, f5, f6, f7, ht, tokA_k, tokA_t, tokA_a, tokA_v, w1, w2, w3, w4, thenA_eq])
          · (simp only [go_sem, f1, f2, f3, f4, f5, f6, f7, ht, tokA_k, tokA_t, tokA_a, tokA_v, w1, w2, w3, w4, thenA_eq])
          · (simp only [go_sem, f1, f2, f3, f4, f5, f6, f7, ht, tokA_k, tokA_t, tokA_a, tokA_v, w1, w2, w3, w4, thenA_eq])
          · simp only [go_sem, f1, f2, f3, f4, f5, f6, f7, ht, tokA_k, tokA_t, tokA_a, tokA_v, w1, w2, w3, w4, thenA_eq]
          · rfl
        · skip
          refine Exec.exit rfl ?_
          refine Exec.seq ?_
          apply Exec.regionL te_ok
          · intro ops' Q hQ
            simp only [go_sem]
            repeat (refine And.intro (by first | assumption | omega | (simp only [Bool.not_eq_true', Bool.or_eq_false_iff, Bool.or_eq_true, Bool.and_eq_true, decide_eq_true_eq, decide_eq_false_iff_not, beq_iff_eq, Bool.not_eq_false']; omega) | (simp; done) | (simp; omega) | (intros; omega) | (simp_all; done) | (simp_all; omega)) ?_)
            exact hQ
          refine Exec.rets hR te_ok rfl rfl rfl (LeX.le ?_) (.inr ⟨_, rfl⟩)
          simp only [go_sem]
          exact between_end (of_decide_eq_false h1) (by simpa using h2) (by have := of_decide_eq_false h4; omega) hx.2.1 hx.2.2
end Go.Proofs.YtmnponhhmkdcdaaDoor
