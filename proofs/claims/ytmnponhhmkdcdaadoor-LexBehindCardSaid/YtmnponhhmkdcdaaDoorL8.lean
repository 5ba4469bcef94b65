/- Contracts of functions of the seat, walked. -/
import Derived.Test.YtmnponhhmkdcdaaDoorLxLaw5
namespace Go.Proofs.YtmnponhhmkdcdaaDoor
open Go.Kin
set_option linter.unusedSimpArgs false
set_option linter.unusedVariables false
set_option maxRecDepth 100000
set_option maxHeartbeats 0
theorem shiftT_k (p : Nat) (t : Tk) : (shiftT p t).k = t.k := rfl
theorem shiftT_t (p : Nat) (t : Tk) : (shiftT p t).t = t.t := rfl
theorem shiftT_a (p : Nat) (t : Tk) : (shiftT p t).a = t.a + p := rfl
theorem shiftT_v (p : Nat) (t : Tk) : (shiftT p t).v = t.v := rfl
theorem pick4_w {x : Int} (h : x.tmod 4 < 0) : IntKind.i64.wrap (x.tmod 4 + 4) = x.tmod 4 + 4 := by
  have h2 := Int.lt_tmod_of_pos x (show (0 : Int) < 4 by decide)
  exact wrap_id (by constructor <;> omega)

theorem pick4_ok (x : Int) : FnOK LaidX Tryd.prog 33 [iv x, iv 4] (iv (pick4 x)) := by
  refine FnOK_of laidX_stable Tryd.func33 Tryd.ntmps33 rfl (by as_aux_lemma => kernel_rfl) (Nat.le_of_ble_eq_true rfl) (fun R hR => ?_)
  obtain ⟨_, b, cs, T, C⟩ := R
  obtain rfl : _ = Tryd.prog := hR.p
  refine Exec.seq ?_
  apply Exec.regionL te_ok
  · intro ops' Q hQ
    simp only [go_sem]
    repeat (refine And.intro (by first | assumption | omega | (simp only [Bool.not_eq_true', Bool.or_eq_false_iff, Bool.or_eq_true, Bool.and_eq_true, decide_eq_true_eq, decide_eq_false_iff_not, beq_iff_eq, Bool.not_eq_false']; omega) | (simp; done) | (simp; omega) | (intros; omega) | (simp_all; done) | (simp_all; omega)) ?_)
    exact hQ
  refine Exec.seq ?_
  refine Exec.seq ?_
  apply Exec.regionL te_ok
  · intro ops' Q hQ
    simp only [go_sem]
    repeat (refine And.intro (by first | assumption | omega | (simp only [Bool.not_eq_true', Bool.or_eq_false_iff, Bool.or_eq_true, Bool.and_eq_true, decide_eq_true_eq, decide_eq_false_iff_not, beq_iff_eq, Bool.not_eq_false']; omega) | (simp; done) | (simp; omega) | (intros; omega) | (simp_all; done) | (simp_all; omega)) ?_)
    exact hQ
  refine Exec.cond (t := false) rfl ?_
  simp only [reduceIte, Bool.false_eq_true]
  refine Exec.skip ?_
  refine Exec.seq ?_
  apply Exec.regionL te_ok
  · intro ops' Q hQ
    simp only [go_sem]
    repeat (refine And.intro (by first | assumption | omega | (simp only [Bool.not_eq_true', Bool.or_eq_false_iff, Bool.or_eq_true, Bool.and_eq_true, decide_eq_true_eq, decide_eq_false_iff_not, beq_iff_eq, Bool.not_eq_false']; omega) | (simp; done) | (simp; omega) | (intros; omega) | (simp_all; done) | (simp_all; omega)) ?_)
    exact hQ
  refine Exec.seq ?_
  refine Exec.seq ?_
  apply Exec.regionL te_ok
  · intro ops' Q hQ
    simp only [go_sem]
    repeat (refine And.intro (by first | assumption | omega | (simp only [Bool.not_eq_true', Bool.or_eq_false_iff, Bool.or_eq_true, Bool.and_eq_true, decide_eq_true_eq, decide_eq_false_iff_not, beq_iff_eq, Bool.not_eq_false']; omega) | (simp; done) | (simp; omega) | (intros; omega) | (simp_all; done) | (simp_all; omega)) ?_)
    exact hQ
  refine Exec.cond_split rfl (fun h1 => ?_) (fun h1 => ?_)
  · skip
    have h2 := of_decide_eq_true h1
    have w := pick4_w h2
    apply Exec.regionL te_ok
    · intro ops' Q hQ
      simp only [go_sem, w]
      repeat (refine And.intro (by first | assumption | omega | (simp only [Bool.not_eq_true', Bool.or_eq_false_iff, Bool.or_eq_true, Bool.and_eq_true, decide_eq_true_eq, decide_eq_false_iff_not, beq_iff_eq, Bool.not_eq_false']; omega) | (simp; done) | (simp; omega) | (intros; omega) | (simp_all; done) | (simp_all; omega)) ?_)
      exact hQ
    refine Exec.seq ?_
    apply Exec.regionL te_ok
    · intro ops' Q hQ
      simp only [go_sem, w]
      repeat (refine And.intro (by first | assumption | omega | (simp only [Bool.not_eq_true', Bool.or_eq_false_iff, Bool.or_eq_true, Bool.and_eq_true, decide_eq_true_eq, decide_eq_false_iff_not, beq_iff_eq, Bool.not_eq_false']; omega) | (simp; done) | (simp; omega) | (intros; omega) | (simp_all; done) | (simp_all; omega)) ?_)
      exact hQ
    refine Exec.rets hR te_ok rfl rfl rfl (LeX.le ?_) (.inr ⟨_, rfl⟩)
    simp only [go_sem, w, pick4, if_pos h2]
  · skip
    have h2 := of_decide_eq_false h1
    refine Exec.skip ?_
    refine Exec.seq ?_
    apply Exec.regionL te_ok
    · intro ops' Q hQ
      simp only [go_sem]
      repeat (refine And.intro (by first | assumption | omega | (simp only [Bool.not_eq_true', Bool.or_eq_false_iff, Bool.or_eq_true, Bool.and_eq_true, decide_eq_true_eq, decide_eq_false_iff_not, beq_iff_eq, Bool.not_eq_false']; omega) | (simp; done) | (simp; omega) | (intros; omega) | (simp_all; done) | (simp_all; omega)) ?_)
      exact hQ
    refine Exec.rets hR te_ok rfl rfl rfl (LeX.le ?_) (.inr ⟨_, rfl⟩)
    simp only [go_sem, pick4, if_neg h2]
theorem behind_ok (s r : List UInt8) (n : Int) (hs : s.length ≤ 140737488355328) (hr : r.length ≤ 140737488355328) : FnOK LaidX Tryd.prog 10 [sv s, sv r, iv n] (bv true) := by
  refine FnOK_of laidX_stable Tryd.func10 Tryd.ntmps10 rfl (by as_aux_lemma => kernel_rfl) (Nat.le_of_ble_eq_true rfl) (fun R hR => ?_)
  obtain ⟨_, b, cs, T, C⟩ := R
  obtain rfl : _ = Tryd.prog := hR.p
  obtain ⟨c0, c1, c2, c3, c4⟩ := cB_ok n
  have pk := pick4_in n
  refine Exec.seq ?_
  apply Exec.regionL te_ok
  · intro ops' Q hQ
    simp only [go_sem]
    repeat (refine And.intro (by first | assumption | omega | (simp only [Bool.not_eq_true', Bool.or_eq_false_iff, Bool.or_eq_true, Bool.and_eq_true, decide_eq_true_eq, decide_eq_false_iff_not, beq_iff_eq, Bool.not_eq_false']; omega) | (simp; done) | (simp; omega) | (intros; omega) | (simp_all; done) | (simp_all; omega)) ?_)
    exact hQ
  refine Exec.seq ?_
  refine Exec.seq ?_
  apply Exec.regionL te_ok
  · intro ops' Q hQ
    simp only [go_sem]
    repeat (refine And.intro (by first | assumption | omega | (simp only [Bool.not_eq_true', Bool.or_eq_false_iff, Bool.or_eq_true, Bool.and_eq_true, decide_eq_true_eq, decide_eq_false_iff_not, beq_iff_eq, Bool.not_eq_false']; omega) | (simp; done) | (simp; omega) | (intros; omega) | (simp_all; done) | (simp_all; omega)) ?_)
    refine kcall hR.inv te_ok rfl rfl rfl rfl rfl rfl (lawake_ok) ?_
    simp only [go_sem]
    repeat (refine And.intro (by first | assumption | omega | (simp only [Bool.not_eq_true', Bool.or_eq_false_iff, Bool.or_eq_true, Bool.and_eq_true, decide_eq_true_eq, decide_eq_false_iff_not, beq_iff_eq, Bool.not_eq_false']; omega) | (simp; done) | (simp; omega) | (intros; omega) | (simp_all; done) | (simp_all; omega)) ?_)
    exact hQ
  refine Exec.cond (t := false) rfl ?_
  simp only [reduceIte, Bool.false_eq_true]
  refine Exec.skip ?_
  refine Exec.seq ?_
  refine Exec.seq ?_
  apply Exec.regionL te_ok
  · intro ops' Q hQ
    simp only [go_sem]
    repeat (refine And.intro (by first | assumption | omega | (simp only [Bool.not_eq_true', Bool.or_eq_false_iff, Bool.or_eq_true, Bool.and_eq_true, decide_eq_true_eq, decide_eq_false_iff_not, beq_iff_eq, Bool.not_eq_false']; omega) | (simp; done) | (simp; omega) | (intros; omega) | (simp_all; done) | (simp_all; omega)) ?_)
    exact hQ
  refine Exec.cond_split rfl (fun h1 => ?_) (fun h1 => ?_)
  · skip
    refine Exec.seq ?_
    apply Exec.regionL te_ok
    · intro ops' Q hQ
      simp only [go_sem]
      repeat (refine And.intro (by first | assumption | omega | (simp only [Bool.not_eq_true', Bool.or_eq_false_iff, Bool.or_eq_true, Bool.and_eq_true, decide_eq_true_eq, decide_eq_false_iff_not, beq_iff_eq, Bool.not_eq_false']; omega) | (simp; done) | (simp; omega) | (intros; omega) | (simp_all; done) | (simp_all; omega)) ?_)
      exact hQ
    refine Exec.rets hR te_ok rfl rfl rfl (LeX.le ?_) (.inr ⟨_, rfl⟩)
    simp only [go_sem]
  · skip
    have h990 : s.length ≤ 990 ∧ r.length ≤ 990 := by simp at h1; omega
    have hrow : lstR [[D.v (Value.string (mkS [32]))], [D.v (Value.string (mkS [10]))], [D.v (Value.string (mkS [9]))], [D.v (Value.string (mkS [32, 32, 10]))]] (pick4 n).toNat = [D.v (Value.string (mkS (cB n)))] := lst_row (fun x => [sv x]) blanksW (i := (pick4 n).toNat) (by show _ < 4; omega)
    have zl := behind_len (n := n) h990.1 h990.2
    have zl2 : s.length + (cB n).length ≤ 993 := by omega
    have w1 : IntKind.i64.wrap ((s.length : Int) + ((cB n).length : Int)) = (s.length : Int) + ((cB n).length : Int) := wrap_id (by omega)
    refine Exec.skip ?_
    refine Exec.seq ?_
    apply Exec.regionL te_ok
    · intro ops' Q hQ
      simp only [go_sem, hrow, w1]
      repeat (refine And.intro (by first | assumption | omega | (simp only [Bool.not_eq_true', Bool.or_eq_false_iff, Bool.or_eq_true, Bool.and_eq_true, decide_eq_true_eq, decide_eq_false_iff_not, beq_iff_eq, Bool.not_eq_false']; omega) | (simp; done) | (simp; omega) | (intros; omega) | (simp_all; done) | (simp_all; omega)) ?_)
      refine kcall hR.inv te_ok rfl rfl rfl rfl rfl rfl (lex_ok _ (by first | omega | (simp; done) | (simp; omega))) ?_
      simp only [go_sem, hrow, w1]
      repeat (refine And.intro (by first | assumption | omega | (simp only [Bool.not_eq_true', Bool.or_eq_false_iff, Bool.or_eq_true, Bool.and_eq_true, decide_eq_true_eq, decide_eq_false_iff_not, beq_iff_eq, Bool.not_eq_false']; omega) | (simp; done) | (simp; omega) | (intros; omega) | (simp_all; done) | (simp_all; omega)) ?_)
      exact hQ
    refine Exec.seq ?_
    apply Exec.regionL te_ok
    · intro ops' Q hQ
      simp only [go_sem, hrow, w1]
      repeat (refine And.intro (by first | assumption | omega | (simp only [Bool.not_eq_true', Bool.or_eq_false_iff, Bool.or_eq_true, Bool.and_eq_true, decide_eq_true_eq, decide_eq_false_iff_not, beq_iff_eq, Bool.not_eq_false']; omega) | (simp; done) | (simp; omega) | (intros; omega) | (simp_all; done) | (simp_all; omega)) ?_)
      refine kcall hR.inv te_ok rfl rfl rfl rfl rfl rfl (lex_ok _ (by first | omega | (simp; done) | (simp; omega))) ?_
      simp only [go_sem, hrow, w1]
      repeat (refine And.intro (by first | assumption | omega | (simp only [Bool.not_eq_true', Bool.or_eq_false_iff, Bool.or_eq_true, Bool.and_eq_true, decide_eq_true_eq, decide_eq_false_iff_not, beq_iff_eq, Bool.not_eq_false']; omega) | (simp; done) | (simp; omega) | (intros; omega) | (simp_all; done) | (simp_all; omega)) ?_)
      exact hQ
    refine Exec.seq ?_
    apply Exec.regionL te_ok
    · intro ops' Q hQ
      simp only [go_sem, hrow, w1]
      repeat (refine And.intro (by first | assumption | omega | (simp only [Bool.not_eq_true', Bool.or_eq_false_iff, Bool.or_eq_true, Bool.and_eq_true, decide_eq_true_eq, decide_eq_false_iff_not, beq_iff_eq, Bool.not_eq_false']; omega) | (simp; done) | (simp; omega) | (intros; omega) | (simp_all; done) | (simp_all; omega)) ?_)
      refine kcall hR.inv te_ok rfl rfl rfl rfl rfl rfl (pick4_ok _) ?_
      simp only [go_sem, hrow, w1]
      repeat (refine And.intro (by first | assumption | omega | (simp only [Bool.not_eq_true', Bool.or_eq_false_iff, Bool.or_eq_true, Bool.and_eq_true, decide_eq_true_eq, decide_eq_false_iff_not, beq_iff_eq, Bool.not_eq_false']; omega) | (simp; done) | (simp; omega) | (intros; omega) | (simp_all; done) | (simp_all; omega)) ?_)
      exact hQ
    refine Exec.seq ?_
    apply Exec.regionL te_ok
    · intro ops' Q hQ
      simp only [go_sem, hrow, w1]
      repeat (refine And.intro (by first | assumption | omega | (simp only [Bool.not_eq_true', Bool.or_eq_false_iff, Bool.or_eq_true, Bool.and_eq_true, decide_eq_true_eq, decide_eq_false_iff_not, beq_iff_eq, Bool.not_eq_false']; omega) | (simp; done) | (simp; omega) | (intros; omega) | (simp_all; done) | (simp_all; omega)) ?_)
      refine kcall hR.inv te_ok rfl rfl rfl rfl rfl rfl (lex_ok _ (by first | omega | (simp; done) | (simp; omega))) ?_
      simp only [go_sem, hrow, w1]
      repeat (refine And.intro (by first | assumption | omega | (simp only [Bool.not_eq_true', Bool.or_eq_false_iff, Bool.or_eq_true, Bool.and_eq_true, decide_eq_true_eq, decide_eq_false_iff_not, beq_iff_eq, Bool.not_eq_false']; omega) | (simp; done) | (simp; omega) | (intros; omega) | (simp_all; done) | (simp_all; omega)) ?_)
      exact hQ
    refine Exec.seq ?_
    refine Exec.seq ?_
    apply Exec.regionL te_ok
    · intro ops' Q hQ
      simp only [go_sem, hrow, w1]
      repeat (refine And.intro (by first | assumption | omega | (simp only [Bool.not_eq_true', Bool.or_eq_false_iff, Bool.or_eq_true, Bool.and_eq_true, decide_eq_true_eq, decide_eq_false_iff_not, beq_iff_eq, Bool.not_eq_false']; omega) | (simp; done) | (simp; omega) | (intros; omega) | (simp_all; done) | (simp_all; omega)) ?_)
      exact hQ
    refine Exec.cond_split rfl (fun h2 => ?_) (fun h2 => ?_)
    · skip
      refine Exec.seq ?_
      apply Exec.regionL te_ok
      · intro ops' Q hQ
        simp only [go_sem, hrow, w1]
        repeat (refine And.intro (by first | assumption | omega | (simp only [Bool.not_eq_true', Bool.or_eq_false_iff, Bool.or_eq_true, Bool.and_eq_true, decide_eq_true_eq, decide_eq_false_iff_not, beq_iff_eq, Bool.not_eq_false']; omega) | (simp; done) | (simp; omega) | (intros; omega) | (simp_all; done) | (simp_all; omega)) ?_)
        exact hQ
      refine Exec.rets hR te_ok rfl rfl rfl (LeX.le ?_) (.inr ⟨_, rfl⟩)
      simp only [go_sem, hrow, w1]
    · skip
      refine Exec.skip ?_
      refine Exec.seq ?_
      apply Exec.regionL te_ok
      · intro ops' Q hQ
        simp only [go_sem, hrow, w1]
        repeat (refine And.intro (by first | assumption | omega | (simp only [Bool.not_eq_true', Bool.or_eq_false_iff, Bool.or_eq_true, Bool.and_eq_true, decide_eq_true_eq, decide_eq_false_iff_not, beq_iff_eq, Bool.not_eq_false']; omega) | (simp; done) | (simp; omega) | (intros; omega) | (simp_all; done) | (simp_all; omega)) ?_)
        exact hQ
      refine Exec.seq ?_
      refine Exec.seq ?_
      apply Exec.regionL te_ok
      · intro ops' Q hQ
        simp only [go_sem, hrow, w1]
        repeat (refine And.intro (by first | assumption | omega | (simp only [Bool.not_eq_true', Bool.or_eq_false_iff, Bool.or_eq_true, Bool.and_eq_true, decide_eq_true_eq, decide_eq_false_iff_not, beq_iff_eq, Bool.not_eq_false']; omega) | (simp; done) | (simp; omega) | (intros; omega) | (simp_all; done) | (simp_all; omega)) ?_)
        exact hQ
      refine Exec.cond_split rfl (fun h3 => ?_) (fun h3 => ?_)
      · skip
        refine Exec.seq ?_
        apply Exec.regionL te_ok
        · intro ops' Q hQ
          simp only [go_sem, hrow, w1]
          repeat (refine And.intro (by first | assumption | omega | (simp only [Bool.not_eq_true', Bool.or_eq_false_iff, Bool.or_eq_true, Bool.and_eq_true, decide_eq_true_eq, decide_eq_false_iff_not, beq_iff_eq, Bool.not_eq_false']; omega) | (simp; done) | (simp; omega) | (intros; omega) | (simp_all; done) | (simp_all; omega)) ?_)
          exact hQ
        refine Exec.rets hR te_ok rfl rfl rfl (LeX.le ?_) (.inr ⟨_, rfl⟩)
        simp only [go_sem]
        obtain ⟨e7, e8, A, e9, e10, e11⟩ := behind_no (n := n) h990.1 h990.2 (by simpa using h2) (by simpa using h3)
        rw [e7, e8, e9, e11, wrap_id (by omega)]; simp
      · skip
        obtain ⟨f1, f2, f3, f4⟩ := behind_yes (n := n) h990.1 h990.2 (by simpa using h2) (by simpa using h3)
        have us := lexT_len s
        have ur := lexT_len r
        have fl : ((lexT (s ++ cB n ++ r)).length : Int) = ((lexT s).length : Int) + ((lexT r).length : Int) - 1 := by rw [f2]; simp; omega
        have w5 : IntKind.i64.wrap (((lexT s).length : Int) + ((lexT r).length : Int)) = ((lexT s).length : Int) + ((lexT r).length : Int) := wrap_id (by omega)
        have w6 : IntKind.i64.wrap (((lexT s).length : Int) + ((lexT r).length : Int) - 1) = ((lexT s).length : Int) + ((lexT r).length : Int) - 1 := wrap_id (by omega)
        have w10 : IntKind.i64.wrap (((lexT s).length : Int) - 1) = ((lexT s).length : Int) - 1 := wrap_id (by omega)
        refine Exec.skip ?_
        refine Exec.seq ?_
        refine Exec.seq ?_
        apply Exec.regionL te_ok
        · intro ops' Q hQ
          simp only [go_sem, hrow, w1, f1, fl, w5, w6, w10]
          repeat (refine And.intro (by first | assumption | omega | (simp only [Bool.not_eq_true', Bool.or_eq_false_iff, Bool.or_eq_true, Bool.and_eq_true, decide_eq_true_eq, decide_eq_false_iff_not, beq_iff_eq, Bool.not_eq_false']; omega) | (simp; done) | (simp; omega) | (intros; omega) | (simp_all; done) | (simp_all; omega)) ?_)
          exact hQ
        refine Exec.cond_split rfl (fun h4 => ?_) (fun h4 => ?_)
        · exfalso
          simp at h4
        refine Exec.skip ?_
        refine Exec.seq ?_
        refine Exec.seq ?_
        apply Exec.regionL te_ok
        · intro ops' Q hQ
          simp only [go_sem, hrow, w1, f1, fl, w5, w6, w10]
          repeat (refine And.intro (by first | assumption | omega | (simp only [Bool.not_eq_true', Bool.or_eq_false_iff, Bool.or_eq_true, Bool.and_eq_true, decide_eq_true_eq, decide_eq_false_iff_not, beq_iff_eq, Bool.not_eq_false']; omega) | (simp; done) | (simp; omega) | (intros; omega) | (simp_all; done) | (simp_all; omega)) ?_)
          exact hQ
        refine Exec.block ?_
        apply Exec.loopU [7, 10, 14, 17] (X := Nat) (fun i => [(18, .d (iv i))]) (fun i => []) (fun i => []) (fun i => (lexT (s ++ cB n ++ r)).length - i) (fun i => i ≤ (lexT (s ++ cB n ++ r)).length) 0
        case h0 =>
          first | assumption | omega | (simp only [Bool.not_eq_true', Bool.or_eq_false_iff, Bool.or_eq_true, Bool.and_eq_true, decide_eq_true_eq, decide_eq_false_iff_not, beq_iff_eq, Bool.not_eq_false']; omega) | (simp; done) | (simp; omega) | (intros; omega) | (simp_all; done) | (simp_all; omega)
        case hw =>
          simp only [go_sem, hrow, w1, f1, fl, w5, w6, w10]
        case body =>
          rintro i hx ih0
          try simp only at hx
          apply Exec.norm
          · simp only [go_sem, hrow, w1, f1, fl, w5, w6, w10]
            rfl
          refine Exec.seq ?_
          refine Exec.seq ?_
          apply Exec.regionL te_ok
          · intro ops' Q hQ
            simp only [go_sem, hrow, w1, f1, fl, w5, w6, w10]
            repeat (refine And.intro (by first | assumption | omega | (simp only [Bool.not_eq_true', Bool.or_eq_false_iff, Bool.or_eq_true, Bool.and_eq_true, decide_eq_true_eq, decide_eq_false_iff_not, beq_iff_eq, Bool.not_eq_false']; omega) | (simp; done) | (simp; omega) | (intros; omega) | (simp_all; done) | (simp_all; omega)) ?_)
            exact hQ
          refine Exec.cond_split rfl (fun h5 => ?_) (fun h5 => ?_)
          · skip
            have hi := of_decide_eq_true h5
            have w4 : IntKind.i64.wrap ((i : Int) + 1) = ((i + 1 : Nat) : Int) := by rw [wrap_id (by omega)]; omega
            refine Exec.skip ?_
            refine Exec.seq ?_
            refine Exec.block ?_
            refine Exec.seq ?_
            apply Exec.regionL te_ok
            · intro ops' Q hQ
              simp only [go_sem, hrow, w1, f1, fl, w5, w6, w10, w4]
              repeat (refine And.intro (by first | assumption | omega | (simp only [Bool.not_eq_true', Bool.or_eq_false_iff, Bool.or_eq_true, Bool.and_eq_true, decide_eq_true_eq, decide_eq_false_iff_not, beq_iff_eq, Bool.not_eq_false']; omega) | (simp; done) | (simp; omega) | (intros; omega) | (simp_all; done) | (simp_all; omega)) ?_)
              exact hQ
            refine Exec.seq ?_
            refine Exec.seq ?_
            apply Exec.regionL te_ok
            · intro ops' Q hQ
              simp only [go_sem, hrow, w1, f1, fl, w5, w6, w10, w4]
              repeat (refine And.intro (by first | assumption | omega | (simp only [Bool.not_eq_true', Bool.or_eq_false_iff, Bool.or_eq_true, Bool.and_eq_true, decide_eq_true_eq, decide_eq_false_iff_not, beq_iff_eq, Bool.not_eq_false']; omega) | (simp; done) | (simp; omega) | (intros; omega) | (simp_all; done) | (simp_all; omega)) ?_)
              exact hQ
            refine Exec.cond_split rfl (fun h6 => ?_) (fun h6 => ?_)
            · skip
              have hi2 := of_decide_eq_true h6
              have ht : nth (lexT (s ++ cB n ++ r)) i = nth (lexT s) i := by rw [f2]; exact behind_lt f3 (by omega)
              refine Exec.seq ?_
              refine Exec.seq ?_
              apply Exec.draw (st := _) 7 6 [] [] te_ok (by as_aux_lemma => kernel_rfl) (by as_aux_lemma => kernel_rfl) (by as_aux_lemma => kernel_rfl)
              · intro ops' Q hQ
                simp only [go_sem, hrow, w1, f1, fl, w5, w6, w10, w4, ht]
                repeat (refine And.intro (by first | assumption | omega | (simp only [Bool.not_eq_true', Bool.or_eq_false_iff, Bool.or_eq_true, Bool.and_eq_true, decide_eq_true_eq, decide_eq_false_iff_not, beq_iff_eq, Bool.not_eq_false']; omega) | (simp; done) | (simp; omega) | (intros; omega) | (simp_all; done) | (simp_all; omega)) ?_)
                exact hQ
              refine Exec.cond_split rfl (fun h7 => ?_) (fun h7 => ?_)
              · exfalso
                simp at h7
              refine Exec.skip ?_
              refine Exec.exit rfl ?_
              apply Exec.regionL te_ok
              · intro ops' Q hQ
                simp only [go_sem, hrow, w1, f1, fl, w5, w6, w10, w4, ht]
                repeat (refine And.intro (by first | assumption | omega | (simp only [Bool.not_eq_true', Bool.or_eq_false_iff, Bool.or_eq_true, Bool.and_eq_true, decide_eq_true_eq, decide_eq_false_iff_not, beq_iff_eq, Bool.not_eq_false']; omega) | (simp; done) | (simp; omega) | (intros; omega) | (simp_all; done) | (simp_all; omega)) ?_)
                exact hQ
              refine Exec.back (ih0 (i + 1) ?_ ?_) ?_ ?_ ?_ ?_ ?_ ?_ ?_
              · try simp only
                omega
              · try simp only
                omega
              · rfl
              · rfl
              · (simp only [go_sem, hrow, w1, f1, fl, w5, w6, w10, w4, ht])
              · (simp only [go_sem, hrow, w1, f1, fl, w5, w6, w10, w4, ht])
              · (simp only [go_sem, hrow, w1, f1, fl, w5, w6, w10, w4, ht])
              · simp only [go_sem, hrow, w1, f1, fl, w5, w6, w10, w4, ht]
              · rfl
            · skip
              have hi2 := of_decide_eq_false h6
              have hz : i < (lexT (s ++ cB n ++ r)).length := by omega
              obtain ⟨hg, hg2⟩ := behind_ge (T := lexT s) (U := lexT r) (p := s.length + (cB n).length) (i := i) f3 (by omega) (by rw [← f2]; exact hz)
              have ht : nth (lexT (s ++ cB n ++ r)) i = shiftT (s.length + (cB n).length) (nth (lexT r) (i + 1 - (lexT s).length)) := by rw [f2]; exact hg
              have hm := f4 (nth (lexT r) (i + 1 - (lexT s).length)) (nth_mem hg2)
              have w7 : IntKind.i64.wrap ((i : Int) - ((lexT s).length : Int)) = (i : Int) - ((lexT s).length : Int) := wrap_id (by omega)
              have w8 : IntKind.i64.wrap ((i : Int) - ((lexT s).length : Int) + 1) = ((i + 1 - (lexT s).length : Nat) : Int) := by rw [wrap_id (by omega)]; omega
              have w9 : IntKind.i64.wrap ((nth (lexT r) (i + 1 - (lexT s).length)).a + ((s.length + (cB n).length : Nat) : Int) - ((s.length : Int) + ((cB n).length : Int))) = (nth (lexT r) (i + 1 - (lexT s).length)).a := by rw [wrap_id (by omega)]; omega
              refine Exec.skip ?_
              refine Exec.seq ?_
              apply Exec.regionL te_ok
              · intro ops' Q hQ
                simp only [go_sem, hrow, w1, f1, fl, w5, w6, w10, w4, ht, shiftT_k, shiftT_t, shiftT_a, shiftT_v, w7, w8, w9]
                repeat (refine And.intro (by first | assumption | omega | (simp only [Bool.not_eq_true', Bool.or_eq_false_iff, Bool.or_eq_true, Bool.and_eq_true, decide_eq_true_eq, decide_eq_false_iff_not, beq_iff_eq, Bool.not_eq_false']; omega) | (simp; done) | (simp; omega) | (intros; omega) | (simp_all; done) | (simp_all; omega)) ?_)
                exact hQ
              refine Exec.seq ?_
              apply Exec.draw (st := _) 11 10 [] [] te_ok (by as_aux_lemma => kernel_rfl) (by as_aux_lemma => kernel_rfl) (by as_aux_lemma => kernel_rfl)
              · intro ops' Q hQ
                simp only [go_sem, hrow, w1, f1, fl, w5, w6, w10, w4, ht, shiftT_k, shiftT_t, shiftT_a, shiftT_v, w7, w8, w9]
                repeat (refine And.intro (by first | assumption | omega | (simp only [Bool.not_eq_true', Bool.or_eq_false_iff, Bool.or_eq_true, Bool.and_eq_true, decide_eq_true_eq, decide_eq_false_iff_not, beq_iff_eq, Bool.not_eq_false']; omega) | (simp; done) | (simp; omega) | (intros; omega) | (simp_all; done) | (simp_all; omega)) ?_)
                exact hQ
              refine Exec.cond_split rfl (fun h8 => ?_) (fun h8 => ?_)
              · exfalso
                simp at h8
              refine Exec.skip ?_
              refine Exec.inBlock ?_
              apply Exec.regionL te_ok
              · intro ops' Q hQ
                simp only [go_sem, hrow, w1, f1, fl, w5, w6, w10, w4, ht, shiftT_k, shiftT_t, shiftT_a, shiftT_v, w7, w8, w9]
                repeat (refine And.intro (by first | assumption | omega | (simp only [Bool.not_eq_true', Bool.or_eq_false_iff, Bool.or_eq_true, Bool.and_eq_true, decide_eq_true_eq, decide_eq_false_iff_not, beq_iff_eq, Bool.not_eq_false']; omega) | (simp; done) | (simp; omega) | (intros; omega) | (simp_all; done) | (simp_all; omega)) ?_)
                exact hQ
              refine Exec.back (ih0 (i + 1) ?_ ?_) ?_ ?_ ?_ ?_ ?_ ?_ ?_
              · try simp only
                omega
              · try simp only
                omega
              · rfl
              · rfl
              · (simp only [go_sem, hrow, w1, f1, fl, w5, w6, w10, w4, ht, shiftT_k, shiftT_t, shiftT_a, shiftT_v, w7, w8, w9])
              · (simp only [go_sem, hrow, w1, f1, fl, w5, w6, w10, w4, ht, shiftT_k, shiftT_t, shiftT_a, shiftT_v, w7, w8, w9])
              · (simp only [go_sem, hrow, w1, f1, fl, w5, w6, w10, w4, ht, shiftT_k, shiftT_t, shiftT_a, shiftT_v, w7, w8, w9])
              · simp only [go_sem, hrow, w1, f1, fl, w5, w6, w10, w4, ht, shiftT_k, shiftT_t, shiftT_a, shiftT_v, w7, w8, w9]
              · rfl
          · skip
            refine Exec.exit rfl ?_
            refine Exec.seq ?_
            apply Exec.regionL te_ok
            · intro ops' Q hQ
              simp only [go_sem, hrow, w1, f1, fl, w5, w6, w10]
              repeat (refine And.intro (by first | assumption | omega | (simp only [Bool.not_eq_true', Bool.or_eq_false_iff, Bool.or_eq_true, Bool.and_eq_true, decide_eq_true_eq, decide_eq_false_iff_not, beq_iff_eq, Bool.not_eq_false']; omega) | (simp; done) | (simp; omega) | (intros; omega) | (simp_all; done) | (simp_all; omega)) ?_)
              exact hQ
            refine Exec.rets hR te_ok rfl rfl rfl (LeX.le ?_) (.inr ⟨_, rfl⟩)
            simp only [go_sem, hrow, w1, f1, fl, w5, w6, w10]
end Go.Proofs.YtmnponhhmkdcdaaDoor
