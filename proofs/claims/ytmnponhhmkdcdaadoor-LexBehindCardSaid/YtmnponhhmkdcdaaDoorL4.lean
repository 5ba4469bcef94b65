/- Contracts of functions of the seat, walked. -/
import Derived.Test.YtmnponhhmkdcdaaDoorL3
namespace Go.Proofs.YtmnponhhmkdcdaaDoor
open Go.Kin
set_option linter.unusedSimpArgs false
set_option linter.unusedVariables false
set_option maxRecDepth 100000
set_option maxHeartbeats 0
theorem tokR_no {s : List UInt8} {a : Nat} (h : firstB (s.drop (nextA s a)) = false) : tokR s (nextA s a) = ⟨0, [], 0, v0⟩ := by unfold tokR; rw [if_neg (by rw [h]; decide)]
theorem tokR_yes {s : List UInt8} {a : Nat} (h : firstB (s.drop (nextA s a)) = true) : tokR s (nextA s a) = tokA s a := by unfold tokR tokA; rw [if_pos h]
theorem first_k {s : List UInt8} (h : firstB s = true) : (firstT s).k ≠ 0 := by
  unfold firstB at h; unfold firstT
  by_cases h0 : s = []
  · rw [if_pos h0]; simp
  rw [if_neg h0] at h ⊢
  by_cases h1 : letterI (s.getD 0 0).toNat = true
  · rw [if_pos h1]; simp
  rw [if_neg h1] at h ⊢
  by_cases h2 : digitI (s.getD 0 0).toNat = true
  · rw [if_pos h2]; simp [valuedT]
  rw [if_neg h2] at h ⊢
  by_cases h3 : (((s.getD 0 0).toNat : Int) == 45 && decide (0 < (spanN digitI (s.drop 1) : Int))) = true
  · rw [if_pos h3]; simp [valuedT]
  rw [if_neg h3] at h ⊢
  by_cases h4 : (((s.getD 0 0).toNat : Int) == 34) = true
  · rw [if_pos h4] at h ⊢
    by_cases h5 : Lib.indexByte (s.drop 1) 34 < 0
    · rw [if_pos h5] at h; cases h
    · rw [if_neg h5]; simp [valuedT]
  · rw [if_neg h4]; simp
theorem tok_zero {s : List UInt8} {a : Nat} {b : Bool} (h : ((tokR s (nextA s a)).k == 0) = b) : firstB (s.drop (nextA s a)) = !b := by
  cases hb : firstB (s.drop (nextA s a)) with
  | false => rw [tokR_no hb] at h; subst h; rfl
  | true =>
    rw [tokR_yes hb] at h
    have := first_k hb
    have e : (tokA s a).k = (firstT (s.drop (nextA s a))).k := rfl
    rw [e, beq_eq_false_iff_ne.2 this] at h; subst h; rfl
def blankAt (s : List UInt8) (a b : Nat) : Prop := a ≤ b ∧ b ≤ s.length ∧ nextA s a = nextA s b
theorem next_end {s : List UInt8} {b : Nat} (h : (decide ((b : Int) < (s.length : Int)) && blankI ((s.getD b 0).toNat : Int)) = false) : nextA s b = b := by
  unfold nextA; rw [run_end (p := blankI) h]; rfl
theorem next_step {s : List UInt8} {b : Nat} (h : b < s.length) (hb : blankI ((s.getD b 0).toNat : Int) = true) : nextA s b = nextA s (b + 1) := by
  unfold nextA; rw [spanN_drop h hb, if_pos rfl]; omega

theorem rlex_ok (s : List UInt8) (hs : s.length ≤ 140737488351232) : FnOK LaidX Tryd.prog 28 [sv s] (.tup [.sl 6 (lexT s).length (lexT s).length fun i => tC (nth (lexT s) i), iv (lexA s), iv (lexE s)]) := by
  refine FnOK_of laidX_stable Tryd.func28 Tryd.ntmps28 rfl (by as_aux_lemma => kernel_rfl) (Nat.le_of_ble_eq_true rfl) (fun R hR => ?_)
  obtain ⟨_, b, cs, T, C⟩ := R
  obtain rfl : _ = Tryd.prog := hR.p
  refine Exec.seq ?_
  apply Exec.regionL te_ok
  · intro ops' Q hQ
    simp only [go_sem]
    repeat (refine And.intro (by first | assumption | omega | (simp only [Bool.not_eq_true', Bool.or_eq_false_iff, Bool.or_eq_true, Bool.and_eq_true, decide_eq_true_eq, decide_eq_false_iff_not, beq_iff_eq, Bool.not_eq_false']; omega) | (simp; done) | (simp; omega) | (intros; omega) | (simp_all; done) | (simp_all; omega)) ?_)
    exact hQ
  refine Exec.seq ?_
  refine Exec.seq ?_
  apply Exec.regionL te_ok
  · intro ops' Q hQ
    simp only [go_sem]
    repeat (refine And.intro (by first | assumption | omega | (simp only [Bool.not_eq_true', Bool.or_eq_false_iff, Bool.or_eq_true, Bool.and_eq_true, decide_eq_true_eq, decide_eq_false_iff_not, beq_iff_eq, Bool.not_eq_false']; omega) | (simp; done) | (simp; omega) | (intros; omega) | (simp_all; done) | (simp_all; omega)) ?_)
    exact hQ
  refine Exec.cond_split rfl (fun h0 => ?_) (fun h0 => ?_)
  · skip
    refine Exec.seq ?_
    apply Exec.regionL te_ok
    · intro ops' Q hQ
      simp only [go_sem]
      repeat (refine And.intro (by first | assumption | omega | (simp only [Bool.not_eq_true', Bool.or_eq_false_iff, Bool.or_eq_true, Bool.and_eq_true, decide_eq_true_eq, decide_eq_false_iff_not, beq_iff_eq, Bool.not_eq_false']; omega) | (simp; done) | (simp; omega) | (intros; omega) | (simp_all; done) | (simp_all; omega)) ?_)
      exact hQ
    refine Exec.rets hR te_ok rfl rfl rfl (LeX.le ?_) (.inr ⟨_, rfl⟩)
    simp only [go_sem]
    obtain ⟨e1, e2, e3⟩ := lex_long h0
    rw [e1, e2, e3]; simp
  · skip
    refine Exec.skip ?_
    refine Exec.seq ?_
    apply Exec.regionL te_ok
    · intro ops' Q hQ
      simp only [go_sem]
      repeat (refine And.intro (by first | assumption | omega | (simp only [Bool.not_eq_true', Bool.or_eq_false_iff, Bool.or_eq_true, Bool.and_eq_true, decide_eq_true_eq, decide_eq_false_iff_not, beq_iff_eq, Bool.not_eq_false']; omega) | (simp; done) | (simp; omega) | (intros; omega) | (simp_all; done) | (simp_all; omega)) ?_)
      exact hQ
    refine Exec.seq ?_
    apply Exec.regionL te_ok
    · intro ops' Q hQ
      simp only [go_sem]
      repeat (refine And.intro (by first | assumption | omega | (simp only [Bool.not_eq_true', Bool.or_eq_false_iff, Bool.or_eq_true, Bool.and_eq_true, decide_eq_true_eq, decide_eq_false_iff_not, beq_iff_eq, Bool.not_eq_false']; omega) | (simp; done) | (simp; omega) | (intros; omega) | (simp_all; done) | (simp_all; omega)) ?_)
      exact hQ
    refine Exec.block ?_
    refine Exec.ownNil 5 500 81 6 rfl rfl ?_
    apply Exec.norm
    · simp only [go_sem]
      rfl
    apply Exec.loopU [0] (X := Nat × List Tk) (fun ⟨a, l⟩ => [(6, .d (iv a)), (5, .own 500)]) (fun ⟨a, l⟩ => []) (fun ⟨a, l⟩ => [(500, ⟨81, 6, l.length, l.length, fun i => tC (nth l i)⟩)]) (fun ⟨a, l⟩ => s.length - a) (fun ⟨a, l⟩ => a ≤ s.length ∧ l.length ≤ a ∧ lexAll s = (l ++ (lexAt s a).1, (lexAt s a).2)) (0, [])
    case h0 =>
      exact ⟨by omega, by simp, rfl⟩
    case hw =>
      simp only [go_sem]; exact fun i hi => absurd hi (Nat.not_lt_zero i)
    case body =>
      rintro ⟨a, l⟩ hx ih0
      try simp only at hx
      have h2000 : s.length ≤ 2000 := by have := of_decide_eq_false h0; omega
      have hn := nextA_le hx.1
      apply Exec.norm
      · simp only [go_sem]
        rfl
      refine Exec.block ?_
      refine Exec.seq ?_
      refine Exec.block ?_
      apply Exec.loopU [0, 5] (X := Nat) (fun c => [(6, .d (iv c))]) (fun c => []) (fun c => []) (fun c => s.length - c) (fun c => blankAt s a c) a
      case h0 =>
        exact ⟨by omega, hx.1, rfl⟩
      case hw =>
        simp only [go_sem]
      case body =>
        rintro c hc ih1
        try simp only at hc
        apply Exec.norm
        · simp only [go_sem]
          rfl
        refine Exec.seq ?_
        refine Exec.seq ?_
        apply Exec.regionL te_ok
        · intro ops' Q hQ
          simp only [go_sem]
          repeat (refine And.intro (by first | assumption | omega | (simp only [Bool.not_eq_true', Bool.or_eq_false_iff, Bool.or_eq_true, Bool.and_eq_true, decide_eq_true_eq, decide_eq_false_iff_not, beq_iff_eq, Bool.not_eq_false']; omega) | (simp; done) | (simp; omega) | (intros; omega) | (simp_all; done) | (simp_all; omega)) ?_)
          exact hQ
        refine Exec.cond_split rfl (fun h1 => ?_) (fun h1 => ?_)
        · skip
          have hi : c < s.length ∧ blankI ((s.getD c 0).toNat : Int) = true := by rw [Bool.and_eq_true] at h1; exact ⟨by have := of_decide_eq_true h1.1; omega, h1.2⟩
          have hwc : IntKind.i64.wrap ((c : Int) + 1) = ((c + 1 : Nat) : Int) := by rw [wrap_id (by have := hi.1; omega)]; omega
          refine Exec.skip ?_
          refine Exec.block ?_
          apply Exec.regionL te_ok
          · intro ops' Q hQ
            simp only [go_sem, hwc]
            repeat (refine And.intro (by first | assumption | omega | (simp only [Bool.not_eq_true', Bool.or_eq_false_iff, Bool.or_eq_true, Bool.and_eq_true, decide_eq_true_eq, decide_eq_false_iff_not, beq_iff_eq, Bool.not_eq_false']; omega) | (simp; done) | (simp; omega) | (intros; omega) | (simp_all; done) | (simp_all; omega)) ?_)
            exact hQ
          refine Exec.inBlock ?_
          refine Exec.back (ih1 (c + 1) ?_ ?_) ?_ ?_ ?_ ?_ ?_ ?_ ?_
          · try simp only
            have := hi.1
            exact ⟨by have := hc.1; omega, by omega, by rw [hc.2.2]; exact next_step hi.1 hi.2⟩
          · try simp only
            have := hi.1
            omega
          · rfl
          · rfl
          · (simp only [go_sem, hwc])
          · (simp only [go_sem, hwc])
          · (simp only [go_sem, hwc])
          · simp only [go_sem, hwc]
          · rfl
        · skip
          have e : nextA s a = c := by rw [hc.2.2]; exact next_end h1
          subst e
          refine Exec.exit rfl ?_
          refine Exec.seq ?_
          apply Exec.regionL te_ok
          · intro ops' Q hQ
            simp only [go_sem]
            repeat (refine And.intro (by first | assumption | omega | (simp only [Bool.not_eq_true', Bool.or_eq_false_iff, Bool.or_eq_true, Bool.and_eq_true, decide_eq_true_eq, decide_eq_false_iff_not, beq_iff_eq, Bool.not_eq_false']; omega) | (simp; done) | (simp; omega) | (intros; omega) | (simp_all; done) | (simp_all; omega)) ?_)
            refine kcall hR.inv te_ok rfl rfl rfl rfl rfl rfl (token_ok _ (by omega) _ (by omega)) ?_
            simp only [go_sem]
            repeat (refine And.intro (by first | assumption | omega | (simp only [Bool.not_eq_true', Bool.or_eq_false_iff, Bool.or_eq_true, Bool.and_eq_true, decide_eq_true_eq, decide_eq_false_iff_not, beq_iff_eq, Bool.not_eq_false']; omega) | (simp; done) | (simp; omega) | (intros; omega) | (simp_all; done) | (simp_all; omega)) ?_)
            exact hQ
          refine Exec.seq ?_
          refine Exec.seq ?_
          apply Exec.regionL te_ok
          · intro ops' Q hQ
            simp only [go_sem]
            repeat (refine And.intro (by first | assumption | omega | (simp only [Bool.not_eq_true', Bool.or_eq_false_iff, Bool.or_eq_true, Bool.and_eq_true, decide_eq_true_eq, decide_eq_false_iff_not, beq_iff_eq, Bool.not_eq_false']; omega) | (simp; done) | (simp; omega) | (intros; omega) | (simp_all; done) | (simp_all; omega)) ?_)
            exact hQ
          refine Exec.cond_split rfl (fun h2 => ?_) (fun h2 => ?_)
          · skip
            refine Exec.seq ?_
            apply Exec.regionL te_ok
            · intro ops' Q hQ
              simp only [go_sem]
              repeat (refine And.intro (by first | assumption | omega | (simp only [Bool.not_eq_true', Bool.or_eq_false_iff, Bool.or_eq_true, Bool.and_eq_true, decide_eq_true_eq, decide_eq_false_iff_not, beq_iff_eq, Bool.not_eq_false']; omega) | (simp; done) | (simp; omega) | (intros; omega) | (simp_all; done) | (simp_all; omega)) ?_)
              exact hQ
            refine Exec.rets hR te_ok rfl rfl rfl (LeX.le ?_) (.inr ⟨_, rfl⟩)
            simp only [go_sem]
            have hb : firstB (s.drop (nextA s a)) = false := tok_zero h2
            obtain ⟨e1, e2, e3⟩ := lex_none (a := nextA s a) h0 (by rw [hx.2.2, lexAt_no hx.1 hb])
            rw [e1, e2, e3]; simp
          · skip
            have hb : firstB (s.drop (nextA s a)) = true := tok_zero h2
            have tk := tokR_yes hb
            obtain ⟨t1, t2⟩ := thenA_le hx.1 hb
            have w2 : IntKind.i64.wrap ((nextA s a : Int) + ((tokA s a).t.length : Int)) = ((thenA s a : Nat) : Int) := add_wrap (by show thenA s a ≤ _; omega)
            rw [tk] at h2
            refine Exec.skip ?_
            refine Exec.seq ?_
            apply Exec.regionL te_ok
            · intro ops' Q hQ
              simp only [go_sem, tk, w2]
              repeat (refine And.intro (by first | assumption | omega | (simp only [Bool.not_eq_true', Bool.or_eq_false_iff, Bool.or_eq_true, Bool.and_eq_true, decide_eq_true_eq, decide_eq_false_iff_not, beq_iff_eq, Bool.not_eq_false']; omega) | (simp; done) | (simp; omega) | (intros; omega) | (simp_all; done) | (simp_all; omega)) ?_)
              exact hQ
            refine Exec.seq ?_
            refine Exec.seq ?_
            apply Exec.regionL te_ok
            · intro ops' Q hQ
              simp only [go_sem, tk, w2]
              repeat (refine And.intro (by first | assumption | omega | (simp only [Bool.not_eq_true', Bool.or_eq_false_iff, Bool.or_eq_true, Bool.and_eq_true, decide_eq_true_eq, decide_eq_false_iff_not, beq_iff_eq, Bool.not_eq_false']; omega) | (simp; done) | (simp; omega) | (intros; omega) | (simp_all; done) | (simp_all; omega)) ?_)
              exact hQ
            refine Exec.cond_split rfl (fun h3 => ?_) (fun h3 => ?_)
            · skip
              refine Exec.seq ?_
              apply Exec.regionL te_ok
              · intro ops' Q hQ
                simp only [go_sem, tk, w2]
                repeat (refine And.intro (by first | assumption | omega | (simp only [Bool.not_eq_true', Bool.or_eq_false_iff, Bool.or_eq_true, Bool.and_eq_true, decide_eq_true_eq, decide_eq_false_iff_not, beq_iff_eq, Bool.not_eq_false']; omega) | (simp; done) | (simp; omega) | (intros; omega) | (simp_all; done) | (simp_all; omega)) ?_)
                exact hQ
              refine Exec.rets hR te_ok rfl rfl rfl (LeX.le ?_) (.inr ⟨_, rfl⟩)
              simp only [go_sem]
              have hk : (firstT (s.drop (nextA s a))).k = 5 := by show (tokA s a).k = 5; simpa using h3
              obtain ⟨e1, e2, e3⟩ := lex_some (l := l ++ [tokA s a]) h0 (by rw [hx.2.2, lexAt_end hx.1 hb hk])
              rw [e1, e2, e3]
              exact ⟨by simp, .inl (by simp), .inl (tok_snoc l (tokA s a)), rfl, rfl⟩
            · skip
              refine Exec.skip ?_
              apply Exec.regionL te_ok
              · intro ops' Q hQ
                simp only [go_sem, tk, w2]
                repeat (refine And.intro (by first | assumption | omega | (simp only [Bool.not_eq_true', Bool.or_eq_false_iff, Bool.or_eq_true, Bool.and_eq_true, decide_eq_true_eq, decide_eq_false_iff_not, beq_iff_eq, Bool.not_eq_false']; omega) | (simp; done) | (simp; omega) | (intros; omega) | (simp_all; done) | (simp_all; omega)) ?_)
                exact hQ
              refine Exec.inBlock ?_
              refine Exec.back (ih0 (thenA s a, l ++ [tokA s a]) ?_ ?_) ?_ ?_ ?_ ?_ ?_ ?_ ?_
              · try simp only
                have hk : ¬ (firstT (s.drop (nextA s a))).k = 5 := by show ¬ (tokA s a).k = 5; simpa using h3
                have := t2.resolve_left hk
                exact ⟨t1, by simp; omega, by rw [hx.2.2, lexAt_on hx.1 hb hk]; simp⟩
              · try simp only
                have hk : ¬ (firstT (s.drop (nextA s a))).k = 5 := by show ¬ (tokA s a).k = 5; simpa using h3
                have := t2.resolve_left hk
                omega
              · rfl
              · rfl
              · (simp only [go_sem])
              · (simp only [go_sem])
              · simp only [go_sem]
                exact ⟨by simp, .inl (by simp), tok_snoc l (tokA s a)⟩
              · simp only [go_sem, tk, w2]
              · rfl
theorem tk_eq (a b : Tk) : ((a.k != b.k || !(a.t == b.t) || a.a != b.a) || !(a.v.k == b.v.k && (a.v.n == b.v.n && a.v.s == b.v.s))) = !decide (a = b) := by
  rw [vl_eq]
  cases a; cases b
  rw [Bool.eq_iff_iff]; simp [or_assoc]
theorem same_step2 {α : Type} [Inhabited α] {x y : List α} {i : Nat} (h : i < x.length) (h' : i < y.length) (hp : x.take i = y.take i) : (x.take (i + 1) = y.take (i + 1) ↔ nth x i = nth y i) := by
  rw [take_nth h, take_nth h', hp]; simp
theorem same_fin {α : Type} [DecidableEq α] {x y : List α} {i : Nat} (h1 : i ≤ x.length) (h2 : i ≤ y.length) (hp : x.take i = y.take i) (h : (decide ((i : Int) < (x.length : Int)) && decide ((i : Int) < (y.length : Int))) = false) : ((x.length : Int) == (y.length : Int)) = decide (x = y) := by
  by_cases hl : x.length = y.length
  · have e : i = x.length := by
      by_cases hi : i < x.length
      · rw [decide_eq_true (by omega), decide_eq_true (by omega)] at h; cases h
      · omega
    rw [List.take_of_length_le (by omega), List.take_of_length_le (by omega)] at hp
    rw [hp]; simp
  · have : x ≠ y := fun e => hl (by rw [e])
    rw [decide_eq_false this, beq_eq_false_iff_ne]; omega
abbrev tokD (l : List Tk) : D := .sl 6 l.length l.length fun i => tC (nth l i)
attribute [go_sem] tokD

theorem sameT_ok (x y : List Tk) (hx0 : x.length ≤ 140737488355328) (hy0 : y.length ≤ 140737488355328) : FnOK LaidX Tryd.prog 29 [tokD x, tokD y] (bv (decide (x = y))) := by
  refine FnOK_of laidX_stable Tryd.func29 Tryd.ntmps29 rfl (by as_aux_lemma => kernel_rfl) (Nat.le_of_ble_eq_true rfl) (fun R hR => ?_)
  obtain ⟨_, b, cs, T, C⟩ := R
  obtain rfl : _ = Tryd.prog := hR.p
  refine Exec.seq ?_
  apply Exec.regionL te_ok
  · intro ops' Q hQ
    simp only [go_sem]
    repeat (refine And.intro (by first | assumption | omega | (simp only [Bool.not_eq_true', Bool.or_eq_false_iff, Bool.or_eq_true, Bool.and_eq_true, decide_eq_true_eq, decide_eq_false_iff_not, beq_iff_eq, Bool.not_eq_false']; omega) | (simp; done) | (simp; omega) | (intros; omega) | (simp_all; done) | (simp_all; omega)) ?_)
    exact hQ
  refine Exec.seq ?_
  refine Exec.seq ?_
  apply Exec.regionL te_ok
  · intro ops' Q hQ
    simp only [go_sem]
    repeat (refine And.intro (by first | assumption | omega | (simp only [Bool.not_eq_true', Bool.or_eq_false_iff, Bool.or_eq_true, Bool.and_eq_true, decide_eq_true_eq, decide_eq_false_iff_not, beq_iff_eq, Bool.not_eq_false']; omega) | (simp; done) | (simp; omega) | (intros; omega) | (simp_all; done) | (simp_all; omega)) ?_)
    exact hQ
  refine Exec.block ?_
  apply Exec.loopU [0, 1] (X := Nat) (fun i => [(5, .d (iv i))]) (fun i => []) (fun i => []) (fun i => x.length - i) (fun i => i ≤ x.length ∧ i ≤ y.length ∧ x.take i = y.take i) 0
  case h0 =>
    simp
  case hw =>
    simp only [go_sem]
  case body =>
    rintro i hx ih0
    try simp only at hx
    apply Exec.norm
    · simp only [go_sem]
      rfl
    refine Exec.seq ?_
    refine Exec.seq ?_
    apply Exec.regionL te_ok
    · intro ops' Q hQ
      simp only [go_sem]
      repeat (refine And.intro (by first | assumption | omega | (simp only [Bool.not_eq_true', Bool.or_eq_false_iff, Bool.or_eq_true, Bool.and_eq_true, decide_eq_true_eq, decide_eq_false_iff_not, beq_iff_eq, Bool.not_eq_false']; omega) | (simp; done) | (simp; omega) | (intros; omega) | (simp_all; done) | (simp_all; omega)) ?_)
      exact hQ
    refine Exec.cond_split rfl (fun h0 => ?_) (fun h0 => ?_)
    · skip
      have hi : i < x.length ∧ i < y.length := by simp at h0; omega
      have hi1 := hi.1
      have hi2 := hi.2
      have hwi : IntKind.i64.wrap ((i : Int) + 1) = ((i + 1 : Nat) : Int) := by rw [wrap_id (by constructor <;> omega)]; simp
      refine Exec.skip ?_
      refine Exec.seq ?_
      refine Exec.block ?_
      refine Exec.seq ?_
      apply Exec.draw (st := _) 51 50 [] [] te_ok (by as_aux_lemma => kernel_rfl) (by as_aux_lemma => kernel_rfl) (by as_aux_lemma => kernel_rfl)
      · intro ops' Q hQ
        simp only [go_sem, hwi]
        repeat (refine And.intro (by first | assumption | omega | (simp only [Bool.not_eq_true', Bool.or_eq_false_iff, Bool.or_eq_true, Bool.and_eq_true, decide_eq_true_eq, decide_eq_false_iff_not, beq_iff_eq, Bool.not_eq_false']; omega) | (simp; done) | (simp; omega) | (intros; omega) | (simp_all; done) | (simp_all; omega)) ?_)
        exact hQ
      refine Exec.cond_split rfl (fun h1 => ?_) (fun h1 => ?_)
      · skip
        refine Exec.seq ?_
        apply Exec.regionL te_ok
        · intro ops' Q hQ
          simp only [go_sem, hwi]
          repeat (refine And.intro (by first | assumption | omega | (simp only [Bool.not_eq_true', Bool.or_eq_false_iff, Bool.or_eq_true, Bool.and_eq_true, decide_eq_true_eq, decide_eq_false_iff_not, beq_iff_eq, Bool.not_eq_false']; omega) | (simp; done) | (simp; omega) | (intros; omega) | (simp_all; done) | (simp_all; omega)) ?_)
          exact hQ
        refine Exec.rets hR te_ok rfl rfl rfl (LeX.le ?_) (.inr ⟨_, rfl⟩)
        simp only [go_sem]
        have : x ≠ y := fun e => by subst e; rw [tk_eq] at h1; simp at h1
        simp [this]
      · skip
        refine Exec.skip ?_
        refine Exec.inBlock ?_
        apply Exec.regionL te_ok
        · intro ops' Q hQ
          simp only [go_sem, hwi]
          repeat (refine And.intro (by first | assumption | omega | (simp only [Bool.not_eq_true', Bool.or_eq_false_iff, Bool.or_eq_true, Bool.and_eq_true, decide_eq_true_eq, decide_eq_false_iff_not, beq_iff_eq, Bool.not_eq_false']; omega) | (simp; done) | (simp; omega) | (intros; omega) | (simp_all; done) | (simp_all; omega)) ?_)
          exact hQ
        refine Exec.back (ih0 (i + 1) ?_ ?_) ?_ ?_ ?_ ?_ ?_ ?_ ?_
        · try simp only
          exact ⟨by omega, by omega, (same_step2 hi1 hi2 hx.2.2).2 (by rw [tk_eq] at h1; simpa using h1)⟩
        · try simp only
          omega
        · rfl
        · rfl
        · (simp only [go_sem, hwi])
        · (simp only [go_sem, hwi])
        · (simp only [go_sem, hwi])
        · simp only [go_sem, hwi]
        · rfl
    · skip
      refine Exec.exit rfl ?_
      refine Exec.seq ?_
      apply Exec.regionL te_ok
      · intro ops' Q hQ
        simp only [go_sem]
        repeat (refine And.intro (by first | assumption | omega | (simp only [Bool.not_eq_true', Bool.or_eq_false_iff, Bool.or_eq_true, Bool.and_eq_true, decide_eq_true_eq, decide_eq_false_iff_not, beq_iff_eq, Bool.not_eq_false']; omega) | (simp; done) | (simp; omega) | (intros; omega) | (simp_all; done) | (simp_all; omega)) ?_)
        exact hQ
      refine Exec.rets hR te_ok rfl rfl rfl (LeX.le ?_) (.inr ⟨_, rfl⟩)
      simp only [go_sem]
      exact same_fin hx.1 hx.2.1 hx.2.2 h0
def awS : List UInt8 := [40, 97, 41, 45, 91, 120, 93, 45, 62, 32, 45, 53]
theorem parse_m5 : parseV [45, 53] = ⟨1, -5, []⟩ ∧ parseE [45, 53] = 0 := by
  have hb : parseB [45, 53] = true := by
    have e : parseT [45, 53] = ⟨1, -5, []⟩ := by decide
    have : Lib.itoa (-5) = [45, 53] := by unfold Lib.itoa; rw [if_pos (by decide), show (-5 : Int).natAbs = 5 from rfl, dig5]
    unfold parseB; rw [e]; unfold Vl.right Vl.shown shownV; simp [this, rightV]
  have e : parseT [45, 53] = ⟨1, -5, []⟩ := by decide
  unfold parseV parseE; rw [hb, e]; exact ⟨rfl, rfl⟩
theorem aw_all : lexAll awS = ([⟨4, [40], 0, v0⟩, ⟨1, [97], 1, v0⟩, ⟨4, [41], 2, v0⟩, ⟨4, [45, 91], 3, v0⟩, ⟨1, [120], 5, v0⟩, ⟨4, [93, 45, 62], 6, v0⟩, ⟨2, [45, 53], 10, ⟨1, -5, []⟩⟩, ⟨5, [], 12, v0⟩], none) := by
  have s0 := lexAt_on (s := awS) (a := 0) (by decide) (by decide) (by decide)
  have s1 := lexAt_on (s := awS) (a := 1) (by decide) (by decide) (by decide)
  have s2 := lexAt_on (s := awS) (a := 2) (by decide) (by decide) (by decide)
  have s3 := lexAt_on (s := awS) (a := 3) (by decide) (by decide) (by decide)
  have s5 := lexAt_on (s := awS) (a := 5) (by decide) (by decide) (by decide)
  have s6 := lexAt_on (s := awS) (a := 6) (by decide) (by decide) (by decide)
  have s9 := lexAt_on (s := awS) (a := 9) (by decide) (by show (parseE [45, 53] == 0) = true; rw [parse_m5.2]; rfl) (by decide)
  have s12 := lexAt_end (s := awS) (a := 12) (by decide) (by decide) (by decide)
  have t9 : tokA awS 9 = ⟨2, [45, 53], 10, ⟨1, -5, []⟩⟩ := by show (⟨2, [45, 53], 10, parseV [45, 53]⟩ : Tk) = _; rw [parse_m5.1]
  have n0 : thenA awS 0 = 1 := by decide
  have n1 : thenA awS 1 = 2 := by decide
  have n2 : thenA awS 2 = 3 := by decide
  have n3 : thenA awS 3 = 5 := by decide
  have n5 : thenA awS 5 = 6 := by decide
  have n6 : thenA awS 6 = 9 := by decide
  have n9 : thenA awS 9 = 12 := by decide
  unfold lexAll
  rw [s0, n0, s1, n1, s2, n2, s3, n3, s5, n5, s6, n6, s9, n9, s12, t9]
  rfl
theorem aw_lex : FnOK LaidX Tryd.prog 27 [sv awS] (.tup [tokD [⟨4, [40], 0, v0⟩, ⟨1, [97], 1, v0⟩, ⟨4, [41], 2, v0⟩, ⟨4, [45, 91], 3, v0⟩, ⟨1, [120], 5, v0⟩, ⟨4, [93, 45, 62], 6, v0⟩, ⟨2, [45, 53], 10, ⟨1, -5, []⟩⟩, ⟨5, [], 12, v0⟩], iv 0, iv 0]) := by
  have h := lex_ok awS (by decide)
  obtain ⟨e1, e2, e3⟩ := lex_some (s := awS) (by decide) aw_all
  rw [e1, e2, e3] at h
  exact h

theorem lawake_ok  : FnOK LaidX Tryd.prog 31 [] (bv true) := by
  refine FnOK_of laidX_stable Tryd.func31 Tryd.ntmps31 rfl (by as_aux_lemma => kernel_rfl) (Nat.le_of_ble_eq_true rfl) (fun R hR => ?_)
  obtain ⟨_, b, cs, T, C⟩ := R
  obtain rfl : _ = Tryd.prog := hR.p
  refine Exec.seq ?_
  apply Exec.regionL te_ok
  · intro ops' Q hQ
    simp only [go_sem]
    repeat (refine And.intro (by first | assumption | omega | (simp; done) | (simp; omega) | (intros; omega) | (simp_all; done) | (simp_all; omega)) ?_)
    exact hQ
  refine Exec.seq ?_
  apply Exec.regionL te_ok
  · intro ops' Q hQ
    simp only [go_sem]
    repeat (refine And.intro (by first | assumption | omega | (simp; done) | (simp; omega) | (intros; omega) | (simp_all; done) | (simp_all; omega)) ?_)
    refine kcall hR.inv te_ok rfl rfl rfl rfl rfl rfl (aw_lex) ?_
    simp only [go_sem]
    repeat (refine And.intro (by first | assumption | omega | (simp; done) | (simp; omega) | (intros; omega) | (simp_all; done) | (simp_all; omega)) ?_)
    exact hQ
  refine Exec.seq ?_
  refine Exec.seq ?_
  apply Exec.regionL te_ok
  · intro ops' Q hQ
    simp only [go_sem]
    repeat (refine And.intro (by first | assumption | omega | (simp; done) | (simp; omega) | (intros; omega) | (simp_all; done) | (simp_all; omega)) ?_)
    exact hQ
  refine Exec.cond_split rfl (fun h0 => ?_) (fun h0 => ?_)
  · exfalso
    revert h0; decide
  refine Exec.skip ?_
  refine Exec.seq ?_
  apply Exec.regionL te_ok
  · intro ops' Q hQ
    simp only [go_sem]
    repeat (refine And.intro (by first | assumption | omega | (simp; done) | (simp; omega) | (intros; omega) | (simp_all; done) | (simp_all; omega)) ?_)
    exact hQ
  refine Exec.rets hR te_ok rfl rfl rfl (LeX.le ?_) (.inr ⟨_, rfl⟩)
  simp only [go_sem]
  all_goals (try decide)
end Go.Proofs.YtmnponhhmkdcdaaDoor
