/- Steps of a function body on data, and contracts of the functions of the seat, walked. -/
import Derived.Test.YtonchjamoblioaaGreatDoorZL2
set_option linter.unusedSimpArgs false
set_option linter.unusedVariables false
namespace Go.Proofs.YtonchjamoblioaaGreatDoor
open Go.Kin
set_option maxRecDepth 100000
set_option maxHeartbeats 0
/-- the document's token at a place -/
def tokR (s : List UInt8) (a : Nat) : Tk := if firstB (s.drop a) = true then (firstT (s.drop a)).at' (a : Nat) else ⟨0, [], 0, v0⟩
theorem part_eq (s : List UInt8) (a n : Nat) : List.take (((a + n : Nat) : Int) - (a : Int)).toNat (List.drop a s) = (s.drop a).take n := by
 rw [show (((a + n : Nat) : Int) - (a : Int)).toNat = n by omega]
section
variable {s : List UInt8} {a : Nat} (ha : a < s.length)
include ha
theorem dl : 0 < (s.drop a).length := by simp; omega
theorem dne : (s.drop a == []) = false := by
 rw [beq_eq_false_iff_ne]; intro e
 have := dl ha; rw [e] at this; simp at this
theorem tk_word (h1 : letterI (s.getD a 0).toNat = true) : tokR s a = if 20 < (spanN signI (s.drop a) : Int) then ⟨0, [], 0, v0⟩ else ⟨1, (s.drop a).take (spanN signI (s.drop a)), a, v0⟩ := by
 rw [← getD_drop] at h1
 obtain ⟨e1, e2⟩ := f_word (dne ha) h1
 unfold tokR; rw [e1, e2, word_vertex (dl ha) h1]
 by_cases h : 20 < (spanN signI (s.drop a) : Int)
 ·rw [if_pos h, if_neg (by simp; omega)]
 ·rw [if_neg h, if_pos (by simp; omega)]; rfl
omit ha in
theorem tk_val {w : List UInt8} {k : Int} (e1 : firstT (s.drop a) = valuedT w k) (e2 : firstB (s.drop a) = (parseE w == 0)) (hk : parseE w = 0 → (parseV w).k + 1 = k) : tokR s a = if (parseE w != 0) = true then ⟨0, [], 0, v0⟩ else ⟨1 + (parseV w).k, w, a, parseV w⟩ := by
 unfold tokR; rw [e1, e2]
 by_cases h : parseE w = 0
 ·rw [h, if_pos (by decide), if_neg (by decide)]
  simp only [Tk.at', valuedT]; rw [← hk h, Int.add_comm]
 ·rw [if_neg (by simpa using h), if_pos (by simpa using h)]
theorem tk_digit (h1 : letterI (s.getD a 0).toNat = false) (h2 : digitI (s.getD a 0).toNat = true) : tokR s a = if (parseE (digitN (s.drop a)) != 0) = true then ⟨0, [], 0, v0⟩ else ⟨1 + (parseV (digitN (s.drop a))).k, digitN (s.drop a), a, parseV (digitN (s.drop a))⟩ := by
 rw [← getD_drop] at h1 h2
 obtain ⟨e1, e2⟩ := f_digit (dne ha) h1 h2
 refine tk_val e1 e2 fun h => ?_
 rw [parse_kind h, digitN, pre_head (dl ha) (span_pos (dl ha) h2), if_neg]; rfl
 intro e; rw [beq_iff_eq] at e; rw [e] at h2; exact absurd h2 (by decide)
theorem tk_minus (h1 : letterI (s.getD a 0).toNat = false) (h2 : digitI (s.getD a 0).toNat = false) (h3 : (((s.getD a 0).toNat : Int) == 45 && decide (0 < (spanN digitI (s.drop (a + 1)) : Int))) = true) :
  tokR s a = if (parseE (minusN (s.drop a)) != 0) = true then ⟨0, [], 0, v0⟩ else ⟨1 + (parseV (minusN (s.drop a))).k, minusN (s.drop a), a, parseV (minusN (s.drop a))⟩ := by
 rw [← getD_drop] at h1 h2 h3
 rw [← List.drop_drop] at h3
 obtain ⟨e1, e2⟩ := f_minus (dne ha) h1 h2 h3
 refine tk_val e1 e2 fun h => ?_
 rw [parse_kind h, minusN, pre_head (dl ha) (by omega), if_neg]; rfl
 intro e; rw [beq_iff_eq] at e; rw [e] at h3; exact absurd h3 (by simp)
theorem tk_text (h1 : letterI (s.getD a 0).toNat = false) (h2 : digitI (s.getD a 0).toNat = false) (h3 : (((s.getD a 0).toNat : Int) == 45 && decide (0 < (spanN digitI (s.drop (a + 1)) : Int))) = false) (h4 : (((s.getD a 0).toNat : Int) == 34) = true) :
  tokR s a = if textL (s.drop a) = 0 then ⟨0, [], 0, v0⟩ else if (parseE (textN (s.drop a)) != 0) = true then ⟨0, [], 0, v0⟩ else ⟨1 + (parseV (textN (s.drop a))).k, textN (s.drop a), a, parseV (textN (s.drop a))⟩ := by
 rw [← getD_drop] at h1 h2 h3 h4
 rw [← List.drop_drop] at h3
 obtain ⟨e1, e2⟩ := f_text (dne ha) h1 h2 h3 h4
 have hb := indexByte_lt ((s.drop a).drop 1) 34
 unfold textL
 by_cases hq : Lib.indexByte ((s.drop a).drop 1) 34 < 0
 ·rw [if_pos hq] at e1 e2
  rw [if_pos hq, if_pos rfl]
  unfold tokR; rw [e2, if_neg (by decide)]
 ·rw [if_neg hq] at e1 e2
  rw [if_neg hq, if_neg (by omega)]
  refine tk_val e1 e2 fun h => ?_
  rw [parse_kind h, textN, pre_head (dl ha) (by omega), if_pos]; rfl
  rw [beq_iff_eq]; exact UInt8.toNat_inj.1 (by have := eq_of_beq h4; show _ = 34; omega)
theorem tk_sign (h1 : letterI (s.getD a 0).toNat = false) (h2 : digitI (s.getD a 0).toNat = false) (h3 : (((s.getD a 0).toNat : Int) == 45 && decide (0 < (spanN digitI (s.drop (a + 1)) : Int))) = false) (h4 : (((s.getD a 0).toNat : Int) == 34) = false) :
  tokR s a = if bestSign (s.drop a) = [] then ⟨0, [], 0, v0⟩ else ⟨4, bestSign (s.drop a), a, v0⟩ := by
 rw [← getD_drop] at h1 h2 h3 h4
 rw [← List.drop_drop] at h3
 obtain ⟨e1, e2⟩ := f_sign (dne ha) h1 h2 h3 h4
 unfold tokR; rw [e1, e2]
 by_cases h : bestSign (s.drop a) = []
 ·rw [if_pos h, if_neg (by rw [h]; decide)]
 ·rw [if_neg h, if_pos (by simpa using h)]; rfl
end
theorem minusN_at (s : List UInt8) (a : Nat) : List.take (1 + spanN digitI (List.drop (a + 1) s)) (List.drop a s) = minusN (List.drop a s) := by
 unfold minusN; rw [List.drop_drop]
theorem textL_le {s : List UInt8} (h : 0 < s.length) : 0 ≤ textL s ∧ textL s ≤ s.length := by
 have hb := indexByte_lt (s.drop 1) 34
 have e : (s.drop 1).length = s.length - 1 := by simp
 unfold textL; split <;> omega
theorem textN_at {s : List UInt8} {a : Nat} (h : (textL (s.drop a) == 0) = false) : List.take ((a : Int) + textL (s.drop a) - (a : Int)).toNat (List.drop a s) = textN (List.drop a s) := by
 have h' : textL (s.drop a) ≠ 0 := by simpa using h
 unfold textN
 have e : textL (s.drop a) = Lib.indexByte ((s.drop a).drop 1) 34 + 2 := by
  unfold textL at h' ⊢
  by_cases hq : Lib.indexByte ((s.drop a).drop 1) 34 < 0
  ·rw [if_pos hq] at h'; exact absurd rfl h'
  ·rw [if_neg hq]
 rw [e, show ((a : Int) + (Lib.indexByte ((s.drop a).drop 1) 34 + 2) - (a : Int)) = Lib.indexByte ((s.drop a).drop 1) 34 + 2 by omega]
theorem signs_nn : ∀ i : Fin 20, nth signsR i.val ≠ [] := by decide
theorem signs_len : ∀ i : Fin 20, (nth signsR i.val).length ≤ 3 := by decide
theorem tk_end (s : List UInt8) : tokR s s.length = ⟨5, [], s.length, v0⟩ := by
 unfold tokR; rw [List.drop_length]; rfl
theorem parseV_kb (w : List UInt8) : 0 ≤ (parseV w).k ∧ (parseV w).k ≤ 2 := by
 unfold parseV parseT; repeat' split
 all_goals simp
theorem kind_wrap (w : List UInt8) : IntKind.i64.wrap (1 + (parseV w).k) = 1 + (parseV w).k := by have := parseV_kb w; exact wrap_id (by omega)
theorem rtoken_ok (s : List UInt8) (hs : s.length ≤ 140737488351232) (a : Nat) (ha : a ≤ s.length) : FnOK LaidX Tryz.prog 153 [sv s, iv a] (tD (tokR s a)) := by
 refine FnOK_of laidX_stable Tryz.func153 Tryz.ntmps153 rfl (by as_aux_lemma => kernel_rfl) (Nat.le_of_ble_eq_true rfl) (fun R hR => ?_)
 obtain ⟨_, b, cs, T, C⟩ := R
 obtain rfl : _ = Tryz.prog := hR.p
 have pe := part_eq s a
 have q1 := spanN_le signI (s.drop a)
 have q2 := spanN_le digitI (s.drop a)
 have q3 := spanN_le digitI (s.drop (a + 1))
 have q4 : (s.drop a).length = s.length - a := by simp
 have q5 : (s.drop (a + 1)).length = s.length - (a + 1) := by simp
 have q6 : (digitN (s.drop a)).length ≤ (s.drop a).length := take_len _ _
 have q7 : (minusN (s.drop a)).length ≤ (s.drop a).length := take_len _ _
 have q8 : (textN (s.drop a)).length ≤ (s.drop a).length := take_len _ _
 have w1 := add_wrap (m := a) (n := spanN signI (s.drop a)) (by omega)
 have w2 := add_wrap (m := a) (n := spanN digitI (s.drop a)) (by omega)
 have wa : IntKind.i64.wrap ((a : Int) + 1) = ((a + 1 : Nat) : Int) := by rw [wrap_id (by omega)]; omega
 have w3 := one_wrap (n := spanN digitI (s.drop (a + 1))) (by omega)
 have w4 := add_wrap (m := a) (n := 1 + spanN digitI (s.drop (a + 1))) (by omega)
 have mn := minusN_at s a
 have wl : IntKind.i64.wrap ((s.length : Int) - (a : Int)) = ((s.drop a).length : Int) := by rw [wrap_id (by omega)]; omega
 refine sq ?_
 apply Exec.regionL te_ok
 ·intro o Q hQ
  simp only [go_sem, pe, v0, pR_sign, pR_digit, w1, w2, wa, w3, w4, mn, wl, digitN_eq, kind_wrap]
  repeat refine ob2 ?_
  exact hQ
 refine sq ?_
 refine sq ?_
 apply Exec.regionL te_ok
 ·intro o Q hQ
  simp only [go_sem, pe, v0, pR_sign, pR_digit, w1, w2, wa, w3, w4, mn, wl, digitN_eq, kind_wrap]
  repeat refine ob2 ?_
  exact hQ
 refine Exec.cond_split rfl (fun h0 => ?_) (fun h0 => ?_)
 ·refine sq ?_
  apply Exec.regionL te_ok
  ·intro o Q hQ
   simp only [go_sem, pe, v0, pR_sign, pR_digit, w1, w2, wa, w3, w4, mn, wl, digitN_eq, kind_wrap]
   repeat refine ob2 ?_
   exact hQ
  refine Exec.rets hR te_ok rfl rfl rfl (LeX.le ?_) (.inr ⟨_, rfl⟩)
  simp only [go_sem]
  have e : a = s.length := by simp at h0; omega
  rw [e, tk_end]; simp [v0]
 ·have hl : a < s.length := by simp at h0; omega
  have tb := textL_le (dl hl)
  refine sk ?_
  refine sq ?_
  refine sq ?_
  apply Exec.regionL te_ok
  ·intro o Q hQ
   simp only [go_sem, pe, v0, pR_sign, pR_digit, w1, w2, wa, w3, w4, mn, wl, digitN_eq, kind_wrap]
   repeat refine ob2 ?_
   refine kcall hR.inv te_ok rfl rfl rfl rfl rfl rfl (rletter_ok _) ?_
   simp only [go_sem, pe, v0, pR_sign, pR_digit, w1, w2, wa, w3, w4, mn, wl, digitN_eq, kind_wrap]
   repeat refine ob2 ?_
   exact hQ
  refine Exec.cond_split rfl (fun h1 => ?_) (fun h1 => ?_)
  ·refine sq ?_
   apply Exec.regionL te_ok
   ·intro o Q hQ
    simp only [go_sem, pe, v0, pR_sign, pR_digit, w1, w2, wa, w3, w4, mn, wl, digitN_eq, kind_wrap]
    repeat refine ob2 ?_
    refine kcall hR.inv te_ok rfl rfl rfl rfl rfl rfl (run_ok _ (by omega) a ha true) ?_
    simp only [go_sem, pe, v0, pR_sign, pR_digit, w1, w2, wa, w3, w4, mn, wl, digitN_eq, kind_wrap]
    repeat refine ob2 ?_
    exact hQ
   refine sq ?_
   refine sq ?_
   apply Exec.regionL te_ok
   ·intro o Q hQ
    simp only [go_sem, pe, v0, pR_sign, pR_digit, w1, w2, wa, w3, w4, mn, wl, digitN_eq, kind_wrap]
    repeat refine ob2 ?_
    exact hQ
   refine Exec.cond_split rfl (fun h2 => ?_) (fun h2 => ?_)
   ·refine sq ?_
    apply Exec.regionL te_ok
    ·intro o Q hQ
     simp only [go_sem, pe, v0, pR_sign, pR_digit, w1, w2, wa, w3, w4, mn, wl, digitN_eq, kind_wrap]
     repeat refine ob2 ?_
     exact hQ
    refine Exec.rets hR te_ok rfl rfl rfl (LeX.le ?_) (.inr ⟨_, rfl⟩)
    simp only [go_sem]
    rw [tk_word hl h1, if_pos (of_decide_eq_true h2)]; simp [v0]
   ·refine sk ?_
    refine sq ?_
    apply Exec.regionL te_ok
    ·intro o Q hQ
     simp only [go_sem, pe, v0, pR_sign, pR_digit, w1, w2, wa, w3, w4, mn, wl, digitN_eq, kind_wrap]
     repeat refine ob2 ?_
     exact hQ
    refine Exec.rets hR te_ok rfl rfl rfl (LeX.le ?_) (.inr ⟨_, rfl⟩)
    simp only [go_sem]
    rw [tk_word hl h1, if_neg (of_decide_eq_false h2)]; simp [v0]
  ·refine sk ?_
   refine sq ?_
   apply Exec.regionL te_ok
   ·intro o Q hQ
    simp only [go_sem, pe, v0, pR_sign, pR_digit, w1, w2, wa, w3, w4, mn, wl, digitN_eq, kind_wrap]
    repeat refine ob2 ?_
    exact hQ
   refine sq ?_
   refine Exec.block ?_
   refine sq ?_
   apply Exec.regionL te_ok
   ·intro o Q hQ
    simp only [go_sem, pe, v0, pR_sign, pR_digit, w1, w2, wa, w3, w4, mn, wl, digitN_eq, kind_wrap]
    repeat refine ob2 ?_
    refine kcall hR.inv te_ok rfl rfl rfl rfl rfl rfl (rdigit_ok _) ?_
    simp only [go_sem, pe, v0, pR_sign, pR_digit, w1, w2, wa, w3, w4, mn, wl, digitN_eq, kind_wrap]
    repeat refine ob2 ?_
    exact hQ
   refine Exec.cond_split rfl (fun h3 => ?_) (fun h3 => ?_)
   ·apply Exec.regionL te_ok
    ·intro o Q hQ
     simp only [go_sem, pe, v0, pR_sign, pR_digit, w1, w2, wa, w3, w4, mn, wl, digitN_eq, kind_wrap]
     repeat refine ob2 ?_
     refine kcall hR.inv te_ok rfl rfl rfl rfl rfl rfl (run_ok _ (by omega) a ha false) ?_
     simp only [go_sem, pe, v0, pR_sign, pR_digit, w1, w2, wa, w3, w4, mn, wl, digitN_eq, kind_wrap]
     repeat refine ob2 ?_
     exact hQ
    refine Exec.inBlock ?_
    refine sq ?_
    refine sq ?_
    apply Exec.regionL te_ok
    ·intro o Q hQ
     simp only [go_sem, pe, v0, pR_sign, pR_digit, w1, w2, wa, w3, w4, mn, wl, digitN_eq, kind_wrap]
     repeat refine ob2 ?_
     exact hQ
    refine Exec.cond_split rfl (fun h4 => ?_) (fun h4 => ?_)
    rotate_left 1
    ·exfalso
     have := span_pos (p := digitI) (dl hl) (by rw [getD_drop]; exact h3)
     have := of_decide_eq_false h4
     omega
    refine sq ?_
    apply Exec.regionL te_ok
    ·intro o Q hQ
     simp only [go_sem, pe, v0, pR_sign, pR_digit, w1, w2, wa, w3, w4, mn, wl, digitN_eq, kind_wrap]
     repeat refine ob2 ?_
     refine kcall hR.inv te_ok rfl rfl rfl rfl rfl rfl (rparse_ok _ (by omega)) ?_
     simp only [go_sem, pe, v0, pR_sign, pR_digit, w1, w2, wa, w3, w4, mn, wl, digitN_eq, kind_wrap]
     repeat refine ob2 ?_
     exact hQ
    refine sq ?_
    refine sq ?_
    apply Exec.regionL te_ok
    ·intro o Q hQ
     simp only [go_sem, pe, v0, pR_sign, pR_digit, w1, w2, wa, w3, w4, mn, wl, digitN_eq, kind_wrap]
     repeat refine ob2 ?_
     exact hQ
    refine Exec.cond_split rfl (fun h5 => ?_) (fun h5 => ?_)
    ·refine sq ?_
     apply Exec.regionL te_ok
     ·intro o Q hQ
      simp only [go_sem, pe, v0, pR_sign, pR_digit, w1, w2, wa, w3, w4, mn, wl, digitN_eq, kind_wrap]
      repeat refine ob2 ?_
      exact hQ
     refine Exec.rets hR te_ok rfl rfl rfl (LeX.le ?_) (.inr ⟨_, rfl⟩)
     simp only [go_sem]
     rw [tk_digit hl h1 h3, if_pos h5]; simp [v0]
    ·refine sk ?_
     refine sq ?_
     apply Exec.draw (st := _) 14 12 [] [] te_ok (by as_aux_lemma => kernel_rfl) (by as_aux_lemma => kernel_rfl) (by as_aux_lemma => kernel_rfl)
     ·intro o Q hQ
      simp only [go_sem, pe, v0, pR_sign, pR_digit, w1, w2, wa, w3, w4, mn, wl, digitN_eq, kind_wrap]
      repeat refine ob2 ?_
      exact hQ
     refine Exec.rets hR te_ok rfl rfl rfl (LeX.le ?_) (.inr ⟨_, rfl⟩)
     simp only [go_sem]
     rw [tk_digit hl h1 h3, if_neg (by rw [h5]; decide)]; simp
   ·refine sq ?_
    apply Exec.regionL te_ok
    ·intro o Q hQ
     simp only [go_sem, pe, v0, pR_sign, pR_digit, w1, w2, wa, w3, w4, mn, wl, digitN_eq, kind_wrap]
     repeat refine ob2 ?_
     refine kcallG hR.inv te_ok rfl rfl rfl rfl rfl rfl ob1 (fun hq => run_ok s (by omega) (a + 1) (by omega) false) ?_
     simp only [go_sem, pe, v0, pR_sign, pR_digit, w1, w2, wa, w3, w4, mn, wl, digitN_eq, kind_wrap]
     repeat refine ob2 ?_
     exact hQ
    refine Exec.cond_split rfl (fun h6 => ?_) (fun h6 => ?_)
    ·apply Exec.regionL te_ok
     ·intro o Q hQ
      simp only [go_sem, pe, v0, pR_sign, pR_digit, w1, w2, wa, w3, w4, mn, wl, digitN_eq, kind_wrap]
      repeat refine ob2 ?_
      refine kcall hR.inv te_ok rfl rfl rfl rfl rfl rfl (run_ok s (by omega) (a + 1) (by omega) false) ?_
      simp only [go_sem, pe, v0, pR_sign, pR_digit, w1, w2, wa, w3, w4, mn, wl, digitN_eq, kind_wrap]
      repeat refine ob2 ?_
      exact hQ
     refine Exec.inBlock ?_
     refine sq ?_
     refine sq ?_
     apply Exec.regionL te_ok
     ·intro o Q hQ
      simp only [go_sem, pe, v0, pR_sign, pR_digit, w1, w2, wa, w3, w4, mn, wl, digitN_eq, kind_wrap]
      repeat refine ob2 ?_
      exact hQ
     refine Exec.cond_split rfl (fun h7 => ?_) (fun h7 => ?_)
     rotate_left 1
     ·exfalso
      have := of_decide_eq_false h7
      omega
     refine sq ?_
     apply Exec.regionL te_ok
     ·intro o Q hQ
      simp only [go_sem, pe, v0, pR_sign, pR_digit, w1, w2, wa, w3, w4, mn, wl, digitN_eq, kind_wrap]
      repeat refine ob2 ?_
      refine kcall hR.inv te_ok rfl rfl rfl rfl rfl rfl (rparse_ok _ (by omega)) ?_
      simp only [go_sem, pe, v0, pR_sign, pR_digit, w1, w2, wa, w3, w4, mn, wl, digitN_eq, kind_wrap]
      repeat refine ob2 ?_
      exact hQ
     refine sq ?_
     refine sq ?_
     apply Exec.regionL te_ok
     ·intro o Q hQ
      simp only [go_sem, pe, v0, pR_sign, pR_digit, w1, w2, wa, w3, w4, mn, wl, digitN_eq, kind_wrap]
      repeat refine ob2 ?_
      exact hQ
     refine Exec.cond_split rfl (fun h8 => ?_) (fun h8 => ?_)
     ·refine sq ?_
      apply Exec.regionL te_ok
      ·intro o Q hQ
       simp only [go_sem, pe, v0, pR_sign, pR_digit, w1, w2, wa, w3, w4, mn, wl, digitN_eq, kind_wrap]
       repeat refine ob2 ?_
       exact hQ
      refine Exec.rets hR te_ok rfl rfl rfl (LeX.le ?_) (.inr ⟨_, rfl⟩)
      simp only [go_sem]
      rw [tk_minus hl h1 h3 h6, if_pos h8]; simp [v0]
     ·refine sk ?_
      refine sq ?_
      apply Exec.draw (st := _) 14 12 [] [] te_ok (by as_aux_lemma => kernel_rfl) (by as_aux_lemma => kernel_rfl) (by as_aux_lemma => kernel_rfl)
      ·intro o Q hQ
       simp only [go_sem, pe, v0, pR_sign, pR_digit, w1, w2, wa, w3, w4, mn, wl, digitN_eq, kind_wrap]
       repeat refine ob2 ?_
       exact hQ
      refine Exec.rets hR te_ok rfl rfl rfl (LeX.le ?_) (.inr ⟨_, rfl⟩)
      simp only [go_sem]
      rw [tk_minus hl h1 h3 h6, if_neg (by rw [h8]; decide)]; simp
    ·refine sq ?_
     apply Exec.regionL te_ok
     ·intro o Q hQ
      simp only [go_sem, pe, v0, pR_sign, pR_digit, w1, w2, wa, w3, w4, mn, wl, digitN_eq, kind_wrap]
      repeat refine ob2 ?_
      exact hQ
     refine Exec.cond_split rfl (fun h9 => ?_) (fun h9 => ?_)
     ·have w5 : IntKind.i64.wrap ((a : Int) + textL (s.drop a)) = (a : Int) + textL (s.drop a) := wrap_id (by omega)
      refine sq ?_
      apply Exec.regionL te_ok
      ·intro o Q hQ
       simp only [go_sem, pe, v0, pR_sign, pR_digit, w1, w2, wa, w3, w4, mn, wl, digitN_eq, kind_wrap, w5]
       repeat refine ob2 ?_
       refine kcall hR.inv te_ok rfl rfl rfl rfl rfl rfl (rtext_ok _ (by omega) _ (by omega)) ?_
       simp only [go_sem, pe, v0, pR_sign, pR_digit, w1, w2, wa, w3, w4, mn, wl, digitN_eq, kind_wrap, w5]
       repeat refine ob2 ?_
       exact hQ
      refine sq ?_
      apply Exec.regionL te_ok
      ·intro o Q hQ
       simp only [go_sem, pe, v0, pR_sign, pR_digit, w1, w2, wa, w3, w4, mn, wl, digitN_eq, kind_wrap, w5]
       repeat refine ob2 ?_
       exact hQ
      refine Exec.cond_split rfl (fun h10 => ?_) (fun h10 => ?_)
      ·refine sq ?_
       apply Exec.regionL te_ok
       ·intro o Q hQ
        simp only [go_sem, pe, v0, pR_sign, pR_digit, w1, w2, wa, w3, w4, mn, wl, digitN_eq, kind_wrap, w5]
        repeat refine ob2 ?_
        exact hQ
       refine Exec.rets hR te_ok rfl rfl rfl (LeX.le ?_) (.inr ⟨_, rfl⟩)
       simp only [go_sem]
       rw [tk_text hl h1 h3 h6 h9, if_pos (by simpa using h10)]; simp [v0]
      ·have tn := textN_at h10
       refine sk ?_
       refine Exec.inBlock ?_
       refine sq ?_
       refine sq ?_
       apply Exec.regionL te_ok
       ·intro o Q hQ
        simp only [go_sem, pe, v0, pR_sign, pR_digit, w1, w2, wa, w3, w4, mn, wl, digitN_eq, kind_wrap, w5, tn]
        repeat refine ob2 ?_
        exact hQ
       refine Exec.cond_split rfl (fun h11 => ?_) (fun h11 => ?_)
       rotate_left 1
       ·exfalso
        have := of_decide_eq_false h11
        have e := eq_of_beq (a := textL (s.drop a)) (b := 0)
        have : ¬ textL (s.drop a) = 0 := by simpa using h10
        omega
       refine sq ?_
       apply Exec.regionL te_ok
       ·intro o Q hQ
        simp only [go_sem, pe, v0, pR_sign, pR_digit, w1, w2, wa, w3, w4, mn, wl, digitN_eq, kind_wrap, w5, tn]
        repeat refine ob2 ?_
        refine kcall hR.inv te_ok rfl rfl rfl rfl rfl rfl (rparse_ok _ (by omega)) ?_
        simp only [go_sem, pe, v0, pR_sign, pR_digit, w1, w2, wa, w3, w4, mn, wl, digitN_eq, kind_wrap, w5, tn]
        repeat refine ob2 ?_
        exact hQ
       refine sq ?_
       refine sq ?_
       apply Exec.regionL te_ok
       ·intro o Q hQ
        simp only [go_sem, pe, v0, pR_sign, pR_digit, w1, w2, wa, w3, w4, mn, wl, digitN_eq, kind_wrap, w5, tn]
        repeat refine ob2 ?_
        exact hQ
       refine Exec.cond_split rfl (fun h12 => ?_) (fun h12 => ?_)
       ·refine sq ?_
        apply Exec.regionL te_ok
        ·intro o Q hQ
         simp only [go_sem, pe, v0, pR_sign, pR_digit, w1, w2, wa, w3, w4, mn, wl, digitN_eq, kind_wrap, w5, tn]
         repeat refine ob2 ?_
         exact hQ
        refine Exec.rets hR te_ok rfl rfl rfl (LeX.le ?_) (.inr ⟨_, rfl⟩)
        simp only [go_sem]
        rw [tk_text hl h1 h3 h6 h9, if_neg (by simpa using h10), if_pos h12]; simp [v0]
       ·refine sk ?_
        refine sq ?_
        apply Exec.draw (st := _) 14 12 [] [] te_ok (by as_aux_lemma => kernel_rfl) (by as_aux_lemma => kernel_rfl) (by as_aux_lemma => kernel_rfl)
        ·intro o Q hQ
         simp only [go_sem, pe, v0, pR_sign, pR_digit, w1, w2, wa, w3, w4, mn, wl, digitN_eq, kind_wrap, w5, tn]
         repeat refine ob2 ?_
         exact hQ
        refine Exec.rets hR te_ok rfl rfl rfl (LeX.le ?_) (.inr ⟨_, rfl⟩)
        simp only [go_sem]
        rw [tk_text hl h1 h3 h6 h9, if_neg (by simpa using h10), if_neg (by rw [h12]; decide)]; simp
     ·refine sk ?_
      refine Exec.inBlock ?_
      refine sq ?_
      refine sq ?_
      apply Exec.regionL te_ok
      ·intro o Q hQ
       simp only [go_sem, pe, v0, pR_sign, pR_digit, w1, w2, wa, w3, w4, mn, wl, digitN_eq, kind_wrap]
       repeat refine ob2 ?_
       exact hQ
      refine Exec.cond (t := false) rfl ?_
      simp only [reduceIte, Bool.false_eq_true]
      refine sk ?_
      refine sq ?_
      apply Exec.regionL te_ok
      ·intro o Q hQ
       simp only [go_sem, pe, v0, pR_sign, pR_digit, w1, w2, wa, w3, w4, mn, wl, digitN_eq, kind_wrap]
       repeat refine ob2 ?_
       refine kcall hR.inv te_ok rfl rfl rfl rfl rfl rfl (rsigns_ok) ?_
       simp only [go_sem, pe, v0, pR_sign, pR_digit, w1, w2, wa, w3, w4, mn, wl, digitN_eq, kind_wrap]
       repeat refine ob2 ?_
       exact hQ
      refine sq ?_
      refine sq ?_
      apply Exec.regionL te_ok
      ·intro o Q hQ
       simp only [go_sem, pe, v0, pR_sign, pR_digit, w1, w2, wa, w3, w4, mn, wl, digitN_eq, kind_wrap]
       repeat refine ob2 ?_
       exact hQ
      refine Exec.block ?_
      apply Exec.loopU [0, 1, 4, 9] (X := Nat) (fun i => [(10, .d (iv i))]) (fun i => []) (fun i => []) (fun i => 20 - i) (fun i => i ≤ 20 ∧ ∀ j, j < i → Lib.hasPrefix (s.drop a) (nth signsR j) = false) 0
      case h0 =>
       exact ⟨by omega, fun j hj => absurd hj (by omega)⟩
      case hw =>
       simp only [go_sem, pe, v0, pR_sign, pR_digit, w1, w2, wa, w3, w4, mn, wl, digitN_eq, kind_wrap]
      case body =>
       rintro i hx ih0
       try simp only at hx
       apply Exec.norm
       ·simp only [go_sem, pe, v0, pR_sign, pR_digit, w1, w2, wa, w3, w4, mn, wl, digitN_eq, kind_wrap]
        rfl
       refine sq ?_
       refine sq ?_
       apply Exec.regionL te_ok
       ·intro o Q hQ
        simp only [go_sem, pe, v0, pR_sign, pR_digit, w1, w2, wa, w3, w4, mn, wl, digitN_eq, kind_wrap]
        repeat refine ob2 ?_
        exact hQ
       refine Exec.cond_split rfl (fun h14 => ?_) (fun h14 => ?_)
       ·have hi : i < 20 := by simp at h14; omega
        have sl := signs_len ⟨i, hi⟩
        simp only at sl
        have w6 := add_wrap (m := a) (n := (nth signsR i).length) (by omega)
        have hwi : IntKind.i64.wrap ((i : Int) + 1) = ((i + 1 : Nat) : Int) := by rw [wrap_id (by constructor <;> omega)]; simp
        refine sk ?_
        refine sq ?_
        refine Exec.block ?_
        refine sq ?_
        apply Exec.draw (st := _) 28 27 [] [] te_ok (by as_aux_lemma => kernel_rfl) (by as_aux_lemma => kernel_rfl) (by as_aux_lemma => kernel_rfl)
        ·intro o Q hQ
         simp only [go_sem, pe, v0, pR_sign, pR_digit, w1, w2, wa, w3, w4, mn, wl, digitN_eq, kind_wrap, w6, pre_take, hwi]
         repeat refine ob2 ?_
         exact hQ
        refine Exec.cond_split rfl (fun h15 => ?_) (fun h15 => ?_)
        ·refine sq ?_
         apply Exec.regionL te_ok
         ·intro o Q hQ
          simp only [go_sem, pe, v0, pR_sign, pR_digit, w1, w2, wa, w3, w4, mn, wl, digitN_eq, kind_wrap, w6, pre_take, hwi]
          repeat refine ob2 ?_
          exact hQ
         refine Exec.rets hR te_ok rfl rfl rfl (LeX.le ?_) (.inr ⟨_, rfl⟩)
         simp only [go_sem]
         rw [tk_sign hl h1 h3 h6 h9, best_at hi hx.2 h15, if_neg (signs_nn ⟨i, hi⟩)]; simp [v0]
        ·refine sk ?_
         refine Exec.inBlock ?_
         apply Exec.regionL te_ok
         ·intro o Q hQ
          simp only [go_sem, pe, v0, pR_sign, pR_digit, w1, w2, wa, w3, w4, mn, wl, digitN_eq, kind_wrap, w6, pre_take, hwi]
          repeat refine ob2 ?_
          exact hQ
         refine Exec.back (ih0 (i + 1) ?_ ?_) ?_ ?_ ?_ ?_ ?_ ?_ ?_
         ·try simp only
          exact ⟨by omega, fun j hj => by rcases Nat.lt_or_ge j i with h | h; exact hx.2 j h; exact (show i = j by omega) ▸ h15⟩
         ·try simp only
          omega
         ·rfl
         ·rfl
         ·(simp only [go_sem, pe, v0, pR_sign, pR_digit, w1, w2, wa, w3, w4, mn, wl, digitN_eq, kind_wrap, w6, pre_take, hwi])
         ·(simp only [go_sem, pe, v0, pR_sign, pR_digit, w1, w2, wa, w3, w4, mn, wl, digitN_eq, kind_wrap, w6, pre_take, hwi])
         ·(simp only [go_sem, pe, v0, pR_sign, pR_digit, w1, w2, wa, w3, w4, mn, wl, digitN_eq, kind_wrap, w6, pre_take, hwi])
         ·simp only [go_sem, pe, v0, pR_sign, pR_digit, w1, w2, wa, w3, w4, mn, wl, digitN_eq, kind_wrap, w6, pre_take, hwi]
         ·rfl
       ·refine Exec.exit rfl ?_
        refine sq ?_
        apply Exec.regionL te_ok
        ·intro o Q hQ
         simp only [go_sem, pe, v0, pR_sign, pR_digit, w1, w2, wa, w3, w4, mn, wl, digitN_eq, kind_wrap]
         repeat refine ob2 ?_
         exact hQ
        refine Exec.rets hR te_ok rfl rfl rfl (LeX.le ?_) (.inr ⟨_, rfl⟩)
        simp only [go_sem]
        rw [tk_sign hl h1 h3 h6 h9, best_none (fun j hj => hx.2 j (by simp at h14; omega)), if_pos rfl]; simp [v0]
end Go.Proofs.YtonchjamoblioaaGreatDoor
namespace Go.Proofs.YtonchjamoblioaaGreatDoor
open Go.Kin
set_option maxRecDepth 100000
set_option maxHeartbeats 0
theorem tokR_no {s : List UInt8} {a : Nat} (h : firstB (s.drop (nextA s a)) = false) : tokR s (nextA s a) = ⟨0, [], 0, v0⟩ := by unfold tokR; rw [if_neg (by rw [h]; decide)]
theorem tokR_yes {s : List UInt8} {a : Nat} (h : firstB (s.drop (nextA s a)) = true) : tokR s (nextA s a) = tokA s a := by unfold tokR tokA; rw [if_pos h]
theorem first_k {s : List UInt8} (h : firstB s = true) : (firstT s).k ≠ 0 := by
 unfold firstB at h; unfold firstT
 by_cases h0 : s = []
 ·rw [if_pos h0]; simp
 rw [if_neg h0] at h ⊢
 by_cases h1 : letterI (s.getD 0 0).toNat = true
 ·rw [if_pos h1]; simp
 rw [if_neg h1] at h ⊢
 by_cases h2 : digitI (s.getD 0 0).toNat = true
 ·rw [if_pos h2]; simp [valuedT]
 rw [if_neg h2] at h ⊢
 by_cases h3 : (((s.getD 0 0).toNat : Int) == 45 && decide (0 < (spanN digitI (s.drop 1) : Int))) = true
 ·rw [if_pos h3]; simp [valuedT]
 rw [if_neg h3] at h ⊢
 by_cases h4 : (((s.getD 0 0).toNat : Int) == 34) = true
 ·rw [if_pos h4] at h ⊢
  by_cases h5 : Lib.indexByte (s.drop 1) 34 < 0
  ·rw [if_pos h5] at h; cases h
  ·rw [if_neg h5]; simp [valuedT]
 ·rw [if_neg h4]; simp
theorem tok_zero {s : List UInt8} {a : Nat} {b : Bool} (h : ((tokR s (nextA s a)).k == 0) = b) : firstB (s.drop (nextA s a)) = !b := by
 cases hb : firstB (s.drop (nextA s a)) with
 | false => rw [tokR_no hb] at h; subst h; rfl
 | true =>
  rw [tokR_yes hb] at h
  have := first_k hb
  have e : (tokA s a).k = (firstT (s.drop (nextA s a))).k := rfl
  rw [e, beq_eq_false_iff_ne.2 this] at h; subst h; rfl
def blankAt (s : List UInt8) (a b : Nat) : Prop := a ≤ b ∧ b ≤ s.length ∧ nextA s a = nextA s b
theorem next_end {s : List UInt8} {b : Nat} (h : (decide ((b : Int) < (s.length : Int)) && blankI ((s.getD b 0).toNat : Int)) = false) : nextA s b = b := by
 unfold nextA; rw [run_end (p := blankI) h]; rfl
theorem next_step {s : List UInt8} {b : Nat} (h : b < s.length) (hb : blankI ((s.getD b 0).toNat : Int) = true) : nextA s b = nextA s (b + 1) := by
 unfold nextA; rw [spanN_drop h hb, if_pos rfl]; omega
theorem rlex_ok (s : List UInt8) (hs : s.length ≤ 140737488351232) : FnOK LaidX Tryz.prog 105 [sv s] (.tup [.sl 6 (lexT s).length (lexT s).length fun i => tC (nth (lexT s) i), iv (lexA s), iv (lexE s)]) := by
 refine FnOK_of laidX_stable Tryz.func105 Tryz.ntmps105 rfl (by as_aux_lemma => kernel_rfl) (Nat.le_of_ble_eq_true rfl) (fun R hR => ?_)
 obtain ⟨_, b, cs, T, C⟩ := R
 obtain rfl : _ = Tryz.prog := hR.p
 refine sreg te_ok ?_
 refine sq ?_
 refine sreg te_ok ?_
 refine Exec.cond_split rfl (fun h0 => ?_) (fun h0 => ?_)
 ·refine sreg te_ok ?_
  refine Exec.rets hR te_ok rfl rfl rfl (LeX.le ?_) (.inr ⟨_, rfl⟩)
  simp only [go_sem]
  obtain ⟨e1, e2, e3⟩ := lex_long h0
  rw [e1, e2, e3]; simp
 ·refine sk ?_
  refine sreg te_ok ?_
  refine sreg te_ok ?_
  refine Exec.block ?_
  refine Exec.ownNil 5 500 137 6 rfl rfl ?_
  apply Exec.norm
  ·simp only [go_sem]
   rfl
  apply Exec.loopU [0] (X := Nat × List Tk) (fun ⟨a, l⟩ => [(6, .d (iv a)), (5, .own 500)]) (fun ⟨a, l⟩ => []) (fun ⟨a, l⟩ => [(500, ⟨137, 6, l.length, l.length, fun i => tC (nth l i)⟩)]) (fun ⟨a, l⟩ => s.length - a) (fun ⟨a, l⟩ => a ≤ s.length ∧ l.length ≤ a ∧ lexAll s = (l ++ (lexAt s a).1, (lexAt s a).2)) (0, [])
  case h0 =>
   exact ⟨by omega, by simp, rfl⟩
  case hw =>
   simp only [go_sem]; exact fun i hi => absurd hi (Nat.not_lt_zero i)
  case body =>
   rintro ⟨a, l⟩ hx ih0
   try simp only at hx
   have h2000 : s.length ≤ 2000 := by have := of_decide_eq_false h0; omega
   have hn := nextA_le hx.1
   apply Exec.norm
   ·simp only [go_sem]
    rfl
   refine Exec.block ?_
   refine sq ?_
   refine Exec.block ?_
   apply Exec.loopU [0, 5] (X := Nat) (fun c => [(6, .d (iv c))]) (fun c => []) (fun c => []) (fun c => s.length - c) (fun c => blankAt s a c) a
   case h0 =>
    exact ⟨by omega, hx.1, rfl⟩
   case hw =>
    simp only [go_sem]
   case body =>
    rintro c hc ih1
    try simp only at hc
    apply Exec.norm
    ·simp only [go_sem]
     rfl
    refine sq ?_
    refine sreg te_ok ?_
    refine Exec.cond_split rfl (fun h1 => ?_) (fun h1 => ?_)
    ·have hi : c < s.length ∧ blankI ((s.getD c 0).toNat : Int) = true := by rw [Bool.and_eq_true] at h1; exact ⟨by have := of_decide_eq_true h1.1; omega, h1.2⟩
     have hwc : IntKind.i64.wrap ((c : Int) + 1) = ((c + 1 : Nat) : Int) := by rw [wrap_id (by have := hi.1; omega)]; omega
     refine sk ?_
     refine Exec.block ?_
     apply Exec.regionL te_ok
     ·intro o Q hQ
      simp only [go_sem, hwc]
      repeat refine ob2 ?_
      exact hQ
     refine Exec.inBlock ?_
     refine Exec.back (ih1 (c + 1) ?_ ?_) ?_ ?_ ?_ ?_ ?_ ?_ ?_
     ·try simp only
      have := hi.1
      exact ⟨by have := hc.1; omega, by omega, by rw [hc.2.2]; exact next_step hi.1 hi.2⟩
     ·try simp only
      have := hi.1
      omega
     ·rfl
     ·rfl
     ·(simp only [go_sem, hwc])
     ·(simp only [go_sem, hwc])
     ·(simp only [go_sem, hwc])
     ·simp only [go_sem, hwc]
     ·rfl
    ·have e : nextA s a = c := by rw [hc.2.2]; exact next_end h1
     subst e
     refine Exec.exit rfl ?_
     refine sq ?_
     apply Exec.regionL te_ok
     ·intro o Q hQ
      simp only [go_sem]
      repeat refine ob2 ?_
      refine kcall hR.inv te_ok rfl rfl rfl rfl rfl rfl (rtoken_ok _ (by omega) _ (by omega)) ?_
      simp only [go_sem]
      repeat refine ob2 ?_
      exact hQ
     refine sq ?_
     refine sreg te_ok ?_
     refine Exec.cond_split rfl (fun h2 => ?_) (fun h2 => ?_)
     ·refine sreg te_ok ?_
      refine Exec.rets hR te_ok rfl rfl rfl (LeX.le ?_) (.inr ⟨_, rfl⟩)
      simp only [go_sem]
      have hb : firstB (s.drop (nextA s a)) = false := tok_zero h2
      obtain ⟨e1, e2, e3⟩ := lex_none (a := nextA s a) h0 (by rw [hx.2.2, lexAt_no hx.1 hb])
      rw [e1, e2, e3]; simp
     ·have hb : firstB (s.drop (nextA s a)) = true := tok_zero h2
      have tk := tokR_yes hb
      obtain ⟨t1, t2⟩ := thenA_le hx.1 hb
      have w2 : IntKind.i64.wrap ((nextA s a : Int) + ((tokA s a).t.length : Int)) = ((thenA s a : Nat) : Int) := add_wrap (by show thenA s a ≤ _; omega)
      rw [tk] at h2
      refine sk ?_
      refine sq ?_
      apply Exec.regionL te_ok
      ·intro o Q hQ
       simp only [go_sem, tk, w2]
       repeat refine ob2 ?_
       exact hQ
      refine sq ?_
      refine sq ?_
      apply Exec.regionL te_ok
      ·intro o Q hQ
       simp only [go_sem, tk, w2]
       repeat refine ob2 ?_
       exact hQ
      refine Exec.cond_split rfl (fun h3 => ?_) (fun h3 => ?_)
      ·refine sq ?_
       apply Exec.regionL te_ok
       ·intro o Q hQ
        simp only [go_sem, tk, w2]
        repeat refine ob2 ?_
        exact hQ
       refine Exec.rets hR te_ok rfl rfl rfl (LeX.le ?_) (.inr ⟨_, rfl⟩)
       simp only [go_sem]
       have hk : (firstT (s.drop (nextA s a))).k = 5 := by show (tokA s a).k = 5; simpa using h3
       obtain ⟨e1, e2, e3⟩ := lex_some (l := l ++ [tokA s a]) h0 (by rw [hx.2.2, lexAt_end hx.1 hb hk])
       rw [e1, e2, e3]
       exact ⟨by simp, .inl (by simp), .inl (tok_snoc l (tokA s a)), rfl, rfl⟩
      ·refine sk ?_
       apply Exec.regionL te_ok
       ·intro o Q hQ
        simp only [go_sem, tk, w2]
        repeat refine ob2 ?_
        exact hQ
       refine Exec.inBlock ?_
       refine Exec.back (ih0 (thenA s a, l ++ [tokA s a]) ?_ ?_) ?_ ?_ ?_ ?_ ?_ ?_ ?_
       ·try simp only
        have hk : ¬ (firstT (s.drop (nextA s a))).k = 5 := by show ¬ (tokA s a).k = 5; simpa using h3
        have := t2.resolve_left hk
        exact ⟨t1, by simp; omega, by rw [hx.2.2, lexAt_on hx.1 hb hk]; simp⟩
       ·try simp only
        have hk : ¬ (firstT (s.drop (nextA s a))).k = 5 := by show ¬ (tokA s a).k = 5; simpa using h3
        have := t2.resolve_left hk
        omega
       ·rfl
       ·rfl
       ·(simp only [go_sem])
       ·(simp only [go_sem])
       ·simp only [go_sem]
        exact ⟨by simp, .inl (by simp), tok_snoc l (tokA s a)⟩
       ·simp only [go_sem, tk, w2]
       ·rfl
end Go.Proofs.YtonchjamoblioaaGreatDoor
