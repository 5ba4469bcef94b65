/- Contracts of functions of the seat, walked. -/
import Derived.Test.YtmnponhhmkdcdaaDoorL7
namespace Go.Proofs.YtmnponhhmkdcdaaDoor
open Go.Kin Go.Lib
theorem spanN_stop {p : Int → Bool} {d : UInt8} (hd : p d.toNat = false) (y : List UInt8) : ∀ x : List UInt8, spanN p (x ++ d :: y) = spanN p x
  | [] => by simp [spanN, hd]
  | c :: r => by simp only [List.cons_append, spanN, spanN_stop hd y r]
theorem spanN_full {p : Int → Bool} (y : List UInt8) : ∀ x : List UInt8, x.all (fun c => p c.toNat) = true → spanN p (x ++ y) = x.length + spanN p y
  | [], _ => by simp
  | c :: r, h => by
    simp only [List.all_cons, Bool.and_eq_true] at h
    simp only [List.cons_append, spanN, h.1, if_true, List.length_cons, spanN_full y r h.2]; omega
theorem spanN_in {p : Int → Bool} (y : List UInt8) : ∀ x : List UInt8, spanN p x < x.length → spanN p (x ++ y) = spanN p x
  | [], h => by simp at h
  | c :: r, h => by
    simp only [List.cons_append, spanN] at h ⊢
    by_cases hc : p c.toNat = true
    · rw [if_pos hc] at h ⊢; rw [if_pos hc, spanN_in y r (by simp at h; exact h)]
    · rw [if_neg hc, if_neg hc]
theorem index_app (m : List UInt8) (c : UInt8) : ∀ l : List UInt8, 0 ≤ indexByte l c → indexByte (l ++ m) c = indexByte l c
  | [], h => by simp [indexByte] at h
  | b :: l, h => by
    simp only [List.cons_append, indexByte] at h ⊢
    split at h
    · rename_i q; rw [if_pos q, if_pos q]
    · rename_i q
      rw [if_neg q, if_neg q]
      split at h
      · omega
      · rename_i q2
        have := indexByte_lt l c
        rw [index_app m c l (by simp at q2; omega)]
theorem signs_noblank : ∀ q ∈ signsF, ∀ e ∈ q, blankI ((e : UInt8).toNat : Int) = false := by decide
theorem blank_sign {d : UInt8} (h : blankI (d.toNat : Int) = true) : signI d.toNat = false ∧ digitI d.toNat = false := by
  unfold blankI at h
  simp only [Bool.or_eq_true, beq_iff_eq] at h
  unfold signI letterI digitI
  rcases h with (h | h) | h <;> rw [h] <;> decide
theorem best_app {x y : List UInt8} {d : UInt8} (hd : blankI (d.toNat : Int) = true) (h0 : bestSign x ≠ []) : bestSign (x ++ d :: y) = bestSign x := by
  refine isBest_unique (best_isBest _) ?_
  rcases best_isBest x with h | ⟨h1, h2, h3⟩
  · exact absurd h.1 h0
  · refine .inr ⟨h1, pre_iff.2 ((pre_iff.1 h2).trans (List.prefix_append _ _)), fun q hq hp => h3 q hq (pre_iff.2 ?_)⟩
    have hp := pre_iff.1 hp
    rcases Nat.lt_or_ge x.length q.length with hl | hl
    · exfalso
      have hp2 : x ++ [d] <+: q := by
        refine List.prefix_of_prefix_length_le (l₃ := x ++ d :: y) ⟨y, by simp⟩ hp (by simp; omega)
      obtain ⟨w, hw⟩ := hp2
      have := signs_noblank q hq d (by rw [← hw]; simp)
      rw [hd] at this; cases this
    · exact List.prefix_of_prefix_length_le hp (List.prefix_append _ _) hl
theorem first_app {x y : List UInt8} {d : UInt8} (hd : blankI (d.toNat : Int) = true) (hb : firstB x = true) (hk : (firstT x).k ≠ 5) : firstT (x ++ d :: y) = firstT x ∧ firstB (x ++ d :: y) = true := by
  have h0 : x ≠ [] := by intro e; exact hk (first_end.2 e)
  obtain ⟨hs1, hs2⟩ := blank_sign hd
  have h0' : x ++ d :: y ≠ [] := by simp
  have hg : (x ++ d :: y).getD 0 0 = x.getD 0 0 := by
    cases x with
    | nil => exact absurd rfl h0
    | cons c r => rfl
  have hdr : (x ++ d :: y).drop 1 = x.drop 1 ++ d :: y := by
    cases x with
    | nil => exact absurd rfl h0
    | cons c r => rfl
  have e1 : wordN (x ++ d :: y) = wordN x := by
    unfold wordN; rw [spanN_stop hs1, List.take_append_of_le_length (spanN_le _ _)]
  have e2 : digitN (x ++ d :: y) = digitN x := by
    unfold digitN; rw [spanN_stop hs2, List.take_append_of_le_length (spanN_le _ _)]
  have e3 : spanN digitI ((x ++ d :: y).drop 1) = spanN digitI (x.drop 1) := by rw [hdr, spanN_stop hs2]
  have hx1 : 0 < x.length := List.length_pos_iff.2 h0
  have e4 : minusN (x ++ d :: y) = minusN x := by
    unfold minusN
    have := spanN_le digitI (x.drop 1)
    rw [List.length_drop] at this
    rw [e3, List.take_append_of_le_length (by omega)]
  unfold firstT firstB at *
  rw [if_neg h0] at hb hk
  rw [if_neg h0', if_neg h0', if_neg h0, hg, e1, e2, e3, e4]
  by_cases h1 : letterI (x.getD 0 0).toNat = true
  · simp only [if_pos h1] at hb ⊢; exact ⟨trivial, hb⟩
  · simp only [if_neg h1] at hb ⊢
    by_cases h2 : digitI (x.getD 0 0).toNat = true
    · simp only [if_pos h2] at hb ⊢; exact ⟨trivial, hb⟩
    · simp only [if_neg h2] at hb ⊢
      by_cases h3 : (((x.getD 0 0).toNat : Int) == 45 && decide (0 < (spanN digitI (x.drop 1) : Int))) = true
      · simp only [if_pos h3] at hb ⊢; exact ⟨trivial, hb⟩
      · simp only [if_neg h3] at hb ⊢
        by_cases h4 : (((x.getD 0 0).toNat : Int) == 34) = true
        · simp only [if_pos h4] at hb ⊢
          by_cases h5 : indexByte (x.drop 1) 34 < 0
          · rw [if_pos h5] at hb; cases hb
          · simp only [if_neg h5] at hb
            have ei : indexByte ((x ++ d :: y).drop 1) 34 = indexByte (x.drop 1) 34 := by rw [hdr]; exact index_app _ _ _ (by omega)
            have hi := indexByte_lt (x.drop 1) 34
            rw [List.length_drop] at hi
            have et : textN (x ++ d :: y) = textN x := by
              unfold textN; rw [ei, List.take_append_of_le_length (by omega)]
            simp only [ei, if_neg h5, et]; exact ⟨trivial, hb⟩
        · simp only [if_neg h4] at hb ⊢
          have e := best_app (x := x) (y := y) hd (by simpa using hb)
          rw [e]; exact ⟨rfl, hb⟩
theorem lexAt_next {z : List UInt8} {a b : Nat} (ha : a ≤ z.length) (hb : b ≤ z.length) (h : nextA z a = nextA z b) : lexAt z a = lexAt z b := by
  rw [lexAt_eq ha, lexAt_eq hb, h]
/-- the first text, blanks, and what stands behind them -/
theorem behind_first {s y : List UInt8} {d : UInt8} {c b : List UInt8} (hy : d :: y = c ++ b) (hd : blankI (d.toNat : Int) = true) (hc : c.all (fun e => blankI e.toNat) = true) : ∀ (n a : Nat), s.length - a < n → a ≤ s.length → (lexAt s a).2 = none →
    lexAt (s ++ d :: y) a = ((lexAt s a).1.dropLast ++ (lexAt (s ++ d :: y) (s.length + c.length)).1, (lexAt (s ++ d :: y) (s.length + c.length)).2)
  | 0, a, h, _, _ => absurd h (by omega)
  | n + 1, a, hn, ha, e => by
    have hna := nextA_le ha
    have hn2 : a ≤ nextA s a := by unfold nextA; omega
    have hz : (s ++ d :: y).length = s.length + c.length + b.length := by rw [hy]; simp; omega
    cases hb : firstB (s.drop (nextA s a)) with
    | false => rw [lexAt_no ha hb] at e; cases e
    | true =>
      obtain ⟨t1, t2⟩ := thenA_le ha hb
      by_cases hk : (firstT (s.drop (nextA s a))).k = 5
      · rw [lexAt_end ha hb hk]
        have he := first_end.1 hk
        have hl : nextA s a = s.length := by
          have : (s.drop (nextA s a)).length = 0 := by rw [he]; rfl
          rw [List.length_drop] at this; omega
        have hall : (s.drop a).all (fun e => blankI e.toNat) = true := by
          have h1 := span_all blankI (s.drop a)
          have h2 : (s.drop a).take (spanN blankI (s.drop a)) = s.drop a := List.take_of_length_le (by rw [List.length_drop]; unfold nextA at hl; omega)
          rwa [h2] at h1
        have q : nextA (s ++ d :: y) a = nextA (s ++ d :: y) (s.length + c.length) := by
          have d1 : (s ++ d :: y).drop a = s.drop a ++ (c ++ b) := by rw [hy, List.drop_append_of_le_length ha]
          have d2 : (s ++ d :: y).drop (s.length + c.length) = b := by rw [hy, ← List.append_assoc, List.drop_left' (by simp)]
          unfold nextA
          rw [d1, d2, spanN_full _ _ hall, spanN_full _ _ hc, List.length_drop]; omega
        rw [lexAt_next (by omega) (by omega) q]; rfl
      · have hlt := t2.resolve_left hk
        have hxn : s.drop (nextA s a) ≠ [] := fun e => hk (first_end.2 e)
        have hlt2 : nextA s a < s.length := by
          have := List.length_pos_iff.2 hxn; rw [List.length_drop] at this; omega
        have q1 : nextA (s ++ d :: y) a = nextA s a := by
          unfold nextA
          rw [List.drop_append_of_le_length ha, spanN_in _ _ (by rw [List.length_drop]; unfold nextA at hlt2; omega)]
        have q2 : (s ++ d :: y).drop (nextA (s ++ d :: y) a) = s.drop (nextA s a) ++ d :: y := by rw [q1, List.drop_append_of_le_length hna]
        have q3 := first_app (y := y) hd hb hk
        have q4 : thenA (s ++ d :: y) a = thenA s a := by unfold thenA; rw [q2, q3.1, q1]
        have q5 : tokA (s ++ d :: y) a = tokA s a := by unfold tokA; rw [q2, q3.1, q1]
        rw [lexAt_on ha hb hk] at e
        rw [lexAt_on (by omega) (by rw [q2]; exact q3.2) (by rw [q2, q3.1]; exact hk), lexAt_on ha hb hk, q4, q5, behind_first hy hd hc n (thenA s a) (by omega) t1 e]
        have hne := lexAt_ne t1 e
        simp only [List.dropLast_cons_of_ne_nil hne, List.cons_append]
def shiftT (p : Nat) (t : Tk) : Tk := ⟨t.k, t.t, t.a + p, t.v⟩
theorem behind_last {z b : List UInt8} {p : Nat} (hp : p ≤ z.length) (hd : z.drop p = b) : ∀ (n a : Nat), b.length - a < n → a ≤ b.length →
    lexAt z (p + a) = ((lexAt b a).1.map (shiftT p), (lexAt b a).2.map (p + ·))
  | 0, a, h, _ => absurd h (by omega)
  | n + 1, a, hn, ha => by
    have hz : z.length = p + b.length := by rw [← hd, List.length_drop]; omega
    have q1 : nextA z (p + a) = p + nextA b a := by unfold nextA; rw [← List.drop_drop, hd]; omega
    have q2 : z.drop (nextA z (p + a)) = b.drop (nextA b a) := by rw [q1, ← List.drop_drop, hd]
    have q4 : thenA z (p + a) = p + thenA b a := by unfold thenA; rw [q2, q1]; omega
    have q5 : tokA z (p + a) = shiftT p (tokA b a) := by
      unfold tokA shiftT Tk.at'; rw [q2, q1]; simp; omega
    cases hb : firstB (b.drop (nextA b a)) with
    | false => rw [lexAt_no ha hb, lexAt_no (by omega) (by rw [q2]; exact hb), q1]; rfl
    | true =>
      obtain ⟨t1, t2⟩ := thenA_le ha hb
      by_cases hk : (firstT (b.drop (nextA b a))).k = 5
      · rw [lexAt_end ha hb hk, lexAt_end (by omega) (by rw [q2]; exact hb) (by rw [q2]; exact hk), q5]; rfl
      · have hlt := t2.resolve_left hk
        rw [lexAt_on ha hb hk, lexAt_on (by omega) (by rw [q2]; exact hb) (by rw [q2]; exact hk), q4, q5, behind_last hp hd n (thenA b a) (by omega) t1]
        rfl
end Go.Proofs.YtmnponhhmkdcdaaDoor
