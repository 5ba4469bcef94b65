/- Contracts of functions of the seat, walked. -/
import Derived.Test.YtmnponhhmkdcdaaDoorLxLaw
namespace Go.Kin
open Go.Lib
theorem spanN_take (p : Int → Bool) : ∀ (z : List UInt8) (n : Nat), spanN p (z.take n) = min n (spanN p z)
  | [], n => by simp [spanN]
  | c :: r, 0 => by simp [spanN]
  | c :: r, n + 1 => by
    have := spanN_take p r n
    simp only [List.take_succ_cons, spanN]
    split <;> omega
theorem spanN_max {p : Int → Bool} : ∀ {z : List UInt8} , spanN p z < z.length → p ((z.getD (spanN p z) 0).toNat) = false
  | [], h => by simp at h
  | c :: r, h => by
    simp only [spanN] at h ⊢
    by_cases hc : p c.toNat = true
    · rw [if_pos hc] at h ⊢
      have := spanN_max (p := p) (z := r) (by simp at h; exact h)
      simpa using this
    · rw [if_neg hc] at h ⊢
      simpa using hc
theorem spanN_zero {p : Int → Bool} {s : List UInt8} : spanN p (s.drop (spanN p s)) = 0 := by
  by_cases h : spanN p s < s.length
  · rw [spanN_drop h (spanN_max h)]; simp
  · have := spanN_le p s
    have e : s.drop (spanN p s) = [] := List.drop_eq_nil_of_le (by omega)
    rw [e]; rfl
theorem index_take : ∀ (l : List UInt8) (c : UInt8) (m : Nat), 0 ≤ indexByte l c → indexByte l c < (m : Int) → indexByte (l.take m) c = indexByte l c
  | [], c, m, _, _ => by simp
  | b :: l, c, 0, h1, h2 => by omega
  | b :: l, c, m + 1, h1, h2 => by
    simp only [List.take_succ_cons, indexByte] at *
    split at h1
    · rename_i h; rw [if_pos h, if_pos h]
    · rename_i h
      rw [if_neg h, if_neg h]
      rw [if_neg h] at h2
      split at h1
      · omega
      · rename_i hq
        rw [if_neg hq] at h2
        have := index_take l c m (by have := indexByte_lt l c; simp at hq; omega) (by omega)
        rw [this]
theorem pre_iff {s p : List UInt8} : hasPrefix s p = true ↔ p <+: s := by unfold hasPrefix; rw [List.isPrefixOf_iff_prefix]
theorem bestSign_take {z : List UInt8} {n : Nat} (h0 : bestSign z ≠ []) (hn : (bestSign z).length ≤ n) : bestSign (z.take n) = bestSign z := by
  refine isBest_unique (best_isBest _) ?_
  rcases best_isBest z with h | ⟨h1, h2, h3⟩
  · exact absurd h.1 h0
  · refine .inr ⟨h1, ?_, fun x hx hp => h3 x hx (pre_iff.2 ((pre_iff.1 hp).trans (List.take_prefix _ _)))⟩
    rw [pre_iff] at h2 ⊢
    exact List.prefix_take_iff.2 ⟨h2, hn⟩
theorem first_take {z : List UInt8} {n : Nat} (hb : firstB z = true) (hk : (firstT z).k ≠ 5) (hn : (firstT z).t.length ≤ n) : firstT (z.take n) = firstT z ∧ firstB (z.take n) = true := by
  have hl := first_len hb hk
  have h0 : z ≠ [] := by intro e; exact hk (first_end.2 e)
  have hz : 0 < z.length := List.length_pos_iff.2 h0
  have h0' : z.take n ≠ [] := by
    intro e
    have : (z.take n).length = 0 := by rw [e]; rfl
    rw [List.length_take] at this; omega
  have hg : (z.take n).getD 0 0 = z.getD 0 0 := by
    cases z with
    | nil => exact absurd rfl h0
    | cons c r => cases n with
      | zero => omega
      | succ n => rfl
  have hd : (z.take n).drop 1 = (z.drop 1).take (n - 1) := by
    cases z with
    | nil => exact absurd rfl h0
    | cons c r => cases n with
      | zero => omega
      | succ n => rfl
  unfold firstT firstB at *
  rw [if_neg h0] at hb hk hn hl
  rw [if_neg h0', if_neg h0', if_neg h0, hg]
  by_cases h1 : letterI (z.getD 0 0).toNat = true
  · simp only [if_pos h1] at hb hk hn hl ⊢
    have e : wordN (z.take n) = wordN z := by
      unfold wordN
      rw [wordN_len] at hn
      rw [spanN_take, List.take_take]; congr 1; omega
    rw [e]; exact ⟨rfl, hb⟩
  · simp only [if_neg h1] at hb hk hn hl ⊢
    by_cases h2 : digitI (z.getD 0 0).toNat = true
    · simp only [if_pos h2] at hb hk hn hl ⊢
      have e : digitN (z.take n) = digitN z := by
        unfold digitN
        simp only [valuedT, digitN_len] at hn
        rw [spanN_take, List.take_take]; congr 1; omega
      rw [e]; exact ⟨rfl, hb⟩
    · simp only [if_neg h2] at hb hk hn hl ⊢
      have hsp := spanN_take digitI (z.drop 1) (n - 1)
      rw [hd, hsp]
      by_cases h3 : (((z.getD 0 0).toNat : Int) == 45 && decide (0 < (spanN digitI (z.drop 1) : Int))) = true
      · simp only [if_pos h3] at hb hk hn hl
        have hm : min (n - 1) (spanN digitI (z.drop 1)) = spanN digitI (z.drop 1) := by
          have := spanN_le digitI (z.drop 1)
          simp only [valuedT, minusN, List.length_take] at hn
          rw [List.length_drop] at this
          omega
        rw [hm]
        simp only [if_pos h3]
        have e : minusN (z.take n) = minusN z := by
          unfold minusN
          rw [hd, hsp, hm, List.take_take]
          have := spanN_le digitI (z.drop 1)
          simp only [valuedT, minusN, List.length_take] at hn
          rw [List.length_drop] at this
          congr 1; omega
        rw [e]; exact ⟨rfl, hb⟩
      · simp only [if_neg h3] at hb hk hn hl
        have h3' : ¬ (((z.getD 0 0).toNat : Int) == 45 && decide (0 < ((min (n - 1) (spanN digitI (z.drop 1)) : Nat) : Int))) = true := by
          intro h; apply h3
          simp only [Bool.and_eq_true, decide_eq_true_eq] at h ⊢
          exact ⟨h.1, by omega⟩
        simp only [if_neg h3', if_neg h3]
        by_cases h4 : (((z.getD 0 0).toNat : Int) == 34) = true
        · simp only [if_pos h4] at hb hk hn hl ⊢
          by_cases h5 : indexByte (z.drop 1) 34 < 0
          · rw [if_pos h5] at hb; cases hb
          · simp only [if_neg h5] at hb hk hn hl
            have hi := indexByte_lt (z.drop 1) 34
            have hle : (indexByte (z.drop 1) 34 + 2).toNat ≤ n := by
              simp only [valuedT, textN, List.length_take] at hn
              rw [List.length_drop] at hi
              omega
            have ei : indexByte ((z.drop 1).take (n - 1)) 34 = indexByte (z.drop 1) 34 := index_take _ _ _ (by omega) (by omega)
            rw [ei]
            simp only [if_neg h5]
            have e : textN (z.take n) = textN z := by
              unfold textN
              rw [hd, ei, List.take_take]
              congr 1; omega
            rw [e]; exact ⟨rfl, hb⟩
        · simp only [if_neg h4] at hb hk hn hl ⊢
          have e := bestSign_take (z := z) (n := n) (by simpa using hb) hn
          rw [e]; exact ⟨rfl, hb⟩
theorem first_text {z : List UInt8} (hb : firstB z = true) (hk : (firstT z).k ≠ 5) : (firstT z).t = z.take (firstT z).t.length := by
  have h0 : z ≠ [] := by intro e; exact hk (first_end.2 e)
  unfold firstT firstB at *
  rw [if_neg h0] at hb hk ⊢
  by_cases h1 : letterI (z.getD 0 0).toNat = true
  · simp only [if_pos h1]; unfold wordN; rw [List.length_take, ← List.take_take, List.take_length]
  · simp only [if_neg h1] at hb hk ⊢
    by_cases h2 : digitI (z.getD 0 0).toNat = true
    · simp only [if_pos h2, valuedT]; unfold digitN; rw [List.length_take, ← List.take_take, List.take_length]
    · simp only [if_neg h2] at hb hk ⊢
      by_cases h3 : (((z.getD 0 0).toNat : Int) == 45 && decide (0 < (spanN digitI (z.drop 1) : Int))) = true
      · simp only [if_pos h3, valuedT]; unfold minusN; rw [List.length_take, ← List.take_take, List.take_length]
      · simp only [if_neg h3] at hb hk ⊢
        by_cases h4 : (((z.getD 0 0).toNat : Int) == 34) = true
        · simp only [if_pos h4] at hb hk ⊢
          by_cases h5 : indexByte (z.drop 1) 34 < 0
          · rw [if_pos h5] at hb; cases hb
          · simp only [if_neg h5, valuedT]; unfold textN; rw [List.length_take, ← List.take_take, List.take_length]
        · simp only [if_neg h4] at hb hk ⊢
          rcases bestSign_mem z with h | h
          · simp at hb; exact absurd h hb
          · exact prefix_take h.2
end Go.Kin
