/- Numerals: what is shown is read, and shown the same. -/
import Derived.Lib.AtoiTie
import Derived.Lib.ItoaNum
import Derived.Test.YtmnponhhmkdcdaaGreatDoorKCore
namespace Go.Kin
open Go.Lib

/-! ### numerals: what is shown is read, and shown the same -/
theorem ofNat_toNat {n : Nat} (h : n < 256) : (UInt8.ofNat n).toNat = n := by simp; omega
theorem digit_val {u : Nat} (h : u < 10) : digitVal (UInt8.ofNat (48 + u)) = some u := by
  unfold digitVal
  rw [ofNat_toNat (by omega), if_pos (by omega)]; congr 1; omega
theorem decFrom_snoc (b : UInt8) : ∀ (l : List UInt8) (acc : Nat), decFrom acc (l ++ [b]) = (decFrom acc l).bind fun m => (digitVal b).map fun d => m * 10 + d
  | [], acc => by simp only [List.nil_append, decFrom]; cases digitVal b <;> rfl
  | c :: l, acc => by
    simp only [List.cons_append, decFrom]
    cases digitVal c with
    | none => rfl
    | some d => exact decFrom_snoc b l _
theorem decDigits_small {u : Nat} (h : u < 10) : decDigits u = [UInt8.ofNat (48 + u)] := by rw [decDigits, dif_pos h]
theorem decDigits_big {u : Nat} (h : ¬ u < 10) : decDigits u = decDigits (u / 10) ++ [UInt8.ofNat (48 + u % 10)] := by rw [decDigits, dif_neg h]
theorem decDigits_ne (u : Nat) : decDigits u ≠ [] := fun h => by
  have := decDigits_length u; rw [h] at this; have := nDigits_pos u; simp at *; omega
theorem dec_digits (u : Nat) : decFrom 0 (decDigits u) = some u := by
  induction u using Nat.strongRecOn with
  | _ u ih =>
    by_cases h : u < 10
    · rw [decDigits_small h]; simp only [decFrom, digit_val h]; congr 1; omega
    · rw [decDigits_big h, decFrom_snoc, ih (u / 10) (by omega), digit_val (by omega)]
      simp only [Option.bind_some, Option.map_some, Option.some.injEq]; omega
/-- the first digit of what is not 0 is not 0 -/
theorem digits_head (u : Nat) (h0 : u ≠ 0) : ∃ c r, decDigits u = c :: r ∧ 49 ≤ c.toNat ∧ c.toNat ≤ 57 := by
  induction u using Nat.strongRecOn with
  | _ u ih =>
    by_cases h : u < 10
    · rw [decDigits_small h]; exact ⟨_, _, rfl, by rw [ofNat_toNat (by omega)]; omega, by rw [ofNat_toNat (by omega)]; omega⟩
    · obtain ⟨c, r, e, h1, h2⟩ := ih (u / 10) (by omega) (by omega)
      rw [decDigits_big h, e]; exact ⟨c, _, rfl, h1, h2⟩
theorem digits_zero : decDigits 0 = [48] := by rw [decDigits_small (by omega)]; rfl
theorem digits_head' (u : Nat) : ∃ c r, decDigits u = c :: r ∧ 48 ≤ c.toNat ∧ c.toNat ≤ 57 := by
  by_cases h : u = 0
  · subst h; rw [digits_zero]; exact ⟨48, [], rfl, by decide, by decide⟩
  · obtain ⟨c, r, e, h1, h2⟩ := digits_head u h; exact ⟨c, r, e, by omega, h2⟩
theorem digitVal_some {b : UInt8} {d : Nat} (h : digitVal b = some d) : d < 10 ∧ b = UInt8.ofNat (48 + d) := by
  unfold digitVal at h
  split at h
  · rename_i hb
    simp at h; subst h
    refine ⟨by omega, ?_⟩
    apply UInt8.toNat_inj.1
    rw [ofNat_toNat (by omega)]; omega
  · cases h
/-- digits that do not begin with 0, or are 0, are the numeral of what they spell -/
theorem digits_canon : ∀ (n : Nat) (d : List UInt8) (m : Nat), d.length = n → decFrom 0 d = some m → d ≠ [] → (d.head? ≠ some 48 ∨ d = [48]) → d = decDigits m := by
  intro n
  induction n with
  | zero => intro d m hl _ hne; exact absurd (List.eq_nil_of_length_eq_zero hl) hne
  | succ n ih =>
    intro d m hl hd hne hh
    obtain ⟨d', b, rfl⟩ : ∃ d' b, d = d' ++ [b] := ⟨d.dropLast, d.getLast hne, (List.dropLast_concat_getLast hne).symm⟩
    rw [decFrom_snoc] at hd
    cases hd' : decFrom 0 d' with
    | none => rw [hd'] at hd; cases hd
    | some m' =>
      rw [hd'] at hd
      cases hb : digitVal b with
      | none => rw [hb] at hd; cases hd
      | some v =>
        rw [hb] at hd
        simp at hd
        obtain ⟨h1, h2⟩ := digitVal_some hb
        by_cases he : d' = []
        · subst he
          simp only [decFrom, Option.some.injEq] at hd'
          subst hd'
          have : m = v := by omega
          subst this
          rw [decDigits_small h1, h2]; rfl
        · have hh' : d'.head? ≠ some 48 := by
            rcases hh with hh | hh
            · intro e; apply hh; cases d' with
              | nil => cases e
              | cons x r => simpa using e
            · cases d' with
              | nil => exact absurd rfl he
              | cons x r => simp at hh
          have e := ih d' m' (by simp at hl; exact hl) hd' he (.inl hh')
          have hm : m' ≠ 0 := fun e0 => by subst e0; rw [e, digits_zero] at hh'; exact hh' rfl
          have : ¬ m < 10 := by omega
          rw [decDigits_big this, show m / 10 = m' by omega, show m % 10 = v by omega, ← e, h2]
/-- what Atoi gives, whatever the text -/
def atoiN (s : List UInt8) : Int := match atoiAll s with
  | .ok v => v
  | .range => atoiSat s
  | _ => 0
def okNum (n : Int) : Prop := -1099511627776 ≤ n ∧ n ≤ 1099511627776
theorem digits_len {u : Nat} (h : u < 10 ^ 13) : (decDigits u).length ≤ 13 := by
  rw [decDigits_length]
  by_cases hh : nDigits u ≤ 13
  · exact hh
  · exfalso
    have : ∀ (k u : Nat), k + 1 ≤ nDigits u → 10 ^ k ≤ u ∨ k = 0 := by
      intro k
      induction k with
      | zero => intro u _; exact .inr rfl
      | succ k ih =>
        intro u hu
        by_cases hs : u < 10
        · rw [nDigits_small hs] at hu; omega
        · rw [nDigits_big hs] at hu
          left
          rcases ih (u / 10) (by omega) with h | h
          · rw [Nat.pow_succ]; omega
          · subst h; simp; omega
    rcases this 13 u (by omega) with h' | h' <;> omega
theorem decNat_digits (u : Nat) : decNat (decDigits u) = some u := by
  unfold decNat
  rw [if_neg (by simp [decDigits_ne]), dec_digits]
theorem atoi_itoa (n : Int) : atoi (itoa n) = some n := by
  unfold itoa
  by_cases h : n < 0
  · rw [if_pos h]
    simp only [atoi]
    rw [if_pos (by decide), decNat_digits]
    simp; omega
  · rw [if_neg h]
    obtain ⟨c, r, e, h1, h2⟩ := digits_head' n.toNat
    rw [e]
    simp only [atoi]
    have hc : ∀ x : UInt8, x.toNat < 48 → (c == x) = false := fun x hx => by
      rw [beq_eq_false_iff_ne]; rintro rfl; omega
    rw [if_neg (by rw [hc 45 (by decide)]; decide), if_neg (by rw [hc 43 (by decide)]; decide), ← e, decNat_digits]
    simp; omega
theorem itoa_len {n : Int} (h : okNum n) : (itoa n).length ≤ 14 := by
  unfold okNum at h
  unfold itoa
  split
  · have := digits_len (u := n.natAbs) (by omega)
    simp; omega
  · have := digits_len (u := n.toNat) (by omega)
    omega
theorem atoiN_itoa {n : Int} (h : okNum n) : atoiN (itoa n) = n := by
  unfold atoiN
  rw [atoiAll_short _ (by have := itoa_len h; omega), atoi_itoa]
  rfl
/-- the document's way to read a number -/
def numberV (s : List UInt8) : Option Int :=
  let d := if s.head? = some 45 then s.tail else s
  if d = [] ∨ 13 < d.length ∨ (d.head? = some 48 ∧ s ≠ [48]) then none
  else match decFrom 0 d with
    | none => none
    | some m => some (if d.length < s.length then -(m : Int) else m)
theorem number_itoa {n : Int} (h : okNum n) : numberV (itoa n) = some n := by
  have hk : n.natAbs < 10 ^ 13 ∧ n.toNat < 10 ^ 13 := by unfold okNum at h; omega
  unfold itoa
  by_cases h0 : n < 0
  · rw [if_pos h0]
    obtain ⟨c, r, e, h1, h2⟩ := digits_head n.natAbs (by omega)
    have hl := digits_len hk.1
    unfold numberV
    simp only [List.head?_cons, if_true, List.tail_cons]
    rw [if_neg, dec_digits]
    · simp; omega
    · rintro (h3 | h3 | ⟨h3, _⟩)
      · exact decDigits_ne _ h3
      · omega
      · rw [e] at h3; simp at h3; subst h3; exact absurd h1 (by decide)
  · rw [if_neg h0]
    obtain ⟨c, r, e, h1, h2⟩ := digits_head' n.toNat
    have hl := digits_len hk.2
    have hc : (decDigits n.toNat).head? ≠ some 45 := by rw [e]; simp; rintro rfl; exact absurd h1 (by decide)
    unfold numberV
    simp only [if_neg hc]
    rw [if_neg, dec_digits]
    · simp; omega
    · rintro (h3 | h3 | ⟨h3, h4⟩)
      · exact decDigits_ne _ h3
      · omega
      · by_cases hz : n.toNat = 0
        · rw [hz, digits_zero] at h4; exact h4 rfl
        · obtain ⟨c', r', e', h1', _⟩ := digits_head n.toNat hz
          rw [e'] at h3; simp at h3; subst h3; exact absurd h1' (by decide)
theorem itoa_number {s : List UInt8} {n : Int} (h : numberV s = some n) : s = itoa n := by
  by_cases hs : s.head? = some 45
  · obtain ⟨r, rfl⟩ : ∃ r, s = 45 :: r := by
      cases s with
      | nil => cases hs
      | cons x r => simp at hs; subst hs; exact ⟨r, rfl⟩
    unfold numberV at h
    simp only [List.head?_cons, if_true, List.tail_cons] at h
    by_cases hn : r = [] ∨ 13 < r.length ∨ (r.head? = some 48 ∧ (45 :: r : List UInt8) ≠ [48])
    · rw [if_pos hn] at h; cases h
    rw [if_neg hn] at h
    have h1 : r ≠ [] := fun e => hn (.inl e)
    have h2 : r.head? ≠ some 48 := fun e => hn (.inr (.inr ⟨e, by simp⟩))
    cases hd : decFrom 0 r with
    | none => rw [hd] at h; cases h
    | some m =>
      rw [hd] at h
      simp at h
      have e := digits_canon _ r m rfl hd h1 (.inl h2)
      have hm : m ≠ 0 := fun e0 => by subst e0; rw [e, digits_zero] at h2; exact h2 rfl
      unfold itoa
      rw [if_pos (by omega), e]
      congr 2; omega
  · unfold numberV at h
    simp only [if_neg hs] at h
    by_cases hn : s = [] ∨ 13 < s.length ∨ (s.head? = some 48 ∧ s ≠ [48])
    · rw [if_pos hn] at h; cases h
    rw [if_neg hn] at h
    have h1 : s ≠ [] := fun e => hn (.inl e)
    have h2 : s.head? ≠ some 48 ∨ s = [48] := by
      by_cases e : s = [48]
      · exact .inr e
      · exact .inl fun e' => hn (.inr (.inr ⟨e', e⟩))
    cases hd : decFrom 0 s with
    | none => rw [hd] at h; cases h
    | some m =>
      rw [hd] at h
      simp at h
      have e := digits_canon _ s m rfl hd h1 h2
      unfold itoa
      rw [if_neg (by omega), e]
      congr 1; omega
theorem itoa_not_quote (n : Int) : (itoa n).head? ≠ some 34 := by
  unfold itoa
  split
  · simp
  · obtain ⟨c, r, e, h1, h2⟩ := digits_head' n.toNat
    rw [e]; simp; rintro rfl; exact absurd h1 (by decide)
end Go.Kin
