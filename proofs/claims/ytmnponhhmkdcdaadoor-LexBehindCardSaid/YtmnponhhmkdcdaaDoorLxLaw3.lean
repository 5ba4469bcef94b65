/- Contracts of functions of the seat, walked. -/
import Derived.Test.YtmnponhhmkdcdaaDoorLxLaw2
import Derived.Test.YtmnponhhmkdcdaaDoorL5
namespace Go.Proofs.YtmnponhhmkdcdaaDoor
open Go.Kin Go.Lib
def blankS (s : List UInt8) : Bool := s.all fun c => blankI c.toNat
theorem blank_drop {s : List UInt8} {i : Nat} (h : i < s.length) {b : Bool} (hb : blankI ((s.getD i 0).toNat : Int) = b) : blankS (s.drop i) = (b && blankS (s.drop (i + 1))) := by
  unfold blankS; rw [drop_getD h, List.all_cons, hb]
theorem nextA_take {s : List UInt8} {a A : Nat} (h : nextA s a ≤ A) (_ : A ≤ s.length) : nextA (s.take A) a = nextA s a := by
  unfold nextA at *
  rw [List.drop_take, spanN_take]; omega
theorem drop_take2 (s : List UInt8) (a A : Nat) : (s.take A).drop a = (s.drop a).take (A - a) := by rw [List.drop_take]
theorem cut_at {s : List UInt8} {A : Nat} : ∀ (n a : Nat), s.length - a < n → a ≤ s.length → (lexAt s a).2 = some A → A < s.length ∧ a ≤ A ∧ blankI ((s.getD A 0).toNat : Int) = false ∧ (lexAt (s.take A) a).2 = none
  | 0, a, h, _, _ => absurd h (by omega)
  | n + 1, a, hn, ha, e => by
    have hna := nextA_le ha
    have hn2 : a ≤ nextA s a := by unfold nextA; omega
    cases hb : firstB (s.drop (nextA s a)) with
    | false =>
      rw [lexAt_no ha hb] at e
      obtain rfl : nextA s a = A := by simpa using e
      have hlt : nextA s a < s.length := by
        rcases Nat.lt_or_ge (nextA s a) s.length with h | h
        · exact h
        · rw [List.drop_eq_nil_of_le h] at hb; cases hb
      refine ⟨hlt, hn2, ?_, ?_⟩
      · have := spanN_max (p := blankI) (z := s.drop a) (by rw [List.length_drop]; unfold nextA at hlt; omega)
        simpa [nextA, List.getD_eq_getElem?_getD, List.getElem?_drop] using this
      · have hl : (s.take (nextA s a)).length = nextA s a := by rw [List.length_take]; omega
        have e1 := nextA_take (s := s) (a := a) (Nat.le_refl _) hna
        have e2 : (s.take (nextA s a)).drop (nextA s a) = [] := List.drop_eq_nil_of_le (by omega)
        rw [lexAt_end (by omega) (by rw [e1, e2]; rfl) (by rw [e1, e2]; rfl)]
    | true =>
      obtain ⟨t1, t2⟩ := thenA_le ha hb
      by_cases hk : (firstT (s.drop (nextA s a))).k = 5
      · rw [lexAt_end ha hb hk] at e; cases e
      · rw [lexAt_on ha hb hk] at e
        have hlt := t2.resolve_left hk
        obtain ⟨q1, q2, q3, q4⟩ := cut_at n (thenA s a) (by omega) t1 e
        refine ⟨q1, by omega, q3, ?_⟩
        have hA : nextA s a + (firstT (s.drop (nextA s a))).t.length ≤ A := q2
        have hl : (s.take A).length = A := by rw [List.length_take]; omega
        have e1 := nextA_take (s := s) (a := a) (A := A) (by omega) (by omega)
        have e2 := first_take hb hk (n := A - nextA s a) (by omega)
        have e3 : (s.take A).drop (nextA (s.take A) a) = (s.drop (nextA s a)).take (A - nextA s a) := by rw [e1, drop_take2]
        have e4 : thenA (s.take A) a = thenA s a := by unfold thenA; rw [e3, e2.1, e1]
        rw [lexAt_on (by omega) (by rw [e3]; exact e2.2) (by rw [e3, e2.1]; exact hk), e4]
        exact q4
theorem lexE_or (s : List UInt8) : (2000 < s.length ∧ lexE s = 3) ∨ (s.length ≤ 2000 ∧ lexE s = 0 ∧ (lexAll s).2 = none ∧ lexT s = (lexAll s).1) ∨ (s.length ≤ 2000 ∧ lexE s = 7 ∧ lexT s = [] ∧ ∃ A : Nat, lexA s = A ∧ (lexAll s).2 = some A) := by
  unfold lexE lexT lexA
  rcases Nat.lt_or_ge 2000 s.length with h | h
  · exact .inl ⟨h, by rw [if_pos (by omega)]⟩
  · rw [if_neg (by omega), if_neg (by omega), if_neg (by omega)]
    cases e : (lexAll s).2 with
    | none => exact .inr (.inl ⟨h, rfl, rfl, rfl⟩)
    | some A => exact .inr (.inr ⟨h, rfl, rfl, A, rfl, rfl⟩)
theorem lex_cut {s : List UInt8} (h : lexE s = 7) : ∃ A : Nat, lexA s = A ∧ A < s.length ∧ s.length ≤ 2000 ∧ blankI ((s.getD A 0).toNat : Int) = false ∧ lexT s = [] ∧ lexE (s.take A) = 0 := by
  rcases lexE_or s with ⟨_, e⟩ | ⟨_, e, _⟩ | ⟨hl, _, e, A, e1, e2⟩
  · rw [h] at e; cases e
  · rw [h] at e; cases e
  · obtain ⟨q1, _, q3, q4⟩ := cut_at (s.length + 1) 0 (by omega) (Nat.zero_le _) e2
    refine ⟨A, e1, q1, hl, q3, e, ?_⟩
    have hl2 : (s.take A).length = A := by rw [List.length_take]; omega
    rcases lexE_or (s.take A) with ⟨h1, _⟩ | ⟨_, e, _⟩ | ⟨_, _, _, B, _, e3⟩
    · omega
    · exact e
    · have : (lexAt (s.take A) 0).2 = some B := e3
      rw [q4] at this; cases this
theorem first_a (z : List UInt8) : (firstT z).a = 0 := by
  unfold firstT
  repeat' split
  all_goals rfl
/-- a token's own text is that token -/
theorem lex_alone {x : List UInt8} (hb : firstB x = true) (hk : (firstT x).k ≠ 5) (h0 : spanN blankI x = 0) (hl : x.length ≤ 2000) : lexE (firstT x).t = 0 ∧ lexT (firstT x).t = [firstT x, ⟨5, [], (firstT x).t.length, v0⟩] := by
  have hw := first_text hb hk
  have hlen := first_len hb hk
  generalize hn : (firstT x).t.length = n at *
  rw [hw]
  have e2 := first_take hb hk (n := n) (by omega)
  have hl2 : (x.take n).length = n := by rw [List.length_take]; omega
  have e0 : nextA (x.take n) 0 = 0 := by unfold nextA; rw [List.drop_zero, spanN_take, h0]; omega
  have e1 : (x.take n).drop (nextA (x.take n) 0) = x.take n := by rw [e0, List.drop_zero]
  have e3 : thenA (x.take n) 0 = n := by unfold thenA; rw [e1, e0, e2.1, hn]; omega
  have e4 : nextA (x.take n) n = n := by
    unfold nextA; rw [List.drop_eq_nil_of_le (by omega)]; rfl
  have e5 : (x.take n).drop (nextA (x.take n) n) = [] := by rw [e4]; exact List.drop_eq_nil_of_le (by omega)
  have hA : lexAll (x.take n) = ([firstT x, ⟨5, [], n, v0⟩], none) := by
    show lexAt (x.take n) 0 = _
    rw [lexAt_on (Nat.zero_le _) (by rw [e1]; exact e2.2) (by rw [e1, e2.1]; exact hk), e3, lexAt_end (by omega) (by rw [e5]; rfl) (by rw [e5]; rfl)]
    unfold tokA
    rw [e1, e5, e2.1, e0, e4]
    have := first_a x
    congr 2
    · cases hf : firstT x; rw [hf] at this; simp at this; simp [Tk.at', this]
  rcases lexE_or (x.take n) with ⟨h1, _⟩ | ⟨_, e, _, e'⟩ | ⟨_, _, _, B, _, e3⟩
  · omega
  · exact ⟨e, by rw [e', hA]⟩
  · rw [hA] at e3; cases e3
end Go.Proofs.YtmnponhhmkdcdaaDoor
