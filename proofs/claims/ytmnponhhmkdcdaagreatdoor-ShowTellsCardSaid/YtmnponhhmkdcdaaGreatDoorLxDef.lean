/- Words of queries, as functions of lists. -/
import Derived.Test.YtmnponhhmkdcdaaGreatDoorVDef
import Derived.Test.YtmnponhhmkdcdaaGreatDoorKRow
import Derived.Lib.Bytealg
import Derived.Lib.Fields
namespace Go.Kin
open Go.Lib

/-! ### words of queries, as functions of lists -/
def letterI (n : Int) : Bool := decide (97 ≤ n) && decide (n ≤ 122)
def digitI (n : Int) : Bool := decide (48 ≤ n) && decide (n ≤ 57)
def signI (n : Int) : Bool := letterI n || digitI n || n == 95
def blankI (n : Int) : Bool := n == 32 || n == 9 || n == 10
/-- how many bytes from the begin on something is so of -/
def spanN (p : Int → Bool) : List UInt8 → Nat
  | [] => 0
  | c :: r => if p c.toNat = true then spanN p r + 1 else 0
theorem spanN_le (p : Int → Bool) : ∀ s : List UInt8, spanN p s ≤ s.length
  | [] => Nat.le_refl _
  | c :: r => by
    have := spanN_le p r
    simp only [spanN, List.length_cons]; split <;> omega
theorem getD_cons (c : UInt8) (r : List UInt8) (i : Nat) : (c :: r).getD (i + 1) 0 = r.getD i 0 := by simp
theorem drop_getD {s : List UInt8} {i : Nat} (h : i < s.length) : s.drop i = s.getD i 0 :: s.drop (i + 1) := by
  rw [List.drop_eq_getElem_cons h, List.getD_eq_getElem?_getD, List.getElem?_eq_getElem h]; rfl
theorem spanN_drop {p : Int → Bool} {s : List UInt8} {i : Nat} (h : i < s.length) {b : Bool} (hb : p ((s.getD i 0).toNat : Int) = b) : spanN p (s.drop i) = if b = true then spanN p (s.drop (i + 1)) + 1 else 0 := by
  rw [drop_getD h]; simp only [spanN, hb]
def vertexB (s : List UInt8) : Bool := s.all (fun c => signI c.toNat) && (!(s == []) && decide ((s.length : Int) ≤ 20))
structure Tk where
  k : Int
  t : List UInt8
  a : Int
  v : Vl
  deriving DecidableEq, Inhabited
def v0 : Vl := ⟨0, 0, []⟩
def valuedT (w : List UInt8) (k : Int) : Tk := ⟨k, w, 0, parseV w⟩
def signsF : List (List UInt8) := [[40], [41], [91], [93], [44], [46], [124], [42], [43], [63], [61], [33, 61], [60], [60, 61], [62], [62, 61], [45, 91], [93, 45, 62], [61, 91], [93, 61, 62]]
def bestStep (s best x : List UInt8) : List UInt8 := if (hasPrefix s x && decide ((best.length : Int) < (x.length : Int))) = true then x else best
def bestSign (s : List UInt8) : List UInt8 := signsF.foldl (bestStep s) []
def wordN (s : List UInt8) : List UInt8 := s.take (spanN signI s)
def digitN (s : List UInt8) : List UInt8 := s.take (spanN digitI s)
def minusN (s : List UInt8) : List UInt8 := s.take (1 + spanN digitI (s.drop 1))
def textN (s : List UInt8) : List UInt8 := s.take (indexByte (s.drop 1) 34 + 2).toNat
/-- the token with which a text begins, that begins with no blank -/
def firstT (s : List UInt8) : Tk :=
  if s = [] then ⟨5, [], 0, v0⟩
  else if letterI (s.getD 0 0).toNat = true then ⟨1, wordN s, 0, v0⟩
  else if digitI (s.getD 0 0).toNat = true then valuedT (digitN s) 2
  else if (((s.getD 0 0).toNat : Int) == 45 && decide (0 < (spanN digitI (s.drop 1) : Int))) = true then valuedT (minusN s) 2
  else if (((s.getD 0 0).toNat : Int) == 34) = true then (if indexByte (s.drop 1) 34 < 0 then ⟨0, [], 0, v0⟩ else valuedT (textN s) 3)
  else ⟨4, bestSign s, 0, v0⟩
/-- is there one? -/
def firstB (s : List UInt8) : Bool :=
  if s = [] then true
  else if letterI (s.getD 0 0).toNat = true then vertexB (wordN s)
  else if digitI (s.getD 0 0).toNat = true then parseE (digitN s) == 0
  else if (((s.getD 0 0).toNat : Int) == 45 && decide (0 < (spanN digitI (s.drop 1) : Int))) = true then parseE (minusN s) == 0
  else if (((s.getD 0 0).toNat : Int) == 34) = true then (if indexByte (s.drop 1) 34 < 0 then false else parseE (textN s) == 0)
  else !(bestSign s == [])
def Tk.at' (t : Tk) (a : Int) : Tk := ⟨t.k, t.t, a, t.v⟩
/-- the tokens of what is left of a text, from a place on; where there is none -/
def lexR : Nat → Nat → List UInt8 → List Tk × Option Nat
  | 0, a, _ => ([], some a)
  | f + 1, a, s =>
    if firstB (s.drop (spanN blankI s)) = false then ([], some (a + spanN blankI s))
    else if (firstT (s.drop (spanN blankI s))).k = 5 then ([(firstT (s.drop (spanN blankI s))).at' (a + spanN blankI s : Nat)], none)
    else ((firstT (s.drop (spanN blankI s))).at' (a + spanN blankI s : Nat) :: (lexR f (a + spanN blankI s + (firstT (s.drop (spanN blankI s))).t.length) ((s.drop (spanN blankI s)).drop (firstT (s.drop (spanN blankI s))).t.length)).1,
      (lexR f (a + spanN blankI s + (firstT (s.drop (spanN blankI s))).t.length) ((s.drop (spanN blankI s)).drop (firstT (s.drop (spanN blankI s))).t.length)).2)
theorem indexByte_lt : ∀ (l : List UInt8) (c : UInt8), -1 ≤ indexByte l c ∧ indexByte l c < l.length
  | [], c => by simp [indexByte]
  | b :: l, c => by
    have := indexByte_lt l c
    simp only [indexByte]
    split
    · simp <;> omega
    · split
      · simp <;> omega
      · rename_i h; simp at h; simp; omega
theorem bestSign_mem (s : List UInt8) : bestSign s = [] ∨ (bestSign s ∈ signsF ∧ hasPrefix s (bestSign s) = true) := by
  unfold bestSign
  have : ∀ (l : List (List UInt8)) (b : List UInt8), (b = [] ∨ (b ∈ signsF ∧ hasPrefix s b = true)) → (∀ x ∈ l, x ∈ signsF) → (l.foldl (bestStep s) b = [] ∨ (l.foldl (bestStep s) b ∈ signsF ∧ hasPrefix s (l.foldl (bestStep s) b) = true)) := by
    intro l
    induction l with
    | nil => intro b h _; exact h
    | cons x r ih =>
      intro b h hm
      refine ih _ ?_ (fun y hy => hm y (List.mem_cons_of_mem _ hy))
      unfold bestStep
      split
      · rename_i h'; simp at h'
        exact .inr ⟨hm x (List.mem_cons_self ..), h'.1⟩
      · exact h
  exact this _ _ (.inl rfl) (fun _ h => h)
theorem hasPrefix_le {s p : List UInt8} (h : hasPrefix s p = true) : p.length ≤ s.length := by
  unfold hasPrefix at h; rw [List.isPrefixOf_iff_prefix] at h; exact h.length_le
theorem wordN_len (s : List UInt8) : (wordN s).length = spanN signI s := by unfold wordN; simp [spanN_le]
theorem digitN_len (s : List UInt8) : (digitN s).length = spanN digitI s := by unfold digitN; simp [spanN_le]
/-- a token that is none of the end is some bytes of the text -/
theorem first_len {s : List UInt8} (hb : firstB s = true) (hk : (firstT s).k ≠ 5) : 0 < (firstT s).t.length ∧ (firstT s).t.length ≤ s.length := by
  unfold firstT firstB at *
  by_cases h0 : s = []
  · simp [h0] at hk
  · rw [if_neg h0] at hb hk ⊢
    have hl : 0 < s.length := List.length_pos_iff.2 h0
    have hs : s = s.getD 0 0 :: s.drop 1 := by have := drop_getD (s := s) (i := 0) hl; simpa using this
    by_cases h1 : letterI (s.getD 0 0).toNat = true
    · rw [if_pos h1]; simp only [wordN_len]
      refine ⟨?_, spanN_le _ _⟩
      rw [hs]; simp only [spanN]; rw [if_pos (by unfold signI; rw [h1]; rfl)]; omega
    · rw [if_neg h1] at hb hk ⊢
      by_cases h2 : digitI (s.getD 0 0).toNat = true
      · rw [if_pos h2]; simp only [valuedT, digitN_len]
        refine ⟨?_, spanN_le _ _⟩
        rw [hs]; simp only [spanN]; rw [if_pos h2]; omega
      · rw [if_neg h2] at hb hk ⊢
        by_cases h3 : (((s.getD 0 0).toNat : Int) == 45 && decide (0 < (spanN digitI (s.drop 1) : Int))) = true
        · rw [if_pos h3]; simp only [valuedT, minusN, List.length_take]
          have := spanN_le digitI (s.drop 1)
          simp at this; omega
        · rw [if_neg h3] at hb hk ⊢
          by_cases h4 : (((s.getD 0 0).toNat : Int) == 34) = true
          · rw [if_pos h4] at hb hk ⊢
            by_cases h5 : indexByte (s.drop 1) 34 < 0
            · rw [if_pos h5] at hb; cases hb
            · rw [if_neg h5]; simp only [valuedT, textN, List.length_take]
              have := indexByte_lt (s.drop 1) 34
              simp at this; omega
          · rw [if_neg h4] at hb hk ⊢
            simp at hb
            refine ⟨List.length_pos_iff.2 hb, ?_⟩
            rcases bestSign_mem s with h | h
            · exact absurd h hb
            · exact hasPrefix_le h.2
theorem first_end {s : List UInt8} : (firstT s).k = 5 ↔ s = [] := by
  unfold firstT
  by_cases h0 : s = []
  · simp [h0]
  · rw [if_neg h0]
    simp only [h0, iff_false]
    repeat' split
    all_goals simp [valuedT]
theorem lexR_fuel : ∀ (f g a : Nat) (s : List UInt8), s.length < f → s.length < g → lexR f a s = lexR g a s
  | 0, _, _, _, h, _ => absurd h (by omega)
  | _ + 1, 0, _, _, _, h => absurd h (by omega)
  | f + 1, g + 1, a, s, hf, hg => by
    simp only [lexR]
    split
    · rfl
    · split
      · rfl
      · rename_i h1 h2
        have hl := first_len (by simpa using h1) h2
        rw [lexR_fuel f g _ _ (by simp at hl ⊢; omega) (by simp at hl ⊢; omega)]
/-- from a place of a text on -/
def lexAt (s : List UInt8) (a : Nat) : List Tk × Option Nat := lexR (s.length + 1) a (s.drop a)
/-- where the next token begins -/
def nextA (s : List UInt8) (a : Nat) : Nat := a + spanN blankI (s.drop a)
theorem nextA_le {s : List UInt8} {a : Nat} (h : a ≤ s.length) : nextA s a ≤ s.length := by
  have := spanN_le blankI (s.drop a); simp at this; unfold nextA; omega
theorem lexAt_eq {s : List UInt8} {a : Nat} (h : a ≤ s.length) : lexAt s a =
    if firstB (s.drop (nextA s a)) = false then ([], some (nextA s a))
    else if (firstT (s.drop (nextA s a))).k = 5 then ([(firstT (s.drop (nextA s a))).at' (nextA s a : Nat)], none)
    else ((firstT (s.drop (nextA s a))).at' (nextA s a : Nat) :: (lexAt s (nextA s a + (firstT (s.drop (nextA s a))).t.length)).1, (lexAt s (nextA s a + (firstT (s.drop (nextA s a))).t.length)).2) := by
  have e : (s.drop a).drop (spanN blankI (s.drop a)) = s.drop (nextA s a) := by rw [List.drop_drop]; rfl
  have e2 : ∀ n, (s.drop (nextA s a)).drop n = s.drop (nextA s a + n) := fun n => by rw [List.drop_drop]
  unfold lexAt
  rw [lexR, e, e2]
  split
  · rfl
  · split
    · rfl
    · rename_i h1 h2
      have hl := first_len (by simpa using h1) h2
      rw [lexR_fuel s.length (s.length + 1) _ _ (by simp at hl ⊢; omega) (by simp; omega)]
      rfl
def lexAll (s : List UInt8) : List Tk × Option Nat := lexAt s 0
def lexT (s : List UInt8) : List Tk := if 2000 < (s.length : Int) then [] else match (lexAll s).2 with | none => (lexAll s).1 | some _ => []
def lexA (s : List UInt8) : Int := if 2000 < (s.length : Int) then 0 else match (lexAll s).2 with | none => 0 | some a => (a : Int)
def lexE (s : List UInt8) : Int := if 2000 < (s.length : Int) then 3 else match (lexAll s).2 with | none => 0 | some _ => 7
end Go.Kin
