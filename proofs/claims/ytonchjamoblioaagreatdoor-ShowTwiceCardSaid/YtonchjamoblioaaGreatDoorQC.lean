/- Steps of a function body on data, and contracts of the functions of the seat, walked. -/
import Derived.Test.YtonchjamoblioaaGreatDoorZL2
import Derived.Test.YtonchjamoblioaaGreatDoorZShX
import Derived.Test.YtonchjamoblioaaGreatDoorQE
import Derived.Test.YtonchjamoblioaaGreatDoorPS
import Derived.Test.YtonchjamoblioaaGreatDoorZ5
set_option linter.unusedSimpArgs false
set_option linter.unusedVariables false
set_option linter.unusedSectionVars false
namespace Go.Proofs.YtonchjamoblioaaGreatDoor
open Go.Kin
set_option maxRecDepth 100000
set_option maxHeartbeats 0
/-- the document's token at a place -/
def tokR (s : List UInt8) (a : Nat) : Tk := if firstB (s.drop a) = true then (firstT (s.drop a)).at' (a : Nat) else ⟨0, [], 0, v0⟩
section
variable {s : List UInt8} {a : Nat} (ha : a < s.length)
include ha
theorem dl : 0 < (s.drop a).length := by simp; omega
end
end Go.Proofs.YtonchjamoblioaaGreatDoor
namespace Go.Proofs.YtonchjamoblioaaGreatDoor
open Go.Kin
set_option maxRecDepth 100000
set_option maxHeartbeats 0
def blankAt (s : List UInt8) (a b : Nat) : Prop := a ≤ b ∧ b ≤ s.length ∧ nextA s a = nextA s b
end Go.Proofs.YtonchjamoblioaaGreatDoor
namespace Go.Proofs.YtonchjamoblioaaGreatDoor
open Go.Kin Go.Lib
def blankS (s : List UInt8) : Bool := s.all fun c => blankI c.toNat
theorem nextA_take {s : List UInt8} {a A : Nat} (h : nextA s a ≤ A) (_ : A ≤ s.length) : nextA (s.take A) a = nextA s a := by
 unfold nextA at *
 rw [List.drop_take, spanN_take]; omega
theorem drop_take2 (s : List UInt8) (a A : Nat) : (s.take A).drop a = (s.drop a).take (A - a) := by rw [List.drop_take]
theorem cut_at {s : List UInt8} {A : Nat} : ∀ (n a : Nat), s.length - a < n → a ≤ s.length → (lexAt s a).2 = some A → A < s.length ∧ a ≤ A ∧ blankI ((s.getD A 0).toNat : Int) = false ∧ (lexAt (s.take A) a).2 = none
 | 0, a, h, _, _ => absurd h (by omega)
 | n + 1, a, hn, ha, e => by
  have hna := nextA_le ha
  have hn2 : a ≤ nextA s a := by unfold nextA; omega
  cases hb : firstB (s.drop (nextA s a)) with
  | false =>
   rw [lexAt_no ha hb] at e
   obtain rfl : nextA s a = A := by simpa using e
   have hlt : nextA s a < s.length := by
    rcases Nat.lt_or_ge (nextA s a) s.length with h | h
    ·exact h
    ·rw [List.drop_eq_nil_of_le h] at hb; cases hb
   refine ⟨hlt, hn2, ?_, ?_⟩
   ·have := spanN_max (p := blankI) (z := s.drop a) (by rw [List.length_drop]; unfold nextA at hlt; omega)
    simpa [nextA, List.getD_eq_getElem?_getD, List.getElem?_drop] using this
   ·have hl : (s.take (nextA s a)).length = nextA s a := by rw [List.length_take]; omega
    have e1 := nextA_take (s := s) (a := a) (Nat.le_refl _) hna
    have e2 : (s.take (nextA s a)).drop (nextA s a) = [] := List.drop_eq_nil_of_le (by omega)
    rw [lexAt_end (by omega) (by rw [e1, e2]; rfl) (by rw [e1, e2]; rfl)]
  | true =>
   obtain ⟨t1, t2⟩ := thenA_le ha hb
   by_cases hk : (firstT (s.drop (nextA s a))).k = 5
   ·rw [lexAt_end ha hb hk] at e; cases e
   ·rw [lexAt_on ha hb hk] at e
    have hlt := t2.resolve_left hk
    obtain ⟨q1, q2, q3, q4⟩ := cut_at n (thenA s a) (by omega) t1 e
    refine ⟨q1, by omega, q3, ?_⟩
    have hA : nextA s a + (firstT (s.drop (nextA s a))).t.length ≤ A := q2
    have hl : (s.take A).length = A := by rw [List.length_take]; omega
    have e1 := nextA_take (s := s) (a := a) (A := A) (by omega) (by omega)
    have e2 := first_take hb hk (n := A - nextA s a) (by omega)
    have e3 : (s.take A).drop (nextA (s.take A) a) = (s.drop (nextA s a)).take (A - nextA s a) := by rw [e1, drop_take2]
    have e4 : thenA (s.take A) a = thenA s a := by unfold thenA; rw [e3, e2.1, e1]
    rw [lexAt_on (by omega) (by rw [e3]; exact e2.2) (by rw [e3, e2.1]; exact hk), e4]
    exact q4
theorem lexE_or (s : List UInt8) : (2000 < s.length ∧ lexE s = 3) ∨ (s.length ≤ 2000 ∧ lexE s = 0 ∧ (lexAll s).2 = none ∧ lexT s = (lexAll s).1) ∨ (s.length ≤ 2000 ∧ lexE s = 7 ∧ lexT s = [] ∧ ∃ A : Nat, lexA s = A ∧ (lexAll s).2 = some A) := by
 unfold lexE lexT lexA
 rcases Nat.lt_or_ge 2000 s.length with h | h
 ·exact .inl ⟨h, by rw [if_pos (by omega)]⟩
 ·rw [if_neg (by omega), if_neg (by omega), if_neg (by omega)]
  cases e : (lexAll s).2 with
  | none => exact .inr (.inl ⟨h, rfl, rfl, rfl⟩)
  | some A => exact .inr (.inr ⟨h, rfl, rfl, A, rfl, rfl⟩)
theorem lex_cut {s : List UInt8} (h : lexE s = 7) : ∃ A : Nat, lexA s = A ∧ A < s.length ∧ s.length ≤ 2000 ∧ blankI ((s.getD A 0).toNat : Int) = false ∧ lexT s = [] ∧ lexE (s.take A) = 0 := by
 rcases lexE_or s with ⟨_, e⟩ | ⟨_, e, _⟩ | ⟨hl, _, e, A, e1, e2⟩
 ·rw [h] at e; cases e
 ·rw [h] at e; cases e
 ·obtain ⟨q1, _, q3, q4⟩ := cut_at (s.length + 1) 0 (by omega) (Nat.zero_le _) e2
  refine ⟨A, e1, q1, hl, q3, e, ?_⟩
  have hl2 : (s.take A).length = A := by rw [List.length_take]; omega
  rcases lexE_or (s.take A) with ⟨h1, _⟩ | ⟨_, e, _⟩ | ⟨_, _, _, B, _, e3⟩
  ·omega
  ·exact e
  ·have : (lexAt (s.take A) 0).2 = some B := e3
   rw [q4] at this; cases this
theorem first_a (z : List UInt8) : (firstT z).a = 0 := by
 unfold firstT
 repeat' split
 all_goals rfl
end Go.Proofs.YtonchjamoblioaaGreatDoor
namespace Go.Proofs.YtonchjamoblioaaGreatDoor
open Go.Kin Go.Lib
theorem spanN_stop {p : Int → Bool} {d : UInt8} (hd : p d.toNat = false) (y : List UInt8) : ∀ x : List UInt8, spanN p (x ++ d :: y) = spanN p x
 | [] => by simp [spanN, hd]
 | c :: r => by simp only [List.cons_append, spanN, spanN_stop hd y r]
theorem spanN_full {p : Int → Bool} (y : List UInt8) : ∀ x : List UInt8, x.all (fun c => p c.toNat) = true → spanN p (x ++ y) = x.length + spanN p y
 | [], _ => by simp
 | c :: r, h => by
  simp only [List.all_cons, Bool.and_eq_true] at h
  simp only [List.cons_append, spanN, h.1, if_true, List.length_cons, spanN_full y r h.2]; omega
theorem spanN_in {p : Int → Bool} (y : List UInt8) : ∀ x : List UInt8, spanN p x < x.length → spanN p (x ++ y) = spanN p x
 | [], h => by simp at h
 | c :: r, h => by
  simp only [List.cons_append, spanN] at h ⊢
  by_cases hc : p c.toNat = true
  ·rw [if_pos hc] at h ⊢; rw [if_pos hc, spanN_in y r (by simp at h; exact h)]
  ·rw [if_neg hc, if_neg hc]
theorem index_app (m : List UInt8) (c : UInt8) : ∀ l : List UInt8, 0 ≤ indexByte l c → indexByte (l ++ m) c = indexByte l c
 | [], h => by simp [indexByte] at h
 | b :: l, h => by
  simp only [List.cons_append, indexByte] at h ⊢
  split at h
  ·rename_i q; rw [if_pos q, if_pos q]
  ·rename_i q
   rw [if_neg q, if_neg q]
   split at h
   ·omega
   ·rename_i q2
    have := indexByte_lt l c
    rw [index_app m c l (by simp at q2; omega)]
theorem signs_noblank : ∀ q ∈ signsF, ∀ e ∈ q, blankI ((e : UInt8).toNat : Int) = false := by decide
theorem blank_sign {d : UInt8} (h : blankI (d.toNat : Int) = true) : signI d.toNat = false ∧ digitI d.toNat = false := by
 unfold blankI at h
 simp only [Bool.or_eq_true, beq_iff_eq] at h
 unfold signI letterI digitI
 rcases h with (h | h) | h <;> rw [h] <;> decide
theorem best_app {x y : List UInt8} {d : UInt8} (hd : blankI (d.toNat : Int) = true) (h0 : bestSign x ≠ []) : bestSign (x ++ d :: y) = bestSign x := by
 refine isBest_unique (best_isBest _) ?_
 rcases best_isBest x with h | ⟨h1, h2, h3⟩
 ·exact absurd h.1 h0
 ·refine .inr ⟨h1, pre_iff.2 ((pre_iff.1 h2).trans (List.prefix_append _ _)), fun q hq hp => h3 q hq (pre_iff.2 ?_)⟩
  have hp := pre_iff.1 hp
  rcases Nat.lt_or_ge x.length q.length with hl | hl
  ·exfalso
   have hp2 : x ++ [d] <+: q := by
    refine List.prefix_of_prefix_length_le (l₃ := x ++ d :: y) ⟨y, by simp⟩ hp (by simp; omega)
   obtain ⟨w, hw⟩ := hp2
   have := signs_noblank q hq d (by rw [← hw]; simp)
   rw [hd] at this; cases this
  ·exact List.prefix_of_prefix_length_le hp (List.prefix_append _ _) hl
theorem first_app {x y : List UInt8} {d : UInt8} (hd : blankI (d.toNat : Int) = true) (hb : firstB x = true) (hk : (firstT x).k ≠ 5) : firstT (x ++ d :: y) = firstT x ∧ firstB (x ++ d :: y) = true := by
 have h0 : x ≠ [] := by intro e; exact hk (first_end.2 e)
 obtain ⟨hs1, hs2⟩ := blank_sign hd
 have h0' : x ++ d :: y ≠ [] := by simp
 have hg : (x ++ d :: y).getD 0 0 = x.getD 0 0 := by
  cases x with
  | nil => exact absurd rfl h0
  | cons c r => rfl
 have hdr : (x ++ d :: y).drop 1 = x.drop 1 ++ d :: y := by
  cases x with
  | nil => exact absurd rfl h0
  | cons c r => rfl
 have e1 : wordN (x ++ d :: y) = wordN x := by
  unfold wordN; rw [spanN_stop hs1, List.take_append_of_le_length (spanN_le _ _)]
 have e2 : digitN (x ++ d :: y) = digitN x := by
  unfold digitN; rw [spanN_stop hs2, List.take_append_of_le_length (spanN_le _ _)]
 have e3 : spanN digitI ((x ++ d :: y).drop 1) = spanN digitI (x.drop 1) := by rw [hdr, spanN_stop hs2]
 have hx1 : 0 < x.length := List.length_pos_iff.2 h0
 have e4 : minusN (x ++ d :: y) = minusN x := by
  unfold minusN
  have := spanN_le digitI (x.drop 1)
  rw [List.length_drop] at this
  rw [e3, List.take_append_of_le_length (by omega)]
 unfold firstT firstB at *
 rw [if_neg h0] at hb hk
 rw [if_neg h0', if_neg h0', if_neg h0, hg, e1, e2, e3, e4]
 by_cases h1 : letterI (x.getD 0 0).toNat = true
 ·simp only [if_pos h1] at hb ⊢; exact ⟨trivial, hb⟩
 ·simp only [if_neg h1] at hb ⊢
  by_cases h2 : digitI (x.getD 0 0).toNat = true
  ·simp only [if_pos h2] at hb ⊢; exact ⟨trivial, hb⟩
  ·simp only [if_neg h2] at hb ⊢
   by_cases h3 : (((x.getD 0 0).toNat : Int) == 45 && decide (0 < (spanN digitI (x.drop 1) : Int))) = true
   ·simp only [if_pos h3] at hb ⊢; exact ⟨trivial, hb⟩
   ·simp only [if_neg h3] at hb ⊢
    by_cases h4 : (((x.getD 0 0).toNat : Int) == 34) = true
    ·simp only [if_pos h4] at hb ⊢
     by_cases h5 : indexByte (x.drop 1) 34 < 0
     ·rw [if_pos h5] at hb; cases hb
     ·simp only [if_neg h5] at hb
      have ei : indexByte ((x ++ d :: y).drop 1) 34 = indexByte (x.drop 1) 34 := by rw [hdr]; exact index_app _ _ _ (by omega)
      have hi := indexByte_lt (x.drop 1) 34
      rw [List.length_drop] at hi
      have et : textN (x ++ d :: y) = textN x := by
       unfold textN; rw [ei, List.take_append_of_le_length (by omega)]
      simp only [ei, if_neg h5, et]; exact ⟨trivial, hb⟩
    ·simp only [if_neg h4] at hb ⊢
     have e := best_app (x := x) (y := y) hd (by simpa using hb)
     rw [e]; exact ⟨rfl, hb⟩
def shiftT (p : Nat) (t : Tk) : Tk := ⟨t.k, t.t, t.a + p, t.v⟩
end Go.Proofs.YtonchjamoblioaaGreatDoor
namespace Go.Proofs.YtonchjamoblioaaGreatDoor
open Go.Kin
/-! ### the same tokens at other places are read the same -/
structure Sh (l l' : List Tk) : Prop where
 len : l.length = l'.length
 eq : ∀ i, i < l.length → (nth l i).k = (nth l' i).k ∧ (nth l i).t = (nth l' i).t ∧ (nth l i).v = (nth l' i).v
 up : ∀ i j, i < j → j < l.length → (nth l i).a < (nth l j).a ∧ (nth l' i).a < (nth l' j).a
 pos : ∀ i, i < l.length → 0 ≤ (nth l i).a ∧ 0 ≤ (nth l' i).a
section
variable (l l' : List Tk)
def MR (m m' : Int) : Prop := (m < 0 ∧ m' < 0) ∨ ∃ j, j < l.length ∧ m = (nth l j).a ∧ m' = (nth l' j).a
def St2 (s s' : PS) : Prop := s.n = s'.n ∧ s.n < l.length ∧ MR l l' s.m s'.m
def R2 {α : Type} : PR α → PR α → Prop
 | .ok s x, .ok s' x' => St2 l l' s s' ∧ x = x'
 | .err a, .err a' => ∃ j, j < l.length ∧ a = (nth l j).a ∧ a' = (nth l' j).a
 | _, _ => False
end
section
variable {l l' : List Tk} {α β : Type}
theorem R2.bind {r r' : PR α} {f f' : PS → α → PR β} (h : R2 l l' r r') (hf : ∀ s s' x, r = .ok s x → St2 l l' s s' → R2 l l' (f s x) (f' s' x)) : R2 l l' (r.bind f) (r'.bind f') := by
 cases r with
 | ok s x => cases r' with
  | ok s' x' => obtain ⟨h, rfl⟩ := h; exact hf _ _ _ rfl h
  | err a => exact h.elim
 | err a => cases r' with
  | ok s' x' => exact h.elim
  | err a => exact h
theorem R2.map {r r' : PR α} {F : α → β} (h : R2 l l' r r') : R2 l l' (r.bind fun s x => .ok s (F x)) (r'.bind fun s x => .ok s (F x)) := h.bind fun _ _ _ _ h => ⟨h, rfl⟩
theorem err2 {s s' : PS} (h : St2 l l' s s') : R2 l l' (.err (nth l s.n).a : PR α) (.err (nth l' s'.n).a) := ⟨s.n, h.2.1, rfl, by rw [h.1]⟩
variable (hk : TkOk l) (hs : Sh l l')
section
include hs
theorem isP_eq {w : List UInt8} {s s' : PS} (h : St2 l l' s s') : isP l' w s' = isP l w s := by
 obtain ⟨e1, e2, _⟩ := hs.eq _ h.2.1
 unfold isP; rw [← h.1, ← e1, ← e2]
theorem nameB_eq {s s' : PS} (h : St2 l l' s s') : nameB l' s' = nameB l s := by
 obtain ⟨e1, e2, _⟩ := hs.eq _ h.2.1
 unfold nameB; rw [← h.1, ← e1, ← e2]
theorem Sh.lt {i j : Nat} (hi : i < l.length) (hj : j < l.length) : ((nth l i).a < (nth l j).a ↔ i < j) ∧ ((nth l' i).a < (nth l' j).a ↔ i < j) := by
 rcases Nat.lt_trichotomy i j with h | h | h
 ·have := hs.up i j h hj; exact ⟨⟨fun _ => h, fun _ => this.1⟩, ⟨fun _ => h, fun _ => this.2⟩⟩
 ·subst h; exact ⟨⟨fun h => by omega, fun h => by omega⟩, ⟨fun h => by omega, fun h => by omega⟩⟩
 ·have := hs.up j i h hi; exact ⟨⟨fun h => by omega, fun h => by omega⟩, ⟨fun h => by omega, fun h => by omega⟩⟩
theorem lim2 {b : Bool} {s s' : PS} (h : St2 l l' s s') {j : Nat} (hj : j < l.length) : St2 l l' (limS b (nth l j).a s) (limS b (nth l' j).a s') := by
 obtain ⟨h1, h2, h3⟩ := h
 have e : (b && (decide (s.m < 0) || decide ((nth l j).a < s.m))) = (b && (decide (s'.m < 0) || decide ((nth l' j).a < s'.m))) := by
  rcases h3 with ⟨h3, h4⟩ | ⟨i, hi, h3, h4⟩
  ·rw [decide_eq_true h3, decide_eq_true h4]; rfl
  ·obtain ⟨p1, p2⟩ := hs.pos i hi
   obtain ⟨q1, q2⟩ := hs.lt hj hi
   rw [decide_eq_false (show ¬ s.m < 0 by omega), decide_eq_false (show ¬ s'.m < 0 by omega), h3, h4, decide_eq_decide.2 (q1.trans q2.symm)]
 unfold limS
 rw [e]
 split
 ·exact ⟨h1, h2, .inr ⟨j, hj, rfl, rfl⟩⟩
 ·exact ⟨h1, h2, h3⟩
end
include hk hs
theorem adv2 {s s' : PS} (h : St2 l l' s s') (h5 : (nth l s.n).k ≠ 5) : St2 l l' s.adv s'.adv := ⟨by simp [PS.adv, h.1], hk.on _ h.2.1 h5, h.2.2⟩
theorem must2 {w : List UInt8} {s s' : PS} (h : St2 l l' s s') : R2 l l' (mustP l w s) (mustP l' w s') := by
 unfold mustP; rw [isP_eq hs h]; split
 ·rename_i hp; exact ⟨adv2 hk hs h (isP_k hp), rfl⟩
 ·exact err2 h
theorem name2 {s s' : PS} (h : St2 l l' s s') : R2 l l' (nameP l s) (nameP l' s') := by
 unfold nameP; rw [nameB_eq hs h]; split
 ·rename_i hp; exact ⟨adv2 hk hs h (nameB_k hp), by rw [← h.1]; exact (hs.eq _ h.2.1).2.1⟩
 ·exact err2 h
theorem sign2 : ∀ (f : Nat) (s s' : PS) (x : Ex), St2 l l' s s' → R2 l l' (signP l f s x) (signP l' f s' x)
 | 0, s, s', x, h => ⟨h, rfl⟩
 | f + 1, s, s', x, h => by
  unfold signP
  rw [isP_eq hs h, isP_eq hs h, isP_eq hs h]
  split
  ·rename_i hp; exact sign2 f _ _ _ (adv2 hk hs h (isP_k hp))
  ·split
   ·rename_i hp; exact sign2 f _ _ _ (adv2 hk hs h (isP_k hp))
   ·split
    ·rename_i hp; exact sign2 f _ _ _ (adv2 hk hs h (isP_k hp))
    ·exact ⟨h, rfl⟩
theorem sep2 {rd rd' : PS → PR α} {w : List UInt8} {n0 : Nat} (hr : ∀ s s' : PS, n0 ≤ s.n → St2 l l' s s' → R2 l l' (rd s) (rd' s')) (ha : ∀ s : PS, n0 ≤ s.n → s.n < l.length → AdvP l s (rd s)) : ∀ (f : Nat) (s s' : PS) (acc : List α), n0 ≤ s.n → l.length - s.n < f → St2 l l' s s' → R2 l l' (sepP l rd w f s acc) (sepP l' rd' w f s' acc)
 | 0, s, s', acc, _, hf, h => by omega
 | f + 1, s, s', acc, h0, hf, h => by
  unfold sepP
  refine (hr s s' h0 h).bind fun s1 s1' x e h1 => ?_
  have a1 := ha s h0 h.2.1 _ _ e
  rw [isP_eq hs h1]; split
  ·rename_i hp
   have a2 := is_adv hk a1.2 hp
   exact sep2 hr ha f _ _ _ (by simp [PS.adv]; omega) (by simp [PS.adv]; omega) (adv2 hk hs h1 (isP_k hp))
  ·exact ⟨h1, rfl⟩
theorem join2 {rd rd' : PS → PR Ex} {w : List UInt8} {k : Int} {s s' : PS} (h : St2 l l' s s') (hr : ∀ t t' : PS, s.n ≤ t.n → St2 l l' t t' → R2 l l' (rd t) (rd' t')) (ha : ∀ t : PS, s.n ≤ t.n → t.n < l.length → AdvP l t (rd t)) : R2 l l' (joinP l rd w k s) (joinP l' rd' w k s') := by
 unfold joinP
 rw [← hs.len]
 exact (sep2 hk hs hr ha _ s s' [] (Nat.le_refl _) (by omega) h).map (F := oneEx k)
theorem expr2 {it it' : PS → PR Ex} {s s' : PS} (h : St2 l l' s s') (hr : ∀ t t' : PS, s.n ≤ t.n → St2 l l' t t' → R2 l l' (it t) (it' t')) (ha : ∀ t : PS, s.n ≤ t.n → t.n < l.length → AdvX l t (it t)) : R2 l l' (exprP l it s) (exprP l' it' s') :=
 join2 hk hs h (fun t t' ht h2 => join2 hk hs h2 (fun u u' hu h3 => hr u u' (by omega) h3) (fun u hu h3 => (ha u (by omega) h3).adv)) (fun t ht h2 => (row_adv hk h2 (fun u hu h3 => ha u (by omega) h3)).adv)
theorem item2 : ∀ (f : Nat) (s s' : PS), l.length - s.n < f → St2 l l' s s' → R2 l l' (itemP l f s) (itemP l' f s')
 | 0, s, s', hf, h => by omega
 | f + 1, s, s', hf, h => by
  unfold itemP
  rw [isP_eq hs h, ← hs.len]
  split
  ·rename_i hp
   have a0 := is_adv hk h.2.1 hp
   have h1 := adv2 hk hs h (isP_k hp)
   have hn : s.adv.n = s.n + 1 := rfl
   refine (expr2 hk hs h1 (fun t t' ht h2 => item2 f t t' (by omega) h2) (fun t _ h2 => item_adv hk f t h2)).bind fun s1 s1' x e h2 => ?_
   exact (must2 hk hs h2).bind fun s2 s2' _ e2 h3 => sign2 hk hs _ _ _ _ h3
  ·exact (name2 hk hs h).bind fun s1 s1' x e h2 => sign2 hk hs _ _ _ _ h2
theorem whole2 {s s' : PS} (h : St2 l l' s s') : R2 l l' (wholeP l s) (wholeP l' s') := by
 unfold wholeP exP
 rw [← hs.len]
 refine (expr2 hk hs h (fun t t' _ h2 => item2 hk hs _ t t' (by omega) h2) (fun t _ h2 => item_adv hk _ t h2)).bind fun s1 s1' x e h2 => ⟨?_, rfl⟩
 rw [← h.1]; exact lim2 hs h2 h.2.1
theorem vertex2 {s s' : PS} (h : St2 l l' s s') : R2 l l' (vertexP l s) (vertexP l' s') :=
 (must2 hk hs h).bind fun _ _ _ _ h1 => (name2 hk hs h1).bind fun _ _ _ _ h2 => (must2 hk hs h2).bind fun _ _ _ _ h3 => ⟨h3, rfl⟩
theorem pat2 {s s' : PS} (h : St2 l l' s s') : R2 l l' (patP l s) (patP l' s') := by
 unfold patP
 refine (vertex2 hk hs h).bind fun s1 s1' a _ h1 => ?_
 rw [isP_eq hs h1]
 split
 ·rename_i hp
  exact (whole2 hk hs (adv2 hk hs h1 (isP_k hp))).bind fun _ _ _ _ h2 => (must2 hk hs h2).bind fun _ _ _ _ h3 => (vertex2 hk hs h3).bind fun _ _ _ _ h4 => ⟨h4, rfl⟩
 ·refine (must2 hk hs h1).bind fun _ _ _ _ h2 => (name2 hk hs h2).bind fun s3 s3' lb _ h3 => ?_
  rw [isP_eq hs h3]
  split
  ·rename_i hp
   exact (name2 hk hs (adv2 hk hs h3 (isP_k hp))).bind fun _ _ _ _ h4 => (must2 hk hs h4).bind fun _ _ _ _ h5 => (vertex2 hk hs h5).bind fun _ _ _ _ h6 => ⟨h6, rfl⟩
  ·exact (must2 hk hs h3).bind fun _ _ _ _ h5 => (vertex2 hk hs h5).bind fun _ _ _ _ h6 => ⟨h6, rfl⟩
theorem told2 {s s' : PS} (h : St2 l l' s s') : R2 l l' (toldP l s) (toldP l' s') := by
 unfold toldP
 refine (name2 hk hs h).bind fun s1 s1' a _ h1 => ?_
 rw [isP_eq hs h1]
 split
 ·rename_i hp
  exact (name2 hk hs (adv2 hk hs h1 (isP_k hp))).bind fun _ _ _ _ h2 => ⟨h2, rfl⟩
 ·exact ⟨h1, rfl⟩
theorem opd2 {s s' : PS} (h : St2 l l' s s') : R2 l l' (opdP l s) (opdP l' s') := by
 obtain ⟨e1, e2, e3⟩ := hs.eq _ h.2.1
 have e : opdB l' s' = opdB l s := by unfold opdB; rw [← h.1, ← e1]
 unfold opdP
 rw [e]
 split
 ·rename_i hp
  exact ⟨adv2 hk hs h (by unfold opdB at hp; simp at hp; omega), by rw [← h.1, e3]⟩
 ·exact told2 hk hs h
theorem cmp2 {a : Opd} {s s' : PS} (h : St2 l l' s s') : ∀ (r : List (List UInt8)) (i : Nat), R2 l l' (cmpP l a s i r) (cmpP l' a s' i r)
 | [], i => err2 h
 | w :: r, i => by
  unfold cmpP
  rw [isP_eq hs h]
  split
  ·rename_i hp
   exact (opd2 hk hs (adv2 hk hs h (isP_k hp))).bind fun _ _ _ _ h2 => ⟨h2, rfl⟩
  ·exact cmp2 h r (i + 1)
theorem cd2 {s s' : PS} (h : St2 l l' s s') : R2 l l' (cdP l s) (cdP l' s') := (opd2 hk hs h).bind fun _ _ _ _ h1 => cmp2 hk hs h1 _ _
theorem num2 {s s' : PS} (h : St2 l l' s s') : R2 l l' (numP l s) (numP l' s') := by
 obtain ⟨e1, e2, e3⟩ := hs.eq _ h.2.1
 unfold numP
 rw [← h.1, ← e1, ← e3]
 split
 ·rename_i hp
  refine ⟨adv2 hk hs (lim2 hs h h.2.1) (by rw [limS_n]; omega), rfl⟩
 ·exact ⟨s.n, h.2.1, rfl, rfl⟩
theorem many2 {rd rd' : PS → PR α} {w : List UInt8} {mx : Nat} (hr : ∀ s s' : PS, St2 l l' s s' → R2 l l' (rd s) (rd' s')) (ha : ∀ s : PS, s.n < l.length → AdvP l s (rd s)) : ∀ (f : Nat) (s s' : PS) (acc : List α), l.length - s.n < f → St2 l l' s s' → R2 l l' (manyP l rd w mx f s acc) (manyP l' rd' w mx f s' acc)
 | 0, s, s', acc, hf, h => by omega
 | f + 1, s, s', acc, hf, h => by
  unfold manyP
  have h0 : St2 l l' (limS (decide (acc.length = mx)) (nth l s.n).a s) (limS (decide (acc.length = mx)) (nth l' s'.n).a s') := by rw [← h.1]; exact lim2 hs h h.2.1
  refine (hr _ _ h0).bind fun s1 s1' x e h1 => ?_
  have a1 := ha _ h0.2.1 _ _ e
  rw [limS_n] at a1
  rw [isP_eq hs h1]; split
  ·rename_i hp
   have a2 := is_adv hk a1.2 hp
   exact many2 hr ha f _ _ _ (by simp [PS.adv]; omega) (adv2 hk hs h1 (isP_k hp))
  ·exact ⟨h1, rfl⟩
theorem query2 {s s' : PS} (h : St2 l l' s s') : R2 l l' (queryP l s) (queryP l' s') := by
 unfold queryP
 rw [← hs.len]
 refine (must2 hk hs h).bind fun s1 s1' _ _ h1 => ?_
 refine (many2 hk hs (fun t t' h => pat2 hk hs h) (fun t h => pat_adv hk h) _ _ _ _ (by omega) h1).bind fun s2 s2' ps _ h2 => ?_
 have hw : R2 l l' (if isP l [119, 104, 101, 114, 101] s2 = true then manyP l (cdP l) [97, 110, 100] 6 (l.length + 1) s2.adv [] else .ok s2 []) (if isP l' [119, 104, 101, 114, 101] s2' = true then manyP l' (cdP l') [97, 110, 100] 6 (l.length + 1) s2'.adv [] else .ok s2' []) := by
  rw [isP_eq hs h2]
  split
  ·rename_i hp; exact many2 hk hs (fun t t' h => cd2 hk hs h) (fun t h => cd_adv hk h) _ _ _ _ (by omega) (adv2 hk hs h2 (isP_k hp))
  ·exact ⟨h2, rfl⟩
 refine hw.bind fun s3 s3' cs _ h3 => (must2 hk hs h3).bind fun s4 s4' _ _ h4 => ?_
 refine (many2 hk hs (fun t t' h => told2 hk hs h) (fun t h => told_adv hk h) _ _ _ _ (by omega) h4).bind fun s5 s5' rs _ h5 => ?_
 exact (must2 hk hs h5).bind fun _ _ _ _ h6 => (num2 hk hs h6).bind fun _ _ _ _ h7 => (must2 hk hs h7).bind fun _ _ _ _ h8 => (num2 hk hs h8).bind fun _ _ _ _ h9 => ⟨h9, rfl⟩
end
end Go.Proofs.YtonchjamoblioaaGreatDoor
namespace Go.Proofs.YtonchjamoblioaaGreatDoor
open Go.Kin
/-! ### what is read is right -/
def TV (l : List Tk) : Prop := ∀ i, ((nth l i).k = 2 ∨ (nth l i).k = 3) → rightV (nth l i).v.k (nth l i).v.n (nth l i).v.s = true
theorem nthA_nn {l : List Tk} (hk : TkOk l) (i : Nat) : 0 ≤ (nth l i).a := by
 rcases Nat.lt_or_ge i l.length with h | h
 ·exact (hk.a0 i h).1
 ·have : nth l i = default := by simp [nth, List.getD_eq_getElem?_getD, List.getElem?_eq_none h]
  rw [this]; decide
def KM {α : Type} (s : PS) (r : PR α) (P : α → Prop) : Prop := ∀ s1 x, r = .ok s1 x → s1.m = s.m ∧ P x
def GM {α : Type} (s : PS) (r : PR α) (P : α → Prop) : Prop := ∀ s1 x, r = .ok s1 x → (0 ≤ s.m → 0 ≤ s1.m) ∧ (s1.m < 0 → P x)
section
variable {l : List Tk} {α β : Type} {P : α → Prop} {Q : β → Prop} {s : PS} {r : PR α} {f : PS → α → PR β}
theorem KM.bind (h : KM s r P) (hf : ∀ s1 x, P x → KM s1 (f s1 x) Q) : KM s (r.bind f) Q := by
 intro s2 y e
 obtain ⟨s1, x, e1, e2⟩ := bind_ok e
 obtain ⟨h1, h2⟩ := h _ _ e1
 obtain ⟨h3, h4⟩ := hf _ _ h2 _ _ e2
 exact ⟨by omega, h4⟩
theorem GM.bind (h : GM s r P) (hf : ∀ s1 x, (0 ≤ s.m → 0 ≤ s1.m) → (s1.m < 0 → P x) → GM s1 (f s1 x) Q) : GM s (r.bind f) Q := by
 intro s2 y e
 obtain ⟨s1, x, e1, e2⟩ := bind_ok e
 obtain ⟨h1, h2⟩ := h _ _ e1
 obtain ⟨h3, h4⟩ := hf _ _ h1 h2 _ _ e2
 exact ⟨fun h0 => h3 (h1 h0), h4⟩
theorem KM.gm (h : KM s r P) : GM s r P := fun s1 x e => ⟨fun h0 => by have := (h s1 x e).1; omega, fun _ => (h s1 x e).2⟩
theorem KM.of {s1 : PS} {x : α} (h : s1.m = s.m) (hp : P x) : KM s (.ok s1 x) P := fun _ _ e => by cases e; exact ⟨h, hp⟩
theorem GM.of {s1 : PS} {x : α} (h : s1.m = s.m) (hp : s1.m < 0 → P x) : GM s (.ok s1 x) P := fun _ _ e => by cases e; exact ⟨fun _ => by omega, hp⟩
theorem KM.err {a : Int} : KM s (.err a) P := fun _ _ e => by cases e
theorem GM.err {a : Int} : GM s (.err a) P := fun _ _ e => by cases e
theorem KM.adv (h : KM s.adv r P) : KM s r P := h
theorem GM.adv (h : GM s.adv r P) : GM s r P := h
theorem lim_ge {b : Bool} {a : Int} (h0 : 0 ≤ a) (h : 0 ≤ s.m) : 0 ≤ (limS b a s).m := by unfold limS; split <;> assumption
theorem lim_yes {a : Int} (h0 : 0 ≤ a) : 0 ≤ (limS true a s).m := by
 unfold limS
 split
 ·exact h0
 ·rename_i h; simp at h; omega
theorem lim_no {a : Int} : limS false a s = s := rfl
theorem must_k {w : List UInt8} : KM s (mustP l w s) (fun _ => True) := by
 unfold mustP; split
 ·exact KM.of rfl trivial
 ·exact KM.err
theorem name_k : KM s (nameP l s) (fun x => freeB x = true) := by
 unfold nameP; split
 ·rename_i h; exact KM.of rfl (by unfold nameB at h; simp at h; exact h.2)
 ·exact KM.err
theorem sign_k : ∀ (f : Nat) (s : PS) (x : Ex), exOk x = true → KM s (signP l f s x) (fun y => exOk y = true)
 | 0, s, x, h => KM.of rfl h
 | f + 1, s, x, h => by
  have one : ∀ k : Int, (k = 4 ∨ k = 5 ∨ k = 6) → exOk (.mk k [] [x]) = true := fun k hk => by
   rw [partR_4 (x := .mk k [] [x]) hk]; simp [Ex.kids, Ex.s, exsOk, h]
  unfold signP
  split
  ·exact KM.adv (sign_k f _ _ (one 4 (by decide)))
  ·split
   ·exact KM.adv (sign_k f _ _ (one 5 (by decide)))
   ·split
    ·exact KM.adv (sign_k f _ _ (one 6 (by decide)))
    ·exact KM.of rfl h
theorem sep_k {rd : PS → PR α} {w : List UInt8} (hr : ∀ s, KM s (rd s) P) : ∀ (f : Nat) (s : PS) (acc : List α), (∀ x ∈ acc, P x) → KM s (sepP l rd w f s acc) (fun xs => (∀ x ∈ xs, P x) ∧ 0 < xs.length)
 | 0, s, acc, _ => KM.err
 | f + 1, s, acc, h => by
  unfold sepP
  refine (hr s).bind fun s1 x hx => ?_
  have ha : ∀ y ∈ acc ++ [x], P y := fun y hy => by
   rcases List.mem_append.1 hy with h1 | h1
   ·exact h y h1
   ·simp at h1; subst h1; exact hx
  split
  ·exact KM.adv (sep_k hr f _ _ ha)
  ·exact KM.of rfl ⟨ha, by simp⟩
theorem exsOk_all : ∀ {l : List Ex}, (∀ x ∈ l, exOk x = true) → exsOk l = true
 | [], _ => rfl
 | x :: r, h => by simp only [exsOk]; rw [h x List.mem_cons_self, exsOk_all fun y hy => h y (List.mem_cons_of_mem _ hy)]; rfl
theorem one_ok {k : Int} (hk : k = 2 ∨ k = 3) {xs : List Ex} (h : ∀ x ∈ xs, exOk x = true) (h0 : 0 < xs.length) : exOk (oneEx k xs) = true := by
 unfold oneEx
 split
 ·exact h _ (nth_mem h0)
 ·rename_i h1
  rw [partR_2 (x := .mk k [] xs) hk]
  simp only [Ex.kids, Ex.s, exsOk_all h]
  have : 1 < xs.length := by omega
  simp [this]
theorem join_k {rd : PS → PR Ex} {w : List UInt8} {k : Int} (hk : k = 2 ∨ k = 3) (hr : ∀ s, KM s (rd s) (fun x => exOk x = true)) : KM s (joinP l rd w k s) (fun x => exOk x = true) := by
 unfold joinP
 exact (sep_k hr _ _ _ (fun x hx => by cases hx)).bind fun s1 xs h => KM.of rfl (one_ok hk h.1 h.2)
theorem expr_k {it : PS → PR Ex} (hr : ∀ s, KM s (it s) (fun x => exOk x = true)) : KM s (exprP l it s) (fun x => exOk x = true) :=
 join_k (.inr rfl) fun s => join_k (.inl rfl) hr
theorem item_k : ∀ (f : Nat) (s : PS), KM s (itemP l f s) (fun x => exOk x = true)
 | 0, s => KM.err
 | f + 1, s => by
  unfold itemP
  split
  ·exact KM.adv ((expr_k (item_k f)).bind fun s1 x hx => must_k.bind fun s2 _ _ => sign_k _ _ _ hx)
  ·refine name_k.bind fun s1 w hw => sign_k _ _ _ ?_
   rw [partR_1 (x := .mk 1 w []) rfl]; simp [Ex.s, Ex.kids, hw]
theorem vertex_k : KM s (vertexP l s) (fun x => freeB x = true) := must_k.bind fun _ _ _ => name_k.bind fun _ _ h => must_k.bind fun _ _ _ => KM.of rfl h
theorem told_k : KM s (toldP l s) (fun o => opR o = true ∧ o.k ≠ 3) := by
 unfold toldP
 refine name_k.bind fun s1 n hn => ?_
 split
 ·refine KM.adv (name_k.bind fun s2 key hkey => KM.of rfl ⟨?_, show (2 : Int) ≠ 3 by decide⟩)
  unfold opR; dsimp only; rw [if_neg (by decide), if_pos rfl, hn, hkey]; rfl
 ·refine KM.of rfl ⟨?_, show (1 : Int) ≠ 3 by decide⟩
  unfold opR; dsimp only; rw [if_pos rfl, hn]; rfl
section
variable (hv : TV l)
include hv
theorem opd_k : KM s (opdP l s) (fun o => opR o = true) := by
 unfold opdP
 split
 ·rename_i h
  refine KM.of rfl ?_
  have := hv s.n (by unfold opdB at h; simpa using h)
  unfold opR; dsimp only; rw [if_neg (by decide), if_neg (by decide), if_pos rfl, this]; rfl
 ·exact fun s1 x e => ⟨(told_k s1 x e).1, (told_k s1 x e).2.1⟩
theorem cmp_k {a : Opd} (ha : opR a = true) : ∀ (r : List (List UInt8)) (i : Nat), i + r.length ≤ 6 → KM s (cmpP l a s i r) (fun c => cdR c = true)
 | [], i, _ => KM.err
 | w :: r, i, h => by
  simp only [List.length_cons] at h
  unfold cmpP
  split
  ·refine KM.adv ((opd_k hv).bind fun s1 b hb => KM.of rfl ?_)
   unfold cdR; simp only [ha, hb]; simp; omega
  ·exact cmp_k ha r (i + 1) (by omega)
theorem cd_k : KM s (cdP l s) (fun c => cdR c = true) := (opd_k hv).bind fun _ _ h => cmp_k hv h _ _ (by decide)
end
variable (hk : TkOk l)
include hk
theorem whole_k : GM s (wholeP l s) (fun x => exRight x = true) := by
 unfold wholeP exP
 intro s2 y e
 obtain ⟨s1, x, e1, e2⟩ := bind_ok e
 obtain ⟨h1, h2⟩ := expr_k (item_k (l := l) _) _ _ e1
 cases e2
 have hn := nthA_nn hk s.n
 refine ⟨fun h => lim_ge hn (by omega), fun h => ?_⟩
 by_cases hsz : 24 < y.size
 ·rw [decide_eq_true hsz] at h; have := lim_yes (s := s1) hn; omega
 ·show exRight y = true; unfold exRight; rw [h2, Bool.and_true]; exact decide_eq_true (by omega)
theorem num_k : GM s (numP l s) (fun n => 1 ≤ n ∧ n ≤ 1048576) := by
 unfold numP
 split
 ·intro s2 y e
  cases e
  have hn := nthA_nn hk s.n
  refine ⟨fun h => lim_ge hn h, fun h => ?_⟩
  cases hb : numB (nth l s.n).v.n with
  | true => rw [hb] at h; have := lim_yes (s := s) hn; simp only [PS.adv] at h; omega
  | false => unfold numB at hb; simp at hb; omega
 ·exact GM.err
theorem pat_k : GM s (patP l s) (fun p => ptR p = true) := by
 unfold patP
 refine vertex_k.gm.bind fun s1 a m1 ha => ?_
 split
 ·refine GM.adv ((whole_k hk).bind fun s2 x m2 hx => must_k.gm.bind fun s3 _ m3 _ => vertex_k.gm.bind fun s4 z m4 hz => GM.of rfl fun hm => ?_)
  have h1 := ha (by simp only [PS.adv] at m2; omega)
  have h2 := hx (by omega)
  have h3 := hz hm
  unfold ptR; simp only [h1, h2, h3]; rfl
 ·refine must_k.gm.bind fun s2 _ m2 _ => name_k.gm.bind fun s3 lb m3 hlb => ?_
  split
  ·refine GM.adv (name_k.gm.bind fun s4 nm m4 hnm => must_k.gm.bind fun s5 _ m5 _ => vertex_k.gm.bind fun s6 z m6 hz => GM.of rfl fun hm => ?_)
   simp only [PS.adv] at m4
   have h1 := ha (by omega)
   have h2 := hlb (by omega)
   have h3 := hnm (by omega)
   have h4 := hz hm
   unfold ptR; simp [h1, h2, h3, h4]
  ·refine must_k.gm.bind fun s5 _ m5 _ => vertex_k.gm.bind fun s6 z m6 hz => GM.of rfl fun hm => ?_
   have h1 := ha (by omega)
   have h2 := hlb (by omega)
   have h4 := hz hm
   unfold ptR; simp [h1, h2, h4]
theorem many_k {α : Type} {P : α → Prop} {rd : PS → PR α} {w : List UInt8} {mx : Nat} (hr : ∀ s, GM s (rd s) P) : ∀ (f : Nat) (s : PS) (acc : List α), (s.m < 0 → (∀ x ∈ acc, P x) ∧ acc.length ≤ mx) → GM s (manyP l rd w mx f s acc) (fun xs => (∀ x ∈ xs, P x) ∧ 1 ≤ xs.length ∧ xs.length ≤ mx)
 | 0, s, acc, _ => GM.err
 | f + 1, s, acc, h => by
  have hn := nthA_nn hk s.n
  unfold manyP
  have hl : 0 ≤ s.m → 0 ≤ (limS (decide (acc.length = mx)) (nth l s.n).a s).m := fun h => lim_ge hn h
  have hl2 : (limS (decide (acc.length = mx)) (nth l s.n).a s).m < 0 → s.m < 0 ∧ acc.length ≠ mx := fun h => ⟨by omega, fun e => by rw [decide_eq_true e] at h; have := lim_yes (s := s) hn; omega⟩
  generalize limS (decide (acc.length = mx)) (nth l s.n).a s = s0 at hl hl2
  have key : GM s0 ((rd s0).bind fun s1 x => if isP l w s1 = true then manyP l rd w mx f s1.adv (acc ++ [x]) else .ok s1 (acc ++ [x])) (fun xs => (∀ x ∈ xs, P x) ∧ 1 ≤ xs.length ∧ xs.length ≤ mx) := by
   refine (hr s0).bind fun s1 x m1 hx => ?_
   have ha : s1.m < 0 → (∀ y ∈ acc ++ [x], P y) ∧ acc.length + 1 ≤ mx := fun hm => by
    have h2 := hl2 (by omega)
    have h3 := h h2.1
    refine ⟨fun y hy => ?_, by omega⟩
    rcases List.mem_append.1 hy with h1 | h1
    ·exact h3.1 y h1
    ·simp at h1; subst h1; exact hx hm
   split
   ·exact GM.adv (many_k hr f _ _ fun hm => by have := ha hm; exact ⟨this.1, by simp; omega⟩)
   ·exact GM.of rfl fun hm => by have := ha hm; exact ⟨this.1, by simp, by simp; omega⟩
  exact fun s2 y e => ⟨fun h0 => (key s2 y e).1 (hl h0), (key s2 y e).2⟩
theorem query_k (hv : TV l) : GM s (queryP l s) (fun q => quR q = true) := by
 unfold queryP
 refine must_k.gm.bind fun s1 _ m1 _ => (many_k hk (fun s => pat_k hk) _ _ _ (fun _ => ⟨fun x hx => (by cases hx), by decide⟩)).bind fun s2 ps m2 hp => ?_
 have hw : GM s2 (if isP l [119, 104, 101, 114, 101] s2 = true then manyP l (cdP l) [97, 110, 100] 6 (l.length + 1) s2.adv [] else .ok s2 []) (fun cs => (∀ c ∈ cs, cdR c = true) ∧ cs.length ≤ 6) := by
  split
  ·refine GM.adv fun s3 cs e => ?_
   have := many_k hk (fun s => (cd_k hv).gm) _ s2.adv [] (fun _ => ⟨fun x hx => (by cases hx), by decide⟩) s3 cs e
   exact ⟨this.1, fun hm => ⟨(this.2 hm).1, (this.2 hm).2.2⟩⟩
  ·exact GM.of rfl fun _ => ⟨fun x hx => (by cases hx), by decide⟩
 refine hw.bind fun s3 cs m3 hc => must_k.gm.bind fun s4 _ m4 _ => (many_k hk (fun s => told_k.gm) _ _ _ (fun _ => ⟨fun x hx => (by cases hx), by decide⟩)).bind fun s5 rs m5 hr => ?_
 refine must_k.gm.bind fun s6 _ m6 _ => (num_k hk).bind fun s7 rg m7 h7 => must_k.gm.bind fun s8 _ m8 _ => (num_k hk).bind fun s9 sl m9 h9 => GM.of rfl fun hm => ?_
 have e1 := hp (by omega)
 have e2 := hc (by omega)
 have e3 := hr (by omega)
 have e4 := h7 (by omega)
 have e5 := h9 hm
 unfold quR
 simp only [Bool.and_eq_true, decide_eq_true_eq, List.all_eq_true]
 exact ⟨⟨e1.2.1, e1.2.2⟩, e2.2, ⟨e3.2.1, e3.2.2⟩, e4, e5, e1.1, e2.1, fun o ho => ⟨by simpa using (e3.1 o ho).2, (e3.1 o ho).1⟩⟩
end
end Go.Proofs.YtonchjamoblioaaGreatDoor
namespace Go.Proofs.YtonchjamoblioaaGreatDoor
open Go.Kin
/-! ### a row of tokens, cut ahead of one -/
structure Cut (l l' : List Tk) (j : Nat) : Prop where
 jl : j < l.length
 len : l'.length = j + 1
 same : ∀ i, i < j → nth l' i = nth l i
 a : (nth l' j).a = (nth l j).a
 k : (nth l' j).k = 5
section
variable (l : List Tk) (j : Nat)
def EE {α : Type} (r : PR α) : Prop := r = .err (nth l j).a ∨ ∃ s x, r = .ok s x ∧ s.n = j
def Q3 {α : Type} (r r' : PR α) : Prop := EE l j r' ∨ (∃ s x, s.n < j ∧ r = .ok s x ∧ r' = .ok s x) ∨ ∃ b, r = .err b ∧ r' = .err b
def QQ {α : Type} (s : PS) (r r' : PR α) : Prop := (s.n < j → Q3 l j r r') ∧ (s.n = j → EE l j r')
end
section
variable {l l' : List Tk} {j : Nat} {α β : Type} {s : PS} {r r' : PR α} {f f' : PS → α → PR β}
theorem QQ.bind (h : QQ l j s r r') (hs : s.n ≤ j) (hf : ∀ s1 x, r' = .ok s1 x → s1.n ≤ j → QQ l j s1 (f s1 x) (f' s1 x)) : QQ l j s (r.bind f) (r'.bind f') := by
 have hE : EE l j r' → EE l j (r'.bind f') := fun h => by
  rcases h with h | ⟨s1, x, h, hn⟩
  ·exact .inl (by rw [h]; rfl)
  ·have := (hf s1 x h (by omega)).2 hn
   rw [h]; exact this
 refine ⟨fun hn => ?_, fun hn => hE (h.2 hn)⟩
 rcases h.1 hn with h1 | ⟨s1, x, h1, h2, h3⟩ | ⟨b, h1, h2⟩
 ·exact .inl (hE h1)
 ·have := (hf s1 x h3 (by omega)).1 h1
  rw [h2, h3]; exact this
 ·exact .inr (.inr ⟨b, by rw [h1]; rfl, by rw [h2]; rfl⟩)
theorem QQ.q (h : QQ l j s r r') (hs : s.n ≤ j) : Q3 l j r r' := by
 rcases Nat.lt_or_ge s.n j with h1 | h1
 ·exact h.1 h1
 ·exact .inl (h.2 (by omega))
theorem QQ.ok {x : α} {s1 : PS} (hs : s1.n ≤ j) : QQ l j s1 (.ok s1 x) (.ok s1 x) := ⟨fun h => .inr (.inl ⟨s1, x, h, rfl, rfl⟩), fun h => .inr ⟨s1, x, rfl, h⟩⟩
theorem QQ.adv (h : QQ l j s.adv r r') (hs : s.n < j) : QQ l j s r r' := ⟨fun _ => h.q (by simp [PS.adv]; omega), fun h => by omega⟩
variable (hc : Cut l l' j)
include hc
theorem QQ.err (hs : s.n ≤ j) : QQ l j s (.err (nth l s.n).a : PR α) (.err (nth l' s.n).a) := ⟨fun h => .inr (.inr ⟨_, rfl, by rw [hc.same _ h]⟩), fun h => .inl (by rw [h, hc.a])⟩
variable (hk' : TkOk l')
include hk'
end
end Go.Proofs.YtonchjamoblioaaGreatDoor
