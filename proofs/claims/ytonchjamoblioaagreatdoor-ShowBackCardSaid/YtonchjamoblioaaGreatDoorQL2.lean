/- Steps of a function body on data, and contracts of the functions of the seat, walked. -/
import Derived.Test.YtonchjamoblioaaGreatDoorZL2
import Derived.Test.YtonchjamoblioaaGreatDoorZShX
import Derived.Test.YtonchjamoblioaaGreatDoorQE
import Derived.Test.YtonchjamoblioaaGreatDoorPS
import Derived.Test.YtonchjamoblioaaGreatDoorZ5
set_option linter.unusedSimpArgs false
set_option linter.unusedVariables false
set_option linter.unusedSectionVars false
namespace Go.Proofs.YtonchjamoblioaaGreatDoor
open Go.Kin
set_option maxRecDepth 100000
set_option maxHeartbeats 0
/-- the document's token at a place -/
def tokR (s : List UInt8) (a : Nat) : Tk := if firstB (s.drop a) = true then (firstT (s.drop a)).at' (a : Nat) else ⟨0, [], 0, v0⟩
section
variable {s : List UInt8} {a : Nat} (ha : a < s.length)
include ha
theorem dl : 0 < (s.drop a).length := by simp; omega
end
end Go.Proofs.YtonchjamoblioaaGreatDoor
namespace Go.Proofs.YtonchjamoblioaaGreatDoor
open Go.Kin
set_option maxRecDepth 100000
set_option maxHeartbeats 0
def blankAt (s : List UInt8) (a b : Nat) : Prop := a ≤ b ∧ b ≤ s.length ∧ nextA s a = nextA s b
end Go.Proofs.YtonchjamoblioaaGreatDoor
namespace Go.Proofs.YtonchjamoblioaaGreatDoor
open Go.Kin Go.Lib
def blankS (s : List UInt8) : Bool := s.all fun c => blankI c.toNat
end Go.Proofs.YtonchjamoblioaaGreatDoor
namespace Go.Proofs.YtonchjamoblioaaGreatDoor
open Go.Kin Go.Lib
theorem spanN_stop {p : Int → Bool} {d : UInt8} (hd : p d.toNat = false) (y : List UInt8) : ∀ x : List UInt8, spanN p (x ++ d :: y) = spanN p x
 | [] => by simp [spanN, hd]
 | c :: r => by simp only [List.cons_append, spanN, spanN_stop hd y r]
theorem spanN_full {p : Int → Bool} (y : List UInt8) : ∀ x : List UInt8, x.all (fun c => p c.toNat) = true → spanN p (x ++ y) = x.length + spanN p y
 | [], _ => by simp
 | c :: r, h => by
  simp only [List.all_cons, Bool.and_eq_true] at h
  simp only [List.cons_append, spanN, h.1, if_true, List.length_cons, spanN_full y r h.2]; omega
theorem spanN_in {p : Int → Bool} (y : List UInt8) : ∀ x : List UInt8, spanN p x < x.length → spanN p (x ++ y) = spanN p x
 | [], h => by simp at h
 | c :: r, h => by
  simp only [List.cons_append, spanN] at h ⊢
  by_cases hc : p c.toNat = true
  ·rw [if_pos hc] at h ⊢; rw [if_pos hc, spanN_in y r (by simp at h; exact h)]
  ·rw [if_neg hc, if_neg hc]
theorem index_app (m : List UInt8) (c : UInt8) : ∀ l : List UInt8, 0 ≤ indexByte l c → indexByte (l ++ m) c = indexByte l c
 | [], h => by simp [indexByte] at h
 | b :: l, h => by
  simp only [List.cons_append, indexByte] at h ⊢
  split at h
  ·rename_i q; rw [if_pos q, if_pos q]
  ·rename_i q
   rw [if_neg q, if_neg q]
   split at h
   ·omega
   ·rename_i q2
    have := indexByte_lt l c
    rw [index_app m c l (by simp at q2; omega)]
theorem signs_noblank : ∀ q ∈ signsF, ∀ e ∈ q, blankI ((e : UInt8).toNat : Int) = false := by decide
theorem blank_sign {d : UInt8} (h : blankI (d.toNat : Int) = true) : signI d.toNat = false ∧ digitI d.toNat = false := by
 unfold blankI at h
 simp only [Bool.or_eq_true, beq_iff_eq] at h
 unfold signI letterI digitI
 rcases h with (h | h) | h <;> rw [h] <;> decide
theorem best_app {x y : List UInt8} {d : UInt8} (hd : blankI (d.toNat : Int) = true) (h0 : bestSign x ≠ []) : bestSign (x ++ d :: y) = bestSign x := by
 refine isBest_unique (best_isBest _) ?_
 rcases best_isBest x with h | ⟨h1, h2, h3⟩
 ·exact absurd h.1 h0
 ·refine .inr ⟨h1, pre_iff.2 ((pre_iff.1 h2).trans (List.prefix_append _ _)), fun q hq hp => h3 q hq (pre_iff.2 ?_)⟩
  have hp := pre_iff.1 hp
  rcases Nat.lt_or_ge x.length q.length with hl | hl
  ·exfalso
   have hp2 : x ++ [d] <+: q := by
    refine List.prefix_of_prefix_length_le (l₃ := x ++ d :: y) ⟨y, by simp⟩ hp (by simp; omega)
   obtain ⟨w, hw⟩ := hp2
   have := signs_noblank q hq d (by rw [← hw]; simp)
   rw [hd] at this; cases this
  ·exact List.prefix_of_prefix_length_le hp (List.prefix_append _ _) hl
theorem first_app {x y : List UInt8} {d : UInt8} (hd : blankI (d.toNat : Int) = true) (hb : firstB x = true) (hk : (firstT x).k ≠ 5) : firstT (x ++ d :: y) = firstT x ∧ firstB (x ++ d :: y) = true := by
 have h0 : x ≠ [] := by intro e; exact hk (first_end.2 e)
 obtain ⟨hs1, hs2⟩ := blank_sign hd
 have h0' : x ++ d :: y ≠ [] := by simp
 have hg : (x ++ d :: y).getD 0 0 = x.getD 0 0 := by
  cases x with
  | nil => exact absurd rfl h0
  | cons c r => rfl
 have hdr : (x ++ d :: y).drop 1 = x.drop 1 ++ d :: y := by
  cases x with
  | nil => exact absurd rfl h0
  | cons c r => rfl
 have e1 : wordN (x ++ d :: y) = wordN x := by
  unfold wordN; rw [spanN_stop hs1, List.take_append_of_le_length (spanN_le _ _)]
 have e2 : digitN (x ++ d :: y) = digitN x := by
  unfold digitN; rw [spanN_stop hs2, List.take_append_of_le_length (spanN_le _ _)]
 have e3 : spanN digitI ((x ++ d :: y).drop 1) = spanN digitI (x.drop 1) := by rw [hdr, spanN_stop hs2]
 have hx1 : 0 < x.length := List.length_pos_iff.2 h0
 have e4 : minusN (x ++ d :: y) = minusN x := by
  unfold minusN
  have := spanN_le digitI (x.drop 1)
  rw [List.length_drop] at this
  rw [e3, List.take_append_of_le_length (by omega)]
 unfold firstT firstB at *
 rw [if_neg h0] at hb hk
 rw [if_neg h0', if_neg h0', if_neg h0, hg, e1, e2, e3, e4]
 by_cases h1 : letterI (x.getD 0 0).toNat = true
 ·simp only [if_pos h1] at hb ⊢; exact ⟨trivial, hb⟩
 ·simp only [if_neg h1] at hb ⊢
  by_cases h2 : digitI (x.getD 0 0).toNat = true
  ·simp only [if_pos h2] at hb ⊢; exact ⟨trivial, hb⟩
  ·simp only [if_neg h2] at hb ⊢
   by_cases h3 : (((x.getD 0 0).toNat : Int) == 45 && decide (0 < (spanN digitI (x.drop 1) : Int))) = true
   ·simp only [if_pos h3] at hb ⊢; exact ⟨trivial, hb⟩
   ·simp only [if_neg h3] at hb ⊢
    by_cases h4 : (((x.getD 0 0).toNat : Int) == 34) = true
    ·simp only [if_pos h4] at hb ⊢
     by_cases h5 : indexByte (x.drop 1) 34 < 0
     ·rw [if_pos h5] at hb; cases hb
     ·simp only [if_neg h5] at hb
      have ei : indexByte ((x ++ d :: y).drop 1) 34 = indexByte (x.drop 1) 34 := by rw [hdr]; exact index_app _ _ _ (by omega)
      have hi := indexByte_lt (x.drop 1) 34
      rw [List.length_drop] at hi
      have et : textN (x ++ d :: y) = textN x := by
       unfold textN; rw [ei, List.take_append_of_le_length (by omega)]
      simp only [ei, if_neg h5, et]; exact ⟨trivial, hb⟩
    ·simp only [if_neg h4] at hb ⊢
     have e := best_app (x := x) (y := y) hd (by simpa using hb)
     rw [e]; exact ⟨rfl, hb⟩
def shiftT (p : Nat) (t : Tk) : Tk := ⟨t.k, t.t, t.a + p, t.v⟩
end Go.Proofs.YtonchjamoblioaaGreatDoor
namespace Go.Proofs.YtonchjamoblioaaGreatDoor
open Go.Kin
/-! ### the same tokens at other places are read the same -/
structure Sh (l l' : List Tk) : Prop where
 len : l.length = l'.length
 eq : ∀ i, i < l.length → (nth l i).k = (nth l' i).k ∧ (nth l i).t = (nth l' i).t ∧ (nth l i).v = (nth l' i).v
 up : ∀ i j, i < j → j < l.length → (nth l i).a < (nth l j).a ∧ (nth l' i).a < (nth l' j).a
 pos : ∀ i, i < l.length → 0 ≤ (nth l i).a ∧ 0 ≤ (nth l' i).a
section
variable (l l' : List Tk)
def MR (m m' : Int) : Prop := (m < 0 ∧ m' < 0) ∨ ∃ j, j < l.length ∧ m = (nth l j).a ∧ m' = (nth l' j).a
def St2 (s s' : PS) : Prop := s.n = s'.n ∧ s.n < l.length ∧ MR l l' s.m s'.m
def R2 {α : Type} : PR α → PR α → Prop
 | .ok s x, .ok s' x' => St2 l l' s s' ∧ x = x'
 | .err a, .err a' => ∃ j, j < l.length ∧ a = (nth l j).a ∧ a' = (nth l' j).a
 | _, _ => False
end
section
variable {l l' : List Tk} {α β : Type}
theorem R2.bind {r r' : PR α} {f f' : PS → α → PR β} (h : R2 l l' r r') (hf : ∀ s s' x, r = .ok s x → St2 l l' s s' → R2 l l' (f s x) (f' s' x)) : R2 l l' (r.bind f) (r'.bind f') := by
 cases r with
 | ok s x => cases r' with
  | ok s' x' => obtain ⟨h, rfl⟩ := h; exact hf _ _ _ rfl h
  | err a => exact h.elim
 | err a => cases r' with
  | ok s' x' => exact h.elim
  | err a => exact h
theorem R2.map {r r' : PR α} {F : α → β} (h : R2 l l' r r') : R2 l l' (r.bind fun s x => .ok s (F x)) (r'.bind fun s x => .ok s (F x)) := h.bind fun _ _ _ _ h => ⟨h, rfl⟩
variable (hk : TkOk l) (hs : Sh l l')
section
include hs
theorem Sh.lt {i j : Nat} (hi : i < l.length) (hj : j < l.length) : ((nth l i).a < (nth l j).a ↔ i < j) ∧ ((nth l' i).a < (nth l' j).a ↔ i < j) := by
 rcases Nat.lt_trichotomy i j with h | h | h
 ·have := hs.up i j h hj; exact ⟨⟨fun _ => h, fun _ => this.1⟩, ⟨fun _ => h, fun _ => this.2⟩⟩
 ·subst h; exact ⟨⟨fun h => by omega, fun h => by omega⟩, ⟨fun h => by omega, fun h => by omega⟩⟩
 ·have := hs.up j i h hi; exact ⟨⟨fun h => by omega, fun h => by omega⟩, ⟨fun h => by omega, fun h => by omega⟩⟩
end
include hk hs
end
end Go.Proofs.YtonchjamoblioaaGreatDoor
namespace Go.Proofs.YtonchjamoblioaaGreatDoor
open Go.Kin
/-! ### what is read is right -/
def TV (l : List Tk) : Prop := ∀ i, ((nth l i).k = 2 ∨ (nth l i).k = 3) → rightV (nth l i).v.k (nth l i).v.n (nth l i).v.s = true
def KM {α : Type} (s : PS) (r : PR α) (P : α → Prop) : Prop := ∀ s1 x, r = .ok s1 x → s1.m = s.m ∧ P x
def GM {α : Type} (s : PS) (r : PR α) (P : α → Prop) : Prop := ∀ s1 x, r = .ok s1 x → (0 ≤ s.m → 0 ≤ s1.m) ∧ (s1.m < 0 → P x)
section
variable {l : List Tk} {α β : Type} {P : α → Prop} {Q : β → Prop} {s : PS} {r : PR α} {f : PS → α → PR β}
theorem KM.bind (h : KM s r P) (hf : ∀ s1 x, P x → KM s1 (f s1 x) Q) : KM s (r.bind f) Q := by
 intro s2 y e
 obtain ⟨s1, x, e1, e2⟩ := bind_ok e
 obtain ⟨h1, h2⟩ := h _ _ e1
 obtain ⟨h3, h4⟩ := hf _ _ h2 _ _ e2
 exact ⟨by omega, h4⟩
theorem GM.bind (h : GM s r P) (hf : ∀ s1 x, (0 ≤ s.m → 0 ≤ s1.m) → (s1.m < 0 → P x) → GM s1 (f s1 x) Q) : GM s (r.bind f) Q := by
 intro s2 y e
 obtain ⟨s1, x, e1, e2⟩ := bind_ok e
 obtain ⟨h1, h2⟩ := h _ _ e1
 obtain ⟨h3, h4⟩ := hf _ _ h1 h2 _ _ e2
 exact ⟨fun h0 => h3 (h1 h0), h4⟩
theorem KM.of {s1 : PS} {x : α} (h : s1.m = s.m) (hp : P x) : KM s (.ok s1 x) P := fun _ _ e => by cases e; exact ⟨h, hp⟩
theorem GM.of {s1 : PS} {x : α} (h : s1.m = s.m) (hp : s1.m < 0 → P x) : GM s (.ok s1 x) P := fun _ _ e => by cases e; exact ⟨fun _ => by omega, hp⟩
theorem KM.err {a : Int} : KM s (.err a) P := fun _ _ e => by cases e
theorem GM.err {a : Int} : GM s (.err a) P := fun _ _ e => by cases e
theorem KM.adv (h : KM s.adv r P) : KM s r P := h
theorem GM.adv (h : GM s.adv r P) : GM s r P := h
theorem lim_no {a : Int} : limS false a s = s := rfl
section
variable (hv : TV l)
include hv
end
variable (hk : TkOk l)
include hk
end
end Go.Proofs.YtonchjamoblioaaGreatDoor
namespace Go.Proofs.YtonchjamoblioaaGreatDoor
open Go.Kin
/-! ### a row of tokens, cut ahead of one -/
structure Cut (l l' : List Tk) (j : Nat) : Prop where
 jl : j < l.length
 len : l'.length = j + 1
 same : ∀ i, i < j → nth l' i = nth l i
 a : (nth l' j).a = (nth l j).a
 k : (nth l' j).k = 5
section
variable (l : List Tk) (j : Nat)
def EE {α : Type} (r : PR α) : Prop := r = .err (nth l j).a ∨ ∃ s x, r = .ok s x ∧ s.n = j
def Q3 {α : Type} (r r' : PR α) : Prop := EE l j r' ∨ (∃ s x, s.n < j ∧ r = .ok s x ∧ r' = .ok s x) ∨ ∃ b, r = .err b ∧ r' = .err b
def QQ {α : Type} (s : PS) (r r' : PR α) : Prop := (s.n < j → Q3 l j r r') ∧ (s.n = j → EE l j r')
end
section
variable {l l' : List Tk} {j : Nat} {α β : Type} {s : PS} {r r' : PR α} {f f' : PS → α → PR β}
theorem QQ.bind (h : QQ l j s r r') (hs : s.n ≤ j) (hf : ∀ s1 x, r' = .ok s1 x → s1.n ≤ j → QQ l j s1 (f s1 x) (f' s1 x)) : QQ l j s (r.bind f) (r'.bind f') := by
 have hE : EE l j r' → EE l j (r'.bind f') := fun h => by
  rcases h with h | ⟨s1, x, h, hn⟩
  ·exact .inl (by rw [h]; rfl)
  ·have := (hf s1 x h (by omega)).2 hn
   rw [h]; exact this
 refine ⟨fun hn => ?_, fun hn => hE (h.2 hn)⟩
 rcases h.1 hn with h1 | ⟨s1, x, h1, h2, h3⟩ | ⟨b, h1, h2⟩
 ·exact .inl (hE h1)
 ·have := (hf s1 x h3 (by omega)).1 h1
  rw [h2, h3]; exact this
 ·exact .inr (.inr ⟨b, by rw [h1]; rfl, by rw [h2]; rfl⟩)
theorem QQ.q (h : QQ l j s r r') (hs : s.n ≤ j) : Q3 l j r r' := by
 rcases Nat.lt_or_ge s.n j with h1 | h1
 ·exact h.1 h1
 ·exact .inl (h.2 (by omega))
theorem QQ.ok {x : α} {s1 : PS} (hs : s1.n ≤ j) : QQ l j s1 (.ok s1 x) (.ok s1 x) := ⟨fun h => .inr (.inl ⟨s1, x, h, rfl, rfl⟩), fun h => .inr ⟨s1, x, rfl, h⟩⟩
theorem QQ.adv (h : QQ l j s.adv r r') (hs : s.n < j) : QQ l j s r r' := ⟨fun _ => h.q (by simp [PS.adv]; omega), fun h => by omega⟩
variable (hc : Cut l l' j)
include hc
theorem QQ.err (hs : s.n ≤ j) : QQ l j s (.err (nth l s.n).a : PR α) (.err (nth l' s.n).a) := ⟨fun h => .inr (.inr ⟨_, rfl, by rw [hc.same _ h]⟩), fun h => .inl (by rw [h, hc.a])⟩
variable (hk' : TkOk l')
include hk'
end
end Go.Proofs.YtonchjamoblioaaGreatDoor
namespace Go.Proofs.YtonchjamoblioaaGreatDoor
open Go.Kin
set_option maxRecDepth 100000
set_option maxHeartbeats 0
theorem lexAt_tk {s : List UInt8} : ∀ (n a : Nat), s.length - a < n → a ≤ s.length → (lexAt s a).2 = none → (lexAt s a).1 ≠ [] ∧ (lexAt s a).1.length ≤ s.length - a + 1 ∧ (∀ i, i < (lexAt s a).1.length → ((nth (lexAt s a).1 i).k = 5 ↔ i + 1 = (lexAt s a).1.length)) ∧
  ∀ t ∈ (lexAt s a).1, t.t.length ≤ s.length ∧ (a : Int) ≤ t.a ∧ t.a ≤ s.length
 | 0, a, h, _, _ => by omega
 | n + 1, a, hn, ha, h => by
  have hle := nextA_le ha
  have hge : a ≤ nextA s a := by unfold nextA; omega
  by_cases hb : firstB (s.drop (nextA s a)) = true
  ·have htl : (firstT (s.drop (nextA s a))).t.length ≤ s.length := by
    by_cases hk : (firstT (s.drop (nextA s a))).k = 5
    ·rw [first_end.1 hk]; show 0 ≤ _; omega
    ·have := (first_len hb hk).2; simp at this; omega
   have htok : (tokA s a).t.length ≤ s.length ∧ (a : Int) ≤ (tokA s a).a ∧ (tokA s a).a ≤ s.length := ⟨htl, by show (a : Int) ≤ (nextA s a : Nat); omega, by show ((nextA s a : Nat) : Int) ≤ _; omega⟩
   by_cases hk : (firstT (s.drop (nextA s a))).k = 5
   ·rw [lexAt_end ha hb hk]
    refine ⟨by simp, by simp, fun i hi => ?_, fun t ht => ?_⟩
    ·have : i = 0 := by simpa using hi
     subst this
     constructor
     ·intro _; rfl
     ·intro _; exact hk
    ·simp at ht; subst ht; exact htok
   ·have t := thenA_le ha hb
    have hlt := t.2.resolve_left hk
    rw [lexAt_on ha hb hk] at h ⊢
    simp only at h ⊢
    obtain ⟨i1, i2, i3, i4⟩ := lexAt_tk n (thenA s a) (by omega) t.1 h
    refine ⟨by simp, by simp; omega, fun i hi => ?_, fun x hx => ?_⟩
    ·cases i with
     | zero =>
      have : 0 < (lexAt s (thenA s a)).1.length := List.length_pos_iff.2 i1
      constructor
      ·intro h5; exact absurd h5 hk
      ·intro h5; simp at h5; exact absurd h5 i1
     | succ i =>
      have h5 := i3 i (by simpa using hi)
      simp only [List.length_cons]
      have e : nth (tokA s a :: (lexAt s (thenA s a)).1) (i + 1) = nth (lexAt s (thenA s a)).1 i := by simp [nth]
      rw [e, h5]; omega
    ·rcases List.mem_cons.1 hx with rfl | hx
     ·exact htok
     ·have := i4 x hx; omega
  ·have hb' : firstB (s.drop (nextA s a)) = false := by simpa using hb
   rw [lexAt_no ha hb'] at h; cases h
theorem lexT_at {s : List UInt8} (h : lexE s = 0) : s.length ≤ 2000 ∧ (lexAt s 0).2 = none ∧ lexT s = (lexAt s 0).1 ∧ lexA s = 0 := by
 unfold lexE at h
 by_cases hl : 2000 < (s.length : Int)
 ·rw [if_pos hl] at h; cases h
 ·rw [if_neg hl] at h
  unfold lexT lexA
  rw [if_neg hl, if_neg hl]
  have e : lexAll s = lexAt s 0 := rfl
  rw [e] at h ⊢
  cases h2 : (lexAt s 0).2 with
  | none => exact ⟨by omega, rfl, rfl, rfl⟩
  | some a => rw [h2] at h; cases h
theorem lex_tk {s : List UInt8} (h : lexE s = 0) : TkOk (lexT s) ∧ 0 < (lexT s).length ∧ (∀ i, i < (lexT s).length → ((nth (lexT s) i).k = 5 ↔ i + 1 = (lexT s).length)) ∧ ∀ i, i < (lexT s).length → (nth (lexT s) i).t.length ≤ s.length ∧ 0 ≤ (nth (lexT s) i).a ∧ (nth (lexT s) i).a ≤ s.length := by
 obtain ⟨h1, h2, h3, _⟩ := lexT_at h
 obtain ⟨i1, i2, i3, i4⟩ := lexAt_tk (s.length + 1) 0 (by omega) (by omega) h2
 rw [← h3] at i1 i2 i3 i4
 have i5 : ∀ i, i < (lexT s).length → (nth (lexT s) i).t.length ≤ s.length ∧ 0 ≤ (nth (lexT s) i).a ∧ (nth (lexT s) i).a ≤ s.length := fun i hi => by have := i4 _ (nth_mem hi); omega
 exact ⟨⟨by omega, by omega, fun i hi hk => by have h6 : ¬ (i + 1 = (lexT s).length) := fun e => hk ((i3 i hi).2 e); omega, fun i hi => by have := (i5 i hi).1; omega, fun i hi => by have := i5 i hi; omega⟩, List.length_pos_iff.2 i1, i3, i5⟩
/-- a whole text, by a rule -/
def readV {α : Type} (z : α) (rule : List Tk → PS → PR α) (s : List UInt8) : α × Int × Int :=
 if lexE s = 0 then (match rule (lexT s) ⟨0, -1⟩ with
  | .err a => (z, a, 7)
  | .ok s1 x => if (nth (lexT s) s1.n).k = 5 then (if 0 ≤ s1.m then (z, s1.m, 3) else (x, 0, 0)) else (z, (nth (lexT s) s1.n).a, 7))
 else (z, lexA s, lexE s)
section
variable {α : Type} {z : α} {rule : List Tk → PS → PR α} {s : List UInt8}
theorem readV_no (h : lexE s ≠ 0) : readV z rule s = (z, lexA s, lexE s) := if_neg h
theorem readV_err (h : lexE s = 0) {a : Int} (hr : rule (lexT s) ⟨0, -1⟩ = .err a) : readV z rule s = (z, a, 7) := by unfold readV; rw [if_pos h, hr]
theorem readV_end (h : lexE s = 0) {s1 : PS} {x : α} (hr : rule (lexT s) ⟨0, -1⟩ = .ok s1 x) (hk : (nth (lexT s) s1.n).k ≠ 5) : readV z rule s = (z, (nth (lexT s) s1.n).a, 7) := by unfold readV; rw [if_pos h, hr]; simp only; rw [if_neg hk]
theorem readV_long (h : lexE s = 0) {s1 : PS} {x : α} (hr : rule (lexT s) ⟨0, -1⟩ = .ok s1 x) (hk : (nth (lexT s) s1.n).k = 5) (hm : 0 ≤ s1.m) : readV z rule s = (z, s1.m, 3) := by unfold readV; rw [if_pos h, hr]; simp only; rw [if_pos hk, if_pos hm]
theorem readV_ok (h : lexE s = 0) {s1 : PS} {x : α} (hr : rule (lexT s) ⟨0, -1⟩ = .ok s1 x) (hk : (nth (lexT s) s1.n).k = 5) (hm : ¬ 0 ≤ s1.m) : readV z rule s = (x, 0, 0) := by unfold readV; rw [if_pos h, hr]; simp only; rw [if_pos hk, if_neg hm]
end
def qz : Qu := ⟨[], [], [], 0, 0⟩
def xz : Ex := .mk 0 [] []
attribute [go_sem] Qu.p Qu.c Qu.r Qu.range Qu.slide
theorem wholeN_adv {l : List Tk} (hk : TkOk l) {s : PS} (hn : s.n < l.length) : ∀ s1 x, wholeP l s = .ok s1 x → s1.n < l.length := fun s1 x h => (whole_adv hk hn s1 x h).1.2
theorem query_adv {l : List Tk} (hk : TkOk l) {s : PS} (hn : s.n < l.length) : ∀ s1 q, queryP l s = .ok s1 q → s1.n < l.length := by
 intro s1 q h
 obtain ⟨s2, _, h2, h⟩ := bind_ok h
 obtain ⟨s3, _, h3, h⟩ := bind_ok h
 obtain ⟨s4, _, h4, h⟩ := bind_ok h
 obtain ⟨s5, _, h5, h⟩ := bind_ok h
 obtain ⟨s6, _, h6, h⟩ := bind_ok h
 obtain ⟨s7, _, h7, h⟩ := bind_ok h
 obtain ⟨s8, _, h8, h⟩ := bind_ok h
 obtain ⟨s9, _, h9, h⟩ := bind_ok h
 obtain ⟨s0, _, h0, h⟩ := bind_ok h
 cases h
 have many : ∀ {α : Type} {rd : PS → PR α} {w : List UInt8} {mx : Nat}, (∀ s : PS, s.n < l.length → AdvP l s (rd s)) → ∀ (f : Nat) (s : PS) (acc : List α), s.n < l.length → ∀ s1 xs, manyP l rd w mx f s acc = .ok s1 xs → s1.n < l.length := by
  intro α rd w mx hr f
  induction f with
  | zero => intro s acc _ s1 xs h; cases h
  | succ f ih =>
   intro s acc hs s1 xs h
   obtain ⟨t1, x, g1, h⟩ := bind_ok h
   have a1 := hr _ (by rw [limS_n]; exact hs) _ _ g1
   split at h
   ·rename_i hp; exact ih _ _ (is_adv hk a1.2 hp) _ _ h
   ·cases h; exact a1.2
 have a2 := must_adv hk hn _ _ h2
 have a3 := many (fun s hs => pat_adv hk hs) _ _ _ a2.2 _ _ h3
 have a4 : s4.n < l.length := by
  split at h4
  ·rename_i hp; exact many (fun s hs => cd_adv hk hs) _ _ _ (is_adv hk a3 hp) _ _ h4
  ·cases h4; exact a3
 have a5 := must_adv hk a4 _ _ h5
 have a6 := many (fun s hs => told_adv hk hs) _ _ _ a5.2 _ _ h6
 have a7 := must_adv hk a6 _ _ h7
 have a8 := num_adv hk a7.2 _ _ h8
 have a9 := must_adv hk a8.2 _ _ h9
 exact (num_adv hk a9.2 _ _ h0).2
attribute [go_sem] qz xz
theorem readQ_ok (s : List UInt8) (hs : s.length ≤ 140737488351232) : FnOK LaidX Tryz.prog 60 [sv s, .fn 61 []] (.tup [quD (readV qz queryP s).1, iv (readV qz queryP s).2.1, iv (readV qz queryP s).2.2]) := by
 refine FnOK_of laidX_stable Tryz.func60 Tryz.ntmps60 rfl (by as_aux_lemma => kernel_rfl) (Nat.le_of_ble_eq_true rfl) (fun R hR => ?_)
 obtain ⟨_, b, cs, T, C⟩ := R
 obtain rfl : _ = Tryz.prog := hR.p
 refine sreg te_ok ?_
 refine sq ?_
 apply Exec.regionL te_ok
 ·intro u' Q hQ
  simp only [go_sem]
  repeat refine ob2 ?_
  refine kcall hR.inv te_ok rfl rfl rfl rfl rfl rfl (lex_ok s (by omega)) ?_
  simp only [go_sem]
  repeat refine ob2 ?_
  exact hQ
 refine sq ?_
 refine sreg te_ok ?_
 refine Exec.cond_split rfl (fun h0 => ?_) (fun h0 => ?_)
 ·have hE : lexE s ≠ 0 := by simpa using h0
  refine sq ?_
  apply Exec.free (st := _) 7 6 [(0, 1), (0, 2), (1, 2), (1, 3), (2, 3), (2, 4)] te_ok (by as_aux_lemma => kernel_rfl) rfl (by as_aux_lemma => kernel_rfl)
  ·intro u' Q hQ
   simp only [go_sem]
   repeat refine ob2 ?_
   exact hQ
  ·rfl
  refine Exec.rets hR te_ok rfl rfl rfl (LeX.le ?_) (.inr ⟨_, rfl⟩)
  rw [readV_no hE]
  simp only [go_sem]
 ·have hE : lexE s = 0 := by simpa using h0
  obtain ⟨hk, h0n, _, _⟩ := lex_tk hE
  refine sk ?_
  refine sq ?_
  refine Exec.regStart 2 rfl ?_
  apply Exec.regPart 0 1 1 te_ok rfl
  ·intro u' Q hQ
   simp only [go_sem]
   repeat refine ob2 ?_
   exact hQ
  refine Exec.deferOp hR.round rfl rfl rfl rfl rfl rfl rfl (fun ac hac => ?_)
  apply Exec.norm
  ·simp only [go_sem]
   rfl
  refine Exec.regEnd ?_
  refine sreg te_ok ?_
  refine sq ?_
  rcases hq1 : queryP (lexT s) ⟨0, -1⟩ with ⟨⟨n1, m1⟩, x1⟩ | at1
  ·have hn1 : n1 < (lexT s).length := query_adv hk (s := ⟨0, -1⟩) h0n _ _ hq1
   apply Exec.regionL te_ok
   ·intro u' Q hQ
    simp only [go_sem]
    repeat refine ob2 ?_
    refine kcallM 25 hR.inv te_ok rfl rfl rfl rfl rfl rfl rfl rfl rfl ((fOk (pquery_ok (lexT s) 0 (-1) hk h0n) hq1).weak laidX_laid) ?_
    simp only [go_sem]
    repeat refine ob2 ?_
    exact hQ
   refine sq ?_
   refine sq ?_
   apply Exec.regionL te_ok
   ·intro u' Q hQ
    simp only [go_sem]
    repeat refine ob2 ?_
    refine kcallM 25 hR.inv te_ok rfl rfl rfl rfl rfl rfl rfl rfl rfl ((token_ok (lexT s) n1 m1 hn1).weak laidX_laid) ?_
    simp only [go_sem]
    repeat refine ob2 ?_
    exact hQ
   refine Exec.cond_split rfl (fun h1 => ?_) (fun h1 => ?_)
   ·have hk5 : (nth (lexT s) n1).k ≠ 5 := by simpa using h1
    refine Exec.regStart 2 rfl ?_
    apply Exec.regPart 0 1 1 te_ok rfl
    ·intro u' Q hQ
     simp only [go_sem]
     repeat refine ob2 ?_
     exact hQ
    refine Exec.callP 25 hR.inv rfl rfl rfl rfl rfl rfl rfl rfl rfl ((fail_ok (lexT s) n1 m1 hn1).weak laidX_laid) ?_
    refine ExecP.defer rfl hac List.mem_cons_self Tryz.func122 Tryz.ntmps122 rfl (by as_aux_lemma => kernel_rfl) (Nat.le_of_ble_eq_true rfl) (fun ao av k0 v hao haod hav => ?_)
    refine Exec.ren (swJ 1) ?_
    apply Exec.norm
    ·simp only [go_sem]
     rfl
    refine sq ?_
    refine Exec.regStart 2 rfl ?_
    refine Exec.recover rfl rfl rfl (Nat.le_of_ble_eq_true rfl) rfl (List.mem_cons_of_mem _ List.mem_cons_self) rfl hav ?_
    apply Exec.norm
    ·simp only [go_sem]
     rfl
    apply Exec.regPart 1 1 0 te_ok rfl
    ·intro u' Q hQ
     simp only [go_sem]
     repeat refine ob2 ?_
     exact hQ
    refine Exec.regEnd ?_
    refine sreg te_ok ?_
    refine Exec.cond (t := true) rfl ?_
    simp only [reduceIte, Bool.false_eq_true]
    refine sq ?_
    apply Exec.regionL te_ok
    ·intro u' Q hQ
     simp only [go_sem]
     repeat refine ob2 ?_
     refine kassert te_ok rfl rfl rfl rfl rfl (fun m h => by cases h) ?_
     simp only [go_sem]
     repeat refine ob2 ?_
     exact hQ
    refine sq ?_
    refine sreg te_ok ?_
    refine Exec.cond (t := false) rfl ?_
    simp only [reduceIte, Bool.false_eq_true]
    refine sk ?_
    refine sreg te_ok ?_
    apply Exec.free (st := _) 7 6 [(0, 1), (0, 2), (1, 3), (2, 3)] te_ok (by as_aux_lemma => kernel_rfl) rfl (by as_aux_lemma => kernel_rfl)
    ·intro u' Q hQ
     simp only [go_sem]
     repeat refine ob2 ?_
     exact hQ
    ·rfl
    refine Exec.leaveD Tryz.func122 rfl (.inl rfl) rfl rfl hao haod rfl ?_
    refine ExecR.ren (swJ 1) ?_
    apply ExecR.norm
    ·simp only [go_sem]
     rfl
    refine ExecR.done hR te_ok rfl rfl rfl (LeX.le ?_)
    rw [readV_end hE hq1 hk5]
    simp only [go_sem]
   ·have hk5 : (nth (lexT s) n1).k = 5 := by simpa using h1
    refine sk ?_
    refine sq ?_
    refine sreg te_ok ?_
    refine Exec.cond_split rfl (fun h2 => ?_) (fun h2 => ?_)
    ·have hm : 0 ≤ m1 := by simpa using h2
     refine sq ?_
     apply Exec.free (st := _) 9 8 [(0, 1), (0, 2), (0, 3), (0, 4), (1, 5), (2, 5), (3, 5), (4, 5)] te_ok (by as_aux_lemma => kernel_rfl) rfl (by as_aux_lemma => kernel_rfl)
     ·intro u' Q hQ
      simp only [go_sem]
      repeat refine ob2 ?_
      exact hQ
     ·rfl
     refine Exec.retR hR.round (.inr ⟨_, rfl⟩) ?_
     refine ExecR.defer rfl hac List.mem_cons_self Tryz.func122 Tryz.ntmps122 rfl (by as_aux_lemma => kernel_rfl) (Nat.le_of_ble_eq_true rfl) (fun ao k0 hao haod => ?_)
     refine Exec.ren (swJ 1) ?_
     apply Exec.norm
     ·simp only [go_sem]
      rfl
     refine sq ?_
     refine Exec.regStart 2 rfl ?_
     refine Exec.recoverNo rfl rfl rfl (Nat.le_of_ble_eq_true rfl) rfl ?_
     apply Exec.norm
     ·simp only [go_sem]
      rfl
     apply Exec.regPart 1 1 0 te_ok rfl
     ·intro u' Q hQ
      simp only [go_sem]
      repeat refine ob2 ?_
      exact hQ
     refine Exec.regEnd ?_
     refine sreg te_ok ?_
     refine Exec.cond (t := false) rfl ?_
     simp only [reduceIte, Bool.false_eq_true]
     refine sk ?_
     refine Exec.leaveD Tryz.func122 rfl (.inl rfl) rfl rfl hao haod rfl ?_
     refine ExecR.ren (swJ 1) ?_
     apply ExecR.norm
     ·simp only [go_sem]
      rfl
     refine ExecR.done hR te_ok rfl rfl rfl (LeX.le ?_)
     rw [readV_long hE hq1 hk5 hm]
     simp only [go_sem]
    ·have hm : ¬ 0 ≤ m1 := by simpa using h2
     refine sk ?_
     refine sreg te_ok ?_
     refine Exec.retR hR.round (.inr ⟨_, rfl⟩) ?_
     refine ExecR.defer rfl hac List.mem_cons_self Tryz.func122 Tryz.ntmps122 rfl (by as_aux_lemma => kernel_rfl) (Nat.le_of_ble_eq_true rfl) (fun ao k0 hao haod => ?_)
     refine Exec.ren (swJ 1) ?_
     apply Exec.norm
     ·simp only [go_sem]
      rfl
     refine sq ?_
     refine Exec.regStart 2 rfl ?_
     refine Exec.recoverNo rfl rfl rfl (Nat.le_of_ble_eq_true rfl) rfl ?_
     apply Exec.norm
     ·simp only [go_sem]
      rfl
     apply Exec.regPart 1 1 0 te_ok rfl
     ·intro u' Q hQ
      simp only [go_sem]
      repeat refine ob2 ?_
      exact hQ
     refine Exec.regEnd ?_
     refine sreg te_ok ?_
     refine Exec.cond (t := false) rfl ?_
     simp only [reduceIte, Bool.false_eq_true]
     refine sk ?_
     refine Exec.leaveD Tryz.func122 rfl (.inl rfl) rfl rfl hao haod rfl ?_
     refine ExecR.ren (swJ 1) ?_
     apply ExecR.norm
     ·simp only [go_sem]
      rfl
     refine ExecR.done hR te_ok rfl rfl rfl (LeX.le ?_)
     rw [readV_ok hE hq1 hk5 hm]
     simp only [go_sem]
  ·refine Exec.regStart 5 rfl ?_
   apply Exec.regPart 0 2 3 te_ok rfl
   ·intro u' Q hQ
    simp only [go_sem]
    repeat refine ob2 ?_
    exact hQ
   refine Exec.callP 25 hR.inv rfl rfl rfl rfl rfl rfl rfl rfl rfl ((fEr (pquery_ok (lexT s) 0 (-1) hk h0n) hq1).weak laidX_laid) ?_
   refine ExecP.defer rfl hac List.mem_cons_self Tryz.func122 Tryz.ntmps122 rfl (by as_aux_lemma => kernel_rfl) (Nat.le_of_ble_eq_true rfl) (fun ao av k0 v hao haod hav => ?_)
   refine Exec.ren (swJ 1) ?_
   apply Exec.norm
   ·simp only [go_sem]
    rfl
   refine sq ?_
   refine Exec.regStart 2 rfl ?_
   refine Exec.recover rfl rfl rfl (Nat.le_of_ble_eq_true rfl) rfl (List.mem_cons_of_mem _ List.mem_cons_self) rfl hav ?_
   apply Exec.norm
   ·simp only [go_sem]
    rfl
   apply Exec.regPart 1 1 0 te_ok rfl
   ·intro u' Q hQ
    simp only [go_sem]
    repeat refine ob2 ?_
    exact hQ
   refine Exec.regEnd ?_
   refine sreg te_ok ?_
   refine Exec.cond (t := true) rfl ?_
   simp only [reduceIte, Bool.false_eq_true]
   refine sq ?_
   apply Exec.regionL te_ok
   ·intro u' Q hQ
    simp only [go_sem]
    repeat refine ob2 ?_
    refine kassert te_ok rfl rfl rfl rfl rfl (fun m h => by cases h) ?_
    simp only [go_sem]
    repeat refine ob2 ?_
    exact hQ
   refine sq ?_
   refine sreg te_ok ?_
   refine Exec.cond (t := false) rfl ?_
   simp only [reduceIte, Bool.false_eq_true]
   refine sk ?_
   refine sreg te_ok ?_
   apply Exec.free (st := _) 7 6 [(0, 1), (0, 2), (1, 3), (2, 3)] te_ok (by as_aux_lemma => kernel_rfl) rfl (by as_aux_lemma => kernel_rfl)
   ·intro u' Q hQ
    simp only [go_sem]
    repeat refine ob2 ?_
    exact hQ
   ·rfl
   refine Exec.leaveD Tryz.func122 rfl (.inl rfl) rfl rfl hao haod rfl ?_
   refine ExecR.ren (swJ 1) ?_
   apply ExecR.norm
   ·simp only [go_sem]
    rfl
   refine ExecR.done hR te_ok rfl rfl rfl (LeX.le ?_)
   rw [readV_err hE hq1]
   simp only [go_sem]
theorem readX_ok (s : List UInt8) (hs : s.length ≤ 140737488351232) : FnOK LaidX Tryz.prog 66 [sv s, .fn 67 []] (.tup [exD (readV xz wholeP s).1, iv (readV xz wholeP s).2.1, iv (readV xz wholeP s).2.2]) := by
 refine FnOK_of laidX_stable Tryz.func66 Tryz.ntmps66 rfl (by as_aux_lemma => kernel_rfl) (Nat.le_of_ble_eq_true rfl) (fun R hR => ?_)
 obtain ⟨_, b, cs, T, C⟩ := R
 obtain rfl : _ = Tryz.prog := hR.p
 refine sreg te_ok ?_
 refine sq ?_
 apply Exec.regionL te_ok
 ·intro u' Q hQ
  simp only [go_sem]
  repeat refine ob2 ?_
  refine kcall hR.inv te_ok rfl rfl rfl rfl rfl rfl (lex_ok s (by omega)) ?_
  simp only [go_sem]
  repeat refine ob2 ?_
  exact hQ
 refine sq ?_
 refine sreg te_ok ?_
 refine Exec.cond_split rfl (fun h0 => ?_) (fun h0 => ?_)
 ·have hE : lexE s ≠ 0 := by simpa using h0
  refine sq ?_
  apply Exec.free (st := _) 7 6 [(0, 1), (0, 2), (1, 2), (1, 3), (2, 3), (2, 4)] te_ok (by as_aux_lemma => kernel_rfl) rfl (by as_aux_lemma => kernel_rfl)
  ·intro u' Q hQ
   simp only [go_sem]
   repeat refine ob2 ?_
   exact hQ
  ·rfl
  refine Exec.rets hR te_ok rfl rfl rfl (LeX.le ?_) (.inr ⟨_, rfl⟩)
  rw [readV_no hE]
  simp only [go_sem]
  exact ⟨rfl, rfl, by rw [kd_eq]; exact ⟨rfl, rfl⟩⟩
 ·have hE : lexE s = 0 := by simpa using h0
  obtain ⟨hk, h0n, _, _⟩ := lex_tk hE
  refine sk ?_
  refine sq ?_
  refine Exec.regStart 2 rfl ?_
  apply Exec.regPart 0 1 1 te_ok rfl
  ·intro u' Q hQ
   simp only [go_sem]
   repeat refine ob2 ?_
   exact hQ
  refine Exec.deferOp hR.round rfl rfl rfl rfl rfl rfl rfl (fun ac hac => ?_)
  apply Exec.norm
  ·simp only [go_sem]
   rfl
  refine Exec.regEnd ?_
  refine sreg te_ok ?_
  refine sq ?_
  rcases hq1 : wholeP (lexT s) ⟨0, -1⟩ with ⟨⟨n1, m1⟩, x1⟩ | at1
  ·have hn1 : n1 < (lexT s).length := wholeN_adv hk (s := ⟨0, -1⟩) h0n _ _ hq1
   apply Exec.regionL te_ok
   ·intro u' Q hQ
    simp only [go_sem]
    repeat refine ob2 ?_
    refine kcallM 25 hR.inv te_ok rfl rfl rfl rfl rfl rfl rfl rfl rfl ((fOk (pwhole_ok (lexT s) 0 (-1) hk h0n) hq1).weak laidX_laid) ?_
    simp only [go_sem]
    repeat refine ob2 ?_
    exact hQ
   refine sq ?_
   refine sq ?_
   apply Exec.regionL te_ok
   ·intro u' Q hQ
    simp only [go_sem]
    repeat refine ob2 ?_
    refine kcallM 25 hR.inv te_ok rfl rfl rfl rfl rfl rfl rfl rfl rfl ((token_ok (lexT s) n1 m1 hn1).weak laidX_laid) ?_
    simp only [go_sem]
    repeat refine ob2 ?_
    exact hQ
   refine Exec.cond_split rfl (fun h1 => ?_) (fun h1 => ?_)
   ·have hk5 : (nth (lexT s) n1).k ≠ 5 := by simpa using h1
    refine Exec.regStart 2 rfl ?_
    apply Exec.regPart 0 1 1 te_ok rfl
    ·intro u' Q hQ
     simp only [go_sem]
     repeat refine ob2 ?_
     exact hQ
    refine Exec.callP 25 hR.inv rfl rfl rfl rfl rfl rfl rfl rfl rfl ((fail_ok (lexT s) n1 m1 hn1).weak laidX_laid) ?_
    refine ExecP.defer rfl hac List.mem_cons_self Tryz.func133 Tryz.ntmps133 rfl (by as_aux_lemma => kernel_rfl) (Nat.le_of_ble_eq_true rfl) (fun ao av k0 v hao haod hav => ?_)
    refine Exec.ren (swJ 1) ?_
    apply Exec.norm
    ·simp only [go_sem]
     rfl
    refine sq ?_
    refine Exec.regStart 2 rfl ?_
    refine Exec.recover rfl rfl rfl (Nat.le_of_ble_eq_true rfl) rfl (List.mem_cons_of_mem _ List.mem_cons_self) rfl hav ?_
    apply Exec.norm
    ·simp only [go_sem]
     rfl
    apply Exec.regPart 1 1 0 te_ok rfl
    ·intro u' Q hQ
     simp only [go_sem]
     repeat refine ob2 ?_
     exact hQ
    refine Exec.regEnd ?_
    refine sreg te_ok ?_
    refine Exec.cond (t := true) rfl ?_
    simp only [reduceIte, Bool.false_eq_true]
    refine sq ?_
    apply Exec.regionL te_ok
    ·intro u' Q hQ
     simp only [go_sem]
     repeat refine ob2 ?_
     refine kassert te_ok rfl rfl rfl rfl rfl (fun m h => by cases h) ?_
     simp only [go_sem]
     repeat refine ob2 ?_
     exact hQ
    refine sq ?_
    refine sreg te_ok ?_
    refine Exec.cond (t := false) rfl ?_
    simp only [reduceIte, Bool.false_eq_true]
    refine sk ?_
    refine sreg te_ok ?_
    apply Exec.free (st := _) 7 6 [(0, 1), (0, 2), (1, 3), (2, 3)] te_ok (by as_aux_lemma => kernel_rfl) rfl (by as_aux_lemma => kernel_rfl)
    ·intro u' Q hQ
     simp only [go_sem]
     repeat refine ob2 ?_
     exact hQ
    ·rfl
    refine Exec.leaveD Tryz.func133 rfl (.inl rfl) rfl rfl hao haod rfl ?_
    refine ExecR.ren (swJ 1) ?_
    apply ExecR.norm
    ·simp only [go_sem]
     rfl
    refine ExecR.done hR te_ok rfl rfl rfl (LeX.le ?_)
    rw [readV_end hE hq1 hk5]
    simp only [go_sem]
    exact ⟨rfl, rfl, by rw [kd_eq]; exact ⟨rfl, rfl⟩⟩
   ·have hk5 : (nth (lexT s) n1).k = 5 := by simpa using h1
    refine sk ?_
    refine sq ?_
    refine sreg te_ok ?_
    refine Exec.cond_split rfl (fun h2 => ?_) (fun h2 => ?_)
    ·have hm : 0 ≤ m1 := by simpa using h2
     refine sq ?_
     apply Exec.free (st := _) 9 8 [(0, 1), (0, 2), (0, 3), (0, 4), (1, 5), (2, 5), (3, 5), (4, 5)] te_ok (by as_aux_lemma => kernel_rfl) rfl (by as_aux_lemma => kernel_rfl)
     ·intro u' Q hQ
      simp only [go_sem]
      repeat refine ob2 ?_
      exact hQ
     ·rfl
     refine Exec.retR hR.round (.inr ⟨_, rfl⟩) ?_
     refine ExecR.defer rfl hac List.mem_cons_self Tryz.func133 Tryz.ntmps133 rfl (by as_aux_lemma => kernel_rfl) (Nat.le_of_ble_eq_true rfl) (fun ao k0 hao haod => ?_)
     refine Exec.ren (swJ 1) ?_
     apply Exec.norm
     ·simp only [go_sem]
      rfl
     refine sq ?_
     refine Exec.regStart 2 rfl ?_
     refine Exec.recoverNo rfl rfl rfl (Nat.le_of_ble_eq_true rfl) rfl ?_
     apply Exec.norm
     ·simp only [go_sem]
      rfl
     apply Exec.regPart 1 1 0 te_ok rfl
     ·intro u' Q hQ
      simp only [go_sem]
      repeat refine ob2 ?_
      exact hQ
     refine Exec.regEnd ?_
     refine sreg te_ok ?_
     refine Exec.cond (t := false) rfl ?_
     simp only [reduceIte, Bool.false_eq_true]
     refine sk ?_
     refine Exec.leaveD Tryz.func133 rfl (.inl rfl) rfl rfl hao haod rfl ?_
     refine ExecR.ren (swJ 1) ?_
     apply ExecR.norm
     ·simp only [go_sem]
      rfl
     refine ExecR.done hR te_ok rfl rfl rfl (LeX.le ?_)
     rw [readV_long hE hq1 hk5 hm]
     simp only [go_sem]
     exact ⟨rfl, rfl, by rw [kd_eq]; exact ⟨rfl, rfl⟩⟩
    ·have hm : ¬ 0 ≤ m1 := by simpa using h2
     refine sk ?_
     refine sreg te_ok ?_
     refine Exec.retR hR.round (.inr ⟨_, rfl⟩) ?_
     refine ExecR.defer rfl hac List.mem_cons_self Tryz.func133 Tryz.ntmps133 rfl (by as_aux_lemma => kernel_rfl) (Nat.le_of_ble_eq_true rfl) (fun ao k0 hao haod => ?_)
     refine Exec.ren (swJ 1) ?_
     apply Exec.norm
     ·simp only [go_sem]
      rfl
     refine sq ?_
     refine Exec.regStart 2 rfl ?_
     refine Exec.recoverNo rfl rfl rfl (Nat.le_of_ble_eq_true rfl) rfl ?_
     apply Exec.norm
     ·simp only [go_sem]
      rfl
     apply Exec.regPart 1 1 0 te_ok rfl
     ·intro u' Q hQ
      simp only [go_sem]
      repeat refine ob2 ?_
      exact hQ
     refine Exec.regEnd ?_
     refine sreg te_ok ?_
     refine Exec.cond (t := false) rfl ?_
     simp only [reduceIte, Bool.false_eq_true]
     refine sk ?_
     refine Exec.leaveD Tryz.func133 rfl (.inl rfl) rfl rfl hao haod rfl ?_
     refine ExecR.ren (swJ 1) ?_
     apply ExecR.norm
     ·simp only [go_sem]
      rfl
     refine ExecR.done hR te_ok rfl rfl rfl (LeX.le ?_)
     rw [readV_ok hE hq1 hk5 hm]
     simp only [go_sem]
  ·refine Exec.regStart 5 rfl ?_
   apply Exec.regPart 0 2 3 te_ok rfl
   ·intro u' Q hQ
    simp only [go_sem]
    repeat refine ob2 ?_
    exact hQ
   refine Exec.callP 25 hR.inv rfl rfl rfl rfl rfl rfl rfl rfl rfl ((fEr (pwhole_ok (lexT s) 0 (-1) hk h0n) hq1).weak laidX_laid) ?_
   refine ExecP.defer rfl hac List.mem_cons_self Tryz.func133 Tryz.ntmps133 rfl (by as_aux_lemma => kernel_rfl) (Nat.le_of_ble_eq_true rfl) (fun ao av k0 v hao haod hav => ?_)
   refine Exec.ren (swJ 1) ?_
   apply Exec.norm
   ·simp only [go_sem]
    rfl
   refine sq ?_
   refine Exec.regStart 2 rfl ?_
   refine Exec.recover rfl rfl rfl (Nat.le_of_ble_eq_true rfl) rfl (List.mem_cons_of_mem _ List.mem_cons_self) rfl hav ?_
   apply Exec.norm
   ·simp only [go_sem]
    rfl
   apply Exec.regPart 1 1 0 te_ok rfl
   ·intro u' Q hQ
    simp only [go_sem]
    repeat refine ob2 ?_
    exact hQ
   refine Exec.regEnd ?_
   refine sreg te_ok ?_
   refine Exec.cond (t := true) rfl ?_
   simp only [reduceIte, Bool.false_eq_true]
   refine sq ?_
   apply Exec.regionL te_ok
   ·intro u' Q hQ
    simp only [go_sem]
    repeat refine ob2 ?_
    refine kassert te_ok rfl rfl rfl rfl rfl (fun m h => by cases h) ?_
    simp only [go_sem]
    repeat refine ob2 ?_
    exact hQ
   refine sq ?_
   refine sreg te_ok ?_
   refine Exec.cond (t := false) rfl ?_
   simp only [reduceIte, Bool.false_eq_true]
   refine sk ?_
   refine sreg te_ok ?_
   apply Exec.free (st := _) 7 6 [(0, 1), (0, 2), (1, 3), (2, 3)] te_ok (by as_aux_lemma => kernel_rfl) rfl (by as_aux_lemma => kernel_rfl)
   ·intro u' Q hQ
    simp only [go_sem]
    repeat refine ob2 ?_
    exact hQ
   ·rfl
   refine Exec.leaveD Tryz.func133 rfl (.inl rfl) rfl rfl hao haod rfl ?_
   refine ExecR.ren (swJ 1) ?_
   apply ExecR.norm
   ·simp only [go_sem]
    rfl
   refine ExecR.done hR te_ok rfl rfl rfl (LeX.le ?_)
   rw [readV_err hE hq1]
   simp only [go_sem]
   exact ⟨rfl, rfl, by rw [kd_eq]; exact ⟨rfl, rfl⟩⟩
theorem pQuery_ok (s : List UInt8) (hs : s.length ≤ 140737488351232) : FnOK LaidX Tryz.prog 32 [sv s] (.tup [quD (readV qz queryP s).1, iv (readV qz queryP s).2.1, iv (readV qz queryP s).2.2]) := by
 refine FnOK_of laidX_stable Tryz.func32 Tryz.ntmps32 rfl (by as_aux_lemma => kernel_rfl) (Nat.le_of_ble_eq_true rfl) (fun R hR => ?_)
 obtain ⟨_, b, cs, T, C⟩ := R
 obtain rfl : _ = Tryz.prog := hR.p
 refine sreg te_ok ?_
 refine sq ?_
 apply Exec.regionL te_ok
 ·intro u' Q hQ
  simp only [go_sem]
  repeat refine ob2 ?_
  refine kcall hR.inv te_ok rfl rfl rfl rfl rfl rfl (readQ_ok s hs) ?_
  simp only [go_sem]
  repeat refine ob2 ?_
  exact hQ
 refine Exec.rets hR te_ok rfl rfl rfl (LeX.le ?_) (.inr ⟨_, rfl⟩)
 simp only [go_sem]
theorem pExpr_ok (s : List UInt8) (hs : s.length ≤ 140737488351232) : FnOK LaidX Tryz.prog 34 [sv s] (.tup [exD (readV xz wholeP s).1, iv (readV xz wholeP s).2.1, iv (readV xz wholeP s).2.2]) := by
 refine FnOK_of laidX_stable Tryz.func34 Tryz.ntmps34 rfl (by as_aux_lemma => kernel_rfl) (Nat.le_of_ble_eq_true rfl) (fun R hR => ?_)
 obtain ⟨_, b, cs, T, C⟩ := R
 obtain rfl : _ = Tryz.prog := hR.p
 refine sreg te_ok ?_
 refine sq ?_
 apply Exec.regionL te_ok
 ·intro u' Q hQ
  simp only [go_sem]
  repeat refine ob2 ?_
  refine kcall hR.inv te_ok rfl rfl rfl rfl rfl rfl (readX_ok s hs) ?_
  simp only [go_sem]
  repeat refine ob2 ?_
  exact hQ
 refine Exec.rets hR te_ok rfl rfl rfl (LeX.le ?_) (.inr ⟨_, rfl⟩)
 simp only [go_sem]
end Go.Proofs.YtonchjamoblioaaGreatDoor
namespace Go.Proofs.YtonchjamoblioaaGreatDoor
open Go.Kin Go.Lib
/-! ### places of tokens; a text cut ahead of one; a text written anew -/
/-- a token by itself -/
def Alone (t : Tk) : Prop := t.k ≠ 5 ∧ firstB t.t = true ∧ firstT t.t = t.at' 0 ∧ spanN blankI t.t = 0 ∧ 0 < t.t.length
structure LxOk (s : List UInt8) (a : Nat) (l : List Tk) : Prop where
 up : l.Pairwise (fun x y => x.a < y.a)
 ge : ∀ t ∈ l, (a : Int) ≤ t.a ∧ t.a ≤ s.length
 tv : ∀ t ∈ l, (t.k = 2 ∨ t.k = 3) → rightV t.v.k t.v.n t.v.s = true
 al : ∀ t ∈ l, t.k ≠ 5 → Alone t
 en : ∀ t ∈ l, t.k = 5 → t.t = [] ∧ t.v = v0
/-! one step of lexing, of a text that is known -/
theorem lexR_step {f a : Nat} {g R : List UInt8} {t : Tk} (hg : g.all (fun e => blankI e.toNat) = true) (h0 : spanN blankI (t.t ++ R) = 0) (hk : t.k ≠ 5) (h1 : firstT (t.t ++ R) = t.at' 0) (h2 : firstB (t.t ++ R) = true) :
  lexR (f + 1) a (g ++ (t.t ++ R)) = (t.at' (a + g.length : Nat) :: (lexR f (a + g.length + t.t.length) R).1, (lexR f (a + g.length + t.t.length) R).2) := by
 have e1 : spanN blankI (g ++ (t.t ++ R)) = g.length := by rw [spanN_full _ _ hg, h0]; omega
 have e2 : (g ++ (t.t ++ R)).drop g.length = t.t ++ R := List.drop_left
 have e3 : (t.t ++ R).drop t.t.length = R := List.drop_left
 rw [lexR, e1, e2, h1, if_neg (by rw [h2]; decide), if_neg (show ¬ (t.at' 0).k = 5 from hk)]
 simp only [Tk.at', e3]
theorem lexR_last {f a : Nat} {g : List UInt8} (hg : g.all (fun e => blankI e.toNat) = true) : lexR (f + 1) a g = ([⟨5, [], (a + g.length : Nat), v0⟩], none) := by
 have e1 : spanN blankI g = g.length := by have := spanN_full (p := blankI) [] g hg; simpa [spanN] using this
 have e2 : g.drop g.length = [] := List.drop_length
 rw [lexR, e1, e2]; rfl
theorem span_head {t R : List UInt8} (h : spanN blankI t = 0) (h0 : 0 < t.length) : spanN blankI (t ++ R) = 0 := by
 rw [spanN_in _ _ (by omega), h]
/-- tokens, written with a gap between -/
def ffG (g : List UInt8) : List Tk → List UInt8
 | [] => []
 | t :: r => t.t ++ (match r with | [] => [] | _ :: _ => g ++ ffG g r)
def ppG (g : List UInt8) (a : Nat) : List Tk → List Tk
 | [] => []
 | t :: r => t.at' a :: ppG g (a + t.t.length + g.length) r
structure Gap (g : List UInt8) : Prop where
 bl : g.all (fun e => blankI e.toNat) = true
 hd : ∃ d y, g = d :: y
/-- a row whose last token is the end, the others stand by themselves -/
def RowOk : List Tk → Prop
 | [] => False
 | [t] => t.k = 5 ∧ t.t = [] ∧ t.v = v0
 | t :: u :: r => Alone t ∧ RowOk (u :: r)
def gB (g : List UInt8) (b : Bool) : List UInt8 := if b = true then g else []
def sumT : List Tk → Nat
 | [] => 0
 | t :: r => t.t.length + sumT r
/-- a text that has tokens -/
structure LxT (s : List UInt8) : Prop where
 len : s.length ≤ 2000
 tk : TkOk (lexT s)
 n0 : 0 < (lexT s).length
 five : ∀ i, i < (lexT s).length → ((nth (lexT s) i).k = 5 ↔ i + 1 = (lexT s).length)
 row : RowOk (lexT s)
 tv : TV (lexT s)
 up : ∀ i j, i < j → j < (lexT s).length → (nth (lexT s) i).a < (nth (lexT s) j).a
 pos : ∀ i, i < (lexT s).length → 0 ≤ (nth (lexT s) i).a ∧ (nth (lexT s) i).a ≤ s.length
 at_ : lexAt s 0 = (lexT s, none)
 few : (lexT s).length ≤ s.length + 1
 sum : sumT (lexT s) ≤ s.length
theorem lexT_of {s : List UInt8} {l : List Tk} (hl : s.length ≤ 2000) (h : lexAt s 0 = (l, none)) : lexT s = l ∧ lexE s = 0 := by
 have := lex_some (s := s) (l := l) (by simp; omega) h
 exact ⟨this.1, this.2.2⟩
end Go.Proofs.YtonchjamoblioaaGreatDoor
