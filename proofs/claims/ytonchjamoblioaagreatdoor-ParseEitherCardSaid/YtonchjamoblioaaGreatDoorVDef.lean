/- Steps of a function body on data, and contracts of the functions of the seat, walked. -/
import Derived.Below
import Derived.CallsIn
import Derived.Laws.Sem
import Derived.Laws.World
import Derived.Lib.AtoiTie
import Derived.Lib.ItoaNum
import Derived.Lib.Strings
set_option linter.unusedSimpArgs false
set_option linter.unusedVariables false
set_option linter.unusedSectionVars false
namespace Go.Kin
open Go.RowKit
/-- a datum: what a value means, its memory included -/
inductive D where
  | v (x : Value)
  | sl (k n x : Nat) (row : Nat → List D)
  | ptr (cs : List D)
  | fn (f : Nat) (caps : List D)
  | ag (cs : List D)
  | tup (cs : List D)
  | ifc (t : TypeId) (d : D)
  deriving Inhabited
/-- the datum of one cell -/
def lfD : D → Bool
  | .v x => (match x with | .agg _ => false | .tuple _ => false | _ => true)
  | .ag _ => false
  | .tup _ => false
  | _ => true
def lfR : List D → Bool
  | [] => true
  | d :: ds => lfD d && lfR ds
/-- no slice is longer -/
def topLen : Nat := 140737488355328
section
variable (w : World) (Z : Nat → Prop)
mutual
def RdV : D → Value → Prop
  | .v x, v => v = x
  | .sl k n x row, v => ∃ a c, v = .slice a n c ∧ n ≤ x ∧ x ≤ c ∧ x ≤ topLen ∧ (x = 0 ∨ ∃ b off, a = some ⟨b, off, none⟩ ∧ Z b ∧ ∀ i, i < x → (row i).length = k ∧ lfR (row i) = true ∧ RdC b (off + i * k) (row i))
  | .ptr cs, v => ∃ b off, v = .pointer (some ⟨b, off, none⟩) ∧ Z b ∧ RdC b off cs
  | .fn f caps, v => ∃ vs, v = .func (.func f) #[] (List.toArray vs) ∧ RdL caps vs
  | .ag cs, v => ∃ vs, v = .agg (List.toArray vs) ∧ RdL cs vs
  | .tup cs, v => ∃ vs, v = .tuple (List.toArray vs) ∧ RdL cs vs
  | .ifc t d, v => ∃ v', v = .iface t v' ∧ RdV d v'
def RdL : List D → List Value → Prop
  | [], vs => vs = []
  | d :: ds, vs => ∃ v vs', vs = v :: vs' ∧ RdV d v ∧ RdL ds vs'
def RdC : Nat → Nat → List D → Prop
  | _, _, [] => True
  | b, off, d :: ds => (∃ v, w.cell? ⟨b, off, none⟩ = some v ∧ RdV d v) ∧ RdC b (off + 1) ds
end
/-- rows, one behind the other -/
def RdE (k b off n : Nat) (row : Nat → List D) : Prop := ∀ i, i < n → (row i).length = k ∧ lfR (row i) = true ∧ RdC w Z b (off + i * k) (row i)
end
section mono
variable {w w' : World} {Z Z' : Nat → Prop}
/-- what is read stays -/
structure Keeps (w : World) (Z : Nat → Prop) (w' : World) (Z' : Nat → Prop) : Prop where
  z : ∀ b, Z b → Z' b
  same : ∀ b, Z b → w'.heap[b]? = w.heap[b]?
mutual
theorem RdV.mono (h : Keeps w Z w' Z') : ∀ {d : D} {v : Value}, RdV w Z d v → RdV w' Z' d v
  | .v x, v, hv => by simpa [RdV] using hv
  | .sl k n x row, v, hv => by
    simp only [RdV] at hv ⊢
    obtain ⟨a, c, h1, h2, h3, h4, h5⟩ := hv
    refine ⟨a, c, h1, h2, h3, h4, h5.imp id ?_⟩
    rintro ⟨b, off, rfl, hz, he⟩
    exact ⟨b, off, rfl, h.z b hz, fun i hi => ⟨(he i hi).1, (he i hi).2.1, RdC.mono h hz (he i hi).2.2⟩⟩
  | .ptr cs, v, hv => by
    simp only [RdV] at hv ⊢
    obtain ⟨b, off, rfl, hz, hc⟩ := hv
    exact ⟨b, off, rfl, h.z b hz, RdC.mono h hz hc⟩
  | .fn f caps, v, hv => by
    simp only [RdV] at hv ⊢
    obtain ⟨vs, rfl, hl⟩ := hv
    exact ⟨vs, rfl, RdL.mono h hl⟩
  | .ag cs, v, hv => by
    simp only [RdV] at hv ⊢
    obtain ⟨vs, rfl, hl⟩ := hv
    exact ⟨vs, rfl, RdL.mono h hl⟩
  | .tup cs, v, hv => by
    simp only [RdV] at hv ⊢
    obtain ⟨vs, rfl, hl⟩ := hv
    exact ⟨vs, rfl, RdL.mono h hl⟩
  | .ifc t d, v, hv => by
    simp only [RdV] at hv ⊢
    obtain ⟨v', rfl, hl⟩ := hv
    exact ⟨v', rfl, RdV.mono h hl⟩
theorem RdL.mono (h : Keeps w Z w' Z') : ∀ {ds : List D} {vs : List Value}, RdL w Z ds vs → RdL w' Z' ds vs
  | [], vs, hv => by simpa [RdL] using hv
  | d :: ds, vs, hv => by
    simp only [RdL] at hv ⊢
    obtain ⟨v, vs', rfl, h1, h2⟩ := hv
    exact ⟨v, vs', rfl, RdV.mono h h1, RdL.mono h h2⟩
theorem RdC.mono (h : Keeps w Z w' Z') {b : Nat} (hz : Z b) : ∀ {off : Nat} {ds : List D}, RdC w Z b off ds → RdC w' Z' b off ds
  | _, [], _ => by simp [RdC]
  | off, d :: ds, hv => by
    simp only [RdC] at hv ⊢
    obtain ⟨⟨v, h1, h2⟩, h3⟩ := hv
    exact ⟨⟨v, (World.cell?_of_block (a := ⟨b, off, none⟩) (h.same b hz)).trans h1, RdV.mono h h2⟩, RdC.mono h hz h3⟩
end
theorem RdE.mono (h : Keeps w Z w' Z') {b : Nat} (hz : Z b) {k off n : Nat} {row : Nat → List D} (hv : RdE w Z k b off n row) : RdE w' Z' k b off n row :=
  fun i hi => ⟨(hv i hi).1, (hv i hi).2.1, (hv i hi).2.2.mono h hz⟩
theorem RdC_get : ∀ {ds : List D} {b off i : Nat} {d : D}, RdC w Z b off ds → ds[i]? = some d → ∃ v, w.cell? ⟨b, off + i, none⟩ = some v ∧ RdV w Z d v
  | [], _, _, _, _, _, h => by simp at h
  | d' :: ds, b, off, 0, d, hc, h => by
    simp at h; subst h
    simp only [RdC] at hc
    exact hc.1
  | d' :: ds, b, off, i + 1, d, hc, h => by
    simp only [RdC] at hc
    have := RdC_get hc.2 (i := i) (by simpa using h)
    rwa [show off + 1 + i = off + (i + 1) from by omega] at this
theorem RdC_drop : ∀ {ds : List D} {b off : Nat} (i : Nat), RdC w Z b off ds → RdC w Z b (off + i) (ds.drop i)
  | ds, b, off, 0, hc => by simpa using hc
  | [], b, off, i + 1, _ => by simp [RdC]
  | d :: ds, b, off, i + 1, hc => by
    simp only [RdC] at hc
    have := RdC_drop i hc.2
    rwa [show off + 1 + i = off + (i + 1) from by omega] at this
theorem RdC_take : ∀ {ds : List D} {b off : Nat} (i : Nat), RdC w Z b off ds → RdC w Z b off (ds.take i)
  | ds, b, off, 0, _ => by simp [RdC]
  | [], b, off, i + 1, _ => by simp [RdC]
  | d :: ds, b, off, i + 1, hc => by
    simp only [RdC, List.take_succ_cons] at hc ⊢
    exact ⟨hc.1, RdC_take i hc.2⟩
theorem RdL_get : ∀ {ds : List D} {vs : List Value} {i : Nat} {d : D}, RdL w Z ds vs → ds[i]? = some d → ∃ v, vs[i]? = some v ∧ RdV w Z d v
  | [], _, _, _, _, h => by simp at h
  | d' :: ds, vs, 0, d, hc, h => by
    simp at h; subst h
    simp only [RdL] at hc
    obtain ⟨v, vs', rfl, h1, _⟩ := hc
    exact ⟨v, rfl, h1⟩
  | d' :: ds, vs, i + 1, d, hc, h => by
    simp only [RdL] at hc
    obtain ⟨v, vs', rfl, _, h2⟩ := hc
    simpa using RdL_get h2 (i := i) (by simpa using h)
theorem RdL_length : ∀ {ds : List D} {vs : List Value}, RdL w Z ds vs → vs.length = ds.length
  | [], vs, h => by simp only [RdL] at h; subst h; rfl
  | d :: ds, vs, h => by
    simp only [RdL] at h
    obtain ⟨v, vs', rfl, _, h2⟩ := h
    simp [RdL_length h2]
theorem RdL_drop : ∀ {ds : List D} {vs : List Value} (i : Nat), RdL w Z ds vs → RdL w Z (ds.drop i) (vs.drop i)
  | ds, vs, 0, h => by simpa using h
  | [], vs, i + 1, h => by simp only [RdL] at h; subst h; simp [RdL]
  | d :: ds, vs, i + 1, h => by
    simp only [RdL] at h
    obtain ⟨v, vs', rfl, _, h2⟩ := h
    simpa using RdL_drop i h2
theorem RdL_take : ∀ {ds : List D} {vs : List Value} (i : Nat), RdL w Z ds vs → RdL w Z (ds.take i) (vs.take i)
  | ds, vs, 0, h => by simp [RdL]
  | [], vs, i + 1, h => by simp only [RdL] at h; subst h; simp [RdL]
  | d :: ds, vs, i + 1, h => by
    simp only [RdL] at h
    obtain ⟨v, vs', rfl, h1, h2⟩ := h
    simp only [List.take_succ_cons, RdL]
    exact ⟨v, _, rfl, h1, RdL_take i h2⟩
theorem RdL_append : ∀ {ds es : List D} {vs us : List Value}, RdL w Z ds vs → RdL w Z es us → RdL w Z (ds ++ es) (vs ++ us)
  | [], es, vs, us, h, h' => by simp only [RdL] at h; subst h; simpa using h'
  | d :: ds, es, vs, us, h, h' => by
    simp only [RdL] at h
    obtain ⟨v, vs', rfl, h1, h2⟩ := h
    simp only [List.cons_append, RdL]
    exact ⟨v, _, rfl, h1, RdL_append h2 h'⟩
/-- consecutive cells, as values -/
theorem RdC_vals : ∀ {ds : List D} {b off : Nat}, RdC w Z b off ds → ∃ vs : List Value, RdL w Z ds vs ∧ ∀ i, i < ds.length → w.cell? ⟨b, off + i, none⟩ = vs[i]?
  | [], _, _, _ => ⟨[], by simp [RdL], fun i h => by simp at h⟩
  | d :: ds, b, off, h => by
    simp only [RdC] at h
    obtain ⟨⟨v, h1, h2⟩, h3⟩ := h
    obtain ⟨vs, h4, h5⟩ := RdC_vals h3
    refine ⟨v :: vs, by simp only [RdL]; exact ⟨v, vs, rfl, h2, h4⟩, fun i hi => ?_⟩
    cases i with
    | zero => simpa using h1
    | succ i =>
      have := h5 i (by simp at hi; omega)
      rw [show off + (i + 1) = off + 1 + i from by omega, this]; simp
theorem RdC_of_vals : ∀ {ds : List D} {vs : List Value} {b off : Nat}, RdL w Z ds vs → (∀ i, i < ds.length → w.cell? ⟨b, off + i, none⟩ = vs[i]?) → RdC w Z b off ds
  | [], _, _, _, _, _ => by simp [RdC]
  | d :: ds, vs, b, off, h, hc => by
    simp only [RdL] at h
    obtain ⟨v, vs', rfl, h1, h2⟩ := h
    simp only [RdC]
    refine ⟨⟨v, by simpa using hc 0 (by simp), h1⟩, RdC_of_vals h2 fun i hi => ?_⟩
    have := hc (i + 1) (by simp; omega)
    rw [show off + (i + 1) = off + 1 + i from by omega] at this
    simpa using this
end mono
end Go.Kin
namespace Go.Kin
open Go.Lib
/-! ### numerals: what is shown is read, and shown the same -/
/-- what Atoi gives, whatever the text -/
def atoiN (s : List UInt8) : Int := match atoiAll s with
  | .ok v => v
  | .range => atoiSat s
  | _ => 0
def okNum (n : Int) : Prop := -1099511627776 ≤ n ∧ n ≤ 1099511627776
/-- the document's way to read a number -/
def numberV (s : List UInt8) : Option Int :=
  let d := if s.head? = some 45 then s.tail else s
  if d = [] ∨ 13 < d.length ∨ (d.head? = some 48 ∧ s ≠ [48]) then none
  else match decFrom 0 d with
    | none => none
    | some m => some (if d.length < s.length then -(m : Int) else m)
end Go.Kin
namespace Go.Kin
open Go.Lib
/-! ### values: what the program and the document make of them, as functions of lists -/
def cmpI (a b : Int) : Int := if a < b then -1 else if b < a then 1 else 0
def cmpS (a b : List UInt8) : Int := if Op.bytesLess a b = true then -1 else if a = b then 0 else 1
/-- the first that is not 0 -/
def orL : List Int → Int
  | [] => 0
  | x :: r => if x = 0 then orL r else x
def cmpV (k n : Int) (s : List UInt8) (k' n' : Int) (s' : List UInt8) : Int := orL [cmpI k k', cmpI n n', cmpS s s']
def holdsV (op c : Int) : Bool := if op = 1 then c == 0 else if op = 2 then c != 0 else if op = 3 ∨ op = 4 then decide (c < 0) || (op == 4 && c == 0) else if op = 5 ∨ op = 6 then decide (0 < c) || (op == 6 && c == 0) else false
def plainI (c : UInt8) : Bool := decide ((c.toNat : Int) < 32) || decide (126 < (c.toNat : Int)) || (c.toNat : Int) == 34 || (c.toNat : Int) == 92
/-- all bytes of a text may be -/
def plainS (s : List UInt8) : Bool := s.all fun c => !plainI c
def rightV (k n : Int) (s : List UInt8) : Bool := if k = 1 then (s == [] && decide (-1099511627776 ≤ n) && decide (n ≤ 1099511627776)) else if k = 2 then (n == 0 && decide ((s.length : Int) ≤ 40) && plainS s) else false
def shownV (k n : Int) (s : List UInt8) : List UInt8 := if k = 2 then 34 :: (s ++ [34]) else itoa n
/-- a value: its kind, number, text -/
structure Vl where
  k : Int
  n : Int
  s : List UInt8
  deriving DecidableEq, Inhabited
def Vl.right (v : Vl) : Bool := rightV v.k v.n v.s
def Vl.shown (v : Vl) : List UInt8 := shownV v.k v.n v.s
def Vl.cmp (a b : Vl) : Int := cmpV a.k a.n a.s b.k b.n b.s
def parseT (s : List UInt8) : Vl := if hasPrefix s [34] = true then ⟨2, 0, trimSuffix (trimPrefix s [34]) [34]⟩ else ⟨1, atoiN s, []⟩
def parseB (s : List UInt8) : Bool := (parseT s).right && (parseT s).shown == s
def parseV (s : List UInt8) : Vl := if parseB s = true then parseT s else ⟨0, 0, []⟩
def parseE (s : List UInt8) : Int := if parseB s = true then 0 else 7
def showT (v : Vl) : List UInt8 := if v.right = true then v.shown else []
def showE (v : Vl) : Int := if v.right = true then 0 else 2
/-- the document's -/
def refCmp (a b : Vl) : Int := if a.k < b.k ∨ (a.k = b.k ∧ (a.n < b.n ∨ (a.n = b.n ∧ Op.bytesLess a.s b.s = true))) then -1 else if a = b then 0 else 1
def refHolds (op c : Int) : Bool := if op = 1 then c == 0 else if op = 2 then c != 0 else if op = 3 then decide (c < 0) else if op = 4 then decide (c ≤ 0) else if op = 5 then decide (0 < c) else if op = 6 then decide (0 ≤ c) else false
def quoted (s : List UInt8) : Bool := decide (2 ≤ s.length) && (s.getD 0 0 == 34) && (s.getD (s.length - 1) 0 == 34)
def refB (s : List UInt8) : Option Vl :=
  if quoted s = true then (if rightV 2 0 ((s.drop 1).take (s.length - 2)) = true then some ⟨2, 0, (s.drop 1).take (s.length - 2)⟩ else none)
  else match numberV s with
    | some n => if rightV 1 n [] = true then some ⟨1, n, []⟩ else none
    | none => none
/-! ### orders -/
structure Ord3 {α : Type} (c : α → α → Int) : Prop where
  sgn : ∀ a b, c a b = -1 ∨ c a b = 0 ∨ c a b = 1
  anti : ∀ a b, c a b = -c b a
  zero : ∀ a b, c a b = 0 ↔ a = b
  trans : ∀ a b d, c a b ≤ 0 → c b d ≤ 0 → c a d ≤ 0
/-- how two rows stand -/
def rowsL {α : Type} (c : α → α → Int) : List α → List α → Int
  | [], [] => 0
  | [], _ :: _ => -1
  | _ :: _, [] => 1
  | a :: x, b :: y => if c a b = 0 then rowsL c x y else c a b
end Go.Kin
