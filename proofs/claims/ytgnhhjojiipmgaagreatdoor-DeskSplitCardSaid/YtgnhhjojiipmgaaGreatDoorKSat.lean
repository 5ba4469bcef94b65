/- Steps of a function body on data, and contracts of the functions of the seat, walked. -/
import Derived.Below
import Derived.CallsIn
import Derived.Laws.Sem
import Derived.Laws.World
import Derived.Laws.AppendOwn
set_option linter.unusedSimpArgs false
set_option linter.unusedVariables false
set_option linter.unusedSectionVars false
namespace Go.Kin
open Go.RowKit
/-- a datum: what a value means, its memory included -/
inductive D where
  | v (x : Value)
  | sl (k n x : Nat) (row : Nat → List D)
  | ptr (cs : List D)
  | fn (f : Nat) (caps : List D)
  | ag (cs : List D)
  | tup (cs : List D)
  | ifc (t : TypeId) (d : D)
  deriving Inhabited
/-- the datum of one cell -/
def lfD : D → Bool
  | .v x => (match x with | .agg _ => false | .tuple _ => false | _ => true)
  | .ag _ => false
  | .tup _ => false
  | _ => true
def lfR : List D → Bool
  | [] => true
  | d :: ds => lfD d && lfR ds
/-- no slice is longer -/
def topLen : Nat := 140737488355328
section
variable (w : World) (Z : Nat → Prop)
mutual
def RdV : D → Value → Prop
  | .v x, v => v = x
  | .sl k n x row, v => ∃ a c, v = .slice a n c ∧ n ≤ x ∧ x ≤ c ∧ x ≤ topLen ∧ (x = 0 ∨ ∃ b off, a = some ⟨b, off, none⟩ ∧ Z b ∧ ∀ i, i < x → (row i).length = k ∧ lfR (row i) = true ∧ RdC b (off + i * k) (row i))
  | .ptr cs, v => ∃ b off, v = .pointer (some ⟨b, off, none⟩) ∧ Z b ∧ RdC b off cs
  | .fn f caps, v => ∃ vs, v = .func (.func f) #[] (List.toArray vs) ∧ RdL caps vs
  | .ag cs, v => ∃ vs, v = .agg (List.toArray vs) ∧ RdL cs vs
  | .tup cs, v => ∃ vs, v = .tuple (List.toArray vs) ∧ RdL cs vs
  | .ifc t d, v => ∃ v', v = .iface t v' ∧ RdV d v'
def RdL : List D → List Value → Prop
  | [], vs => vs = []
  | d :: ds, vs => ∃ v vs', vs = v :: vs' ∧ RdV d v ∧ RdL ds vs'
def RdC : Nat → Nat → List D → Prop
  | _, _, [] => True
  | b, off, d :: ds => (∃ v, w.cell? ⟨b, off, none⟩ = some v ∧ RdV d v) ∧ RdC b (off + 1) ds
end
/-- rows, one behind the other -/
def RdE (k b off n : Nat) (row : Nat → List D) : Prop := ∀ i, i < n → (row i).length = k ∧ lfR (row i) = true ∧ RdC w Z b (off + i * k) (row i)
end
section mono
variable {w w' : World} {Z Z' : Nat → Prop}
/-- what is read stays -/
structure Keeps (w : World) (Z : Nat → Prop) (w' : World) (Z' : Nat → Prop) : Prop where
  z : ∀ b, Z b → Z' b
  same : ∀ b, Z b → w'.heap[b]? = w.heap[b]?
mutual
theorem RdV.mono (h : Keeps w Z w' Z') : ∀ {d : D} {v : Value}, RdV w Z d v → RdV w' Z' d v
  | .v x, v, hv => by simpa [RdV] using hv
  | .sl k n x row, v, hv => by
    simp only [RdV] at hv ⊢
    obtain ⟨a, c, h1, h2, h3, h4, h5⟩ := hv
    refine ⟨a, c, h1, h2, h3, h4, h5.imp id ?_⟩
    rintro ⟨b, off, rfl, hz, he⟩
    exact ⟨b, off, rfl, h.z b hz, fun i hi => ⟨(he i hi).1, (he i hi).2.1, RdC.mono h hz (he i hi).2.2⟩⟩
  | .ptr cs, v, hv => by
    simp only [RdV] at hv ⊢
    obtain ⟨b, off, rfl, hz, hc⟩ := hv
    exact ⟨b, off, rfl, h.z b hz, RdC.mono h hz hc⟩
  | .fn f caps, v, hv => by
    simp only [RdV] at hv ⊢
    obtain ⟨vs, rfl, hl⟩ := hv
    exact ⟨vs, rfl, RdL.mono h hl⟩
  | .ag cs, v, hv => by
    simp only [RdV] at hv ⊢
    obtain ⟨vs, rfl, hl⟩ := hv
    exact ⟨vs, rfl, RdL.mono h hl⟩
  | .tup cs, v, hv => by
    simp only [RdV] at hv ⊢
    obtain ⟨vs, rfl, hl⟩ := hv
    exact ⟨vs, rfl, RdL.mono h hl⟩
  | .ifc t d, v, hv => by
    simp only [RdV] at hv ⊢
    obtain ⟨v', rfl, hl⟩ := hv
    exact ⟨v', rfl, RdV.mono h hl⟩
theorem RdL.mono (h : Keeps w Z w' Z') : ∀ {ds : List D} {vs : List Value}, RdL w Z ds vs → RdL w' Z' ds vs
  | [], vs, hv => by simpa [RdL] using hv
  | d :: ds, vs, hv => by
    simp only [RdL] at hv ⊢
    obtain ⟨v, vs', rfl, h1, h2⟩ := hv
    exact ⟨v, vs', rfl, RdV.mono h h1, RdL.mono h h2⟩
theorem RdC.mono (h : Keeps w Z w' Z') {b : Nat} (hz : Z b) : ∀ {off : Nat} {ds : List D}, RdC w Z b off ds → RdC w' Z' b off ds
  | _, [], _ => by simp [RdC]
  | off, d :: ds, hv => by
    simp only [RdC] at hv ⊢
    obtain ⟨⟨v, h1, h2⟩, h3⟩ := hv
    exact ⟨⟨v, (World.cell?_of_block (a := ⟨b, off, none⟩) (h.same b hz)).trans h1, RdV.mono h h2⟩, RdC.mono h hz h3⟩
end
theorem RdE.mono (h : Keeps w Z w' Z') {b : Nat} (hz : Z b) {k off n : Nat} {row : Nat → List D} (hv : RdE w Z k b off n row) : RdE w' Z' k b off n row :=
  fun i hi => ⟨(hv i hi).1, (hv i hi).2.1, (hv i hi).2.2.mono h hz⟩
theorem RdC_get : ∀ {ds : List D} {b off i : Nat} {d : D}, RdC w Z b off ds → ds[i]? = some d → ∃ v, w.cell? ⟨b, off + i, none⟩ = some v ∧ RdV w Z d v
  | [], _, _, _, _, _, h => by simp at h
  | d' :: ds, b, off, 0, d, hc, h => by
    simp at h; subst h
    simp only [RdC] at hc
    exact hc.1
  | d' :: ds, b, off, i + 1, d, hc, h => by
    simp only [RdC] at hc
    have := RdC_get hc.2 (i := i) (by simpa using h)
    rwa [show off + 1 + i = off + (i + 1) from by omega] at this
theorem RdC_drop : ∀ {ds : List D} {b off : Nat} (i : Nat), RdC w Z b off ds → RdC w Z b (off + i) (ds.drop i)
  | ds, b, off, 0, hc => by simpa using hc
  | [], b, off, i + 1, _ => by simp [RdC]
  | d :: ds, b, off, i + 1, hc => by
    simp only [RdC] at hc
    have := RdC_drop i hc.2
    rwa [show off + 1 + i = off + (i + 1) from by omega] at this
theorem RdC_take : ∀ {ds : List D} {b off : Nat} (i : Nat), RdC w Z b off ds → RdC w Z b off (ds.take i)
  | ds, b, off, 0, _ => by simp [RdC]
  | [], b, off, i + 1, _ => by simp [RdC]
  | d :: ds, b, off, i + 1, hc => by
    simp only [RdC, List.take_succ_cons] at hc ⊢
    exact ⟨hc.1, RdC_take i hc.2⟩
theorem RdC_append : ∀ {ds es : List D} {b off : Nat}, RdC w Z b off (ds ++ es) ↔ RdC w Z b off ds ∧ RdC w Z b (off + ds.length) es
  | [], es, b, off => by simp [RdC]
  | d :: ds, es, b, off => by
    simp only [List.cons_append, RdC, RdC_append (ds := ds), List.length_cons]
    rw [show off + 1 + ds.length = off + (ds.length + 1) from by omega]
    exact ⟨fun ⟨h1, h2, h3⟩ => ⟨⟨h1, h2⟩, h3⟩, fun ⟨⟨h1, h2⟩, h3⟩ => ⟨h1, h2, h3⟩⟩
theorem RdL_get : ∀ {ds : List D} {vs : List Value} {i : Nat} {d : D}, RdL w Z ds vs → ds[i]? = some d → ∃ v, vs[i]? = some v ∧ RdV w Z d v
  | [], _, _, _, _, h => by simp at h
  | d' :: ds, vs, 0, d, hc, h => by
    simp at h; subst h
    simp only [RdL] at hc
    obtain ⟨v, vs', rfl, h1, _⟩ := hc
    exact ⟨v, rfl, h1⟩
  | d' :: ds, vs, i + 1, d, hc, h => by
    simp only [RdL] at hc
    obtain ⟨v, vs', rfl, _, h2⟩ := hc
    simpa using RdL_get h2 (i := i) (by simpa using h)
theorem RdL_length : ∀ {ds : List D} {vs : List Value}, RdL w Z ds vs → vs.length = ds.length
  | [], vs, h => by simp only [RdL] at h; subst h; rfl
  | d :: ds, vs, h => by
    simp only [RdL] at h
    obtain ⟨v, vs', rfl, _, h2⟩ := h
    simp [RdL_length h2]
theorem RdL_drop : ∀ {ds : List D} {vs : List Value} (i : Nat), RdL w Z ds vs → RdL w Z (ds.drop i) (vs.drop i)
  | ds, vs, 0, h => by simpa using h
  | [], vs, i + 1, h => by simp only [RdL] at h; subst h; simp [RdL]
  | d :: ds, vs, i + 1, h => by
    simp only [RdL] at h
    obtain ⟨v, vs', rfl, _, h2⟩ := h
    simpa using RdL_drop i h2
theorem RdL_take : ∀ {ds : List D} {vs : List Value} (i : Nat), RdL w Z ds vs → RdL w Z (ds.take i) (vs.take i)
  | ds, vs, 0, h => by simp [RdL]
  | [], vs, i + 1, h => by simp only [RdL] at h; subst h; simp [RdL]
  | d :: ds, vs, i + 1, h => by
    simp only [RdL] at h
    obtain ⟨v, vs', rfl, h1, h2⟩ := h
    simp only [List.take_succ_cons, RdL]
    exact ⟨v, _, rfl, h1, RdL_take i h2⟩
theorem RdL_append : ∀ {ds es : List D} {vs us : List Value}, RdL w Z ds vs → RdL w Z es us → RdL w Z (ds ++ es) (vs ++ us)
  | [], es, vs, us, h, h' => by simp only [RdL] at h; subst h; simpa using h'
  | d :: ds, es, vs, us, h, h' => by
    simp only [RdL] at h
    obtain ⟨v, vs', rfl, h1, h2⟩ := h
    simp only [List.cons_append, RdL]
    exact ⟨v, _, rfl, h1, RdL_append h2 h'⟩
/-- consecutive cells, as values -/
theorem RdC_vals : ∀ {ds : List D} {b off : Nat}, RdC w Z b off ds → ∃ vs : List Value, RdL w Z ds vs ∧ ∀ i, i < ds.length → w.cell? ⟨b, off + i, none⟩ = vs[i]?
  | [], _, _, _ => ⟨[], by simp [RdL], fun i h => by simp at h⟩
  | d :: ds, b, off, h => by
    simp only [RdC] at h
    obtain ⟨⟨v, h1, h2⟩, h3⟩ := h
    obtain ⟨vs, h4, h5⟩ := RdC_vals h3
    refine ⟨v :: vs, by simp only [RdL]; exact ⟨v, vs, rfl, h2, h4⟩, fun i hi => ?_⟩
    cases i with
    | zero => simpa using h1
    | succ i =>
      have := h5 i (by simp at hi; omega)
      rw [show off + (i + 1) = off + 1 + i from by omega, this]; simp
theorem RdC_of_vals : ∀ {ds : List D} {vs : List Value} {b off : Nat}, RdL w Z ds vs → (∀ i, i < ds.length → w.cell? ⟨b, off + i, none⟩ = vs[i]?) → RdC w Z b off ds
  | [], _, _, _, _, _ => by simp [RdC]
  | d :: ds, vs, b, off, h, hc => by
    simp only [RdL] at h
    obtain ⟨v, vs', rfl, h1, h2⟩ := h
    simp only [RdC]
    refine ⟨⟨v, by simpa using hc 0 (by simp), h1⟩, RdC_of_vals h2 fun i hi => ?_⟩
    have := hc (i + 1) (by simp; omega)
    rw [show off + (i + 1) = off + 1 + i from by omega] at this
    simpa using this
end mono
end Go.Kin
namespace Go.Kin
open Go.RowKit
/-- a value of a slot, as it is followed: a datum; an address in a block of the function's own; a slice that is its own; a function value that captures such -/
inductive SV where
  | d (x : D)
  | lp (key off : Nat)
  | own (key : Nat)
  | oa (key k i f : Nat)
  | fn (f : Nat) (caps : List SV)
  | op (p : Bool) (sv : SV)
  | mv (f : Nat) (first : List SV)
  | sg (cs : List SV)
  | junk
  deriving Inhabited
structure Env where
  β : Nat → Nat
  ω : Nat → Value
  Z : Nat → Prop
section
variable (E : Env) (w : World)
mutual
def DenV : SV → Value → Prop
  | .d x, v => RdV w E.Z x v
  | .lp key off, v => v = .pointer (some ⟨E.β key, off, none⟩)
  | .own key, v => v = E.ω key
  | .oa key k i f, v => ∃ g, (E.ω key).ownBlock = some g ∧ v = .pointer (some ⟨g, i * k + f, none⟩)
  | .fn f caps, v => ∃ vs, v = .func (.func f) #[] (List.toArray vs) ∧ DenL caps vs
  | .op p sv, v => (p = true → DenV sv v) ∧ (p = false → v = undef)
  | .mv f first, v => ∃ vs, v = .func (.func f) (List.toArray vs) #[] ∧ DenL first vs
  | .sg cs, v => ∃ vs, v = .agg (List.toArray vs) ∧ DenL cs vs
  | .junk, _ => True
def DenL : List SV → List Value → Prop
  | [], vs => vs = []
  | d :: ds, vs => ∃ v vs', vs = v :: vs' ∧ DenV d v ∧ DenL ds vs'
end
end
structure Ctx where
  w0 : World
  Z0 : Nat → Prop
  M : Nat → Prop
abbrev FS := Nat → Option SV
abbrev FL := Nat → Option (TypeId × List SV)
/-- a slice of the function's own: the type of its elements, the cells of one, how many, how many are known, each -/
structure Ow where
  e : TypeId
  k : Nat
  n : Nat
  x : Nat
  row : Nat → List D
abbrev FO := Nat → Option Ow
/-- fz: the slots of activations that wait; pin: blocks that are known whole -/
structure Sy where
  N : Nat
  df : List Deferred
  S : FS
  L : FL
  O : FO
  fz : List (Act × List (Nat × SV))
  pin : List (Nat × Obj)
def OwnE (E : Env) (w : World) (key : Nat) (o : Ow) : Prop :=
  ((∀ i, i < o.x → (o.row i).length = o.k ∧ lfR (o.row i) = true) ∧ o.n ≤ o.x ∧ o.x ≤ topLen) ∧
  ((E.ω key = .slice none 0 0 ∧ o.x = 0) ∨
    ∃ g cap vs, E.ω key = .slice (some ⟨g, 0, none⟩) o.n cap ∧ o.x ≤ cap ∧ cap ≤ maxLen ∧ w.heap[g]? = some (.cells (List.toArray vs) o.e (0, 0)) ∧ vs.length = cap * o.k ∧ ∀ i, i < o.x → RdL w E.Z (o.row i) ((vs.drop (i * o.k)).take o.k))
structure BelM (C : Ctx) (w : World) : Prop where
  os : w.os = C.w0.os
  tape : w.tape = C.w0.tape
  output : w.output = C.w0.output
  size : C.w0.heap.size ≤ w.heap.size
  block : ∀ k, k < C.w0.heap.size → ¬ C.M k → w.heap[k]? = C.w0.heap[k]?
/-- names of boxes that the caller lends: they are to be written, not handed out -/
def lentK (key : Nat) : Bool := decide (900 ≤ key % 1000)
structure HpE (C : Ctx) (E : Env) (L : FL) (O : FO) (w : World) : Prop where
  bel : BelM C w
  z : ∀ b, E.Z b → b < w.heap.size ∧ (b < C.w0.heap.size → ¬ C.M b) ∧ (C.Z0 b ∨ C.w0.heap.size ≤ b)
  loc : ∀ key T cs, L key = some (T, cs) → ∃ vs, w.heap[E.β key]? = some (.cells (List.toArray vs) T (0, 0)) ∧ DenL E w cs vs
  locN : ∀ key e, L key = some e → ((lentK key = false ∧ C.w0.heap.size ≤ E.β key) ∨ (lentK key = true ∧ C.M (E.β key))) ∧ ¬ E.Z (E.β key)
  locD : ∀ key key' e e', L key = some e → L key' = some e' → E.β key = E.β key' → key = key'
  own : ∀ key o, O key = some o → OwnE E w key o
  ownN : ∀ key e g, O key = some e → (E.ω key).ownBlock = some g → C.w0.heap.size ≤ g ∧ ¬ E.Z g ∧ (∀ key' e', L key' = some e' → E.β key' ≠ g)
  ownD : ∀ key key' e e' g, O key = some e → O key' = some e' → (E.ω key).ownBlock = some g → (E.ω key').ownBlock = some g → key = key'
def klook {α : Type} (t : Nat) : List (Nat × α) → Option α
  | [] => none
  | (k, x) :: r => if t = k then some x else klook t r
/-- blocks that are known whole -/
def Pins (C : Ctx) (E : Env) (L : FL) (O : FO) (pin : List (Nat × Obj)) (w : World) : Prop :=
  ∀ b o, (b, o) ∈ pin → w.heap[b]? = some o ∧ C.w0.heap.size ≤ b ∧ ¬ E.Z b ∧ (∀ key e, L key = some e → E.β key ≠ b) ∧ (∀ key e, O key = some e → (E.ω key).ownBlock ≠ some b)
/-- what waits -/
def Waits (E : Env) (fz : List (Act × List (Nat × SV))) (w : World) : Prop :=
  ∀ p, p ∈ fz → ∀ t sv, klook t p.2 = some sv → ∃ v, p.1.tmps[t]? = some v ∧ DenV E w sv v
structure SatE (C : Ctx) (E : Env) (s : Sy) (a : Act) (w : World) : Prop where
  sz : a.tmps.size = s.N
  df : a.defers = s.df
  slots : ∀ t sv, s.S t = some sv → ∃ v, a.tmps[t]? = some v ∧ DenV E w sv v
  hp : HpE C E s.L s.O w
  pins : Pins C E s.L s.O s.pin w
  waits : Waits E s.fz w
def Sat (C : Ctx) (s : Sy) (a : Act) (w : World) : Prop := ∃ E, SatE C E s a w
section mono
variable {E E' : Env} {w w' : World}
/-- what a followed value leans on is kept -/
structure KeepsE (E : Env) (w : World) (E' : Env) (w' : World) : Prop where
  k : Keeps w E.Z w' E'.Z
mutual
theorem DenV.mono (hk : Keeps w E.Z w' E'.Z) (hβ : E'.β = E.β) (hω : E'.ω = E.ω) : ∀ {sv : SV} {v : Value}, DenV E w sv v → DenV E' w' sv v
  | .d x, v, h => by simp only [DenV] at h ⊢; exact h.mono hk
  | .lp key off, v, h => by simp only [DenV] at h ⊢; rw [hβ]; exact h
  | .own key, v, h => by simp only [DenV] at h ⊢; rw [hω]; exact h
  | .oa key k i f, v, h => by simp only [DenV] at h ⊢; rw [hω]; exact h
  | .fn f caps, v, h => by
    simp only [DenV] at h ⊢
    obtain ⟨vs, h1, h2⟩ := h
    exact ⟨vs, h1, DenL.mono hk hβ hω h2⟩
  | .op cs sv, v, h => by simp only [DenV] at h ⊢; exact ⟨fun hc => DenV.mono hk hβ hω (h.1 hc), h.2⟩
  | .mv f caps, v, h => by
    simp only [DenV] at h ⊢
    obtain ⟨vs, h1, h2⟩ := h
    exact ⟨vs, h1, DenL.mono hk hβ hω h2⟩
  | .sg caps, v, h => by
    simp only [DenV] at h ⊢
    obtain ⟨vs, h1, h2⟩ := h
    exact ⟨vs, h1, DenL.mono hk hβ hω h2⟩
  | .junk, v, h => by simp only [DenV]
theorem DenL.mono (hk : Keeps w E.Z w' E'.Z) (hβ : E'.β = E.β) (hω : E'.ω = E.ω) : ∀ {svs : List SV} {vs : List Value}, DenL E w svs vs → DenL E' w' svs vs
  | [], vs, h => by simpa [DenL] using h
  | sv :: svs, vs, h => by
    simp only [DenL] at h ⊢
    obtain ⟨v, vs', h1, h2, h3⟩ := h
    exact ⟨v, vs', h1, DenV.mono hk hβ hω h2, DenL.mono hk hβ hω h3⟩
end
theorem DenL_length : ∀ {ds : List SV} {vs : List Value}, DenL E w ds vs → vs.length = ds.length
  | [], vs, h => by simp only [DenL] at h; subst h; rfl
  | d :: ds, vs, h => by
    simp only [DenL] at h
    obtain ⟨v, vs', rfl, _, h2⟩ := h
    simp [DenL_length h2]
theorem DenL_get : ∀ {ds : List SV} {vs : List Value} {i : Nat} {d : SV}, DenL E w ds vs → ds[i]? = some d → ∃ v, vs[i]? = some v ∧ DenV E w d v
  | [], _, _, _, _, h => by simp at h
  | d' :: ds, vs, 0, d, hc, h => by
    simp at h; subst h
    simp only [DenL] at hc
    obtain ⟨v, vs', rfl, h1, _⟩ := hc
    exact ⟨v, rfl, h1⟩
  | d' :: ds, vs, i + 1, d, hc, h => by
    simp only [DenL] at hc
    obtain ⟨v, vs', rfl, _, h2⟩ := hc
    simpa using DenL_get h2 (i := i) (by simpa using h)
theorem DenL_drop : ∀ {ds : List SV} {vs : List Value} (i : Nat), DenL E w ds vs → DenL E w (ds.drop i) (vs.drop i)
  | ds, vs, 0, h => by simpa using h
  | [], vs, i + 1, h => by simp only [DenL] at h; subst h; simp [DenL]
  | d :: ds, vs, i + 1, h => by
    simp only [DenL] at h
    obtain ⟨v, vs', rfl, _, h2⟩ := h
    simpa using DenL_drop i h2
theorem DenL_take : ∀ {ds : List SV} {vs : List Value} (i : Nat), DenL E w ds vs → DenL E w (ds.take i) (vs.take i)
  | ds, vs, 0, h => by simp [DenL]
  | [], vs, i + 1, h => by simp only [DenL] at h; subst h; simp [DenL]
  | d :: ds, vs, i + 1, h => by
    simp only [DenL] at h
    obtain ⟨v, vs', rfl, h1, h2⟩ := h
    simp only [List.take_succ_cons, DenL]
    exact ⟨v, _, rfl, h1, DenL_take i h2⟩
theorem DenL_append : ∀ {ds es : List SV} {vs us : List Value}, DenL E w ds vs → DenL E w es us → DenL E w (ds ++ es) (vs ++ us)
  | [], es, vs, us, h, h' => by simp only [DenL] at h; subst h; simpa using h'
  | d :: ds, es, vs, us, h, h' => by
    simp only [DenL] at h
    obtain ⟨v, vs', rfl, h1, h2⟩ := h
    simp only [List.cons_append, DenL]
    exact ⟨v, _, rfl, h1, DenL_append h2 h'⟩
/-- data as followed values, and back -/
theorem DenL_of_RdL : ∀ {ds : List D} {vs : List Value}, RdL w E.Z ds vs → DenL E w (ds.map SV.d) vs
  | [], vs, h => by simpa [RdL, DenL] using h
  | d :: ds, vs, h => by
    simp only [RdL] at h
    obtain ⟨v, vs', rfl, h1, h2⟩ := h
    simp only [List.map_cons, DenL, DenV]
    exact ⟨v, vs', rfl, h1, DenL_of_RdL h2⟩
/-- the data of followed values, where all are such -/
def allD : List SV → Option (List D)
  | [] => some []
  | .d x :: r => match allD r with | some ds => some (x :: ds) | none => none
  | _ :: _ => none
theorem RdL_of_DenL : ∀ {svs : List SV} {ds : List D} {vs : List Value}, allD svs = some ds → DenL E w svs vs → RdL w E.Z ds vs
  | [], ds, vs, ha, h => by simp [allD] at ha; subst ha; simpa [RdL, DenL] using h
  | sv :: svs, ds, vs, ha, h => by
    cases sv with
    | d x =>
      simp only [allD] at ha
      cases hr : allD svs with
      | none => simp [hr] at ha
      | some ds' =>
        simp [hr] at ha; subst ha
        simp only [DenL, DenV] at h
        obtain ⟨v, vs', rfl, h1, h2⟩ := h
        simp only [RdL]
        exact ⟨v, vs', rfl, h1, RdL_of_DenL hr h2⟩
    | _ => simp [allD] at ha
end mono
theorem BelM.trans {C : Ctx} {w w' : World} (h : BelM C w) (h' : Below w.heap.size w w') : BelM C w' :=
  ⟨h'.os.trans h.os, h'.tape.trans h.tape, h'.output.trans h.output, Nat.le_trans h.size h'.size, fun k hk hm => (h'.block k (Nat.lt_of_lt_of_le hk h.size)).trans (h.block k hk hm)⟩
/-- new memory, some of which is read from now on -/
theorem HpE.grow {C : Ctx} {E : Env} {L : FL} {O : FO} {w w' : World} (h : HpE C E L O w) (hb : Below w.heap.size w w') (Zn : Nat → Prop) (hz : ∀ b, Zn b → b < w'.heap.size ∧ (E.Z b ∨ w.heap.size ≤ b)) :
    HpE C { E with Z := fun b => E.Z b ∨ Zn b } L O w' ∧ Keeps w E.Z w' (fun b => E.Z b ∨ Zn b) := by
  have hk : Keeps w E.Z w' (fun b => E.Z b ∨ Zn b) := ⟨fun b hb => .inl hb, fun b hz => hb.block b (h.z b hz).1⟩
  have hno : ∀ b, b < w.heap.size → ¬ E.Z b → ¬ (E.Z b ∨ Zn b) := fun b hb1 hb2 hb3 => by
    rcases hb3 with hb3 | hb3
    · exact hb2 hb3
    · rcases (hz b hb3).2 with hb4 | hb4
      · exact hb2 hb4
      · omega
  have hlt : ∀ {b : Nat} {o : Obj}, w.heap[b]? = some o → b < w.heap.size := fun ho => (Array.getElem?_eq_some_iff.1 ho).1
  refine ⟨⟨h.bel.trans hb, fun b hb1 => ?_, fun key T cs hL => ?_, fun key e hL => ?_, h.locD, fun key o hO => ?_, fun key e g hO hg => ?_, h.ownD⟩, hk⟩
  · have hs := h.bel.size
    have hs' := hb.size
    rcases hb1 with hb1 | hb1
    · have := h.z b hb1
      exact ⟨by omega, this.2⟩
    · have h2 := hz b hb1
      rcases h2.2 with h3 | h3
      · exact ⟨h2.1, (h.z b h3).2⟩
      · exact ⟨h2.1, fun hm => by omega, .inr (by omega)⟩
  · obtain ⟨vs, h1, h2⟩ := h.loc key T cs hL
    exact ⟨vs, (hb.block _ (hlt h1)).trans h1, DenL.mono (E' := { E with Z := fun b => E.Z b ∨ Zn b }) hk rfl rfl h2⟩
  · have h1 := h.locN key e hL
    obtain ⟨T, cs⟩ := e
    obtain ⟨vs, h2, _⟩ := h.loc key T cs hL
    exact ⟨h1.1, hno _ (hlt h2) h1.2⟩
  · obtain ⟨h0, h1⟩ := h.own key o hO
    refine ⟨h0, ?_⟩
    rcases h1 with h1 | ⟨g, cap, vs, h1, h2, h3, h4, h5, h6⟩
    · exact .inl h1
    · exact .inr ⟨g, cap, vs, h1, h2, h3, (hb.block _ (hlt h4)).trans h4, h5, fun i hi => (h6 i hi).mono hk⟩
  · have h1 := h.ownN key e g hO hg
    obtain ⟨_, h2⟩ := h.own key e hO
    rcases h2 with ⟨h2, _⟩ | ⟨g', cap, vs, h2, _, _, h4, _⟩
    · rw [h2] at hg; simp [Value.ownBlock] at hg
    · rw [h2] at hg
      simp [Value.ownBlock] at hg
      subst hg
      exact ⟨h1.1, hno _ (hlt h4) h1.2.1, h1.2.2⟩
/-! ### the moves of the state -/
mutual
def kill (dl dk : List Nat) : SV → SV
  | .own k => if dl.contains k then .junk else .own k
  | .oa key k i f => if dl.contains key then .junk else .oa key k i f
  | .lp k off => if dk.contains k then .junk else .lp k off
  | .fn f caps => .fn f (killL dl dk caps)
  | .op cs sv => .op cs (kill dl dk sv)
  | .mv f caps => .mv f (killL dl dk caps)
  | .sg caps => .sg (killL dl dk caps)
  | sv => sv
def killL (dl dk : List Nat) : List SV → List SV
  | [] => []
  | sv :: r => kill dl dk sv :: killL dl dk r
end
section
variable {E E' : Env} {w w' : World} {dl dk : List Nat}
mutual
theorem DenV.kill (hk : Keeps w E.Z w' E'.Z) (hβ : ∀ k, dk.contains k = false → E'.β k = E.β k) (hω : ∀ k, dl.contains k = false → E'.ω k = E.ω k) : ∀ {sv : SV} {v : Value}, DenV E w sv v → DenV E' w' (kill dl dk sv) v
  | .d x, v, h => by simp only [Kin.kill, DenV] at h ⊢; exact h.mono hk
  | .lp key off, v, h => by
    simp only [Kin.kill, DenV] at h ⊢
    by_cases hk : dk.contains key = true
    · simp only [hk, if_true, DenV]
    · simp only [hk, DenV, Bool.false_eq_true, if_false]; rw [hβ key (by simpa using hk)]; exact h
  | .own key, v, h => by
    simp only [Kin.kill, DenV] at h ⊢
    by_cases hk : dl.contains key = true
    · simp only [hk, if_true, DenV]
    · simp only [hk, DenV, Bool.false_eq_true, if_false]; rw [hω key (by simpa using hk)]; exact h
  | .oa key k i f, v, h => by
    simp only [Kin.kill, DenV] at h ⊢
    by_cases hk : dl.contains key = true
    · simp only [hk, if_true, DenV]
    · simp only [hk, DenV, Bool.false_eq_true, if_false]; rw [hω key (by simpa using hk)]; exact h
  | .fn f caps, v, h => by
    simp only [Kin.kill, DenV] at h ⊢
    obtain ⟨vs, h1, h2⟩ := h
    exact ⟨vs, h1, DenL.kill hk hβ hω h2⟩
  | .op cs sv, v, h => by simp only [Kin.kill, DenV] at h ⊢; exact ⟨fun hc => DenV.kill hk hβ hω (h.1 hc), h.2⟩
  | .mv f caps, v, h => by
    simp only [Kin.kill, DenV] at h ⊢
    obtain ⟨vs, h1, h2⟩ := h
    exact ⟨vs, h1, DenL.kill hk hβ hω h2⟩
  | .sg caps, v, h => by
    simp only [Kin.kill, DenV] at h ⊢
    obtain ⟨vs, h1, h2⟩ := h
    exact ⟨vs, h1, DenL.kill hk hβ hω h2⟩
  | .junk, v, h => by simp only [Kin.kill, DenV]
theorem DenL.kill (hk : Keeps w E.Z w' E'.Z) (hβ : ∀ k, dk.contains k = false → E'.β k = E.β k) (hω : ∀ k, dl.contains k = false → E'.ω k = E.ω k) : ∀ {svs : List SV} {vs : List Value}, DenL E w svs vs → DenL E' w' (killL dl dk svs) vs
  | [], vs, h => by simpa [killL, DenL] using h
  | sv :: svs, vs, h => by
    simp only [killL, DenL] at h ⊢
    obtain ⟨v, vs', h1, h2, h3⟩ := h
    exact ⟨v, vs', h1, DenV.kill hk hβ hω h2, DenL.kill hk hβ hω h3⟩
end
end
structure Res where
  sv : SV
  nl : List (Nat × TypeId × List SV) := []
  no : List (Nat × Ow) := []
  dl : List Nat := []
  dk : List Nat := []
mutual
theorem kill_nil : ∀ (sv : SV), kill [] [] sv = sv
  | .d x => rfl
  | .lp key off => rfl
  | .own key => rfl
  | .oa key k i f => rfl
  | .fn f caps => by simp only [kill, killL_nil caps]
  | .op cs sv => by simp only [kill, kill_nil sv]
  | .mv f caps => by simp only [kill, killL_nil caps]
  | .sg caps => by simp only [kill, killL_nil caps]
  | .junk => rfl
theorem killL_nil : ∀ (svs : List SV), killL [] [] svs = svs
  | [] => rfl
  | sv :: r => by simp only [killL, kill_nil sv, killL_nil r]
end
def mapS (dl dk : List Nat) : List (Nat × SV) → List (Nat × SV)
  | [] => []
  | (k, x) :: r => (k, kill dl dk x) :: mapS dl dk r
theorem look_mapS (dl dk : List Nat) (k : Nat) : ∀ (l : List (Nat × SV)), klook k (mapS dl dk l) = (klook k l).map (kill dl dk)
  | [] => by simp [mapS, klook]
  | (k', x) :: r => by
    simp only [mapS, klook]
    by_cases h : k = k'
    · simp [h]
    · rw [if_neg h, if_neg h, look_mapS dl dk k r]
def mapF (dl dk : List Nat) : List (Act × List (Nat × SV)) → List (Act × List (Nat × SV))
  | [] => []
  | (a, S) :: r => (a, mapS dl dk S) :: mapF dl dk r
def killF (dl dk : List Nat) (fz : List (Act × List (Nat × SV))) : List (Act × List (Nat × SV)) := match dl, dk with | [], [] => fz | _, _ => mapF dl dk fz
theorem mem_mapF {dl dk : List Nat} {p : Act × List (Nat × SV)} : ∀ {fz : List (Act × List (Nat × SV))}, p ∈ mapF dl dk fz → ∃ S, (p.1, S) ∈ fz ∧ p.2 = mapS dl dk S
  | [], h => by simp [mapF] at h
  | (a, S) :: r, h => by
    simp only [mapF, List.mem_cons] at h
    rcases h with rfl | h
    · exact ⟨S, by simp, rfl⟩
    · obtain ⟨S', h1, h2⟩ := mem_mapF h; exact ⟨S', by simp [h1], h2⟩
theorem Waits.kill {E E' : Env} {w w' : World} {dl dk : List Nat} {fz : List (Act × List (Nat × SV))} (h : Waits E fz w) (hm : ∀ sv v, DenV E w sv v → DenV E' w' (kill dl dk sv) v) : Waits E' (killF dl dk fz) w' := by
  have key : Waits E' (mapF dl dk fz) w' := fun p hp t sv ht => by
    obtain ⟨S, h1, h2⟩ := mem_mapF hp
    rw [h2, look_mapS] at ht
    cases hx : klook t S with
    | none => simp [hx] at ht
    | some x =>
      simp [hx] at ht; subst ht
      obtain ⟨v, h3, h4⟩ := h _ h1 t x hx
      exact ⟨v, h3, hm _ _ h4⟩
  unfold killF
  split
  · intro p hp t sv ht
    obtain ⟨v, h3, h4⟩ := h p hp t sv ht
    refine ⟨v, h3, ?_⟩
    have := hm _ _ h4
    rwa [kill_nil] at this
  · exact key
theorem Waits.mono {E E' : Env} {w w' : World} {fz : List (Act × List (Nat × SV))} (h : Waits E fz w) (hm : ∀ sv v, DenV E w sv v → DenV E' w' sv v) : Waits E' fz w' := fun p hp t sv ht => by
  obtain ⟨v, h3, h4⟩ := h p hp t sv ht
  exact ⟨v, h3, hm _ _ h4⟩
def killE (dl dk : List Nat) : Option (TypeId × List SV) → Option (TypeId × List SV)
  | some (T, cs) => some (T, killL dl dk cs)
  | none => none
/-- what an operation makes of the state -/
def apply (d : Option Tmp) (r : Res) (s : Sy) : Sy where
  N := s.N
  df := s.df
  S := fun t => if d = some t then some r.sv else match s.S t with | some sv => some (kill r.dl r.dk sv) | none => none
  L := fun key => match klook key r.nl with | some e => some e | none => if r.dk.contains key then none else killE r.dl r.dk (s.L key)
  O := fun key => match klook key r.no with | some e => some e | none => if r.dl.contains key then none else s.O key
  fz := killF r.dl r.dk s.fz
  pin := s.pin
theorem killE_nil (e : Option (TypeId × List SV)) : killE [] [] e = e := by
  cases e with
  | none => rfl
  | some e => simp [killE, killL_nil]
theorem put_tmps {a : Act} {d : Option Tmp} {u : Value} {t : Nat} (hd : ∀ t, d = some t → t < a.tmps.size) : (a.put d u).tmps[t]? = if d = some t then some u else a.tmps[t]? := by
  cases d with
  | none => simp [Act.put]
  | some d =>
    by_cases h : d = t
    · subst h
      simp [Act.put, hd d rfl]
    · simp [Act.put, Array.getElem?_setIfInBounds_ne h, h]
/-- the slots behind an operation, where the memory has been seen to -/
theorem SatE.step {C : Ctx} {E E' : Env} {s : Sy} {a : Act} {w w' : World} (h : SatE C E s a w) {d : Option Tmp} (hd : ∀ t, d = some t → t < s.N) {r : Res} {u : Value}
    (hmono : ∀ sv v, DenV E w sv v → DenV E' w' (kill r.dl r.dk sv) v) (hu : DenV E' w' r.sv u) (hp : HpE C E' (apply d r s).L (apply d r s).O w') (hpin : Pins C E' (apply d r s).L (apply d r s).O s.pin w') : SatE C E' (apply d r s) (a.put d u) w' := by
  refine ⟨by rw [show (a.put d u).tmps.size = a.tmps.size from by cases d <;> simp [Act.put]]; exact h.sz, by rw [show (a.put d u).defers = a.defers from by cases d <;> rfl]; exact h.df, fun t sv' hs => ?_, hp, hpin, h.waits.kill hmono⟩
  rw [put_tmps (fun t ht => by rw [h.sz]; exact hd t ht)]
  simp only [apply] at hs
  by_cases hdt : d = some t
  · rw [if_pos hdt] at hs ⊢
    cases hs
    exact ⟨u, rfl, hu⟩
  · rw [if_neg hdt] at hs ⊢
    cases hst : s.S t with
    | none => simp [hst] at hs
    | some sv0 =>
      simp only [hst, Option.some.injEq] at hs
      subst hs
      obtain ⟨v, h1, h2⟩ := h.slots t _ hst
      exact ⟨v, h1, hmono _ _ h2⟩
theorem apply_slot_L (d : Option Tmp) (sv : SV) (s : Sy) : (apply d ⟨sv, [], [], [], []⟩ s).L = s.L := by funext key; simp [apply, klook, killE_nil]
theorem apply_slot_O (d : Option Tmp) (sv : SV) (s : Sy) : (apply d ⟨sv, [], [], [], []⟩ s).O = s.O := by funext key; simp [apply, klook]
/-- only a slot is written -/
theorem SatE.slot {C : Ctx} {E : Env} {s : Sy} {a : Act} {w : World} (h : SatE C E s a w) {d : Option Tmp} (hd : ∀ t, d = some t → t < s.N) {sv : SV} {u : Value} (hu : DenV E w sv u) : SatE C E (apply d ⟨sv, [], [], [], []⟩ s) (a.put d u) w :=
  h.step hd (r := ⟨sv, [], [], [], []⟩) (fun sv v hv => by rw [kill_nil]; exact hv) hu (by rw [apply_slot_L, apply_slot_O]; exact h.hp) (by rw [apply_slot_L, apply_slot_O]; exact h.pins)
theorem SatE.grow {C : Ctx} {E : Env} {s : Sy} {a : Act} {w w' : World} (h : SatE C E s a w) (hb : Below w.heap.size w w') (Zn : Nat → Prop) (hz : ∀ b, Zn b → b < w'.heap.size ∧ (E.Z b ∨ w.heap.size ≤ b)) :
    SatE C { E with Z := fun b => E.Z b ∨ Zn b } s a w' := by
  obtain ⟨hp, hk⟩ := h.hp.grow hb Zn hz
  refine ⟨h.sz, h.df, fun t sv hs => let ⟨v, h1, h2⟩ := h.slots t sv hs; ⟨v, h1, DenV.mono (E' := { E with Z := fun b => E.Z b ∨ Zn b }) hk rfl rfl h2⟩, hp, fun b o hb' => ?_, h.waits.mono fun sv v hv => DenV.mono (E' := { E with Z := fun b => E.Z b ∨ Zn b }) hk rfl rfl hv⟩
  obtain ⟨h1, h2, h3, h4, h5⟩ := h.pins b o hb'
  have hlt : b < w.heap.size := (Array.getElem?_eq_some_iff.1 h1).1
  refine ⟨(hb.block b hlt).trans h1, h2, fun hh => ?_, h4, h5⟩
  rcases hh with hh | hh
  · exact h3 hh
  · rcases (hz b hh).2 with h6 | h6
    · exact h3 h6
    · omega
theorem alloc_heap (w : World) (o : Obj) (k : Nat) : (w.alloc o).heap[k]? = if k = w.heap.size then some o else w.heap[k]? := by
  show (w.heap.push o)[k]? = _
  rw [Array.getElem?_push]
theorem HpE.lt {C : Ctx} {E : Env} {L : FL} {O : FO} {w : World} (h : HpE C E L O w) {key : Nat} {e : TypeId × List SV} (hL : L key = some e) : E.β key < w.heap.size := by
  obtain ⟨T, cs⟩ := e
  obtain ⟨vs, h1, _⟩ := h.loc key T cs hL
  exact (Array.getElem?_eq_some_iff.1 h1).1
theorem HpE.ltO {C : Ctx} {E : Env} {L : FL} {O : FO} {w : World} (h : HpE C E L O w) {key g : Nat} {e : Ow} (hO : O key = some e) (hg : (E.ω key).ownBlock = some g) : g < w.heap.size := by
  obtain ⟨_, h2⟩ := h.own key e hO
  rcases h2 with ⟨h2, _⟩ | ⟨g', cap, vs, h2, _, _, h4, _⟩
  · rw [h2] at hg; simp [Value.ownBlock] at hg
  · rw [h2] at hg
    simp [Value.ownBlock] at hg
    subst hg
    exact (Array.getElem?_eq_some_iff.1 h4).1
theorem keeps_of_below {w w' : World} {Z : Nat → Prop} (hz : ∀ b, Z b → b < w.heap.size) (hb : Below w.heap.size w w') : Keeps w Z w' Z := ⟨fun _ h => h, fun b h => hb.block b (hz b h)⟩
/-- a new block of the function's own -/
theorem SatE.newLoc {C : Ctx} {E : Env} {s : Sy} {a : Act} {w : World} (h : SatE C E s a w) {d : Nat} (hd : d < s.N) (hdl : lentK d = false) {T : TypeId} {cs : List SV} {vs : List Value} (hv : DenL E w cs vs) :
    SatE C { E with β := fun k => if k = d then w.heap.size else E.β k } (apply (some d) ⟨.lp d 0, [(d, T, killL [] [d] cs)], [], [], [d]⟩ s) (a.put (some d) (.pointer (some ⟨w.heap.size, 0, none⟩))) (w.alloc (.cells (List.toArray vs) T)) := by
  have hb : Below w.heap.size w (w.alloc (.cells (List.toArray vs) T)) := (Below.refl _ w).alloc (Nat.le_refl _) _
  have hk : Keeps w E.Z (w.alloc (.cells (List.toArray vs) T)) E.Z := keeps_of_below (fun b hz => (h.hp.z b hz).1) hb
  have hβ : ∀ k, [d].contains k = false → (fun k => if k = d then w.heap.size else E.β k) k = E.β k := fun k hk => by
    have : k ≠ d := by intro e; subst e; simp at hk
    simp [this]
  have hm : ∀ {svs : List SV} {us : List Value}, DenL E w svs us → DenL { E with β := fun k => if k = d then w.heap.size else E.β k } (w.alloc (.cells (List.toArray vs) T)) (killL [] [d] svs) us :=
    fun hh => DenL.kill (E' := { E with β := fun k => if k = d then w.heap.size else E.β k }) hk hβ (fun _ _ => rfl) hh
  have hL : ∀ key e, (apply (some d) ⟨.lp d 0, [(d, T, killL [] [d] cs)], [], [], [d]⟩ s).L key = some e → (key = d ∧ e = (T, killL [] [d] cs)) ∨ (key ≠ d ∧ ∃ T' cs', s.L key = some (T', cs') ∧ e = (T', killL [] [d] cs')) := fun key e he => by
    simp only [apply, klook] at he
    by_cases hkd : key = d
    · left; simp [hkd] at he; exact ⟨hkd, he.symm⟩
    · right
      simp [hkd] at he
      cases hs : s.L key with
      | none => simp [hs, killE] at he
      | some x => obtain ⟨T', cs'⟩ := x; simp [hs, killE] at he; exact ⟨hkd, T', cs', rfl, he.symm⟩
  have hO : (apply (some d) ⟨.lp d 0, [(d, T, killL [] [d] cs)], [], [], [d]⟩ s).O = s.O := by funext key; simp [apply, klook]
  refine h.step (E' := { E with β := fun k => if k = d then w.heap.size else E.β k }) (by rintro t ⟨⟩; exact hd) (r := ⟨.lp d 0, [(d, T, killL [] [d] cs)], [], [], [d]⟩)
    (fun sv v hv => DenV.kill (E' := { E with β := fun k => if k = d then w.heap.size else E.β k }) hk hβ (fun _ _ => rfl) hv) (by simp [DenV]) ?_ (fun b o hb' => ?_)
  rotate_left 1
  · obtain ⟨h1, h2, h3, h4, h5⟩ := h.pins b o hb'
    have hlt : b < w.heap.size := (Array.getElem?_eq_some_iff.1 h1).1
    refine ⟨(hb.block b hlt).trans h1, h2, h3, fun key e he => ?_, fun key e he => ?_⟩
    · rcases hL key e he with ⟨rfl, _⟩ | ⟨hne, T1, cs1, h6, _⟩
      · simp only [if_true]; omega
      · simp only [hne, if_false]; exact h4 key _ h6
    · rw [hO] at he; exact h5 key e he
  rw [hO]
  have hz := h.hp.z
  refine ⟨h.hp.bel.trans hb, fun b hb1 => ?_, fun key T' cs' he => ?_, fun key e he => ?_, fun key key' e e' he he' heq => ?_, fun key o hO' => ?_, fun key e g hO' hg => ?_, h.hp.ownD⟩
  · have := hz b hb1
    exact ⟨Nat.lt_of_lt_of_le this.1 hb.size, this.2⟩
  · rcases hL key _ he with ⟨rfl, e1⟩ | ⟨hne, T1, cs1, h1, e1⟩
    · cases e1
      refine ⟨vs, ?_, hm hv⟩
      simp only [if_true, alloc_heap]
    · cases e1
      obtain ⟨us, h2, h3⟩ := h.hp.loc key _ _ h1
      refine ⟨us, ?_, hm h3⟩
      simp only [hne, if_false]
      rw [alloc_heap, if_neg (by have := h.hp.lt h1; omega)]; exact h2
  · have hs := h.hp.bel.size
    rcases hL key _ he with ⟨rfl, e1⟩ | ⟨hne, T1, cs1, h1, e1⟩
    · simp only [if_true]
      exact ⟨.inl ⟨hdl, hs⟩, fun hz' => by have := (hz _ hz').1; omega⟩
    · simp only [hne, if_false]
      exact h.hp.locN key _ h1
  · rcases hL key _ he with ⟨rfl, e1⟩ | ⟨hne, T1, cs1, h1, e1⟩ <;> rcases hL key' _ he' with ⟨rfl, e1'⟩ | ⟨hne', T1', cs1', h1', e1'⟩
    · rfl
    · have := h.hp.lt h1'
      simp only [if_true, hne', if_false] at heq; omega
    · have := h.hp.lt h1
      simp only [if_true, hne, if_false] at heq; omega
    · simp only [hne, hne', if_false] at heq
      exact h.hp.locD key key' _ _ h1 h1' heq
  · obtain ⟨h0, h1⟩ := h.hp.own key o hO'
    refine ⟨h0, h1.imp id ?_⟩
    rintro ⟨g, cap, us, h2, h3, h4, h5, h6, h7⟩
    exact ⟨g, cap, us, h2, h3, h4, by rw [alloc_heap, if_neg (by have := (Array.getElem?_eq_some_iff.1 h5).1; omega)]; exact h5, h6, fun i hi => (h7 i hi).mono hk⟩
  · have h1 := h.hp.ownN key e g hO' hg
    have h2 := h.hp.ltO hO' hg
    refine ⟨h1.1, h1.2.1, fun key' e' he' => ?_⟩
    rcases hL key' _ he' with ⟨rfl, _⟩ | ⟨hne, T1, cs1, h3, _⟩
    · simp only [if_true]; omega
    · simp only [hne, if_false]; exact h1.2.2 key' _ h3
/-- a cell of such a block is written -/
theorem SatE.setLoc {C : Ctx} {E : Env} {s : Sy} {a : Act} {w : World} (h : SatE C E s a w) {key off : Nat} {T : TypeId} {cs : List SV} (hL : s.L key = some (T, cs)) {sv : SV} {u : Value} (hv : DenV E w sv u) :
    SatE C E { s with L := fun k => if k = key then some (T, cs.set off sv) else s.L k } a (w.setCell ⟨E.β key, off, none⟩ u) := by
  obtain ⟨vs, h1, h2⟩ := h.hp.loc key T cs hL
  have hN := h.hp.locN key _ hL
  have hblk : ∀ k, k ≠ E.β key → (w.setCell ⟨E.β key, off, none⟩ u).heap[k]? = w.heap[k]? := fun k hk => Below.heap_setCell w _ u k hk
  have hk : Keeps w E.Z (w.setCell ⟨E.β key, off, none⟩ u) E.Z := ⟨fun _ h => h, fun b hz => hblk b (fun e => hN.2 (e ▸ hz))⟩
  have hsz : (w.setCell ⟨E.β key, off, none⟩ u).heap.size = w.heap.size := by simp [World.setCell]
  have hsetL : ∀ {svs : List SV} {us : List Value} {i : Nat}, DenL E w svs us → DenL E w (svs.set i sv) (us.set i u) := by
    intro svs
    induction svs with
    | nil => intro us i hh; simp only [DenL] at hh; subst hh; simp [DenL]
    | cons x svs ih =>
      intro us i hh
      simp only [DenL] at hh
      obtain ⟨v', us', rfl, h3, h4⟩ := hh
      cases i with
      | zero => simp only [List.set_cons_zero, DenL]; exact ⟨u, us', rfl, hv, h4⟩
      | succ i => simp only [List.set_cons_succ, DenL]; exact ⟨v', _, rfl, h3, ih h4⟩
  refine ⟨h.sz, h.df, fun t sv' hs => let ⟨v, a1, a2⟩ := h.slots t sv' hs; ⟨v, a1, a2.mono hk rfl rfl⟩, ⟨⟨h.hp.bel.os, h.hp.bel.tape, h.hp.bel.output, by rw [hsz]; exact h.hp.bel.size, fun k hk1 hk2 => (hblk k (fun e => hN.1.elim (fun h5 => by have := h5.2; omega) (fun h5 => hk2 (by rw [e]; exact h5.2)))).trans (h.hp.bel.block k hk1 hk2)⟩,
    fun b hb => by rw [hsz]; exact h.hp.z b hb, fun key' T' cs' he => ?_, fun key' e he => ?_, fun key1 key2 e e' he he' heq => ?_, fun key' o hO => ?_, fun key' e g hO hg => ?_, h.hp.ownD⟩, fun b o hb' => ?_, h.waits.mono fun sv' v hv' => DenV.mono hk rfl rfl hv'⟩
  · by_cases hkk : key' = key
    · subst hkk
      simp only [if_true, Option.some.injEq, Prod.mk.injEq] at he
      obtain ⟨rfl, rfl⟩ := he
      refine ⟨vs.set off u, ?_, DenL.mono hk rfl rfl (hsetL h2)⟩
      simp [World.setCell, Array.getElem?_modify, h1]
    · simp only [hkk, if_false] at he
      obtain ⟨us, h3, h4⟩ := h.hp.loc key' T' cs' he
      exact ⟨us, (hblk _ (fun e => hkk (h.hp.locD key' key _ _ he hL e))).trans h3, h4.mono hk rfl rfl⟩
  · by_cases hkk : key' = key
    · subst hkk; exact hN
    · simp only [hkk, if_false] at he; exact h.hp.locN key' e he
  · have hg : ∀ k e, (if k = key then some (T, cs.set off sv) else s.L k) = some e → ∃ e', s.L k = some e' := fun k e hh => by
      by_cases hkk : k = key
      · subst hkk; exact ⟨_, hL⟩
      · simp only [hkk, if_false] at hh; exact ⟨e, hh⟩
    obtain ⟨x, hx⟩ := hg _ _ he
    obtain ⟨y, hy⟩ := hg _ _ he'
    exact h.hp.locD key1 key2 x y hx hy heq
  · obtain ⟨h0, h3⟩ := h.hp.own key' o hO
    refine ⟨h0, h3.imp id ?_⟩
    rintro ⟨g, cap, us, h4, h5, h6, h7, h8, h9⟩
    have := (h.hp.ownN key' _ g hO (by rw [h4]; rfl)).2.2 key _ hL
    exact ⟨g, cap, us, h4, h5, h6, (hblk g (Ne.symm this)).trans h7, h8, fun i hi => (h9 i hi).mono hk⟩
  · have h3 := h.hp.ownN key' e g hO hg
    refine ⟨h3.1, h3.2.1, fun key1 e' he => ?_⟩
    by_cases hkk : key1 = key
    · subst hkk; exact h3.2.2 key1 _ hL
    · simp only [hkk, if_false] at he; exact h3.2.2 key1 e' he
  · obtain ⟨h1', h2', h3', h4', h5'⟩ := h.pins b o hb'
    refine ⟨(hblk b (fun e => h4' key _ hL e.symm)).trans h1', h2', h3', fun key1 e he => ?_, h5'⟩
    by_cases hkk : key1 = key
    · subst hkk; exact h4' key1 _ hL
    · simp only [hkk, if_false] at he; exact h4' key1 e he
/-- the block of the slice that an operation takes over -/
def oldB (E : Env) : Option Nat → Option Nat
  | some o => (E.ω o).ownBlock
  | none => none
/-- a slice of the function's own comes to be, out of nothing, or of one that it takes over -/
theorem SatE.ownTo {C : Ctx} {E : Env} {s : Sy} {a : Act} {w w' : World} (h : SatE C E s a w) {d : Nat} (hd : d < s.N) (kn : Nat) {old : Option Nat} (hold : ∀ o, old = some o → ∃ e, s.O o = some e)
    {ow : Ow} {v' : Value} (hos : w'.os = w.os) (htape : w'.tape = w.tape) (hout : w'.output = w.output) (hsz : w.heap.size ≤ w'.heap.size)
    (hblk : ∀ b, b < w.heap.size → some b ≠ oldB E old → w'.heap[b]? = w.heap[b]?)
    (hnew : ∀ g, v'.ownBlock = some g → w.heap.size ≤ g ∨ some g = oldB E old)
    (hown : OwnE { E with ω := fun x => if x = kn then v' else E.ω x } w' kn ow) :
    SatE C { E with ω := fun x => if x = kn then v' else E.ω x } (apply (some d) ⟨.own kn, [], [(kn, ow)], kn :: old.toList, []⟩ s) (a.put (some d) v') w' := by
  have hoB : ∀ b, oldB E old = some b → ∃ o x, old = some o ∧ s.O o = some x ∧ (E.ω o).ownBlock = some b := fun b hb => by
    cases old with
    | none => simp [oldB] at hb
    | some o => obtain ⟨x, hx⟩ := hold o rfl; exact ⟨o, x, rfl, hx, hb⟩
  have hZ : ∀ b, E.Z b → some b ≠ oldB E old := fun b hz hb => by
    obtain ⟨o, x, rfl, hx, hb'⟩ := hoB b hb.symm
    exact (h.hp.ownN o x b hx hb').2.1 hz
  have hk : Keeps w E.Z w' E.Z := ⟨fun _ h => h, fun b hz => hblk b (h.hp.z b hz).1 (hZ b hz)⟩
  have hω : ∀ x, (kn :: old.toList).contains x = false → (fun x => if x = kn then v' else E.ω x) x = E.ω x := fun x hx => by
    have : x ≠ kn := by intro e; subst e; simp at hx
    simp [this]
  have hm : ∀ {svs : List SV} {us : List Value}, DenL E w svs us → DenL { E with ω := fun x => if x = kn then v' else E.ω x } w' (killL (kn :: old.toList) [] svs) us :=
    fun hh => DenL.kill (E' := { E with ω := fun x => if x = kn then v' else E.ω x }) hk (fun _ _ => rfl) hω hh
  have hL : ∀ key x, (apply (some d) ⟨.own kn, [], [(kn, ow)], kn :: old.toList, []⟩ s).L key = some x → ∃ T cs, s.L key = some (T, cs) ∧ x = (T, killL (kn :: old.toList) [] cs) := fun key x hx => by
    simp only [apply, klook] at hx
    cases hs : s.L key with
    | none => simp [hs, killE] at hx
    | some y => obtain ⟨T, cs⟩ := y; simp [hs, killE] at hx; exact ⟨T, cs, rfl, hx.symm⟩
  have hO : ∀ key x, (apply (some d) ⟨.own kn, [], [(kn, ow)], kn :: old.toList, []⟩ s).O key = some x → (key = kn ∧ x = ow) ∨ (key ≠ kn ∧ (∀ o, old = some o → key ≠ o) ∧ s.O key = some x) := fun key x hx => by
    simp only [apply, klook] at hx
    by_cases hkd : key = kn
    · left; simp [hkd] at hx; exact ⟨hkd, hx.symm⟩
    · right
      simp only [hkd, if_false] at hx
      cases hc : (kn :: old.toList).contains key with
      | true => simp only [hc, if_true] at hx; cases hx
      | false =>
        simp only [hc, Bool.false_eq_true, if_false] at hx
        refine ⟨hkd, fun o ho e' => ?_, hx⟩
        subst ho; subst e'; simp at hc
  have hs0 := h.hp.bel.size
  have hOB : ∀ key x b, key ≠ kn → (∀ o, old = some o → key ≠ o) → s.O key = some x → (E.ω key).ownBlock = some b → some b ≠ oldB E old := fun key x b _ ho hO1 hb hb' => by
    obtain ⟨o, y, h1, h2, h3⟩ := hoB b hb'.symm
    exact ho o h1 (h.hp.ownD key o x y b hO1 h2 hb h3)
  have hLB : ∀ key x, s.L key = some x → some (E.β key) ≠ oldB E old := fun key x hx hb => by
    obtain ⟨o, y, h1, h2, h3⟩ := hoB _ hb.symm
    exact (h.hp.ownN o y _ h2 h3).2.2 key x hx rfl
  have hold0 : ∀ b, oldB E old = some b → C.w0.heap.size ≤ b ∧ ¬ E.Z b ∧ (∀ key' e', s.L key' = some e' → E.β key' ≠ b) := fun b hb => by
    obtain ⟨o, y, h1, h2, h3⟩ := hoB b hb
    exact h.hp.ownN o y b h2 h3
  refine h.step (E' := { E with ω := fun x => if x = kn then v' else E.ω x }) (by rintro t ⟨⟩; exact hd) (r := ⟨.own kn, [], [(kn, ow)], kn :: old.toList, []⟩)
    (fun sv v hv => DenV.kill (E' := { E with ω := fun x => if x = kn then v' else E.ω x }) hk (fun _ _ => rfl) hω hv) (by simp [DenV]) ?_ (fun b o hb' => ?_)
  rotate_left 1
  · obtain ⟨p1, p2, p3, p4, p5⟩ := h.pins b o hb'
    have hlt : b < w.heap.size := (Array.getElem?_eq_some_iff.1 p1).1
    have hbo : some b ≠ oldB E old := fun e => by
      obtain ⟨q, x, e1, e2, e3⟩ := hoB b e.symm
      exact p5 q x e2 e3
    refine ⟨(hblk b hlt hbo).trans p1, p2, p3, fun key x hx => ?_, fun key x hx => ?_⟩
    · obtain ⟨T1, cs1, e1, _⟩ := hL key x hx
      exact p4 key _ e1
    · rcases hO key x hx with ⟨rfl, _⟩ | ⟨hne, _, hO1⟩
      · simp only [if_true]
        intro hg
        rcases hnew b hg with h1 | h1
        · omega
        · exact hbo h1
      · simp only [hne, if_false]; exact p5 key x hO1
  refine ⟨⟨hos.trans h.hp.bel.os, htape.trans h.hp.bel.tape, hout.trans h.hp.bel.output, Nat.le_trans hs0 hsz, fun b hb1 hb2 => (hblk b (by omega) fun e => ?_).trans (h.hp.bel.block b hb1 hb2)⟩,
    fun b hb => ?_, fun key T cs he => ?_, fun key x he => ?_, fun key key' x x' he he' heq => ?_, fun key o1 he => ?_, fun key x g he hg => ?_, fun key key' x x' g he he' hg hg' => ?_⟩
  · have := (hold0 b e.symm).1; omega
  · have := h.hp.z b hb; exact ⟨Nat.lt_of_lt_of_le this.1 hsz, this.2⟩
  · obtain ⟨T1, cs1, h1, e1⟩ := hL key _ he
    cases e1
    obtain ⟨us, h2, h3⟩ := h.hp.loc key _ _ h1
    exact ⟨us, (hblk _ (h.hp.lt h1) (hLB key _ h1)).trans h2, hm h3⟩
  · obtain ⟨T1, cs1, h1, e1⟩ := hL key _ he
    exact h.hp.locN key _ h1
  · obtain ⟨T1, cs1, h1, _⟩ := hL key _ he
    obtain ⟨T2, cs2, h2, _⟩ := hL key' _ he'
    exact h.hp.locD key key' _ _ h1 h2 heq
  · rcases hO key _ he with ⟨rfl, e2⟩ | ⟨hne, ho, hO1⟩
    · cases e2; exact hown
    · obtain ⟨h0, h1⟩ := h.hp.own key o1 hO1
      refine ⟨h0, ?_⟩
      simp only [hne, if_false]
      refine h1.imp id ?_
      rintro ⟨g, cap, us, h2, h3, h4, h5, h6, h7⟩
      exact ⟨g, cap, us, h2, h3, h4, (hblk g (Array.getElem?_eq_some_iff.1 h5).1 (hOB key _ g hne ho hO1 (by rw [h2]; rfl))).trans h5, h6, fun i hi => (h7 i hi).mono hk⟩
  · rcases hO key _ he with ⟨rfl, e2⟩ | ⟨hne, ho, hO1⟩
    · simp only [if_true] at hg
      rcases hnew g hg with h1 | h1
      · refine ⟨by omega, fun hz => by have := (h.hp.z g hz).1; omega, fun key' e' he' => ?_⟩
        obtain ⟨T1, cs1, h2, _⟩ := hL key' _ he'
        have := h.hp.lt h2
        show E.β key' ≠ g
        omega
      · have h2 := hold0 g h1.symm
        refine ⟨h2.1, h2.2.1, fun key' e' he' => ?_⟩
        obtain ⟨T1, cs1, h3, _⟩ := hL key' _ he'
        exact h2.2.2 key' _ h3
    · simp only [hne, if_false] at hg
      have h2 := h.hp.ownN key x g hO1 hg
      refine ⟨h2.1, h2.2.1, fun key' e' he' => ?_⟩
      obtain ⟨T1, cs1, h3, _⟩ := hL key' _ he'
      exact h2.2.2 key' _ h3
  · have hnx : ∀ key x, key ≠ kn → (∀ o, old = some o → key ≠ o) → s.O key = some x → (E.ω key).ownBlock = some g → v'.ownBlock = some g → False := fun key x hne ho hO1 hg1 hg2 => by
      rcases hnew g hg2 with h1 | h1
      · have := h.hp.ltO hO1 hg1; omega
      · exact hOB key x g hne ho hO1 hg1 h1
    rcases hO key _ he with ⟨rfl, _⟩ | ⟨hne, ho, hO1⟩ <;> rcases hO key' _ he' with ⟨rfl, _⟩ | ⟨hne', ho', hO1'⟩
    · rfl
    · simp only [if_true] at hg; simp only [hne', if_false] at hg'
      exact (hnx key' _ hne' ho' hO1' hg' hg).elim
    · simp only [if_true] at hg'; simp only [hne, if_false] at hg
      exact (hnx key _ hne ho hO1 hg hg').elim
    · simp only [hne, if_false] at hg; simp only [hne', if_false] at hg'
      exact h.hp.ownD key key' _ _ g hO1 hO1' hg hg'
end Go.Kin
