/- Loops on states written out. -/
import Derived.Test.YtmnponhhmkdcdaaDoorKJoin
namespace Go.Kin
open Go.RowKit

/-- a loop, by a measure, from states of a family -/
theorem Exec.loopL {R : Rn} {k : List Item} {c : Code} {X : Type} (st : X → Stt) (μ : X → Nat) (I : X → Prop) (body : ∀ x, I x → (∀ y, I y → μ y < μ x → Exec R (.inLoop c :: k) (st y).sy) → Exec R (.code c :: .inLoop c :: k) (st x).sy) (x : X) (hx : I x) : Exec R (.code (.loop c) :: k) (st x).sy :=
  Exec.loop (X := { x : X // I x }) (fun x => (st x.1).sy) (fun x => μ x.1) (fun x ih => body x.1 x.2 fun y hy hlt => ih ⟨y, hy⟩ hlt) ⟨x, hx⟩

/-- the slots that are kept -/
def restS (S : List (Nat × SV)) : List Nat → List (Nat × SV)
  | [] => []
  | t :: r => match klook t S with
    | some x => (t, x) :: restS S r
    | none => restS S r

/-- a state, some of whose slots, boxes, slices are told anew -/
def famSt (s : Stt) (ts : List Nat) (mS : List (Nat × SV)) (mL : List (Nat × TypeId × List SV)) (mO : List (Nat × Ow)) : Stt :=
  ⟨s.N, s.df, mS ++ restS s.S ts, mL ++ delKs (keysOf mL) s.L, mO ++ delKs (keysOf mO) s.O, s.fz, s.pin⟩

/-- a loop: of the state ahead of it what the rounds change is told by x; ts: the slots that stay and are read later -/
theorem Exec.loopU {R : Rn} {k : List Item} {c : Code} {X : Type} {s : Stt} (ts : List Nat) (mS : X → List (Nat × SV)) (mL : X → List (Nat × TypeId × List SV)) (mO : X → List (Nat × Ow)) (μ : X → Nat) (I : X → Prop) (x0 : X)
    (h0 : I x0) (hw : LeS s.S (mS x0 ++ restS s.S ts) ∧ LeL s.L (mL x0 ++ delKs (keysOf (mL x0)) s.L) ∧ LeO s.O (mO x0 ++ delKs (keysOf (mO x0)) s.O) ∧ LeF s.fz s.fz)
    (body : ∀ x, I x → (∀ y, I y → μ y < μ x → Exec R (.inLoop c :: k) (famSt s ts (mS y) (mL y) (mO y)).sy) → Exec R (.code c :: .inLoop c :: k) (famSt s ts (mS x) (mL x) (mO x)).sy) : Exec R (.code (.loop c) :: k) s.sy :=
  Exec.weak (famSt s ts (mS x0) (mL x0) (mO x0)) rfl rfl hw.1 hw.2.1 hw.2.2.1 hw.2.2.2 rfl (Exec.loopL (fun x => famSt s ts (mS x) (mL x) (mO x)) μ I body x0 h0)

/-- the same state, written otherwise -/
theorem Exec.norm {R : Rn} {k : List Item} {s s' : Stt} (h : s = s') (hk : Exec R k s'.sy) : Exec R k s.sy := h ▸ hk

/-- back at the head of a loop -/
theorem Exec.back {R : Rn} {k : List Item} {s s0 : Stt} {ts : List Nat} {mS : List (Nat × SV)} {mL : List (Nat × TypeId × List SV)} {mO : List (Nat × Ow)} (hk : Exec R k (famSt s0 ts mS mL mO).sy) (hN : s.N = s0.N) (hdf : s.df = s0.df)
    (hS : LeS s.S (mS ++ restS s0.S ts)) (hL : LeL s.L (mL ++ delKs (keysOf mL) s0.L)) (hO : LeO s.O (mO ++ delKs (keysOf mO) s0.O)) (hF : LeF s.fz s0.fz) (hP : s.pin = s0.pin) : Exec R k s.sy :=
  Exec.weak (famSt s0 ts mS mL mO) hN hdf hS hL hO hF hP hk
end Go.Kin
