/- Loops on states written out. -/
import Derived.Test.YtlcpglkbllhokaaKDrawL
namespace Go.Kin
open Go.RowKit

/-! ### loops on states written out -/
def subS {α : Type} (S : List (Nat × α)) : List (Nat × α) → Prop
  | [] => True
  | (t, y) :: r => klook t S = some y ∧ subS S r
theorem subS_at {α : Type} {S : List (Nat × α)} : ∀ {l : List (Nat × α)}, subS S l → ∀ (t : Nat) (y : α), klook t l = some y → klook t S = some y
  | [], _, t, y, h => by simp [klook] at h
  | (t', y') :: r, hl, t, y, h => by
    simp only [klook] at h
    by_cases ht : t = t'
    · subst ht; simp at h; subst h; exact hl.1
    · rw [if_neg ht] at h; exact subS_at hl.2 t y h

/-- the second state says less -/
theorem Exec.sub {R : Rn} {k : List Item} {s : Stt} (s' : Stt) (hN : s'.N = s.N) (hdf : s'.df = s.df) (hS : subS s.S s'.S) (hL : subS s.L s'.L) (hO : subS s.O s'.O) (h : Exec R k s'.sy) : Exec R k s.sy :=
  fun a w hs => h a w (Sat.less (s := s.sy) (s' := s'.sy) hN hdf (subS_at hS) (subS_at hL) (subS_at hO) hs)

/-- a loop, by a measure, from states of a family -/
theorem Exec.loopL {R : Rn} {k : List Item} {c : Code} {X : Type} (st : X → Stt) (μ : X → Nat) (I : X → Prop) (body : ∀ x, I x → (∀ y, I y → μ y < μ x → Exec R (.inLoop c :: k) (st y).sy) → Exec R (.code c :: .inLoop c :: k) (st x).sy) (x : X) (hx : I x) : Exec R (.code (.loop c) :: k) (st x).sy :=
  Exec.loop (X := { x : X // I x }) (fun x => (st x.1).sy) (fun x => μ x.1) (fun x ih => body x.1 x.2 fun y hy hlt => ih ⟨y, hy⟩ hlt) ⟨x, hx⟩
end Go.Kin
