/- Contracts of functions of the seat, walked. -/
import Derived.Test.YtmnponhhmkdcdaaGreatDoorZ4
namespace Go.Proofs.YtmnponhhmkdcdaaGreatDoor
open Go.Kin
/-! ### when an expression, an operand, a query is right -/
inductive FitX : Ex → Prop
  | mk {x : Ex} (h1 : x.s.length ≤ 140737488355328) (h2 : x.kids.length ≤ 140737488355328) (h3 : ∀ y ∈ x.kids, FitX y) : FitX x
theorem FitX.s {x : Ex} (h : FitX x) : x.s.length ≤ 140737488355328 := by cases h; assumption
theorem FitX.k {x : Ex} (h : FitX x) : x.kids.length ≤ 140737488355328 := by cases h; assumption
theorem FitX.y {x y : Ex} (h : FitX x) (hy : y ∈ x.kids) : FitX y := by cases h with | mk a b c => exact c y hy
/-- one part of an expression is as it should be -/
def partR (x : Ex) : Bool :=
  if x.k = 1 then (x.kids.length == 0 && freeB x.s)
  else if x.k = 2 ∨ x.k = 3 then (decide (1 < x.kids.length) && x.s == [])
  else if x.k = 4 ∨ x.k = 5 ∨ x.k = 6 then (x.kids.length == 1 && x.s == [])
  else false
mutual
def exOk : Ex → Bool
  | .mk k s ks => partR (.mk k s ks) && exsOk ks
def exsOk : List Ex → Bool
  | [] => true
  | x :: r => exOk x && exsOk r
end
theorem exOk_eq (x : Ex) : exOk x = (partR x && exsOk x.kids) := by cases x; simp [exOk, Ex.kids]
theorem exsOk_app : ∀ (l m : List Ex), exsOk (l ++ m) = (exsOk l && exsOk m)
  | [], m => by simp [exsOk]
  | x :: l, m => by simp [exsOk, exsOk_app l m, Bool.and_assoc]
theorem exsOk_take {l : List Ex} {i : Nat} (h : i < l.length) : exsOk (l.take (i + 1)) = (exsOk (l.take i) && exOk (nth l i)) := by
  rw [take_succ_nth h, exsOk_app]; simp [exsOk]
theorem exsOk_bad : ∀ {l : List Ex} {i : Nat}, i < l.length → exOk (nth l i) = false → exsOk l = false
  | x :: r, 0, _, h => by simp [exsOk]; intro h2; have : exOk x = false := h; rw [h2] at this; cases this
  | x :: r, i + 1, hi, h => by
    have := exsOk_bad (l := r) (i := i) (by simpa using hi) h
    simp [exsOk, this]
def exRight (x : Ex) : Bool := decide (x.size ≤ 24) && exOk x
theorem partR_1 {x : Ex} (h : x.k = 1) : exOk x = (freeB x.s && x.kids.length == 0) := by
  rw [exOk_eq]; unfold partR; rw [if_pos h]
  cases hk : x.kids with
  | nil => simp [exsOk]
  | cons a r => simp
theorem partR_2 {x : Ex} (h : x.k = 2 ∨ x.k = 3) : exOk x = (decide (1 < x.kids.length) && (x.s == [] && exsOk x.kids)) := by
  rw [exOk_eq]; unfold partR; rw [if_neg (by omega), if_pos h, Bool.and_assoc]
theorem partR_4 {x : Ex} (h : x.k = 4 ∨ x.k = 5 ∨ x.k = 6) : exOk x = (x.kids.length == 1 && (x.s == [] && exsOk x.kids)) := by
  rw [exOk_eq]; unfold partR; rw [if_neg (by omega), if_neg (by omega), if_pos h, Bool.and_assoc]
theorem partR_0 {x : Ex} (h : ¬ x.k = 1) (h2 : ¬ (x.k = 2 ∨ x.k = 3)) (h4 : ¬ (x.k = 4 ∨ x.k = 5 ∨ x.k = 6)) : exOk x = false := by
  rw [exOk_eq]; unfold partR; rw [if_neg h, if_neg h2, if_neg h4]; rfl
/-- an operand -/
def opR (o : Opd) : Bool :=
  if o.k = 1 then (freeB o.n && (o.key == [] && (o.vk == 0 && (o.vn == 0 && o.vs == []))))
  else if o.k = 2 then (freeB o.n && (freeB o.key && (o.vk == 0 && (o.vn == 0 && o.vs == []))))
  else if o.k = 3 then (o.n == [] && (o.key == [] && rightV o.vk o.vn o.vs))
  else false
structure FitO (o : Opd) : Prop where
  n : o.n.length ≤ 140737488355328
  key : o.key.length ≤ 140737488355328
  vs : o.vs.length ≤ 140737488355328
def cdR (c : Cd) : Bool := decide (1 ≤ c.op) && (decide (c.op ≤ 6) && (opR c.l && opR c.r))
structure FitC (c : Cd) : Prop where
  l : FitO c.l
  r : FitO c.r
abbrev zEx : Ex := .mk 0 [] []
noncomputable def ptR (p : Pt) : Bool :=
  freeB p.a && (freeB p.z && (if p.path then (p.lab == [] && (p.name == [] && exRight p.e)) else (freeB p.lab && ((p.name == [] || freeB p.name) && decide (p.e = zEx)))))
structure FitP (p : Pt) : Prop where
  a : p.a.length ≤ 140737488355328
  z : p.z.length ≤ 140737488355328
  lab : p.lab.length ≤ 140737488355328
  name : p.name.length ≤ 140737488355328
  e : FitX p.e
  sz : p.e.size ≤ 1000000
noncomputable def quR (q : Qu) : Bool :=
  (decide (1 ≤ q.p.length) && decide (q.p.length ≤ 4)) && (decide (q.c.length ≤ 6) && ((decide (1 ≤ q.r.length) && decide (q.r.length ≤ 4)) &&
  ((decide (1 ≤ q.range) && decide (q.range ≤ 1048576)) && ((decide (1 ≤ q.slide) && decide (q.slide ≤ 1048576)) &&
  (q.p.all ptR && (q.c.all cdR && q.r.all (fun o => o.k != 3 && opR o)))))))
structure FitQ (q : Qu) : Prop where
  p : q.p.length ≤ 140737488355328
  c : q.c.length ≤ 140737488355328
  r : q.r.length ≤ 140737488355328
  pa : ∀ p ∈ q.p, FitP p
  ca : ∀ c ∈ q.c, FitC c
  ra : ∀ o ∈ q.r, FitO o
end Go.Proofs.YtmnponhhmkdcdaaGreatDoor
