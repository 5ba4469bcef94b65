/- Contracts of functions of the seat, walked. -/
import Derived.Test.YtmnponhhmkdcdaaGreatDoorZ7
namespace Go.Proofs.YtmnponhhmkdcdaaGreatDoor
open Go.Kin
/-! ### the text of an expression -/
theorem nth_map {α β : Type} [Inhabited α] [Inhabited β] (f : α → β) {l : List α} {i : Nat} (h : i < l.length) : nth (l.map f) i = f (nth l i) := by
  simp [nth, List.getD_eq_getElem?_getD, List.getElem?_map, List.getElem?_eq_getElem h]
theorem join_snoc (l : List (List UInt8)) (x s : List UInt8) (h : l ≠ []) : Lib.join (l ++ [x]) s = Lib.join l s ++ s ++ x := by
  cases l with
  | nil => exact absurd rfl h
  | cons a r => rw [List.cons_append, Lib.join_cons, Lib.join_cons]; simp [Lib.joinTail]
def sumL (c : Nat) : List (List UInt8) → Nat
  | [] => 0
  | x :: r => x.length + c + sumL c r
theorem tail_len (s : List UInt8) : ∀ r : List (List UInt8), (Lib.joinTail s r).length = sumL s.length r
  | [] => by simp [Lib.joinTail, sumL]
  | x :: r => by have := tail_len s r; simp [Lib.joinTail, sumL] at this ⊢; omega
theorem join_len (l : List (List UInt8)) (s : List UInt8) : (Lib.join l s).length ≤ sumL s.length l := by
  cases l with
  | nil => simp [Lib.join_nil]
  | cons a r => rw [Lib.join_cons, List.length_append, tail_len]; simp only [sumL]; omega
/-- a part within an expression: in brackets where it binds less -/
def grp (pk k : Int) (t : List UInt8) : List UInt8 := if k = 3 ∨ (k = 2 ∧ ¬ pk = 3) then 40 :: (t ++ [41]) else t
theorem grp_len (pk k : Int) (t : List UInt8) : (grp pk k t).length ≤ t.length + 2 := by
  unfold grp; split <;> simp
def sgn (k : Int) : UInt8 := if k = 4 then 42 else if k = 5 then 43 else 63
mutual
def exT : Ex → List UInt8
  | .mk k s ks => if k = 1 then s else if k = 2 then Lib.join (exTs k ks) [46] else if k = 3 then Lib.join (exTs k ks) [124] else nth (exTs k ks) 0 ++ [sgn k]
def exTs (pk : Int) : List Ex → List (List UInt8)
  | [] => []
  | y :: r => grp pk y.k (exT y) :: exTs pk r
end
theorem exTs_map (pk : Int) : ∀ l : List Ex, exTs pk l = l.map fun y => grp pk y.k (exT y)
  | [] => by simp [exTs]
  | y :: r => by simp [exTs, exTs_map pk r]
theorem exT_eq (x : Ex) : exT x = if x.k = 1 then x.s else if x.k = 2 then Lib.join (exTs x.k x.kids) [46] else if x.k = 3 then Lib.join (exTs x.k x.kids) [124] else nth (exTs x.k x.kids) 0 ++ [sgn x.k] := by
  cases x; simp only [exT, Ex.k, Ex.s, Ex.kids]; rfl
theorem free_len {s : List UInt8} (h : freeB s = true) : s.length ≤ 20 := by
  unfold freeB vertexB at h; simp at h; omega
theorem exsOk_mem : ∀ {l : List Ex}, exsOk l = true → ∀ y ∈ l, exOk y = true
  | x :: r, h, y, hy => by
    simp only [exsOk, Bool.and_eq_true] at h
    rcases List.mem_cons.1 hy with rfl | hy
    · exact h.1
    · exact exsOk_mem h.2 y hy
theorem exOk_kids {x : Ex} (h : exOk x = true) : ∀ y ∈ x.kids, exOk y = true := by
  rw [exOk_eq, Bool.and_eq_true] at h; exact exsOk_mem h.2
theorem exTs_sum (pk : Int) : ∀ l : List Ex, (∀ y ∈ l, (exT y).length + 3 ≤ 24 * y.size) → sumL 1 (exTs pk l) ≤ 24 * Ex.sizes l
  | [], _ => by simp [exTs, sumL]
  | y :: r, h => by
    have h1 := exTs_sum pk r fun z hz => h z (List.mem_cons_of_mem _ hz)
    have h2 := h y List.mem_cons_self
    have h3 := grp_len pk y.k (exT y)
    simp only [exTs, sumL, Ex.sizes]; omega
theorem exT_len : ∀ x : Ex, exOk x = true → (exT x).length + 3 ≤ 24 * x.size := fun x => by
  refine Ex.ind (p := fun x => exOk x = true → (exT x).length + 3 ≤ 24 * x.size) (fun x ih h => ?_) x
  have hs := exTs_sum x.k x.kids fun y hy => ih y hy (exOk_kids h y hy)
  have he := x.size_eq
  rw [exT_eq]
  by_cases h1 : x.k = 1
  · rw [if_pos h1]
    rw [partR_1 h1, Bool.and_eq_true] at h
    have := free_len h.1; omega
  · rw [if_neg h1]
    have j1 := join_len (exTs x.k x.kids) [46]
    have j2 := join_len (exTs x.k x.kids) [124]
    simp only [List.length_singleton] at j1 j2
    by_cases h2 : x.k = 2
    · rw [if_pos h2]; omega
    · rw [if_neg h2]
      by_cases h3 : x.k = 3
      · rw [if_pos h3]; omega
      · rw [if_neg h3]
        have hle : (nth (exTs x.k x.kids) 0).length ≤ sumL 1 (exTs x.k x.kids) := by
          cases exTs x.k x.kids with
          | nil => simp [nth, sumL]; rfl
          | cons a r => show a.length ≤ _; simp only [sumL]; omega
        simp only [List.length_append, List.length_singleton]; omega
theorem join_take {l : List (List UInt8)} {i : Nat} {s : List UInt8} (h1 : 1 ≤ i) (h : i < l.length) : Lib.join (l.take (i + 1)) s = Lib.join (l.take i) s ++ s ++ nth l i := by
  rw [take_succ_nth h, join_snoc]
  intro e
  rw [List.take_eq_nil_iff] at e
  rcases e with e | e
  · omega
  · subst e; simp at h
end Go.Proofs.YtmnponhhmkdcdaaGreatDoor
