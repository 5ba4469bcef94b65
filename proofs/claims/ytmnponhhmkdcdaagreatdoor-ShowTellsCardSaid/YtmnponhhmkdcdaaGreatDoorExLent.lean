/- Contracts of functions of the seat, walked. -/
import Derived.Test.YtmnponhhmkdcdaaGreatDoorExDef
import Derived.Test.YtmnponhhmkdcdaaGreatDoorKRow2
namespace Go.Kin
/-! ### expressions that are lent: behind each list of kids lie marks -/
def mkI (a i : Int) : Int := 1000003 * (a + 7) + i
mutual
def kdL : Ex → D
  | .mk _ _ ks => .sl 3 ks.length (ks.length + 12) (lenR ks)
def lenR : List Ex → Nat → List D
  | [], i => [.v (.int .i64 (mkI 1 i)), .v (.string (mkS [])), .v (.slice none 0 0)]
  | .mk k s ks :: _, 0 => [.v (.int .i64 k), .v (.string (mkS s)), .sl 3 ks.length (ks.length + 12) (lenR ks)]
  | _ :: r, i + 1 => lenR r i
end
theorem kdL_eq (x : Ex) : kdL x = .sl 3 x.kids.length (x.kids.length + 12) (lenR x.kids) := by cases x; simp [kdL, Ex.kids]
abbrev exLC (x : Ex) : List D := [.v (.int .i64 x.k), .v (.string (mkS x.s)), kdL x]
abbrev exLD (x : Ex) : D := .ag [.v (.int .i64 x.k), .v (.string (mkS x.s)), kdL x]
abbrev exsLD (l : List Ex) : D := .sl 3 l.length (l.length + 12) (lenR l)
abbrev mkC (a i : Int) : List D := [.v (.int .i64 (mkI a i)), .v (.string (mkS [])), .v (.slice none 0 0)]
abbrev mkEx (a i : Int) : Ex := .mk (mkI a i) [] []
theorem lenR_at : ∀ {l : List Ex} {i : Nat}, i < l.length → lenR l i = exLC (nth l i)
  | [], _, h => by simp at h
  | .mk k s ks :: r, 0, _ => by simp [lenR, exLC, nth, Ex.k, Ex.s, kdL]
  | x :: r, i + 1, h => by
    have := lenR_at (l := r) (i := i) (by simpa using h)
    cases x
    simp only [lenR]
    rw [this]; rfl
theorem lenR_mk : ∀ {l : List Ex} {i : Nat}, l.length ≤ i → lenR l i = mkC 1 ((i - l.length : Nat) : Int)
  | [], i, _ => by simp [lenR]
  | x :: r, 0, h => by simp at h
  | x :: r, i + 1, h => by
    have := lenR_mk (l := r) (i := i) (by simpa using h)
    cases x
    simp only [lenR]
    rw [this]; simp
/-- one row, wherever -/
def lenI (l : List Ex) (i : Nat) : Int := if i < l.length then (nth l i).k else mkI 1 ((i - l.length : Nat) : Int)
def lenS (l : List Ex) (i : Nat) : List UInt8 := if i < l.length then (nth l i).s else []
def lenD (l : List Ex) (i : Nat) : D := if i < l.length then kdL (nth l i) else .v (.slice none 0 0)
theorem lenR_row (l : List Ex) (i : Nat) : lenR l i = [.v (.int .i64 (lenI l i)), .v (.string (mkS (lenS l i))), lenD l i] := by
  unfold lenI lenS lenD
  by_cases h : i < l.length
  · rw [lenR_at h]; simp only [if_pos h]
  · rw [lenR_mk (by omega)]; simp only [if_neg h]
theorem lfD_kdL (x : Ex) : lfD (kdL x) = true := by rw [kdL_eq]; rfl
theorem lfD_lenD (l : List Ex) (i : Nat) : lfD (lenD l i) = true := by
  unfold lenD; split
  · exact lfD_kdL _
  · rfl
theorem exD_lf (x : Ex) : lfR (exC x) = true := by simp [exC, lfR, lfD, kd_eq]
/-- what is lent reads as what it was -/
theorem kdL_le : ∀ x : Ex, LeD (kdL x) (kdX x) := fun x => by
  refine Ex.ind (p := fun x => LeD (kdL x) (kdX x)) (fun x ih => ?_) x
  rw [kdL_eq, kd_eq]
  refine LeD.trans (LeD.slice (x' := x.kids.length) (row' := lenR x.kids) (Nat.le_refl _) (by omega) (fun _ _ => rfl)) (LeD.rows fun i hi => ?_)
  rw [lenR_at hi, kdR_at hi]
  exact ⟨⟨LeD.refl _, LeD.refl _, ih _ (nth_mem hi), trivial⟩, exD_lf _⟩
theorem exLD_le (x : Ex) : LeD (exLD x) (exD x) := LeD.ag ⟨LeD.refl _, LeD.refl _, kdL_le x, trivial⟩
theorem mk_le (a i : Int) : LeD (.ag (mkC a i)) (exD (mkEx a i)) := LeD.ag ⟨LeD.refl _, LeD.refl _, by rw [kd_eq]; exact LeD.nil 3 _, trivial⟩
end Go.Kin
