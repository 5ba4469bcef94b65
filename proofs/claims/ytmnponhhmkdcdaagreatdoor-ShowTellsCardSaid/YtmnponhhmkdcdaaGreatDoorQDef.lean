/- Contracts of functions of the seat, walked. -/
import Derived.Test.YtmnponhhmkdcdaaGreatDoorExLent
namespace Go.Kin
/-! ### queries -/
structure Opd where
  k : Int
  n : List UInt8
  key : List UInt8
  vk : Int
  vn : Int
  vs : List UInt8
  deriving Inhabited, DecidableEq
structure Cd where
  op : Int
  l : Opd
  r : Opd
  deriving Inhabited, DecidableEq
structure Pt where
  a : List UInt8
  z : List UInt8
  path : Bool
  lab : List UInt8
  name : List UInt8
  e : Ex
  deriving Inhabited
noncomputable instance : DecidableEq Pt := fun _ _ => Classical.propDecidable _
structure Qu where
  p : List Pt
  c : List Cd
  r : List Opd
  range : Int
  slide : Int
  deriving Inhabited
noncomputable instance : DecidableEq Qu := fun _ _ => Classical.propDecidable _
abbrev opC (o : Opd) : List D := [.v (.int .i64 o.k), .v (.string (mkS o.n)), .v (.string (mkS o.key)), .v (.int .i64 o.vk), .v (.int .i64 o.vn), .v (.string (mkS o.vs))]
abbrev cdC (c : Cd) : List D := [.v (.int .i64 c.op), .v (.int .i64 c.l.k), .v (.string (mkS c.l.n)), .v (.string (mkS c.l.key)), .v (.int .i64 c.l.vk), .v (.int .i64 c.l.vn), .v (.string (mkS c.l.vs)),
  .v (.int .i64 c.r.k), .v (.string (mkS c.r.n)), .v (.string (mkS c.r.key)), .v (.int .i64 c.r.vk), .v (.int .i64 c.r.vn), .v (.string (mkS c.r.vs))]
abbrev ptC (p : Pt) : List D := [.v (.string (mkS p.a)), .v (.string (mkS p.z)), .v (.bool p.path), .v (.string (mkS p.lab)), .v (.string (mkS p.name)), .v (.int .i64 p.e.k), .v (.string (mkS p.e.s)), kdX p.e]
abbrev ptLC (p : Pt) : List D := [.v (.string (mkS p.a)), .v (.string (mkS p.z)), .v (.bool p.path), .v (.string (mkS p.lab)), .v (.string (mkS p.name)), .v (.int .i64 p.e.k), .v (.string (mkS p.e.s)), kdL p.e]
abbrev ptsD (l : List Pt) : D := .sl 8 l.length l.length fun i => ptC (nth l i)
abbrev cdsD (l : List Cd) : D := .sl 13 l.length l.length fun i => cdC (nth l i)
abbrev opsD (l : List Opd) : D := .sl 6 l.length l.length fun i => opC (nth l i)
abbrev quD (q : Qu) : D := .ag [ptsD q.p, cdsD q.c, opsD q.r, .v (.int .i64 q.range), .v (.int .i64 q.slide)]
/-! #### lent -/
def lentR {α : Type} [Inhabited α] (f : α → List D) (m : Nat → List D) (l : List α) (i : Nat) : List D := if i < l.length then f (nth l i) else m (i - l.length)
theorem lentR_at {α : Type} [Inhabited α] {f : α → List D} {m : Nat → List D} {l : List α} {i : Nat} (h : i < l.length) : lentR f m l i = f (nth l i) := if_pos h
theorem lentR_mk {α : Type} [Inhabited α] {f : α → List D} {m : Nat → List D} {l : List α} {i : Nat} (h : l.length ≤ i) : lentR f m l i = m (i - l.length) := if_neg (by omega)
theorem lentR_put {α : Type} [Inhabited α] {f : α → List D} {m : Nat → List D} {l : List α} {r : List D} {n : Nat} (h : lentR f m l n = r) (q : Nat) (hq : q < n + 1) : catR n (lentR f m l) (lstR [r]) q = lentR f m l q := by
  unfold catR
  by_cases hj : q < n
  · rw [if_pos hj]
  · obtain rfl : q = n := by omega
    rw [if_neg hj, h]; simp [lstR]
abbrev opMk (i : Nat) : List D := [.v (.int .i64 0), .v (.string (mkS [])), .v (.string (mkS [])), .v (.int .i64 0), .v (.int .i64 (mkI 1 i)), .v (.string (mkS []))]
abbrev cdMk (i : Nat) : List D := [.v (.int .i64 (mkI 1 i)), .v (.int .i64 0), .v (.string (mkS [])), .v (.string (mkS [])), .v (.int .i64 0), .v (.int .i64 0), .v (.string (mkS [])),
  .v (.int .i64 0), .v (.string (mkS [])), .v (.string (mkS [])), .v (.int .i64 0), .v (.int .i64 0), .v (.string (mkS []))]
abbrev ptMk (i : Nat) : List D := [.v (.string (mkS [])), .v (.string (mkS [])), .v (.bool false), .v (.string (mkS [109])), .v (.string (mkS [])), .v (.int .i64 (mkI 1 i)), .v (.string (mkS [])), .v (.slice none 0 0)]
abbrev ptsLD (l : List Pt) : D := .sl 8 l.length (l.length + 12) (lentR ptLC ptMk l)
abbrev cdsLD (l : List Cd) : D := .sl 13 l.length (l.length + 12) (lentR cdC cdMk l)
abbrev opsLD (l : List Opd) : D := .sl 6 l.length (l.length + 12) (lentR opC opMk l)
abbrev quLD (q : Qu) : D := .ag [ptsLD q.p, cdsLD q.c, opsLD q.r, .v (.int .i64 q.range), .v (.int .i64 q.slide)]
theorem ptC_lf (p : Pt) : lfR (ptC p) = true := by simp [lfR, lfD, kd_eq]
theorem ptLC_le (p : Pt) : LeDs (ptLC p) (ptC p) := ⟨LeD.refl _, LeD.refl _, LeD.refl _, LeD.refl _, LeD.refl _, LeD.refl _, LeD.refl _, kdL_le p.e, trivial⟩
theorem ptsLD_le (l : List Pt) : LeD (ptsLD l) (ptsD l) :=
  LeD.trans (LeD.slice (x' := l.length) (row' := lentR ptLC ptMk l) (Nat.le_refl _) (by omega) (fun _ _ => rfl)) (LeD.rows fun i hi => by
    rw [lentR_at hi]; exact ⟨ptLC_le _, ptC_lf _⟩)
theorem cdsLD_le (l : List Cd) : LeD (cdsLD l) (cdsD l) := LeD.slice (Nat.le_refl _) (by omega) fun i hi => lentR_at hi
theorem opsLD_le (l : List Opd) : LeD (opsLD l) (opsD l) := LeD.slice (Nat.le_refl _) (by omega) fun i hi => lentR_at hi
theorem quLD_le (q : Qu) : LeD (quLD q) (quD q) := LeD.ag ⟨ptsLD_le _, cdsLD_le _, opsLD_le _, LeD.refl _, LeD.refl _, trivial⟩
abbrev mkPt (i : Nat) : Pt := ⟨[], [], false, [109], [], mkEx 1 i⟩
theorem ptMk_le (i : Nat) : LeDs (ptMk i) (ptC (mkPt i)) := ⟨LeD.refl _, LeD.refl _, LeD.refl _, LeD.refl _, LeD.refl _, LeD.refl _, LeD.refl _, by rw [kd_eq]; exact LeD.nil 3 _, trivial⟩
theorem op_eq (x y : Opd) : (x.k == y.k && (x.n == y.n && (x.key == y.key && (x.vk == y.vk && (x.vn == y.vn && x.vs == y.vs))))) = decide (x = y) := by
  cases x; cases y; rw [Bool.eq_iff_iff]; simp
end Go.Kin
