/- Steps of a function body on data, and contracts of the functions of the seat, walked. -/
import Derived.Test.YtonchjamoblioaaGreatDoorKRow2
import Derived.Test.YtonchjamoblioaaGreatDoorKMut
import Derived.Test.YtonchjamoblioaaGreatDoorKChain
set_option linter.unusedSimpArgs false
set_option linter.unusedVariables false
set_option linter.unusedSectionVars false
namespace Go.Kin
/-! ### expressions that are lent: behind each list of kids lie marks -/
def mkI (a i : Int) : Int := 1000003 * (a + 7) + i
mutual
def kdL : Ex → D
  | .mk _ _ ks => .sl 3 ks.length (ks.length + 12) (lenR ks)
def lenR : List Ex → Nat → List D
  | [], i => [.v (.int .i64 (mkI 1 i)), .v (.string (mkS [])), .v (.slice none 0 0)]
  | .mk k s ks :: _, 0 => [.v (.int .i64 k), .v (.string (mkS s)), .sl 3 ks.length (ks.length + 12) (lenR ks)]
  | _ :: r, i + 1 => lenR r i
end
abbrev exLC (x : Ex) : List D := [.v (.int .i64 x.k), .v (.string (mkS x.s)), kdL x]
abbrev exLD (x : Ex) : D := .ag [.v (.int .i64 x.k), .v (.string (mkS x.s)), kdL x]
abbrev exsLD (l : List Ex) : D := .sl 3 l.length (l.length + 12) (lenR l)
abbrev mkC (a i : Int) : List D := [.v (.int .i64 (mkI a i)), .v (.string (mkS [])), .v (.slice none 0 0)]
abbrev mkEx (a i : Int) : Ex := .mk (mkI a i) [] []
/-- one row, wherever -/
def lenI (l : List Ex) (i : Nat) : Int := if i < l.length then (nth l i).k else mkI 1 ((i - l.length : Nat) : Int)
def lenS (l : List Ex) (i : Nat) : List UInt8 := if i < l.length then (nth l i).s else []
def lenD (l : List Ex) (i : Nat) : D := if i < l.length then kdL (nth l i) else .v (.slice none 0 0)
end Go.Kin
namespace Go.Proofs.YtonchjamoblioaaGreatDoor
open Go.Kin
set_option maxRecDepth 100000
set_option maxHeartbeats 0
attribute [go_sem] exLC exLD exsLD mkC mkEx
theorem leaf_kd (x : Ex) : leafSV (.d (kdX x)) = true := by rw [kd_eq]; rfl
attribute [go_sem ↓] leaf_kd
end Go.Proofs.YtonchjamoblioaaGreatDoor
namespace Go.Kin
/-! ### queries -/
structure Opd where
 k : Int
 n : List UInt8
 key : List UInt8
 vk : Int
 vn : Int
 vs : List UInt8
 deriving Inhabited, DecidableEq
structure Cd where
 op : Int
 l : Opd
 r : Opd
 deriving Inhabited, DecidableEq
structure Pt where
 a : List UInt8
 z : List UInt8
 path : Bool
 lab : List UInt8
 name : List UInt8
 e : Ex
 deriving Inhabited
noncomputable instance : DecidableEq Pt := fun _ _ => Classical.propDecidable _
structure Qu where
 p : List Pt
 c : List Cd
 r : List Opd
 range : Int
 slide : Int
 deriving Inhabited
noncomputable instance : DecidableEq Qu := fun _ _ => Classical.propDecidable _
abbrev opC (o : Opd) : List D := [.v (.int .i64 o.k), .v (.string (mkS o.n)), .v (.string (mkS o.key)), .v (.int .i64 o.vk), .v (.int .i64 o.vn), .v (.string (mkS o.vs))]
abbrev cdC (c : Cd) : List D := [.v (.int .i64 c.op), .v (.int .i64 c.l.k), .v (.string (mkS c.l.n)), .v (.string (mkS c.l.key)), .v (.int .i64 c.l.vk), .v (.int .i64 c.l.vn), .v (.string (mkS c.l.vs)),
 .v (.int .i64 c.r.k), .v (.string (mkS c.r.n)), .v (.string (mkS c.r.key)), .v (.int .i64 c.r.vk), .v (.int .i64 c.r.vn), .v (.string (mkS c.r.vs))]
abbrev ptC (p : Pt) : List D := [.v (.string (mkS p.a)), .v (.string (mkS p.z)), .v (.bool p.path), .v (.string (mkS p.lab)), .v (.string (mkS p.name)), .v (.int .i64 p.e.k), .v (.string (mkS p.e.s)), kdX p.e]
abbrev ptLC (p : Pt) : List D := [.v (.string (mkS p.a)), .v (.string (mkS p.z)), .v (.bool p.path), .v (.string (mkS p.lab)), .v (.string (mkS p.name)), .v (.int .i64 p.e.k), .v (.string (mkS p.e.s)), kdL p.e]
abbrev ptsD (l : List Pt) : D := .sl 8 l.length l.length fun i => ptC (nth l i)
abbrev cdsD (l : List Cd) : D := .sl 13 l.length l.length fun i => cdC (nth l i)
abbrev opsD (l : List Opd) : D := .sl 6 l.length l.length fun i => opC (nth l i)
abbrev quD (q : Qu) : D := .ag [ptsD q.p, cdsD q.c, opsD q.r, .v (.int .i64 q.range), .v (.int .i64 q.slide)]
/-! #### lent -/
def lentR {α : Type} [Inhabited α] (f : α → List D) (m : Nat → List D) (l : List α) (i : Nat) : List D := if i < l.length then f (nth l i) else m (i - l.length)
abbrev opMk (i : Nat) : List D := [.v (.int .i64 0), .v (.string (mkS [])), .v (.string (mkS [])), .v (.int .i64 0), .v (.int .i64 (mkI 1 i)), .v (.string (mkS []))]
abbrev cdMk (i : Nat) : List D := [.v (.int .i64 (mkI 1 i)), .v (.int .i64 0), .v (.string (mkS [])), .v (.string (mkS [])), .v (.int .i64 0), .v (.int .i64 0), .v (.string (mkS [])),
 .v (.int .i64 0), .v (.string (mkS [])), .v (.string (mkS [])), .v (.int .i64 0), .v (.int .i64 0), .v (.string (mkS []))]
abbrev ptMk (i : Nat) : List D := [.v (.string (mkS [])), .v (.string (mkS [])), .v (.bool false), .v (.string (mkS [109])), .v (.string (mkS [])), .v (.int .i64 (mkI 1 i)), .v (.string (mkS [])), .v (.slice none 0 0)]
abbrev ptsLD (l : List Pt) : D := .sl 8 l.length (l.length + 12) (lentR ptLC ptMk l)
abbrev cdsLD (l : List Cd) : D := .sl 13 l.length (l.length + 12) (lentR cdC cdMk l)
abbrev opsLD (l : List Opd) : D := .sl 6 l.length (l.length + 12) (lentR opC opMk l)
abbrev quLD (q : Qu) : D := .ag [ptsLD q.p, cdsLD q.c, opsLD q.r, .v (.int .i64 q.range), .v (.int .i64 q.slide)]
abbrev mkPt (i : Nat) : Pt := ⟨[], [], false, [109], [], mkEx 1 i⟩
theorem op_eq (x y : Opd) : (x.k == y.k && (x.n == y.n && (x.key == y.key && (x.vk == y.vk && (x.vn == y.vn && x.vs == y.vs))))) = decide (x = y) := by
 cases x; cases y; rw [Bool.eq_iff_iff]; simp
end Go.Kin
namespace Go.Proofs.YtonchjamoblioaaGreatDoor
open Go.Kin
set_option maxRecDepth 100000
set_option maxHeartbeats 0
attribute [go_sem] opC cdC ptC ptLC ptsD cdsD opsD quD opMk cdMk ptMk ptsLD cdsLD opsLD quLD mkPt
abbrev opD (o : Opd) : D := .ag (opC o)
abbrev cdD (c : Cd) : D := .ag (cdC c)
abbrev ptD (p : Pt) : D := .ag (ptC p)
abbrev ptLD (p : Pt) : D := .ag (ptLC p)
attribute [go_sem] opD cdD ptD ptLD
theorem leX_kd (x : Ex) : LeX (kdX x) (kdX x) = True := by rw [kd_eq]; simp [LeX]
attribute [go_sem ↓] leX_kd
theorem pt_eq (x y : Pt) : (x.a == y.a && (x.z == y.z && (x.path == y.path && (x.lab == y.lab && (x.name == y.name && decide (x.e = y.e)))))) = decide (x = y) := by
 cases x; cases y; rw [Bool.eq_iff_iff]; simp
theorem cdx (x y : Cd) : x = y ↔ (x.op = y.op ∧ x.l.k = y.l.k ∧ x.l.n = y.l.n ∧ x.l.key = y.l.key ∧ x.l.vk = y.l.vk ∧ x.l.vn = y.l.vn ∧ x.l.vs = y.l.vs ∧ x.r.k = y.r.k ∧ x.r.n = y.r.n ∧ x.r.key = y.r.key ∧ x.r.vk = y.r.vk ∧ x.r.vn = y.r.vn ∧ x.r.vs = y.r.vs) := by
 obtain ⟨o, ⟨_, _, _, _, _, _⟩, ⟨_, _, _, _, _, _⟩⟩ := x; obtain ⟨o2, ⟨_, _, _, _, _, _⟩, ⟨_, _, _, _, _, _⟩⟩ := y; simp [and_assoc]
theorem qu_eq (x y : Qu) : (decide (x.p = y.p) && (decide (x.c = y.c) && (decide (x.r = y.r) && (x.range == y.range && x.slide == y.slide)))) = decide (x = y) := by
 cases x; cases y; rw [Bool.eq_iff_iff]; simp
def ptLim : List Pt → Nat → Nat
 | [], n => n
 | p :: r, n => if n ≤ 400 then ptLim r (n + p.e.lim 0) else n
def _root_.Go.Kin.Qu.lim (q : Qu) : Nat := ptLim q.p (q.p.length + q.c.length + q.r.length)
theorem ptLim_step {l : List Pt} {i n : Nat} (h : i < l.length) (hn : n ≤ 400) : ptLim (l.drop i) n = ptLim (l.drop (i + 1)) (n + (nth l i).e.lim 0) := by
 rw [drop_nth h]; simp only [ptLim, if_pos hn]
theorem ptLim_stop {l : List Pt} {i n : Nat} (h : l.length ≤ i ∨ 400 < n) : ptLim (l.drop i) n = n := by
 rcases h with h | h
 ·rw [List.drop_eq_nil_of_le h]; rfl
 ·cases l.drop i with
  | nil => rfl
  | cons x r => simp only [ptLim]; rw [if_neg (by omega)]
theorem size_ok (B : Ex → Prop) (hB : ∀ x, B x → x.kids.length ≤ 140737488355328 ∧ ∀ y ∈ x.kids, B y) (q : Qu) (h1 : q.p.length ≤ 140737488355328) (h2 : q.c.length ≤ 140737488355328) (h3 : q.r.length ≤ 140737488355328) (hb : ∀ p ∈ q.p, B p.e) : FnOK Laid Tryz.prog 11 [quD q] (iv q.lim) := by
 refine FnOK_of laid_stable Tryz.func11 Tryz.ntmps11 rfl (by as_aux_lemma => kernel_rfl) (Nat.le_of_ble_eq_true rfl) (fun R hR => ?_)
 obtain ⟨_, b, cs, T, C⟩ := R
 obtain rfl : _ = Tryz.prog := hR.p
 have w5 : IntKind.i64.wrap ((q.p.length : Int) + (q.c.length : Int)) = ((q.p.length + q.c.length : Nat) : Int) := by rw [wrap_id (by omega)]; omega
 have w6 : IntKind.i64.wrap (((q.p.length + q.c.length : Nat) : Int) + (q.r.length : Int)) = ((q.p.length + q.c.length + q.r.length : Nat) : Int) := by rw [wrap_id (by omega)]; omega
 refine sq ?_
 apply Exec.regionL te_ok
 ·intro o Q hQ
  simp only [go_sem, w5, w6]
  repeat refine ob2 ?_
  exact hQ
 refine sq ?_
 apply Exec.regionL te_ok
 ·intro o Q hQ
  simp only [go_sem, w5, w6]
  repeat refine ob2 ?_
  exact hQ
 refine sq ?_
 refine sq ?_
 apply Exec.regionL te_ok
 ·intro o Q hQ
  simp only [go_sem, w5, w6]
  repeat refine ob2 ?_
  exact hQ
 refine Exec.block ?_
 apply Exec.loopU [1] (X := Nat × Nat) (fun ⟨i, n⟩ => [(4, .d (iv i)), (3, .d (iv n))]) (fun ⟨i, n⟩ => []) (fun ⟨i, n⟩ => []) (fun ⟨i, n⟩ => q.p.length - i) (fun ⟨i, n⟩ => i ≤ q.p.length ∧ q.lim = ptLim (q.p.drop i) n ∧ n ≤ 422212465065984 + 100000 * i) (0, q.p.length + q.c.length + q.r.length)
 case h0 =>
  exact ⟨Nat.zero_le _, rfl, by omega⟩
 case hw =>
  simp only [go_sem]
 case body =>
  rintro ⟨i, n⟩ hx ih0
  try simp only at hx
  apply Exec.norm
  ·simp only [go_sem, w5, w6]
   rfl
  refine sq ?_
  refine sq ?_
  apply Exec.regionL te_ok
  ·intro o Q hQ
   simp only [go_sem, w5, w6]
   repeat refine ob2 ?_
   exact hQ
  refine Exec.cond_split rfl (fun h0 => ?_) (fun h0 => ?_)
  ·have hit : i < q.p.length ∧ n ≤ 400 := by simp at h0; omega
   obtain ⟨hi, hn⟩ := hit
   have hlb := Ex.lim_le (nth q.p i).e (d := 0) (by omega)
   have w2 : IntKind.i64.wrap ((i : Int) + 1) = ((i + 1 : Nat) : Int) := by rw [wrap_id (by omega)]; omega
   have w3 : IntKind.i64.wrap ((n : Int) + (((nth q.p i).e.lim 0 : Nat) : Int)) = ((n + (nth q.p i).e.lim 0 : Nat) : Int) := by rw [wrap_id (by omega)]; omega
   refine sk ?_
   refine sq ?_
   refine Exec.block ?_
   apply Exec.regionL te_ok
   ·intro o Q hQ
    simp only [go_sem, w5, w6, w2, w3]
    repeat refine ob2 ?_
    refine kcall hR.inv te_ok rfl rfl rfl rfl rfl rfl (esize_ok B hB _ (hb _ (nth_mem hi)) 0 (by omega)) ?_
    simp only [go_sem, w5, w6, w2, w3]
    repeat refine ob2 ?_
    exact hQ
   refine Exec.inBlock ?_
   apply Exec.regionL te_ok
   ·intro o Q hQ
    simp only [go_sem, w5, w6, w2, w3]
    repeat refine ob2 ?_
    exact hQ
   refine Exec.back (ih0 (i + 1, n + (nth q.p i).e.lim 0) ?_ ?_) ?_ ?_ ?_ ?_ ?_ ?_ ?_
   ·try simp only
    exact ⟨by omega, by rw [hx.2.1, ptLim_step hi hn], by omega⟩
   ·try simp only
    omega
   ·rfl
   ·rfl
   ·(simp only [go_sem, w5, w6, w2, w3])
   ·(simp only [go_sem, w5, w6, w2, w3])
   ·(simp only [go_sem, w5, w6, w2, w3])
   ·simp only [go_sem, w5, w6, w2, w3]
   ·rfl
  ·refine Exec.exit rfl ?_
   refine sq ?_
   apply Exec.regionL te_ok
   ·intro o Q hQ
    simp only [go_sem, w5, w6]
    repeat refine ob2 ?_
    exact hQ
   refine Exec.rets hR te_ok rfl rfl rfl (LeX.le ?_) (.inr ⟨_, rfl⟩)
   simp only [go_sem]
   rw [hx.2.1, ptLim_stop (by simp at h0; omega)]
end Go.Proofs.YtonchjamoblioaaGreatDoor
namespace Go.Proofs.YtonchjamoblioaaGreatDoor
open Go.Kin
/-! ### when an expression, an operand, a query is right -/
inductive FitX : Ex → Prop
  | mk {x : Ex} (h1 : x.s.length ≤ 140737488355328) (h2 : x.kids.length ≤ 140737488355328) (h3 : ∀ y ∈ x.kids, FitX y) : FitX x
theorem FitX.s {x : Ex} (h : FitX x) : x.s.length ≤ 140737488355328 := by cases h; assumption
theorem FitX.k {x : Ex} (h : FitX x) : x.kids.length ≤ 140737488355328 := by cases h; assumption
theorem FitX.y {x y : Ex} (h : FitX x) (hy : y ∈ x.kids) : FitX y := by cases h with | mk a b c => exact c y hy
/-- one part of an expression is as it should be -/
def partR (x : Ex) : Bool :=
  if x.k = 1 then (x.kids.length == 0 && freeB x.s)
  else if x.k = 2 ∨ x.k = 3 then (decide (1 < x.kids.length) && x.s == [])
  else if x.k = 4 ∨ x.k = 5 ∨ x.k = 6 then (x.kids.length == 1 && x.s == [])
  else false
mutual
def exOk : Ex → Bool
  | .mk k s ks => partR (.mk k s ks) && exsOk ks
def exsOk : List Ex → Bool
  | [] => true
  | x :: r => exOk x && exsOk r
end
theorem exOk_eq (x : Ex) : exOk x = (partR x && exsOk x.kids) := by cases x; simp [exOk, Ex.kids]
def exRight (x : Ex) : Bool := decide (x.size ≤ 24) && exOk x
theorem partR_1 {x : Ex} (h : x.k = 1) : exOk x = (freeB x.s && x.kids.length == 0) := by
  rw [exOk_eq]; unfold partR; rw [if_pos h]
  cases hk : x.kids with
  | nil => simp [exsOk]
  | cons a r => simp
theorem partR_2 {x : Ex} (h : x.k = 2 ∨ x.k = 3) : exOk x = (decide (1 < x.kids.length) && (x.s == [] && exsOk x.kids)) := by
  rw [exOk_eq]; unfold partR; rw [if_neg (by omega), if_pos h, Bool.and_assoc]
theorem partR_4 {x : Ex} (h : x.k = 4 ∨ x.k = 5 ∨ x.k = 6) : exOk x = (x.kids.length == 1 && (x.s == [] && exsOk x.kids)) := by
  rw [exOk_eq]; unfold partR; rw [if_neg (by omega), if_neg (by omega), if_pos h, Bool.and_assoc]
theorem partR_0 {x : Ex} (h : ¬ x.k = 1) (h2 : ¬ (x.k = 2 ∨ x.k = 3)) (h4 : ¬ (x.k = 4 ∨ x.k = 5 ∨ x.k = 6)) : exOk x = false := by
  rw [exOk_eq]; unfold partR; rw [if_neg h, if_neg h2, if_neg h4]; rfl
/-- an operand -/
def opR (o : Opd) : Bool :=
  if o.k = 1 then (freeB o.n && (o.key == [] && (o.vk == 0 && (o.vn == 0 && o.vs == []))))
  else if o.k = 2 then (freeB o.n && (freeB o.key && (o.vk == 0 && (o.vn == 0 && o.vs == []))))
  else if o.k = 3 then (o.n == [] && (o.key == [] && rightV o.vk o.vn o.vs))
  else false
structure FitO (o : Opd) : Prop where
  n : o.n.length ≤ 140737488355328
  key : o.key.length ≤ 140737488355328
  vs : o.vs.length ≤ 140737488355328
def cdR (c : Cd) : Bool := decide (1 ≤ c.op) && (decide (c.op ≤ 6) && (opR c.l && opR c.r))
structure FitC (c : Cd) : Prop where
  l : FitO c.l
  r : FitO c.r
abbrev zEx : Ex := .mk 0 [] []
noncomputable def ptR (p : Pt) : Bool :=
  freeB p.a && (freeB p.z && (if p.path then (p.lab == [] && (p.name == [] && exRight p.e)) else (freeB p.lab && ((p.name == [] || freeB p.name) && decide (p.e = zEx)))))
structure FitP (p : Pt) : Prop where
  a : p.a.length ≤ 140737488355328
  z : p.z.length ≤ 140737488355328
  lab : p.lab.length ≤ 140737488355328
  name : p.name.length ≤ 140737488355328
  e : FitX p.e
  sz : p.e.size ≤ 1000000
noncomputable def quR (q : Qu) : Bool :=
  (decide (1 ≤ q.p.length) && decide (q.p.length ≤ 4)) && (decide (q.c.length ≤ 6) && ((decide (1 ≤ q.r.length) && decide (q.r.length ≤ 4)) &&
  ((decide (1 ≤ q.range) && decide (q.range ≤ 1048576)) && ((decide (1 ≤ q.slide) && decide (q.slide ≤ 1048576)) &&
  (q.p.all ptR && (q.c.all cdR && q.r.all (fun o => o.k != 3 && opR o)))))))
structure FitQ (q : Qu) : Prop where
  p : q.p.length ≤ 140737488355328
  c : q.c.length ≤ 140737488355328
  r : q.r.length ≤ 140737488355328
  pa : ∀ p ∈ q.p, FitP p
  ca : ∀ c ∈ q.c, FitC c
  ra : ∀ o ∈ q.r, FitO o
end Go.Proofs.YtonchjamoblioaaGreatDoor
namespace Go.Proofs.YtonchjamoblioaaGreatDoor
open Go.Kin
set_option maxRecDepth 100000
set_option maxHeartbeats 0
theorem eqf_ok (l m : List Ex) (hl : l.length ≤ 140737488355328) (ihx : ∀ x ∈ l, ∀ y, FnOK Laid Tryz.prog 37 [exD x, exD y] (bv (decide (x = y)))) : FnOK Laid Tryz.prog 77 [exsD l, exsD m, .fn 37 []] (bv (decide (l = m))) := by
 refine FnOK_of laid_stable Tryz.func77 Tryz.ntmps77 rfl (by as_aux_lemma => kernel_rfl) (Nat.le_of_ble_eq_true rfl) (fun R hR => ?_)
 obtain ⟨_, b, cs, T, C⟩ := R
 obtain rfl : _ = Tryz.prog := hR.p
 refine sreg te_ok ?_
 refine sq ?_
 refine sreg te_ok ?_
 refine Exec.cond_split rfl (fun h0 => ?_) (fun h0 => ?_)
 ·refine sreg te_ok ?_
  refine Exec.rets hR te_ok rfl rfl rfl (LeX.le ?_) (.inr ⟨_, rfl⟩)
  simp only [go_sem]
  have : l ≠ m := fun e => by subst e; simp at h0
  simp [this]
 ·have hlm : l.length = m.length := by simp at h0; omega
  refine sk ?_
  refine sq ?_
  refine sreg te_ok ?_
  refine Exec.block ?_
  apply Exec.loopU [1, 2, 15, 16] (X := Nat) (fun i => [(17, .d (iv i))]) (fun i => []) (fun i => []) (fun i => l.length - i) (fun i => i ≤ l.length ∧ l.take i = m.take i) 0
  case h0 =>
   simp
  case hw =>
   simp only [go_sem]
  case body =>
   rintro i hx ih0
   try simp only at hx
   apply Exec.norm
   ·simp only [go_sem]
    rfl
   refine sreg te_ok ?_
   refine sq ?_
   refine Exec.cond_split rfl (fun h1 => ?_) (fun h1 => ?_)
   ·have hi : i < l.length := by simp at h1; omega
    have ha := kdR_at hi
    have ha2 := kdR_at (show i < m.length by omega)
    have w2 : IntKind.i64.wrap ((i : Int) + 1) = ((i + 1 : Nat) : Int) := by rw [wrap_id (by omega)]; omega
    refine sk ?_
    refine sq ?_
    refine Exec.block ?_
    refine sq ?_
    apply Exec.regionL te_ok
    ·intro o Q hQ
     simp only [go_sem, ha, ha2, w2]
     repeat refine ob2 ?_
     exact hQ
    refine sq ?_
    apply Exec.regionL te_ok
    ·intro o Q hQ
     simp only [go_sem, ha, ha2, w2]
     repeat refine ob2 ?_
     exact hQ
    refine sq ?_
    apply Exec.regionL te_ok
    ·intro o Q hQ
     simp only [go_sem, ha, ha2, w2]
     repeat refine ob2 ?_
     refine kcall hR.inv te_ok rfl rfl rfl rfl rfl rfl (ihx _ (nth_mem hi) _) ?_
     simp only [go_sem, ha, ha2, w2]
     repeat refine ob2 ?_
     exact hQ
    refine Exec.cond_split rfl (fun h2 => ?_) (fun h2 => ?_)
    ·refine sq ?_
     apply Exec.regionL te_ok
     ·intro o Q hQ
      simp only [go_sem, ha, ha2, w2]
      repeat refine ob2 ?_
      exact hQ
     refine Exec.rets hR te_ok rfl rfl rfl (LeX.le ?_) (.inr ⟨_, rfl⟩)
     simp only [go_sem]
     have : l ≠ m := fun e => by subst e; simp at h2
     simp [this]
    ·refine sk ?_
     refine Exec.inBlock ?_
     apply Exec.regionL te_ok
     ·intro o Q hQ
      simp only [go_sem, ha, ha2, w2]
      repeat refine ob2 ?_
      exact hQ
     refine Exec.back (ih0 (i + 1) ?_ ?_) ?_ ?_ ?_ ?_ ?_ ?_ ?_
     ·try simp only
      exact ⟨by omega, (same_step hlm hi hx.2).2 (by simpa using h2)⟩
     ·try simp only
      omega
     ·rfl
     ·rfl
     ·(simp only [go_sem, ha, ha2, w2])
     ·(simp only [go_sem, ha, ha2, w2])
     ·(simp only [go_sem, ha, ha2, w2])
     ·simp only [go_sem, ha, ha2, w2]
     ·rfl
   ·refine Exec.exit rfl ?_
    refine sreg te_ok ?_
    refine Exec.rets hR te_ok rfl rfl rfl (LeX.le ?_) (.inr ⟨_, rfl⟩)
    simp only [go_sem]
    have : l = m := by have := hx.2; simp at h1; rw [List.take_of_length_le (by omega), List.take_of_length_le (by omega)] at this; exact this
    simp [this]
theorem xsame_step (x y : Ex) (hx0 : x.kids.length ≤ 140737488355328) (ihx : ∀ x2 ∈ x.kids, ∀ y, FnOK Laid Tryz.prog 37 [exD x2, exD y] (bv (decide (x2 = y)))) : FnOK Laid Tryz.prog 37 [exD x, exD y] (bv (decide (x = y))) := by
 refine FnOK_of laid_stable Tryz.func37 Tryz.ntmps37 rfl (by as_aux_lemma => kernel_rfl) (Nat.le_of_ble_eq_true rfl) (fun R hR => ?_)
 obtain ⟨_, b, cs, T, C⟩ := R
 obtain rfl : _ = Tryz.prog := hR.p
 have hk := kd_eq x
 have hk2 := kd_eq y
 refine sq ?_
 apply Exec.regionL te_ok
 ·intro o Q hQ
  simp only [go_sem, hk, hk2]
  repeat refine ob2 ?_
  exact hQ
 refine sq ?_
 apply Exec.regionL te_ok
 ·intro o Q hQ
  simp only [go_sem, hk, hk2]
  repeat refine ob2 ?_
  refine kcallG hR.inv te_ok rfl rfl rfl rfl rfl rfl ob1 (fun hq => eqf_ok x.kids y.kids hx0 ihx) ?_
  simp only [go_sem, hk, hk2]
  repeat refine ob2 ?_
  exact hQ
 refine Exec.rets hR te_ok rfl rfl rfl (LeX.le ?_) (.inr ⟨_, rfl⟩)
 simp only [go_sem]
 rw [← ex_eq]
 cases (x.k == y.k) <;> cases (x.s == y.s) <;> simp
theorem xsame_ok (x y : Ex) (hfx : FitX x) : FnOK Laid Tryz.prog 37 [exD x, exD y] (bv (decide (x = y))) := by
 refine Ex.ind (p := fun x => FitX x → ∀ y, FnOK Laid Tryz.prog 37 [exD x, exD y] (bv (decide (x = y)))) (fun x ih h y => xsame_step x y h.k fun x2 h2 => ih x2 h2 (h.y h2)) x hfx y
end Go.Proofs.YtonchjamoblioaaGreatDoor
namespace Go.Proofs.YtonchjamoblioaaGreatDoor
open Go.Kin
set_option maxRecDepth 100000
set_option maxHeartbeats 0
theorem parts_ok (x : Ex) : FnOK Laid Tryz.prog 75 [exD x] (.fn 144 [.ptr (exC x)]) := by
 refine FnOK_of laid_stable Tryz.func75 Tryz.ntmps75 rfl (by as_aux_lemma => kernel_rfl) (Nat.le_of_ble_eq_true rfl) (fun R hR => ?_)
 obtain ⟨_, b, cs, T, C⟩ := R
 obtain rfl : _ = Tryz.prog := hR.p
 have hk := kd_eq x
 refine sq ?_
 apply Exec.regionL te_ok
 ·intro o Q hQ
  simp only [go_sem, hk]
  repeat refine ob2 ?_
  exact hQ
 refine sq ?_
 refine Exec.freezeB 1 rfl rfl rfl ?_
 apply Exec.norm
 ·simp only [go_sem, hk]
  rfl
 apply Exec.regionL te_ok
 ·intro o Q hQ
  simp only [go_sem, hk]
  repeat refine ob2 ?_
  exact hQ
 refine Exec.rets hR te_ok rfl rfl rfl (LeX.le ?_) (.inr ⟨_, rfl⟩)
 simp only [go_sem, hk]
mutual
/-- the count along a walk that asks each part and stops at 24 -/
def wlk : Ex → Nat → Option Nat
 | .mk k s ks, n => if n + 1 ≤ 24 ∧ partR (.mk k s ks) = true then wlks ks (n + 1) else none
def wlks : List Ex → Nat → Option Nat
 | [], n => some n
 | x :: r, n => match wlk x n with
  | some m => wlks r m
  | none => none
end
structure Cl (fz : List (Act × List (Nat × SV))) : Prop where
 m4 : mapF [] [4] (renF ⟨swp 1, swp_swp 1, swp_lent 1⟩ fz) = renF ⟨swp 1, swp_swp 1, swp_lent 1⟩ fz
 m2 : mapF [] [2] fz = fz
 m6 : mapF [] [6] fz = fz
 f2 : ∀ ds, frbF 2 ds fz = fz
 f6 : ∀ ds, frbF 6 ds fz = fz
 le : LeF fz fz
structure ClS (S : List (Nat × SV)) : Prop where
 m4 : mapS [] [4] (renS ⟨swp 1, swp_swp 1, swp_lent 1⟩ S) = renS ⟨swp 1, swp_swp 1, swp_lent 1⟩ S
 m2 : mapS [] [2] S = S
 m6 : mapS [] [6] S = S
 f2 : ∀ ds, frbS 2 ds S = S
 f6 : ∀ ds, frbS 6 ds S = S
 le : LeS S S
theorem Cl.cons {S : List (Nat × SV)} {fz : List (Act × List (Nat × SV))} {a : Act} (h : ClS S) (hf : Cl fz) : Cl ((a, S) :: fz) :=
 ⟨by simp only [renF, mapF, h.m4, hf.m4], by simp only [mapF, h.m2, hf.m2], by simp only [mapF, h.m6, hf.m6], fun ds => by simp only [frbF, h.f2, hf.f2], fun ds => by simp only [frbF, h.f6, hf.f6], ⟨rfl, h.le, hf.le⟩⟩
/-- the boxes of the function that walks, as its iterator sees them -/
abbrev W36 (x : Ex) (n : Nat) : List (Nat × TypeId × List SV) := [(1003, 3, [.d (iv n)]), (1002, 4, [.d (bv false)]), (1001, 30, [.d (iv x.k), .d (sv x.s), .d (kdX x)])]
abbrev So36 (x : Ex) : List (Nat × SV) := [(6, .d (.fn 144 [.ptr (exC x)])), (5, .d (exD x)), (3, .lp 1003 0), (2, .lp 1002 0), (1, .lp 1001 0), (0, .d (exD x))]
attribute [go_sem] W36 So36
end Go.Proofs.YtonchjamoblioaaGreatDoor
namespace Go.Proofs.YtonchjamoblioaaGreatDoor
open Go.Kin
set_option maxRecDepth 100000
set_option maxHeartbeats 0
def idxI {α : Type} (g : α → Bool) : List α → Int
 | [] => -1
 | x :: r => if g x then 0 else if idxI g r < 0 then -1 else idxI g r + 1
theorem all_not {α : Type} (g : α → Bool) (l : List α) : (!l.any fun x => !g x) = l.all g := by
 induction l with
 | nil => rfl
 | cons x r ih => simp only [List.any_cons, List.all_cons, Bool.not_or, Bool.not_not, ih]
abbrev toR (o : Opd) : Bool := o.k != 3 && opR o
theorem g6 (n : Nat) : decide (6 < (n : Int)) = !decide (n ≤ 6) := by rw [Bool.eq_iff_iff]; simp; omega
theorem g4 (n : Nat) : decide (4 < (n : Int)) = !decide (n ≤ 4) := by rw [Bool.eq_iff_iff]; simp; omega
theorem g1 (n : Nat) : decide ((n : Int) < 1) = !decide (1 ≤ n) := by rw [Bool.eq_iff_iff]; simp; omega
theorem j1 (n : Int) : decide (n < 1) = !decide (1 ≤ n) := by rw [Bool.eq_iff_iff]; simp
theorem j2 (n : Int) : decide (1048576 < n) = !decide (n ≤ 1048576) := by rw [Bool.eq_iff_iff]; simp
def quH (q : Qu) : Bool := (decide (1 ≤ q.p.length) && decide (q.p.length ≤ 4)) && (decide (q.c.length ≤ 6) && ((decide (1 ≤ q.r.length) && decide (q.r.length ≤ 4)) &&
 ((decide (1 ≤ q.range) && decide (q.range ≤ 1048576)) && (decide (1 ≤ q.slide) && decide (q.slide ≤ 1048576)))))
end Go.Proofs.YtonchjamoblioaaGreatDoor

namespace Go.Proofs.YtonchjamoblioaaGreatDoor
open Go.Kin
/-! ### how texts are parsed, as functions of rows of tokens -/
structure PS where
 n : Nat
 m : Int
/-- how a rule ends: it goes on from a state, with what it read; or it throws a place -/
inductive PR (α : Type) where
 | ok (s : PS) (x : α)
 | err (a : Int)
abbrev tkC (t : Tk) : List D := [.v (.int .i64 t.k), .v (.string (mkS t.t)), .v (.int .i64 t.a), .v (.int .i64 t.v.k), .v (.int .i64 t.v.n), .v (.string (mkS t.v.s))]
abbrev tksD (l : List Tk) : D := .sl 6 l.length l.length fun i => tkC (nth l i)
abbrev rdC (l : List Tk) (s : PS) : List D := [tksD l, .v (.int .i64 s.n), .v (.int .i64 s.m)]
def outP {α : Type} (wt : Nat) (l : List Tk) (f : α → D) : PR α → Out
 | .ok s x => .ret (rdC l s) (f x)
 | .err a => .pan (.ifc wt (.ag [.v (.int .i64 a)]))
/-- a row of tokens: the last one, and it alone, is the end -/
structure TkOk (l : List Tk) : Prop where
 few : l.length ≤ 100000
 len : l.length ≤ 1099511627776
 on : ∀ i, i < l.length → (nth l i).k ≠ 5 → i + 1 < l.length
 tx : ∀ i, i < l.length → (nth l i).t.length ≤ 140737488355328
 a0 : ∀ i, i < l.length → 0 ≤ (nth l i).a ∧ (nth l i).a ≤ 1099511627776
section
variable (l : List Tk)
def PS.adv (s : PS) : PS := ⟨s.n + 1, s.m⟩
def isP (w : List UInt8) (s : PS) : Bool := ((nth l s.n).k == 1 || (nth l s.n).k == 4) && (nth l s.n).t == w
def isS (w : List UInt8) (s : PS) : PS := if isP l w s = true then s.adv else s
def mustP (w : List UInt8) (s : PS) : PR Unit := if isP l w s = true then .ok s.adv () else .err (nth l s.n).a
def nameB (s : PS) : Bool := (nth l s.n).k == 1 && freeB (nth l s.n).t
def nameP (s : PS) : PR (List UInt8) := if nameB l s = true then .ok s.adv (nth l s.n).t else .err (nth l s.n).a
def limS (b : Bool) (a : Int) (s : PS) : PS := if (b && (decide (s.m < 0) || decide (a < s.m))) = true then ⟨s.n, a⟩ else s
end
theorem isP_k {l : List Tk} {w : List UInt8} {s : PS} (h : isP l w s = true) : (nth l s.n).k ≠ 5 := by
 unfold isP at h; simp at h; omega
theorem nameB_k {l : List Tk} {s : PS} (h : nameB l s = true) : (nth l s.n).k ≠ 5 := by
 unfold nameB at h; simp at h; omega
theorem outP_err {α : Type} {wt : Nat} {l : List Tk} {f : α → D} {r : PR α} {a : Int} (h : r = .err a) : outP wt l f r = .pan (.ifc wt (.ag [.v (.int .i64 a)])) := by rw [h]; rfl
theorem outP_ok {α : Type} {wt : Nat} {l : List Tk} {f : α → D} {r : PR α} {s : PS} {x : α} (h : r = .ok s x) : outP wt l f r = .ret (rdC l s) (f x) := by rw [h]; rfl
theorem fAs {I : World → Prop} {P : Program} {f : FuncId} {T : TypeId} {cs : List D} {args : List SV} {out out' : Out} (h : FnM I P f T cs args out) (e : out = out') : FnM I P f T cs args out' := e ▸ h
/-- a rule's contract, where it goes on -/
theorem fOk {I : World → Prop} {P : Program} {f : FuncId} {T : TypeId} {cs : List D} {args : List SV} {α : Type} {wt : Nat} {l : List Tk} {g : α → D} {r : PR α} (h : FnM I P f T cs args (outP wt l g r)) {s : PS} {x : α} (e : r = .ok s x) : FnM I P f T cs args (.ret (rdC l s) (g x)) := fAs h (outP_ok e)
theorem fEr {I : World → Prop} {P : Program} {f : FuncId} {T : TypeId} {cs : List D} {args : List SV} {α : Type} {wt : Nat} {l : List Tk} {g : α → D} {r : PR α} (h : FnM I P f T cs args (outP wt l g r)) {a : Int} (e : r = .err a) : FnM I P f T cs args (.pan (.ifc wt (.ag [.v (.int .i64 a)]))) := fAs h (outP_err e)
/-- where a rule goes on, it has gone on -/
def AdvP {α : Type} (l : List Tk) (s : PS) (r : PR α) : Prop := ∀ s1 x, r = .ok s1 x → s.n < s1.n ∧ s1.n < l.length
theorem must_adv {l : List Tk} (hk : TkOk l) {w : List UInt8} {s : PS} (hn : s.n < l.length) : AdvP l s (mustP l w s) := by
 intro s1 x h
 unfold mustP at h
 split at h
 ·rename_i hp; cases h; exact ⟨by simp [PS.adv], hk.on _ hn (isP_k hp)⟩
 ·cases h
theorem name_adv {l : List Tk} (hk : TkOk l) {s : PS} (hn : s.n < l.length) : AdvP l s (nameP l s) := by
 intro s1 x h
 unfold nameP at h
 split at h
 ·rename_i hp; cases h; exact ⟨by simp [PS.adv], hk.on _ hn (nameB_k hp)⟩
 ·cases h
theorem is_adv {l : List Tk} (hk : TkOk l) {w : List UInt8} {s : PS} (hn : s.n < l.length) (h : isP l w s = true) : s.n + 1 < l.length := hk.on _ hn (isP_k h)
/-! ### the rules -/
def PR.bind {α β : Type} (r : PR α) (f : PS → α → PR β) : PR β := match r with
 | .ok s x => f s x
 | .err a => .err a
section
variable (l : List Tk)
/-- the signs behind a name or brackets -/
def signP : Nat → PS → Ex → PR Ex
 | 0, s, x => .ok s x
 | f + 1, s, x =>
  if isP l [42] s = true then signP f s.adv (.mk 4 [] [x])
  else if isP l [43] s = true then signP f s.adv (.mk 5 [] [x])
  else if isP l [63] s = true then signP f s.adv (.mk 6 [] [x])
  else .ok s x
/-- what stands between separators -/
def sepP {α : Type} (rd : PS → PR α) (w : List UInt8) : Nat → PS → List α → PR (List α)
 | 0, _, _ => .err 0
 | f + 1, s, acc => (rd s).bind fun s1 x => if isP l w s1 = true then sepP rd w f s1.adv (acc ++ [x]) else .ok s1 (acc ++ [x])
def oneEx (k : Int) (xs : List Ex) : Ex := if xs.length = 1 then nth xs 0 else .mk k [] xs
def joinP (rd : PS → PR Ex) (w : List UInt8) (k : Int) (s : PS) : PR Ex := (sepP l rd w (l.length + 1) s []).bind fun s1 xs => .ok s1 (oneEx k xs)
def rowP (it : PS → PR Ex) : PS → PR Ex := joinP l it [46] 2
def exprP (it : PS → PR Ex) : PS → PR Ex := joinP l (rowP l it) [124] 3
def itemP : Nat → PS → PR Ex
 | 0, _ => .err 0
 | f + 1, s =>
  if isP l [40] s = true then (exprP l (itemP f) s.adv).bind fun s1 x => (mustP l [41] s1).bind fun s2 _ => signP l (l.length + 1) s2 x
  else (nameP l s).bind fun s1 w => signP l (l.length + 1) s1 (.mk 1 w [])
def exP (s : PS) : PR Ex := exprP l (itemP l (l.length + 1)) s
def wholeP (s : PS) : PR Ex := (exP l s).bind fun s1 x => .ok (limS (decide (24 < x.size)) (nth l s.n).a s1) x
def vertexP (s : PS) : PR (List UInt8) := (mustP l [40] s).bind fun s1 _ => (nameP l s1).bind fun s2 w => (mustP l [41] s2).bind fun s3 _ => .ok s3 w
def patP (s : PS) : PR Pt := (vertexP l s).bind fun s1 a =>
 if isP l [61, 91] s1 = true then (wholeP l s1.adv).bind fun s2 x => (mustP l [93, 61, 62] s2).bind fun s3 _ => (vertexP l s3).bind fun s4 z => .ok s4 ⟨a, z, true, [], [], x⟩
 else (mustP l [45, 91] s1).bind fun s2 _ => (nameP l s2).bind fun s3 lb =>
  if isP l [97, 115] s3 = true then (nameP l s3.adv).bind fun s4 nm => (mustP l [93, 45, 62] s4).bind fun s5 _ => (vertexP l s5).bind fun s6 z => .ok s6 ⟨a, z, false, lb, nm, Ex.mk 0 [] []⟩
  else (mustP l [93, 45, 62] s3).bind fun s5 _ => (vertexP l s5).bind fun s6 z => .ok s6 ⟨a, z, false, lb, [], Ex.mk 0 [] []⟩
def toldP (s : PS) : PR Opd := (nameP l s).bind fun s1 n =>
 if isP l [46] s1 = true then (nameP l s1.adv).bind fun s2 key => .ok s2 ⟨2, n, key, 0, 0, []⟩
 else .ok s1 ⟨1, n, [], 0, 0, []⟩
def opdB (s : PS) : Bool := (nth l s.n).k == 2 || (nth l s.n).k == 3
def opdP (s : PS) : PR Opd := if opdB l s = true then .ok s.adv ⟨3, [], [], (nth l s.n).v.k, (nth l s.n).v.n, (nth l s.n).v.s⟩ else toldP l s
def cmpsW : List (List UInt8) := [[61], [33, 61], [60], [60, 61], [62], [62, 61]]
def cmpP (a : Opd) (s : PS) : Nat → List (List UInt8) → PR Cd
 | _, [] => .err (nth l s.n).a
 | i, w :: r => if isP l w s = true then (opdP l s.adv).bind fun s1 b => .ok s1 ⟨1 + i, a, b⟩ else cmpP a s (i + 1) r
def cdP (s : PS) : PR Cd := (opdP l s).bind fun s1 a => cmpP l a s1 0 cmpsW
def numB (v : Int) : Bool := decide (v < 1) || decide (1048576 < v)
def numP (s : PS) : PR Int := if (nth l s.n).k = 2 then .ok (limS (numB (nth l s.n).v.n) (nth l s.n).a s).adv (nth l s.n).v.n else .err (nth l s.n).a
/-- the same, where more than so many are too many -/
def manyP {α : Type} (rd : PS → PR α) (w : List UInt8) (mx : Nat) : Nat → PS → List α → PR (List α)
 | 0, _, _ => .err 0
 | f + 1, s, acc => (rd (limS (decide (acc.length = mx)) (nth l s.n).a s)).bind fun s1 x => if isP l w s1 = true then manyP rd w mx f s1.adv (acc ++ [x]) else .ok s1 (acc ++ [x])
def queryP (s : PS) : PR Qu := (mustP l [109, 97, 116, 99, 104] s).bind fun s1 _ => (manyP l (patP l) [44] 4 (l.length + 1) s1 []).bind fun s2 ps =>
 (if isP l [119, 104, 101, 114, 101] s2 = true then manyP l (cdP l) [97, 110, 100] 6 (l.length + 1) s2.adv [] else .ok s2 []).bind fun s3 cs =>
 (mustP l [114, 101, 116, 117, 114, 110] s3).bind fun s4 _ => (manyP l (toldP l) [44] 4 (l.length + 1) s4 []).bind fun s5 rs =>
 (mustP l [114, 97, 110, 103, 101] s5).bind fun s6 _ => (numP l s6).bind fun s7 rg => (mustP l [115, 108, 105, 100, 101] s7).bind fun s8 _ => (numP l s8).bind fun s9 sl => .ok s9 ⟨ps, cs, rs, rg, sl⟩
end
end Go.Proofs.YtonchjamoblioaaGreatDoor
namespace Go.Proofs.YtonchjamoblioaaGreatDoor
open Go.Kin
set_option maxRecDepth 100000
set_option maxHeartbeats 0
attribute [go_sem] te_2 te_3 te_4 te_5 te_9 te_15 te_20 te_62 te_67 te_69 te_99 te_104 te_152 te_155 te_157 te_172 te_173 te_174
attribute [go_sem] tkC tksD rdC PS.n PS.m PS.adv
theorem keq (a b : Int) : (a == b) = decide (a = b) := by rw [Bool.eq_iff_iff]; simp
theorem token_ok (l : List Tk) (n : Nat) (m : Int) (hn : n < l.length) : FnM Laid Tryz.prog 123 157 [tksD l, iv n, iv m] [.lp 900 0] (.ret [tksD l, iv n, iv m] (.ag (tkC (nth l n)))) := by
 refine FnM_of Tryz.func123 Tryz.ntmps123 rfl (by as_aux_lemma => kernel_rfl) (Nat.le_of_ble_eq_true rfl) (fun R b0 hR => ?_)
 obtain ⟨_, b, cs, T, C⟩ := R
 obtain rfl : _ = Tryz.prog := hR.p
 refine sreg te_ok ?_
 refine sq ?_
 apply Exec.draw (st := _) 12 10 [] [] te_ok (by as_aux_lemma => kernel_rfl) (by as_aux_lemma => kernel_rfl) (by as_aux_lemma => kernel_rfl)
 ·intro o Q hQ
  simp only [go_sem]
  repeat refine ob2 ?_
  exact hQ
 refine Exec.retsMu hR te_ok rfl .nil rfl rfl rfl ?_ (.inr ⟨_, rfl⟩)
 refine ⟨_, _, rfl, ?_⟩
 simp only [go_sem]
theorem is_ok (l : List Tk) (n : Nat) (m : Int) (w : List UInt8) (hn : n < l.length) (hl : l.length ≤ 1099511627776) : FnM Laid Tryz.prog 129 157 [tksD l, iv n, iv m] [.lp 900 0, .d (sv w)] (.ret (rdC l (isS l w ⟨n, m⟩)) (bv (isP l w ⟨n, m⟩))) := by
 refine FnM_of Tryz.func129 Tryz.ntmps129 rfl (by as_aux_lemma => kernel_rfl) (Nat.le_of_ble_eq_true rfl) (fun R b0 hR => ?_)
 obtain ⟨_, b, cs, T, C⟩ := R
 obtain rfl : _ = Tryz.prog := hR.p
 have hw : IntKind.i64.wrap ((n : Int) + 1) = ((n + 1 : Nat) : Int) := by rw [wrap_id (by constructor <;> omega)]; simp
 refine sq ?_
 apply Exec.regionL te_ok
 ·intro o Q hQ
  simp only [go_sem, hw]
  repeat refine ob2 ?_
  exact hQ
 refine sq ?_
 apply Exec.regionL te_ok
 ·intro o Q hQ
  simp only [go_sem, hw]
  repeat refine ob2 ?_
  refine kcallM 900 hR.inv te_ok rfl rfl rfl rfl rfl rfl rfl rfl rfl (token_ok _ _ _ (by assumption)) ?_
  simp only [go_sem, hw]
  repeat refine ob2 ?_
  exact hQ
 refine sq ?_
 refine sq ?_
 apply Exec.regionL te_ok
 ·intro o Q hQ
  simp only [go_sem, hw]
  repeat refine ob2 ?_
  exact hQ
 refine Exec.cond_split rfl (fun h0 => ?_) (fun h0 => ?_)
 ·refine sq ?_
  apply Exec.regionL te_ok
  ·intro o Q hQ
   simp only [go_sem, hw]
   repeat refine ob2 ?_
   exact hQ
  refine Exec.retsMu hR te_ok rfl .nil rfl rfl rfl ?_ (.inr ⟨_, rfl⟩)
  have hp : isP l w ⟨n, m⟩ = false := by simp [isP] at h0 ⊢; intro h1; rcases h0 with h0 | h0; exact absurd h1 (by omega); exact h0
  refine ⟨_, _, by rw [isS, if_neg (by rw [hp]; decide), hp], ?_⟩
  simp only [go_sem]
 ·refine sk ?_
  refine sq ?_
  apply Exec.regionL te_ok
  ·intro o Q hQ
   simp only [go_sem, hw]
   repeat refine ob2 ?_
   exact hQ
  refine sq ?_
  apply Exec.regionL te_ok
  ·intro o Q hQ
   simp only [go_sem, hw]
   repeat refine ob2 ?_
   exact hQ
  refine Exec.retsMu hR te_ok rfl .nil rfl rfl rfl ?_ (.inr ⟨_, rfl⟩)
  have hp : isP l w ⟨n, m⟩ = true := by simp [isP] at h0 ⊢; exact ⟨by omega, h0.2⟩
  refine ⟨_, _, by rw [isS, if_pos hp, hp], ?_⟩
  simp only [go_sem]
theorem fail_ok (l : List Tk) (n : Nat) (m : Int) (hn : n < l.length) : FnM Laid Tryz.prog 124 157 [tksD l, iv n, iv m] [.lp 900 0] (.pan (.ifc 152 (.ag [iv (nth l n).a]))) := by
 refine FnM_of Tryz.func124 Tryz.ntmps124 rfl (by as_aux_lemma => kernel_rfl) (Nat.le_of_ble_eq_true rfl) (fun R b0 hR => ?_)
 obtain ⟨_, b, cs, T, C⟩ := R
 obtain rfl : _ = Tryz.prog := hR.p
 refine Exec.regStart 8 rfl ?_
 apply Exec.regPart 0 7 1 te_ok rfl
 ·intro o Q hQ
  simp only [go_sem]
  repeat refine ob2 ?_
  refine kcallM 900 hR.inv te_ok rfl rfl rfl rfl rfl rfl rfl rfl rfl (token_ok _ _ _ (by assumption)) ?_
  simp only [go_sem]
  repeat refine ob2 ?_
  exact hQ
 refine Exec.panicOp rfl rfl rfl rfl ?_
 refine ExecP.endM hR .nil ?_
 exact ⟨_, rfl, by simp only [go_sem]⟩
theorem must_ok (l : List Tk) (n : Nat) (m : Int) (w : List UInt8) (hn : n < l.length) (hl : l.length ≤ 1099511627776) : FnM Laid Tryz.prog 125 157 [tksD l, iv n, iv m] [.lp 900 0, .d (sv w)] (outP 152 l (fun _ => .tup []) (mustP l w ⟨n, m⟩)) := by
 refine FnM_of Tryz.func125 Tryz.ntmps125 rfl (by as_aux_lemma => kernel_rfl) (Nat.le_of_ble_eq_true rfl) (fun R b0 hR => ?_)
 obtain ⟨_, b, cs, T, C⟩ := R
 obtain rfl : _ = Tryz.prog := hR.p
 refine sq ?_
 apply Exec.regionL te_ok
 ·intro o Q hQ
  simp only [go_sem]
  repeat refine ob2 ?_
  refine kcallM 900 hR.inv te_ok rfl rfl rfl rfl rfl rfl rfl rfl rfl (is_ok _ _ _ _ (by assumption) (by assumption)) ?_
  simp only [go_sem]
  repeat refine ob2 ?_
  exact hQ
 refine Exec.cond_split rfl (fun h0 => ?_) (fun h0 => ?_)
 ·have hs : isS l w ⟨n, m⟩ = ⟨n, m⟩ := by rw [isS, if_neg (by simp at h0; rw [h0]; decide)]
  refine Exec.regStart 2 rfl ?_
  apply Exec.regPart 0 1 1 te_ok rfl
  ·intro o Q hQ
   simp only [go_sem, hs]
   repeat refine ob2 ?_
   exact hQ
  refine Exec.callP 900 hR.inv rfl rfl rfl rfl rfl rfl rfl rfl rfl (fail_ok _ _ _ (by assumption)) ?_
  refine ExecP.endM hR .nil ?_
  refine ⟨_, by rw [mustP, if_neg (by simp at h0; rw [h0]; decide)]; rfl, ?_⟩
  simp only [go_sem]
 ·have hs : isS l w ⟨n, m⟩ = ⟨n + 1, m⟩ := by rw [isS, if_pos (by simpa using h0)]; rfl
  refine sk ?_
  refine Exec.retsMu hR te_ok rfl .nil rfl rfl rfl ?_ (.inl rfl)
  refine ⟨_, _, by rw [mustP, if_pos (by simpa using h0)]; rfl, ?_⟩
  simp only [go_sem, hs]
theorem name_ok (l : List Tk) (n : Nat) (m : Int) (hn : n < l.length) (hl : l.length ≤ 1099511627776) (ht : (nth l n).t.length ≤ 140737488355328) : FnM Laid Tryz.prog 168 157 [tksD l, iv n, iv m] [.lp 900 0] (outP 152 l sv (nameP l ⟨n, m⟩)) := by
 refine FnM_of Tryz.func168 Tryz.ntmps168 rfl (by as_aux_lemma => kernel_rfl) (Nat.le_of_ble_eq_true rfl) (fun R b0 hR => ?_)
 obtain ⟨_, b, cs, T, C⟩ := R
 obtain rfl : _ = Tryz.prog := hR.p
 have hw : IntKind.i64.wrap ((n : Int) + 1) = ((n + 1 : Nat) : Int) := by rw [wrap_id (by constructor <;> omega)]; simp
 refine sq ?_
 apply Exec.regionL te_ok
 ·intro o Q hQ
  simp only [go_sem, hw]
  repeat refine ob2 ?_
  exact hQ
 refine sq ?_
 apply Exec.regionL te_ok
 ·intro o Q hQ
  simp only [go_sem, hw]
  repeat refine ob2 ?_
  refine kcallM 900 hR.inv te_ok rfl rfl rfl rfl rfl rfl rfl rfl rfl (token_ok _ _ _ (by assumption)) ?_
  simp only [go_sem, hw]
  repeat refine ob2 ?_
  exact hQ
 refine sq ?_
 refine sq ?_
 apply Exec.regionL te_ok
 ·intro o Q hQ
  simp only [go_sem, hw]
  repeat refine ob2 ?_
  refine kcallG hR.inv te_ok rfl rfl rfl rfl rfl rfl ob1 (fun hq => free_ok _ (by assumption)) ?_
  simp only [go_sem, hw]
  repeat refine ob2 ?_
  exact hQ
 refine Exec.cond_split rfl (fun h0 => ?_) (fun h0 => ?_)
 ·have hb : nameB l ⟨n, m⟩ = false := by simp [nameB] at h0 ⊢; intro h1; simp_all
  refine Exec.regStart 2 rfl ?_
  apply Exec.regPart 0 1 1 te_ok rfl
  ·intro o Q hQ
   simp only [go_sem, hw]
   repeat refine ob2 ?_
   exact hQ
  refine Exec.callP 900 hR.inv rfl rfl rfl rfl rfl rfl rfl rfl rfl (fail_ok _ _ _ (by assumption)) ?_
  refine ExecP.endM hR .nil ?_
  refine ⟨_, by rw [nameP, if_neg (by rw [hb]; decide)]; rfl, ?_⟩
  simp only [go_sem]
 ·have hb : nameB l ⟨n, m⟩ = true := by simp [nameB] at h0 ⊢; simp_all
  refine sk ?_
  refine sq ?_
  apply Exec.regionL te_ok
  ·intro o Q hQ
   simp only [go_sem, hw]
   repeat refine ob2 ?_
   exact hQ
  refine sq ?_
  apply Exec.regionL te_ok
  ·intro o Q hQ
   simp only [go_sem, hw]
   repeat refine ob2 ?_
   exact hQ
  refine Exec.retsMu hR te_ok rfl .nil rfl rfl rfl ?_ (.inr ⟨_, rfl⟩)
  refine ⟨_, _, by rw [nameP, if_pos hb]; rfl, ?_⟩
  simp only [go_sem]
theorem limit_ok (l : List Tk) (n : Nat) (m : Int) (c : Bool) (a : Int) : FnM Laid Tryz.prog 127 157 [tksD l, iv n, iv m] [.lp 900 0, .d (bv c), .d (iv a)] (.ret (rdC l (limS c a ⟨n, m⟩)) (.tup [])) := by
 refine FnM_of Tryz.func127 Tryz.ntmps127 rfl (by as_aux_lemma => kernel_rfl) (Nat.le_of_ble_eq_true rfl) (fun R b0 hR => ?_)
 obtain ⟨_, b, cs, T, C⟩ := R
 obtain rfl : _ = Tryz.prog := hR.p
 refine sreg te_ok ?_
 apply Exec.join [] rfl
 case hx =>
  intro h0 hK
  refine Exec.reg te_ok ?_
  exact hK
 case hy =>
  intro h0 hK
  refine sk ?_
  exact hK
 case hN => rfl
 case hdf => rfl
 case hF => simp only [go_sem]
 case hP => rfl
 apply Exec.norm
 ·simp only [go_sem]
  rfl
 refine Exec.retsMu hR te_ok rfl .nil rfl rfl rfl ?_ (.inl rfl)
 refine ⟨_, _, rfl, ?_⟩
 simp only [go_sem, limS]
 cases c <;> by_cases g1 : m < 0 <;> by_cases g2 : a < m <;> simp [g1, g2]
end Go.Proofs.YtonchjamoblioaaGreatDoor
