/- Steps of a function body on data, and contracts of the functions of the seat, walked. -/
import Derived.Test.YtonchjamoblioaaGreatDoorKRow2
import Derived.Test.YtonchjamoblioaaGreatDoorKMut
set_option linter.unusedSimpArgs false
set_option linter.unusedVariables false
set_option linter.unusedSectionVars false
namespace Go.Kin
/-! ### expressions that are lent: behind each list of kids lie marks -/
def mkI (a i : Int) : Int := 1000003 * (a + 7) + i
mutual
def kdL : Ex → D
  | .mk _ _ ks => .sl 3 ks.length (ks.length + 12) (lenR ks)
def lenR : List Ex → Nat → List D
  | [], i => [.v (.int .i64 (mkI 1 i)), .v (.string (mkS [])), .v (.slice none 0 0)]
  | .mk k s ks :: _, 0 => [.v (.int .i64 k), .v (.string (mkS s)), .sl 3 ks.length (ks.length + 12) (lenR ks)]
  | _ :: r, i + 1 => lenR r i
end
abbrev exLC (x : Ex) : List D := [.v (.int .i64 x.k), .v (.string (mkS x.s)), kdL x]
abbrev exLD (x : Ex) : D := .ag [.v (.int .i64 x.k), .v (.string (mkS x.s)), kdL x]
abbrev exsLD (l : List Ex) : D := .sl 3 l.length (l.length + 12) (lenR l)
abbrev mkC (a i : Int) : List D := [.v (.int .i64 (mkI a i)), .v (.string (mkS [])), .v (.slice none 0 0)]
abbrev mkEx (a i : Int) : Ex := .mk (mkI a i) [] []
/-- one row, wherever -/
def lenI (l : List Ex) (i : Nat) : Int := if i < l.length then (nth l i).k else mkI 1 ((i - l.length : Nat) : Int)
def lenS (l : List Ex) (i : Nat) : List UInt8 := if i < l.length then (nth l i).s else []
def lenD (l : List Ex) (i : Nat) : D := if i < l.length then kdL (nth l i) else .v (.slice none 0 0)
end Go.Kin
namespace Go.Proofs.YtonchjamoblioaaGreatDoor
open Go.Kin
set_option maxRecDepth 100000
set_option maxHeartbeats 0
attribute [go_sem] exLC exLD exsLD mkC mkEx
theorem leaf_kd (x : Ex) : leafSV (.d (kdX x)) = true := by rw [kd_eq]; rfl
attribute [go_sem ↓] leaf_kd
end Go.Proofs.YtonchjamoblioaaGreatDoor
namespace Go.Kin
/-! ### queries -/
structure Opd where
 k : Int
 n : List UInt8
 key : List UInt8
 vk : Int
 vn : Int
 vs : List UInt8
 deriving Inhabited, DecidableEq
structure Cd where
 op : Int
 l : Opd
 r : Opd
 deriving Inhabited, DecidableEq
structure Pt where
 a : List UInt8
 z : List UInt8
 path : Bool
 lab : List UInt8
 name : List UInt8
 e : Ex
 deriving Inhabited
noncomputable instance : DecidableEq Pt := fun _ _ => Classical.propDecidable _
structure Qu where
 p : List Pt
 c : List Cd
 r : List Opd
 range : Int
 slide : Int
 deriving Inhabited
noncomputable instance : DecidableEq Qu := fun _ _ => Classical.propDecidable _
abbrev opC (o : Opd) : List D := [.v (.int .i64 o.k), .v (.string (mkS o.n)), .v (.string (mkS o.key)), .v (.int .i64 o.vk), .v (.int .i64 o.vn), .v (.string (mkS o.vs))]
abbrev cdC (c : Cd) : List D := [.v (.int .i64 c.op), .v (.int .i64 c.l.k), .v (.string (mkS c.l.n)), .v (.string (mkS c.l.key)), .v (.int .i64 c.l.vk), .v (.int .i64 c.l.vn), .v (.string (mkS c.l.vs)),
 .v (.int .i64 c.r.k), .v (.string (mkS c.r.n)), .v (.string (mkS c.r.key)), .v (.int .i64 c.r.vk), .v (.int .i64 c.r.vn), .v (.string (mkS c.r.vs))]
abbrev ptC (p : Pt) : List D := [.v (.string (mkS p.a)), .v (.string (mkS p.z)), .v (.bool p.path), .v (.string (mkS p.lab)), .v (.string (mkS p.name)), .v (.int .i64 p.e.k), .v (.string (mkS p.e.s)), kdX p.e]
abbrev ptLC (p : Pt) : List D := [.v (.string (mkS p.a)), .v (.string (mkS p.z)), .v (.bool p.path), .v (.string (mkS p.lab)), .v (.string (mkS p.name)), .v (.int .i64 p.e.k), .v (.string (mkS p.e.s)), kdL p.e]
abbrev ptsD (l : List Pt) : D := .sl 8 l.length l.length fun i => ptC (nth l i)
abbrev cdsD (l : List Cd) : D := .sl 13 l.length l.length fun i => cdC (nth l i)
abbrev opsD (l : List Opd) : D := .sl 6 l.length l.length fun i => opC (nth l i)
abbrev quD (q : Qu) : D := .ag [ptsD q.p, cdsD q.c, opsD q.r, .v (.int .i64 q.range), .v (.int .i64 q.slide)]
/-! #### lent -/
def lentR {α : Type} [Inhabited α] (f : α → List D) (m : Nat → List D) (l : List α) (i : Nat) : List D := if i < l.length then f (nth l i) else m (i - l.length)
abbrev opMk (i : Nat) : List D := [.v (.int .i64 0), .v (.string (mkS [])), .v (.string (mkS [])), .v (.int .i64 0), .v (.int .i64 (mkI 1 i)), .v (.string (mkS []))]
abbrev cdMk (i : Nat) : List D := [.v (.int .i64 (mkI 1 i)), .v (.int .i64 0), .v (.string (mkS [])), .v (.string (mkS [])), .v (.int .i64 0), .v (.int .i64 0), .v (.string (mkS [])),
 .v (.int .i64 0), .v (.string (mkS [])), .v (.string (mkS [])), .v (.int .i64 0), .v (.int .i64 0), .v (.string (mkS []))]
abbrev ptMk (i : Nat) : List D := [.v (.string (mkS [])), .v (.string (mkS [])), .v (.bool false), .v (.string (mkS [109])), .v (.string (mkS [])), .v (.int .i64 (mkI 1 i)), .v (.string (mkS [])), .v (.slice none 0 0)]
abbrev ptsLD (l : List Pt) : D := .sl 8 l.length (l.length + 12) (lentR ptLC ptMk l)
abbrev cdsLD (l : List Cd) : D := .sl 13 l.length (l.length + 12) (lentR cdC cdMk l)
abbrev opsLD (l : List Opd) : D := .sl 6 l.length (l.length + 12) (lentR opC opMk l)
abbrev quLD (q : Qu) : D := .ag [ptsLD q.p, cdsLD q.c, opsLD q.r, .v (.int .i64 q.range), .v (.int .i64 q.slide)]
abbrev mkPt (i : Nat) : Pt := ⟨[], [], false, [109], [], mkEx 1 i⟩
theorem op_eq (x y : Opd) : (x.k == y.k && (x.n == y.n && (x.key == y.key && (x.vk == y.vk && (x.vn == y.vn && x.vs == y.vs))))) = decide (x = y) := by
 cases x; cases y; rw [Bool.eq_iff_iff]; simp
end Go.Kin
namespace Go.Proofs.YtonchjamoblioaaGreatDoor
open Go.Kin
set_option maxRecDepth 100000
set_option maxHeartbeats 0
attribute [go_sem] opC cdC ptC ptLC ptsD cdsD opsD quD opMk cdMk ptMk ptsLD cdsLD opsLD quLD mkPt
abbrev opD (o : Opd) : D := .ag (opC o)
abbrev cdD (c : Cd) : D := .ag (cdC c)
abbrev ptD (p : Pt) : D := .ag (ptC p)
abbrev ptLD (p : Pt) : D := .ag (ptLC p)
attribute [go_sem] opD cdD ptD ptLD
theorem leX_kd (x : Ex) : LeX (kdX x) (kdX x) = True := by rw [kd_eq]; simp [LeX]
attribute [go_sem ↓] leX_kd
theorem pt_eq (x y : Pt) : (x.a == y.a && (x.z == y.z && (x.path == y.path && (x.lab == y.lab && (x.name == y.name && decide (x.e = y.e)))))) = decide (x = y) := by
 cases x; cases y; rw [Bool.eq_iff_iff]; simp
theorem cdx (x y : Cd) : x = y ↔ (x.op = y.op ∧ x.l.k = y.l.k ∧ x.l.n = y.l.n ∧ x.l.key = y.l.key ∧ x.l.vk = y.l.vk ∧ x.l.vn = y.l.vn ∧ x.l.vs = y.l.vs ∧ x.r.k = y.r.k ∧ x.r.n = y.r.n ∧ x.r.key = y.r.key ∧ x.r.vk = y.r.vk ∧ x.r.vn = y.r.vn ∧ x.r.vs = y.r.vs) := by
 obtain ⟨o, ⟨_, _, _, _, _, _⟩, ⟨_, _, _, _, _, _⟩⟩ := x; obtain ⟨o2, ⟨_, _, _, _, _, _⟩, ⟨_, _, _, _, _, _⟩⟩ := y; simp [and_assoc]
theorem qu_eq (x y : Qu) : (decide (x.p = y.p) && (decide (x.c = y.c) && (decide (x.r = y.r) && (x.range == y.range && x.slide == y.slide)))) = decide (x = y) := by
 cases x; cases y; rw [Bool.eq_iff_iff]; simp
def ptLim : List Pt → Nat → Nat
 | [], n => n
 | p :: r, n => if n ≤ 400 then ptLim r (n + p.e.lim 0) else n
def _root_.Go.Kin.Qu.lim (q : Qu) : Nat := ptLim q.p (q.p.length + q.c.length + q.r.length)
theorem ptLim_step {l : List Pt} {i n : Nat} (h : i < l.length) (hn : n ≤ 400) : ptLim (l.drop i) n = ptLim (l.drop (i + 1)) (n + (nth l i).e.lim 0) := by
 rw [drop_nth h]; simp only [ptLim, if_pos hn]
theorem ptLim_stop {l : List Pt} {i n : Nat} (h : l.length ≤ i ∨ 400 < n) : ptLim (l.drop i) n = n := by
 rcases h with h | h
 ·rw [List.drop_eq_nil_of_le h]; rfl
 ·cases l.drop i with
  | nil => rfl
  | cons x r => simp only [ptLim]; rw [if_neg (by omega)]
theorem size_ok (B : Ex → Prop) (hB : ∀ x, B x → x.kids.length ≤ 140737488355328 ∧ ∀ y ∈ x.kids, B y) (q : Qu) (h1 : q.p.length ≤ 140737488355328) (h2 : q.c.length ≤ 140737488355328) (h3 : q.r.length ≤ 140737488355328) (hb : ∀ p ∈ q.p, B p.e) : FnOK Laid Tryz.prog 11 [quD q] (iv q.lim) := by
 refine FnOK_of laid_stable Tryz.func11 Tryz.ntmps11 rfl (by as_aux_lemma => kernel_rfl) (Nat.le_of_ble_eq_true rfl) (fun R hR => ?_)
 obtain ⟨_, b, cs, T, C⟩ := R
 obtain rfl : _ = Tryz.prog := hR.p
 have w5 : IntKind.i64.wrap ((q.p.length : Int) + (q.c.length : Int)) = ((q.p.length + q.c.length : Nat) : Int) := by rw [wrap_id (by omega)]; omega
 have w6 : IntKind.i64.wrap (((q.p.length + q.c.length : Nat) : Int) + (q.r.length : Int)) = ((q.p.length + q.c.length + q.r.length : Nat) : Int) := by rw [wrap_id (by omega)]; omega
 refine sq ?_
 apply Exec.regionL te_ok
 ·intro u' Q hQ
  simp only [go_sem, w5, w6]
  repeat refine ob2 ?_
  exact hQ
 refine sq ?_
 apply Exec.regionL te_ok
 ·intro u' Q hQ
  simp only [go_sem, w5, w6]
  repeat refine ob2 ?_
  exact hQ
 refine sq ?_
 refine sq ?_
 apply Exec.regionL te_ok
 ·intro u' Q hQ
  simp only [go_sem, w5, w6]
  repeat refine ob2 ?_
  exact hQ
 refine Exec.block ?_
 apply Exec.loopU [1] (X := Nat × Nat) (fun ⟨i, n⟩ => [(4, .d (iv i)), (3, .d (iv n))]) (fun ⟨i, n⟩ => []) (fun ⟨i, n⟩ => []) (fun ⟨i, n⟩ => q.p.length - i) (fun ⟨i, n⟩ => i ≤ q.p.length ∧ q.lim = ptLim (q.p.drop i) n ∧ n ≤ 422212465065984 + 100000 * i) (0, q.p.length + q.c.length + q.r.length)
 case h0 =>
  exact ⟨Nat.zero_le _, rfl, by omega⟩
 case hw =>
  simp only [go_sem]
 case body =>
  rintro ⟨i, n⟩ hx ih0
  try simp only at hx
  apply Exec.norm
  ·simp only [go_sem, w5, w6]
   rfl
  refine sq ?_
  refine sq ?_
  apply Exec.regionL te_ok
  ·intro u' Q hQ
   simp only [go_sem, w5, w6]
   repeat refine ob2 ?_
   exact hQ
  refine Exec.cond_split rfl (fun h0 => ?_) (fun h0 => ?_)
  ·have hit : i < q.p.length ∧ n ≤ 400 := by simp at h0; omega
   obtain ⟨hi, hn⟩ := hit
   have hlb := Ex.lim_le (nth q.p i).e (d := 0) (by omega)
   have w2 : IntKind.i64.wrap ((i : Int) + 1) = ((i + 1 : Nat) : Int) := by rw [wrap_id (by omega)]; omega
   have w3 : IntKind.i64.wrap ((n : Int) + (((nth q.p i).e.lim 0 : Nat) : Int)) = ((n + (nth q.p i).e.lim 0 : Nat) : Int) := by rw [wrap_id (by omega)]; omega
   refine sk ?_
   refine sq ?_
   refine Exec.block ?_
   apply Exec.regionL te_ok
   ·intro u' Q hQ
    simp only [go_sem, w5, w6, w2, w3]
    repeat refine ob2 ?_
    refine kcall hR.inv te_ok rfl rfl rfl rfl rfl rfl (esize_ok B hB _ (hb _ (nth_mem hi)) 0 (by omega)) ?_
    simp only [go_sem, w5, w6, w2, w3]
    repeat refine ob2 ?_
    exact hQ
   refine Exec.inBlock ?_
   apply Exec.regionL te_ok
   ·intro u' Q hQ
    simp only [go_sem, w5, w6, w2, w3]
    repeat refine ob2 ?_
    exact hQ
   refine Exec.back (ih0 (i + 1, n + (nth q.p i).e.lim 0) ?_ ?_) ?_ ?_ ?_ ?_ ?_ ?_ ?_
   ·try simp only
    exact ⟨by omega, by rw [hx.2.1, ptLim_step hi hn], by omega⟩
   ·try simp only
    omega
   ·rfl
   ·rfl
   ·(simp only [go_sem, w5, w6, w2, w3])
   ·(simp only [go_sem, w5, w6, w2, w3])
   ·(simp only [go_sem, w5, w6, w2, w3])
   ·simp only [go_sem, w5, w6, w2, w3]
   ·rfl
  ·refine Exec.exit rfl ?_
   refine sq ?_
   apply Exec.regionL te_ok
   ·intro u' Q hQ
    simp only [go_sem, w5, w6]
    repeat refine ob2 ?_
    exact hQ
   refine Exec.rets hR te_ok rfl rfl rfl (LeX.le ?_) (.inr ⟨_, rfl⟩)
   simp only [go_sem]
   rw [hx.2.1, ptLim_stop (by simp at h0; omega)]
end Go.Proofs.YtonchjamoblioaaGreatDoor
namespace Go.Proofs.YtonchjamoblioaaGreatDoor
open Go.Kin
/-! ### when an expression, an operand, a query is right -/
inductive FitX : Ex → Prop
  | mk {x : Ex} (h1 : x.s.length ≤ 140737488355328) (h2 : x.kids.length ≤ 140737488355328) (h3 : ∀ y ∈ x.kids, FitX y) : FitX x
theorem FitX.s {x : Ex} (h : FitX x) : x.s.length ≤ 140737488355328 := by cases h; assumption
theorem FitX.k {x : Ex} (h : FitX x) : x.kids.length ≤ 140737488355328 := by cases h; assumption
theorem FitX.y {x y : Ex} (h : FitX x) (hy : y ∈ x.kids) : FitX y := by cases h with | mk a b c => exact c y hy
/-- one part of an expression is as it should be -/
def partR (x : Ex) : Bool :=
  if x.k = 1 then (x.kids.length == 0 && freeB x.s)
  else if x.k = 2 ∨ x.k = 3 then (decide (1 < x.kids.length) && x.s == [])
  else if x.k = 4 ∨ x.k = 5 ∨ x.k = 6 then (x.kids.length == 1 && x.s == [])
  else false
mutual
def exOk : Ex → Bool
  | .mk k s ks => partR (.mk k s ks) && exsOk ks
def exsOk : List Ex → Bool
  | [] => true
  | x :: r => exOk x && exsOk r
end
theorem exOk_eq (x : Ex) : exOk x = (partR x && exsOk x.kids) := by cases x; simp [exOk, Ex.kids]
def exRight (x : Ex) : Bool := decide (x.size ≤ 24) && exOk x
theorem partR_1 {x : Ex} (h : x.k = 1) : exOk x = (freeB x.s && x.kids.length == 0) := by
  rw [exOk_eq]; unfold partR; rw [if_pos h]
  cases hk : x.kids with
  | nil => simp [exsOk]
  | cons a r => simp
theorem partR_2 {x : Ex} (h : x.k = 2 ∨ x.k = 3) : exOk x = (decide (1 < x.kids.length) && (x.s == [] && exsOk x.kids)) := by
  rw [exOk_eq]; unfold partR; rw [if_neg (by omega), if_pos h, Bool.and_assoc]
theorem partR_4 {x : Ex} (h : x.k = 4 ∨ x.k = 5 ∨ x.k = 6) : exOk x = (x.kids.length == 1 && (x.s == [] && exsOk x.kids)) := by
  rw [exOk_eq]; unfold partR; rw [if_neg (by omega), if_neg (by omega), if_pos h, Bool.and_assoc]
theorem partR_0 {x : Ex} (h : ¬ x.k = 1) (h2 : ¬ (x.k = 2 ∨ x.k = 3)) (h4 : ¬ (x.k = 4 ∨ x.k = 5 ∨ x.k = 6)) : exOk x = false := by
  rw [exOk_eq]; unfold partR; rw [if_neg h, if_neg h2, if_neg h4]; rfl
/-- an operand -/
def opR (o : Opd) : Bool :=
  if o.k = 1 then (freeB o.n && (o.key == [] && (o.vk == 0 && (o.vn == 0 && o.vs == []))))
  else if o.k = 2 then (freeB o.n && (freeB o.key && (o.vk == 0 && (o.vn == 0 && o.vs == []))))
  else if o.k = 3 then (o.n == [] && (o.key == [] && rightV o.vk o.vn o.vs))
  else false
structure FitO (o : Opd) : Prop where
  n : o.n.length ≤ 140737488355328
  key : o.key.length ≤ 140737488355328
  vs : o.vs.length ≤ 140737488355328
def cdR (c : Cd) : Bool := decide (1 ≤ c.op) && (decide (c.op ≤ 6) && (opR c.l && opR c.r))
structure FitC (c : Cd) : Prop where
  l : FitO c.l
  r : FitO c.r
abbrev zEx : Ex := .mk 0 [] []
noncomputable def ptR (p : Pt) : Bool :=
  freeB p.a && (freeB p.z && (if p.path then (p.lab == [] && (p.name == [] && exRight p.e)) else (freeB p.lab && ((p.name == [] || freeB p.name) && decide (p.e = zEx)))))
structure FitP (p : Pt) : Prop where
  a : p.a.length ≤ 140737488355328
  z : p.z.length ≤ 140737488355328
  lab : p.lab.length ≤ 140737488355328
  name : p.name.length ≤ 140737488355328
  e : FitX p.e
  sz : p.e.size ≤ 1000000
noncomputable def quR (q : Qu) : Bool :=
  (decide (1 ≤ q.p.length) && decide (q.p.length ≤ 4)) && (decide (q.c.length ≤ 6) && ((decide (1 ≤ q.r.length) && decide (q.r.length ≤ 4)) &&
  ((decide (1 ≤ q.range) && decide (q.range ≤ 1048576)) && ((decide (1 ≤ q.slide) && decide (q.slide ≤ 1048576)) &&
  (q.p.all ptR && (q.c.all cdR && q.r.all (fun o => o.k != 3 && opR o)))))))
structure FitQ (q : Qu) : Prop where
  p : q.p.length ≤ 140737488355328
  c : q.c.length ≤ 140737488355328
  r : q.r.length ≤ 140737488355328
  pa : ∀ p ∈ q.p, FitP p
  ca : ∀ c ∈ q.c, FitC c
  ra : ∀ o ∈ q.r, FitO o
end Go.Proofs.YtonchjamoblioaaGreatDoor
namespace Go.Proofs.YtonchjamoblioaaGreatDoor
open Go.Kin
set_option maxRecDepth 100000
set_option maxHeartbeats 0
theorem czN (n : Nat) : ((n : Int) == 0) = (n == 0) := by rw [Bool.eq_iff_iff]; simp
theorem c1N (n : Nat) : ((n : Int) == 1) = (n == 1) := by rw [Bool.eq_iff_iff]; simp; omega
theorem l1N (n : Nat) : decide (1 < (n : Int)) = decide (1 < n) := by rw [Bool.eq_iff_iff]; simp; omega
theorem part_ok (x : Ex) (hs : x.s.length ≤ 140737488355328) (hx0 : x.kids.length ≤ 140737488355328) : FnOK Laid Tryz.prog 76 [exD x] (bv (partR x)) := by
 refine FnOK_of laid_stable Tryz.func76 Tryz.ntmps76 rfl (by as_aux_lemma => kernel_rfl) (Nat.le_of_ble_eq_true rfl) (fun R hR => ?_)
 obtain ⟨_, b, cs, T, C⟩ := R
 obtain rfl : _ = Tryz.prog := hR.p
 have hk := kd_eq x
 refine sq ?_
 apply Exec.regionL te_ok
 ·intro u' Q hQ
  simp only [go_sem, hk, czN, c1N, l1N]
  repeat refine ob2 ?_
  exact hQ
 refine sq ?_
 refine sq ?_
 apply Exec.regionL te_ok
 ·intro u' Q hQ
  simp only [go_sem, hk, czN, c1N, l1N]
  repeat refine ob2 ?_
  exact hQ
 refine sq ?_
 apply Exec.regionL te_ok
 ·intro u' Q hQ
  simp only [go_sem, hk, czN, c1N, l1N]
  repeat refine ob2 ?_
  exact hQ
 refine Exec.block ?_
 refine sq ?_
 apply Exec.regionL te_ok
 ·intro u' Q hQ
  simp only [go_sem, hk, czN, c1N, l1N]
  repeat refine ob2 ?_
  exact hQ
 refine Exec.cond_split rfl (fun h0 => ?_) (fun h0 => ?_)
 ·refine sq ?_
  apply Exec.regionL te_ok
  ·intro u' Q hQ
   simp only [go_sem, hk, czN, c1N, l1N]
   repeat refine ob2 ?_
   refine kcallG hR.inv te_ok rfl rfl rfl rfl rfl rfl ob1 (fun hq => free_ok x.s hs) ?_
   simp only [go_sem, hk, czN, c1N, l1N]
   repeat refine ob2 ?_
   exact hQ
  refine Exec.rets hR te_ok rfl rfl rfl (LeX.le ?_) (.inr ⟨_, rfl⟩)
  simp only [go_sem, partR, czN, c1N, l1N]
  simp_all
 ·refine sq ?_
  refine sq ?_
  apply Exec.regionL te_ok
  ·intro u' Q hQ
   simp only [go_sem, hk, czN, c1N, l1N]
   repeat refine ob2 ?_
   exact hQ
  apply Exec.join [1, 3, 8, 18] rfl
  case hx =>
   intro h1 hK
   refine sk ?_
   exact hK
  case hy =>
   intro h1 hK
   apply Exec.regionL te_ok
   ·intro u' Q hQ
    simp only [go_sem, hk, czN, c1N, l1N]
    repeat refine ob2 ?_
    exact hQ
   exact hK
  case hN => rfl
  case hdf => rfl
  case hF => simp only [go_sem]
  case hP => rfl
  apply Exec.norm
  ·simp only [go_sem, hk, czN, c1N, l1N]
   rfl
  refine Exec.cond_split rfl (fun h2 => ?_) (fun h2 => ?_)
  ·refine sq ?_
   apply Exec.regionL te_ok
   ·intro u' Q hQ
    simp only [go_sem, hk, czN, c1N, l1N]
    repeat refine ob2 ?_
    exact hQ
   refine Exec.rets hR te_ok rfl rfl rfl (LeX.le ?_) (.inr ⟨_, rfl⟩)
   simp only [go_sem, partR, czN, c1N, l1N]
   simp_all
  ·refine sq ?_
   refine sq ?_
   apply Exec.regionL te_ok
   ·intro u' Q hQ
    simp only [go_sem, hk, czN, c1N, l1N]
    repeat refine ob2 ?_
    exact hQ
   apply Exec.join [1, 3, 28] rfl
   case hx =>
    intro h3 hK
    refine sk ?_
    exact hK
   case hy =>
    intro h3 hK
    refine sq ?_
    apply Exec.regionL te_ok
    ·intro u' Q hQ
     simp only [go_sem, hk, czN, c1N, l1N]
     repeat refine ob2 ?_
     exact hQ
    apply Exec.join [1, 3, 28] rfl
    case hx =>
     intro h4 hK
     refine sk ?_
     exact hK
    case hy =>
     intro h4 hK
     apply Exec.regionL te_ok
     ·intro u' Q hQ
      simp only [go_sem, hk, czN, c1N, l1N]
      repeat refine ob2 ?_
      exact hQ
     exact hK
    case hN => rfl
    case hdf => rfl
    case hF => simp only [go_sem]
    case hP => rfl
    apply Exec.norm
    ·simp only [go_sem, hk, czN, c1N, l1N]
     rfl
    exact hK
   case hN => rfl
   case hdf => rfl
   case hF => simp only [go_sem]
   case hP => rfl
   apply Exec.norm
   ·simp only [go_sem, hk, czN, c1N, l1N]
    rfl
   refine Exec.cond_split rfl (fun h5 => ?_) (fun h5 => ?_)
   ·refine sq ?_
    apply Exec.regionL te_ok
    ·intro u' Q hQ
     simp only [go_sem, hk, czN, c1N, l1N]
     repeat refine ob2 ?_
     exact hQ
    refine Exec.rets hR te_ok rfl rfl rfl (LeX.le ?_) (.inr ⟨_, rfl⟩)
    simp only [go_sem, partR, czN, c1N, l1N]
    simp_all
   ·refine sk ?_
    refine Exec.inBlock ?_
    refine sq ?_
    apply Exec.regionL te_ok
    ·intro u' Q hQ
     simp only [go_sem, hk, czN, c1N, l1N]
     repeat refine ob2 ?_
     exact hQ
    refine Exec.rets hR te_ok rfl rfl rfl (LeX.le ?_) (.inr ⟨_, rfl⟩)
    simp only [go_sem, partR, czN, c1N, l1N]
    simp_all
theorem eqf_ok (l m : List Ex) (hl : l.length ≤ 140737488355328) (ihx : ∀ x ∈ l, ∀ y, FnOK Laid Tryz.prog 37 [exD x, exD y] (bv (decide (x = y)))) : FnOK Laid Tryz.prog 77 [exsD l, exsD m, .fn 37 []] (bv (decide (l = m))) := by
 refine FnOK_of laid_stable Tryz.func77 Tryz.ntmps77 rfl (by as_aux_lemma => kernel_rfl) (Nat.le_of_ble_eq_true rfl) (fun R hR => ?_)
 obtain ⟨_, b, cs, T, C⟩ := R
 obtain rfl : _ = Tryz.prog := hR.p
 refine sreg te_ok ?_
 refine sq ?_
 refine sreg te_ok ?_
 refine Exec.cond_split rfl (fun h0 => ?_) (fun h0 => ?_)
 ·refine sreg te_ok ?_
  refine Exec.rets hR te_ok rfl rfl rfl (LeX.le ?_) (.inr ⟨_, rfl⟩)
  simp only [go_sem]
  have : l ≠ m := fun e => by subst e; simp at h0
  simp [this]
 ·have hlm : l.length = m.length := by simp at h0; omega
  refine sk ?_
  refine sq ?_
  refine sreg te_ok ?_
  refine Exec.block ?_
  apply Exec.loopU [1, 2, 15, 16] (X := Nat) (fun i => [(17, .d (iv i))]) (fun i => []) (fun i => []) (fun i => l.length - i) (fun i => i ≤ l.length ∧ l.take i = m.take i) 0
  case h0 =>
   simp
  case hw =>
   simp only [go_sem]
  case body =>
   rintro i hx ih0
   try simp only at hx
   apply Exec.norm
   ·simp only [go_sem]
    rfl
   refine sreg te_ok ?_
   refine sq ?_
   refine Exec.cond_split rfl (fun h1 => ?_) (fun h1 => ?_)
   ·have hi : i < l.length := by simp at h1; omega
    have ha := kdR_at hi
    have ha2 := kdR_at (show i < m.length by omega)
    have w2 : IntKind.i64.wrap ((i : Int) + 1) = ((i + 1 : Nat) : Int) := by rw [wrap_id (by omega)]; omega
    refine sk ?_
    refine sq ?_
    refine Exec.block ?_
    refine sq ?_
    apply Exec.regionL te_ok
    ·intro u' Q hQ
     simp only [go_sem, ha, ha2, w2]
     repeat refine ob2 ?_
     exact hQ
    refine sq ?_
    apply Exec.regionL te_ok
    ·intro u' Q hQ
     simp only [go_sem, ha, ha2, w2]
     repeat refine ob2 ?_
     exact hQ
    refine sq ?_
    apply Exec.regionL te_ok
    ·intro u' Q hQ
     simp only [go_sem, ha, ha2, w2]
     repeat refine ob2 ?_
     refine kcall hR.inv te_ok rfl rfl rfl rfl rfl rfl (ihx _ (nth_mem hi) _) ?_
     simp only [go_sem, ha, ha2, w2]
     repeat refine ob2 ?_
     exact hQ
    refine Exec.cond_split rfl (fun h2 => ?_) (fun h2 => ?_)
    ·refine sq ?_
     apply Exec.regionL te_ok
     ·intro u' Q hQ
      simp only [go_sem, ha, ha2, w2]
      repeat refine ob2 ?_
      exact hQ
     refine Exec.rets hR te_ok rfl rfl rfl (LeX.le ?_) (.inr ⟨_, rfl⟩)
     simp only [go_sem]
     have : l ≠ m := fun e => by subst e; simp at h2
     simp [this]
    ·refine sk ?_
     refine Exec.inBlock ?_
     apply Exec.regionL te_ok
     ·intro u' Q hQ
      simp only [go_sem, ha, ha2, w2]
      repeat refine ob2 ?_
      exact hQ
     refine Exec.back (ih0 (i + 1) ?_ ?_) ?_ ?_ ?_ ?_ ?_ ?_ ?_
     ·try simp only
      exact ⟨by omega, (same_step hlm hi hx.2).2 (by simpa using h2)⟩
     ·try simp only
      omega
     ·rfl
     ·rfl
     ·(simp only [go_sem, ha, ha2, w2])
     ·(simp only [go_sem, ha, ha2, w2])
     ·(simp only [go_sem, ha, ha2, w2])
     ·simp only [go_sem, ha, ha2, w2]
     ·rfl
   ·refine Exec.exit rfl ?_
    refine sreg te_ok ?_
    refine Exec.rets hR te_ok rfl rfl rfl (LeX.le ?_) (.inr ⟨_, rfl⟩)
    simp only [go_sem]
    have : l = m := by have := hx.2; simp at h1; rw [List.take_of_length_le (by omega), List.take_of_length_le (by omega)] at this; exact this
    simp [this]
theorem xsame_step (x y : Ex) (hx0 : x.kids.length ≤ 140737488355328) (ihx : ∀ x2 ∈ x.kids, ∀ y, FnOK Laid Tryz.prog 37 [exD x2, exD y] (bv (decide (x2 = y)))) : FnOK Laid Tryz.prog 37 [exD x, exD y] (bv (decide (x = y))) := by
 refine FnOK_of laid_stable Tryz.func37 Tryz.ntmps37 rfl (by as_aux_lemma => kernel_rfl) (Nat.le_of_ble_eq_true rfl) (fun R hR => ?_)
 obtain ⟨_, b, cs, T, C⟩ := R
 obtain rfl : _ = Tryz.prog := hR.p
 have hk := kd_eq x
 have hk2 := kd_eq y
 refine sq ?_
 apply Exec.regionL te_ok
 ·intro u' Q hQ
  simp only [go_sem, hk, hk2]
  repeat refine ob2 ?_
  exact hQ
 refine sq ?_
 apply Exec.regionL te_ok
 ·intro u' Q hQ
  simp only [go_sem, hk, hk2]
  repeat refine ob2 ?_
  refine kcallG hR.inv te_ok rfl rfl rfl rfl rfl rfl ob1 (fun hq => eqf_ok x.kids y.kids hx0 ihx) ?_
  simp only [go_sem, hk, hk2]
  repeat refine ob2 ?_
  exact hQ
 refine Exec.rets hR te_ok rfl rfl rfl (LeX.le ?_) (.inr ⟨_, rfl⟩)
 simp only [go_sem]
 rw [← ex_eq]
 cases (x.k == y.k) <;> cases (x.s == y.s) <;> simp
theorem xsame_ok (x y : Ex) (hfx : FitX x) : FnOK Laid Tryz.prog 37 [exD x, exD y] (bv (decide (x = y))) := by
 refine Ex.ind (p := fun x => FitX x → ∀ y, FnOK Laid Tryz.prog 37 [exD x, exD y] (bv (decide (x = y)))) (fun x ih h y => xsame_step x y h.k fun x2 h2 => ih x2 h2 (h.y h2)) x hfx y
end Go.Proofs.YtonchjamoblioaaGreatDoor
namespace Go.Proofs.YtonchjamoblioaaGreatDoor
open Go.Kin
set_option maxRecDepth 100000
set_option maxHeartbeats 0
theorem parts_ok (x : Ex) : FnOK Laid Tryz.prog 75 [exD x] (.fn 144 [.ptr (exC x)]) := by
 refine FnOK_of laid_stable Tryz.func75 Tryz.ntmps75 rfl (by as_aux_lemma => kernel_rfl) (Nat.le_of_ble_eq_true rfl) (fun R hR => ?_)
 obtain ⟨_, b, cs, T, C⟩ := R
 obtain rfl : _ = Tryz.prog := hR.p
 have hk := kd_eq x
 refine sq ?_
 apply Exec.regionL te_ok
 ·intro u' Q hQ
  simp only [go_sem, hk]
  repeat refine ob2 ?_
  exact hQ
 refine sq ?_
 refine Exec.freezeB 1 rfl rfl rfl ?_
 apply Exec.norm
 ·simp only [go_sem, hk]
  rfl
 apply Exec.regionL te_ok
 ·intro u' Q hQ
  simp only [go_sem, hk]
  repeat refine ob2 ?_
  exact hQ
 refine Exec.rets hR te_ok rfl rfl rfl (LeX.le ?_) (.inr ⟨_, rfl⟩)
 simp only [go_sem, hk]
mutual
/-- the count along a walk that asks each part and stops at 24 -/
def wlk : Ex → Nat → Option Nat
 | .mk k s ks, n => if n + 1 ≤ 24 ∧ partR (.mk k s ks) = true then wlks ks (n + 1) else none
def wlks : List Ex → Nat → Option Nat
 | [], n => some n
 | x :: r, n => match wlk x n with
  | some m => wlks r m
  | none => none
end
theorem wlk_eq (x : Ex) (n : Nat) : wlk x n = if n + 1 ≤ 24 ∧ partR x = true then wlks x.kids (n + 1) else none := by cases x; simp [wlk, Ex.kids]
theorem wlks_app : ∀ (l m : List Ex) (n : Nat), wlks (l ++ m) n = (match wlks l n with | some q => wlks m q | none => none)
 | [], m, n => by simp [wlks]
 | x :: l, m, n => by
  simp only [List.cons_append, wlks]
  cases wlk x n with
  | none => rfl
  | some q => simp only; exact wlks_app l m q
theorem wlks_take {l : List Ex} {i n0 n : Nat} (h : i < l.length) (hw : wlks (l.take i) n0 = some n) : wlks (l.take (i + 1)) n0 = wlk (nth l i) n := by
 rw [take_succ_nth h, wlks_app, hw]; simp only [wlks]; cases wlk (nth l i) n <;> rfl
theorem wlks_bad {l : List Ex} {i n0 n : Nat} (h : i < l.length) (hw : wlks (l.take i) n0 = some n) (hb : wlk (nth l i) n = none) : wlks l n0 = none := by
 have h1 := wlks_take h hw
 rw [hb] at h1
 have := wlks_app (l.take (i + 1)) (l.drop (i + 1)) n0
 rw [List.take_append_drop, h1] at this; exact this
theorem wlks_is : ∀ (l : List Ex) (n : Nat), (∀ x ∈ l, ∀ n, n ≤ 24 → wlk x n = if n + x.size ≤ 24 ∧ exOk x = true then some (n + x.size) else none) → n ≤ 24 → wlks l n = if n + Ex.sizes l ≤ 24 ∧ exsOk l = true then some (n + Ex.sizes l) else none
 | [], n, _, hn => by simp [wlks, Ex.sizes, exsOk, hn]
 | x :: r, n, h, hn => by
  have e1 : Ex.sizes (x :: r) = x.size + Ex.sizes r := by simp [Ex.sizes]
  have e2 : exsOk (x :: r) = (exOk x && exsOk r) := by simp [exsOk]
  have e3 : wlks (x :: r) n = (match wlk x n with | some m => wlks r m | none => none) := by simp [wlks]
  rw [e3, h x List.mem_cons_self n hn]
  by_cases h1 : n + x.size ≤ 24 ∧ exOk x = true
  ·rw [if_pos h1]
   show wlks r (n + x.size) = _
   rw [wlks_is r _ (fun y hy => h y (List.mem_cons_of_mem _ hy)) h1.1, e1, e2, h1.2, Bool.true_and, Nat.add_assoc]
  ·rw [if_neg h1]
   show none = _
   rw [if_neg]
   intro h2
   rw [e1, e2, Bool.and_eq_true] at h2
   exact h1 ⟨by omega, h2.2.1⟩
theorem wlk_is : ∀ (x : Ex) (n : Nat), n ≤ 24 → wlk x n = if n + x.size ≤ 24 ∧ exOk x = true then some (n + x.size) else none := fun x => by
 refine Ex.ind (p := fun x => ∀ n, n ≤ 24 → wlk x n = if n + x.size ≤ 24 ∧ exOk x = true then some (n + x.size) else none) (fun x ih n hn => ?_) x
 rw [wlk_eq, x.size_eq, exOk_eq]
 by_cases h1 : n + 1 ≤ 24 ∧ partR x = true
 ·rw [if_pos h1, wlks_is x.kids (n + 1) ih h1.1]
  simp only [h1.2, Bool.true_and]
  simp only [Nat.add_assoc]
 ·rw [if_neg h1, if_neg]
  intro h2
  simp only [Bool.and_eq_true] at h2
  exact h1 ⟨by omega, h2.2.1⟩
theorem wlk_right (x : Ex) : exRight x = (wlk x 0).isSome := by
 rw [wlk_is x 0 (by omega)]; unfold exRight
 simp only [Nat.zero_add]
 by_cases h : x.size ≤ 24 ∧ exOk x = true
 ·rw [if_pos h, decide_eq_true h.1, h.2]; rfl
 ·rw [if_neg h]
  by_cases h1 : x.size ≤ 24
  ·have : exOk x = false := by cases h2 : exOk x; rfl; exact absurd ⟨h1, h2⟩ h
   rw [this]; simp
  ·rw [decide_eq_false h1]; rfl
structure Cl (fz : List (Act × List (Nat × SV))) : Prop where
 m4 : mapF [] [4] (renF ⟨swp 1, swp_swp 1, swp_lent 1⟩ fz) = renF ⟨swp 1, swp_swp 1, swp_lent 1⟩ fz
 m2 : mapF [] [2] fz = fz
 m6 : mapF [] [6] fz = fz
 f2 : ∀ ds, frbF 2 ds fz = fz
 f6 : ∀ ds, frbF 6 ds fz = fz
 le : LeF fz fz
structure ClS (S : List (Nat × SV)) : Prop where
 m4 : mapS [] [4] (renS ⟨swp 1, swp_swp 1, swp_lent 1⟩ S) = renS ⟨swp 1, swp_swp 1, swp_lent 1⟩ S
 m2 : mapS [] [2] S = S
 m6 : mapS [] [6] S = S
 f2 : ∀ ds, frbS 2 ds S = S
 f6 : ∀ ds, frbS 6 ds S = S
 le : LeS S S
theorem Cl.cons {S : List (Nat × SV)} {fz : List (Act × List (Nat × SV))} {a : Act} (h : ClS S) (hf : Cl fz) : Cl ((a, S) :: fz) :=
 ⟨by simp only [renF, mapF, h.m4, hf.m4], by simp only [mapF, h.m2, hf.m2], by simp only [mapF, h.m6, hf.m6], fun ds => by simp only [frbF, h.f2, hf.f2], fun ds => by simp only [frbF, h.f6, hf.f6], ⟨rfl, h.le, hf.le⟩⟩
/-- the boxes of the function that walks, as its iterator sees them -/
abbrev W36 (x : Ex) (n : Nat) : List (Nat × TypeId × List SV) := [(1003, 3, [.d (iv n)]), (1002, 4, [.d (bv false)]), (1001, 30, [.d (iv x.k), .d (sv x.s), .d (kdX x)])]
abbrev So36 (x : Ex) : List (Nat × SV) := [(6, .d (.fn 144 [.ptr (exC x)])), (5, .d (exD x)), (3, .lp 1003 0), (2, .lp 1002 0), (1, .lp 1001 0), (0, .d (exD x))]
attribute [go_sem] W36 So36
theorem xright_ok (x : Ex) (hfx : FitX x) : FnOK Laid Tryz.prog 36 [exD x] (bv (exRight x)) := by
 refine FnOK_of laid_stable Tryz.func36 Tryz.ntmps36 rfl (by as_aux_lemma => kernel_rfl) (Nat.le_of_ble_eq_true rfl) (fun R hR => ?_)
 obtain ⟨_, b, cs, T, C⟩ := R
 obtain rfl : _ = Tryz.prog := hR.p
 refine sreg te_ok ?_
 refine sreg te_ok ?_
 refine sq ?_
 refine sq ?_
 apply Exec.regionL te_ok
 ·intro u' Q hQ
  simp only [go_sem]
  repeat refine ob2 ?_
  refine kcall hR.inv te_ok rfl rfl rfl rfl rfl rfl (parts_ok x) ?_
  simp only [go_sem]
  repeat refine ob2 ?_
  exact hQ
 refine Exec.block ?_
 refine Exec.range 1 hR.round hR.bfn rfl rfl Tryz.func144 Tryz.ntmps144 rfl (by as_aux_lemma => kernel_rfl) (Nat.le_of_ble_eq_true rfl) (fun a0 l0 r0 lo0 hlo0 hN0 hD0 hfr0 hfl0 => ?_)
 have yl : ∀ (y : Ex), FitX y → ∀ (n : Nat), n ≤ 24 → ∀ {b' : Frame} {cs' : List Frame} {k : List Item} {ops : Array Oper} {i m : Nat} {o : Oper} {f : Operand} {args : Array Operand} {ts : Array TypeId} {N d : Nat} {S : List (Nat × SV)} {fz : List (Act × List (Nat × SV))},
   ops[i]? = some o → o.op = .call { callee := .value f, args := args, argTypes := ts } → o.guard = none → evalL S f = some (.d (.v (.func (.yield l0) #[] #[]))) → argsV S args.toList = some [.d (exD y)] → args.size = 1 → (ops[i]?).bind (·.dst) = some d → dstLt (some d) N = true → (a0, So36 x) ∈ fz → ClS S → Cl fz →
   (n + 1 ≤ 24 → partR y = true → Exec ⟨Tryz.prog, b', cs', T, C⟩ (.inRegion ops (List.range' (i + 1) m) :: k) (Stt.mk N [] ((d, .d (bv true)) :: S) (W36 x (n + 1)) [] fz [(l0, lo0 .ready none), (r0, .deferred (some []))]).sy) →
   (¬ (n + 1 ≤ 24 ∧ partR y = true) → ∀ z : Nat, Exec ⟨Tryz.prog, b', cs', T, C⟩ (.inRegion ops (List.range' (i + 1) m) :: k) (Stt.mk N [] ((d, .d (bv false)) :: S) (W36 x z) [] fz [(l0, lo0 .done (some .ret)), (r0, .deferred (some []))]).sy) →
   Exec ⟨Tryz.prog, b', cs', T, C⟩ (.inRegion ops (List.range' i (m + 1)) :: k) (Stt.mk N [] S (W36 x n) [] fz [(l0, lo0 .ready none), (r0, .deferred (some []))]).sy := by
  intro y hfy n hn b' cs' k ops i m o f args ts N d S fz ho hop hgd hf hargs hsz hd hdN hmem hS hF hk1 hk2
  refine Exec.yieldD 1 ho hop hgd hf hargs rfl hlo0 hmem hN0 (by simp [hsz]) (fun ag hag hdg => ?_)
  have wn : IntKind.i64.wrap ((n : Int) + 1) = ((n + 1 : Nat) : Int) := by rw [wrap_id (by omega)]; omega
  apply Exec.norm
  ·simp only [go_sem, renS_renS, renF_renF, wn, hS.m4, hF.m4]
   rfl
  apply Exec.regionL te_ok
  ·intro u' Q hQ
   simp only [go_sem, renS_renS, renF_renF, wn, hS.m4, hF.m4]
   repeat refine ob2 ?_
   exact hQ
  refine Exec.begin rfl hlo0 hfl0 ?_
  apply Exec.norm
  ·simp only [go_sem, renS_renS, renF_renF, wn, hS.m4, hF.m4]
   rfl
  refine Exec.block ?_
  refine sq ?_
  apply Exec.regionL te_ok
  ·intro u' Q hQ
   simp only [go_sem, renS_renS, renF_renF, wn, hS.m4, hF.m4]
   repeat refine ob2 ?_
   exact hQ
  refine sq ?_
  apply Exec.regionL te_ok
  ·intro u' Q hQ
   simp only [go_sem, renS_renS, renF_renF, wn, hS.m4, hF.m4]
   repeat refine ob2 ?_
   refine kcallG hR.inv te_ok rfl rfl rfl rfl rfl rfl ob1 (fun hq => part_ok y hfy.s hfy.k) ?_
   simp only [go_sem, renS_renS, renF_renF, wn, hS.m4, hF.m4]
   repeat refine ob2 ?_
   exact hQ
  refine Exec.cond_split rfl (fun h0 => ?_) (fun h0 => ?_)
  ·refine sq ?_
   apply Exec.regionL te_ok
   ·intro u' Q hQ
    simp only [go_sem, renS_renS, renF_renF, wn, hS.m4, hF.m4]
    repeat refine ob2 ?_
    exact hQ
   refine Exec.roundEnd 1 .ret rfl hlo0 hfl0 rfl hag hdg hd hdN rfl ?_
   apply Exec.norm
   ·simp only [go_sem, renS_renS, renF_renF, wn, hS.m4, hF.m4]
    rfl
   refine Exec.weakL (W36 x (n + 1)) (by simp only [go_sem]) (hk2 ?_ _)
   intro h; rcases (by simpa using h0 : (24 : Int) < (n : Int) + 1 ∨ partR y = false) with h2 | h2
   ·omega
   ·rw [h2] at h; exact absurd h.2 (by simp)
  ·refine sk ?_
   refine Exec.inBlock ?_
   refine Exec.roundEnd 1 .fall rfl hlo0 hfl0 rfl hag hdg hd hdN rfl ?_
   apply Exec.norm
   ·simp only [go_sem, renS_renS, renF_renF, wn, hS.m4, hF.m4]
    rfl
   have h2 : n + 1 ≤ 24 ∧ partR y = true := (fun h3 => ⟨by omega, h3.2⟩) (by simpa using h0 : (n : Int) + 1 ≤ 24 ∧ partR y = true)
   exact Exec.weakL (W36 x (n + 1)) (by simp only [go_sem]) (hk1 h2.1 h2.2)
 have wk : ∀ (y : Ex), FitX y → ∀ (n : Nat), n ≤ 24 → ∀ {b' : Frame} {cs' : List Frame} {k : List Item} {ops : Array Oper} {i m : Nat} {o : Oper} {f : Operand} {args : Array Operand} {ts : Array TypeId} {N d : Nat} {S : List (Nat × SV)} {fz : List (Act × List (Nat × SV))},
   ops[i]? = some o → o.op = .call { callee := .value f, args := args, argTypes := ts } → o.guard = none → evalL S f = some (.d (.fn 145 [])) → argsV S args.toList = some [.d (exD y), .d (.v (.func (.yield l0) #[] #[]))] → args.size = 2 → (ops[i]?).bind (·.dst) = some d → dstLt (some d) N = true → (a0, So36 x) ∈ fz → ClS S → Cl fz →
   (∀ n2 : Nat, (wlk y n = some n2 ∧ n2 ≤ 24) → Exec ⟨Tryz.prog, b', cs', T, C⟩ (.inRegion ops (List.range' (i + 1) m) :: k) (Stt.mk N [] ((d, .d (bv true)) :: S) (W36 x n2) [] fz [(l0, lo0 .ready none), (r0, .deferred (some []))]).sy) →
   (wlk y n = none → ∀ z : Nat, Exec ⟨Tryz.prog, b', cs', T, C⟩ (.inRegion ops (List.range' (i + 1) m) :: k) (Stt.mk N [] ((d, .d (bv false)) :: S) (W36 x z) [] fz [(l0, lo0 .done (some .ret)), (r0, .deferred (some []))]).sy) →
   Exec ⟨Tryz.prog, b', cs', T, C⟩ (.inRegion ops (List.range' i (m + 1)) :: k) (Stt.mk N [] S (W36 x n) [] fz [(l0, lo0 .ready none), (r0, .deferred (some []))]).sy := by
  intro y
  refine Ex.ind (p := fun y => FitX y → ∀ (n : Nat), n ≤ 24 → ∀ {b' : Frame} {cs' : List Frame} {k : List Item} {ops : Array Oper} {i m : Nat} {o : Oper} {f : Operand} {args : Array Operand} {ts : Array TypeId} {N d : Nat} {S : List (Nat × SV)} {fz : List (Act × List (Nat × SV))},
   ops[i]? = some o → o.op = .call { callee := .value f, args := args, argTypes := ts } → o.guard = none → evalL S f = some (.d (.fn 145 [])) → argsV S args.toList = some [.d (exD y), .d (.v (.func (.yield l0) #[] #[]))] → args.size = 2 → (ops[i]?).bind (·.dst) = some d → dstLt (some d) N = true → (a0, So36 x) ∈ fz → ClS S → Cl fz →
   (∀ n2 : Nat, (wlk y n = some n2 ∧ n2 ≤ 24) → Exec ⟨Tryz.prog, b', cs', T, C⟩ (.inRegion ops (List.range' (i + 1) m) :: k) (Stt.mk N [] ((d, .d (bv true)) :: S) (W36 x n2) [] fz [(l0, lo0 .ready none), (r0, .deferred (some []))]).sy) →
   (wlk y n = none → ∀ z : Nat, Exec ⟨Tryz.prog, b', cs', T, C⟩ (.inRegion ops (List.range' (i + 1) m) :: k) (Stt.mk N [] ((d, .d (bv false)) :: S) (W36 x z) [] fz [(l0, lo0 .done (some .ret)), (r0, .deferred (some []))]).sy) →
   Exec ⟨Tryz.prog, b', cs', T, C⟩ (.inRegion ops (List.range' i (m + 1)) :: k) (Stt.mk N [] S (W36 x n) [] fz [(l0, lo0 .ready none), (r0, .deferred (some []))]).sy) (fun y ih => ?_) y
  intro hfy n0 hn b' cs' k ops i m o f args ts N d S fz ho hop hgd hf hargs hsz hd hdN hmem hS hF hK1 hK2
  refine Exec.enter ho hop hgd hf rfl hargs Tryz.func145 Tryz.ntmps145 rfl (by as_aux_lemma => kernel_rfl) (Nat.le_of_ble_eq_true rfl) (fun ag hag hdg => ?_)
  apply Exec.norm
  ·simp only [go_sem, hS.m2, hS.m6, hS.f2, hS.f6, hS.le, hF.m2, hF.m6, hF.f2, hF.f6, hF.le]
   rfl
  refine sq ?_
  apply Exec.regionL te_ok
  ·intro u' Q hQ
   simp only [go_sem, hS.m2, hS.m6, hS.f2, hS.f6, hS.le, hF.m2, hF.m6, hF.f2, hF.f6, hF.le]
   repeat refine ob2 ?_
   exact hQ
  refine sq ?_
  refine sq ?_
  refine Exec.freezeB 2 rfl rfl rfl ?_
  apply Exec.norm
  ·simp only [go_sem, hS.f2, hF.f2]
   rfl
  refine Exec.regStart 4 rfl ?_
  apply Exec.regPart 0 2 2 te_ok rfl
  ·intro u' Q hQ
   simp only [go_sem, hS.m2, hS.m6, hS.f2, hS.f6, hS.le, hF.m2, hF.m6, hF.f2, hF.f6, hF.le]
   repeat refine ob2 ?_
   exact hQ
  refine yl y hfy n0 hn (m := 1) rfl rfl rfl rfl rfl rfl rfl rfl (List.mem_cons_of_mem _ hmem) (by constructor <;> (intros; first | rfl | simp only [go_sem, hS.m2, hS.m6, hS.f2, hS.f6, hS.le, hF.m2, hF.m6, hF.f2, hF.f6, hF.le])) (Cl.cons hS hF) (fun hka0 hkb0 => ?_) (fun hk0 z0 => ?_)
  ·apply Exec.norm
   ·simp only [go_sem, hS.m2, hS.m6, hS.f2, hS.f6, hS.le, hF.m2, hF.m6, hF.f2, hF.f6, hF.le]
    rfl
   apply Exec.regPart 3 1 0 te_ok rfl
   ·intro u' Q hQ
    simp only [go_sem, hS.m2, hS.m6, hS.f2, hS.f6, hS.le, hF.m2, hF.m6, hF.f2, hF.f6, hF.le]
    repeat refine ob2 ?_
    exact hQ
   refine Exec.regEnd ?_
   refine Exec.cond (t := false) rfl ?_
   simp only [reduceIte, Bool.false_eq_true]
   refine sk ?_
   refine sq ?_
   refine sq ?_
   have hk := kd_eq y
   have hyk := hfy.k
   apply Exec.regionL te_ok
   ·intro u' Q hQ
    simp only [go_sem, hS.m2, hS.m6, hS.f2, hS.f6, hS.le, hF.m2, hF.m6, hF.f2, hF.f6, hF.le, hk]
    repeat refine ob2 ?_
    exact hQ
   refine Exec.block ?_
   apply Exec.loopU [1, 12, 13] (X := Nat × Nat) (fun ⟨i, n⟩ => [(14, .d (iv i))]) (fun ⟨i, n⟩ => [(1003, 3, [.d (iv n)])]) (fun ⟨i, n⟩ => []) (fun ⟨i, n⟩ => y.kids.length - i) (fun ⟨i, n⟩ => i ≤ y.kids.length ∧ n ≤ 24 ∧ wlks (y.kids.take i) (n0 + 1) = some n) (0, n0 + 1)
   case h0 =>
    exact ⟨Nat.zero_le _, hka0, rfl⟩
   case hw =>
    simp only [go_sem, hS.m2, hS.m6, hS.f2, hS.f6, hS.le, hF.m2, hF.m6, hF.f2, hF.f6, hF.le]
   case body =>
    rintro ⟨i, n⟩ hx ih0
    try simp only at hx
    apply Exec.norm
    ·simp only [go_sem, hS.m2, hS.m6, hS.f2, hS.f6, hS.le, hF.m2, hF.m6, hF.f2, hF.f6, hF.le]
     rfl
    refine sq ?_
    apply Exec.regionL te_ok
    ·intro u' Q hQ
     simp only [go_sem, hS.m2, hS.m6, hS.f2, hS.f6, hS.le, hF.m2, hF.m6, hF.f2, hF.f6, hF.le]
     repeat refine ob2 ?_
     exact hQ
    refine sq ?_
    refine Exec.cond_split rfl (fun h1 => ?_) (fun h1 => ?_)
    ·have hi : i < y.kids.length := by have := of_decide_eq_true h1; omega
     have ha := kdR_at hi
     have w2 : IntKind.i64.wrap ((i : Int) + 1) = ((i + 1 : Nat) : Int) := by rw [wrap_id (by omega)]; omega
     refine sk ?_
     refine sq ?_
     refine Exec.block ?_
     refine sq ?_
     apply Exec.regionL te_ok
     ·intro u' Q hQ
      simp only [go_sem, hS.m2, hS.m6, hS.f2, hS.f6, hS.le, hF.m2, hF.m6, hF.f2, hF.f6, hF.le, ha, w2]
      repeat refine ob2 ?_
      exact hQ
     refine sq ?_
     refine Exec.freezeB 6 rfl rfl rfl ?_
     apply Exec.norm
     ·simp only [go_sem, hS.f6, hF.f6]
      rfl
     refine Exec.regStart 4 rfl ?_
     apply Exec.regPart 0 2 2 te_ok rfl
     ·intro u' Q hQ
      simp only [go_sem, hS.m2, hS.m6, hS.f2, hS.f6, hS.le, hF.m2, hF.m6, hF.f2, hF.f6, hF.le, ha, w2]
      repeat refine ob2 ?_
      exact hQ
     refine ih _ (nth_mem hi) (hfy.y (nth_mem hi)) n hx.2.1 (m := 1) rfl rfl rfl rfl rfl rfl rfl rfl (List.mem_cons_of_mem _ hmem) (by constructor <;> (intros; first | rfl | simp only [go_sem, hS.m2, hS.m6, hS.f2, hS.f6, hS.le, hF.m2, hF.m6, hF.f2, hF.f6, hF.le, ha, w2])) (Cl.cons hS hF) (fun n1 hk1 => ?_) (fun hk1 z1 => ?_)
     ·apply Exec.norm
      ·simp only [go_sem, hS.m2, hS.m6, hS.f2, hS.f6, hS.le, hF.m2, hF.m6, hF.f2, hF.f6, hF.le, ha, w2]
       rfl
      apply Exec.regPart 3 1 0 te_ok rfl
      ·intro u' Q hQ
       simp only [go_sem, hS.m2, hS.m6, hS.f2, hS.f6, hS.le, hF.m2, hF.m6, hF.f2, hF.f6, hF.le, ha, w2]
       repeat refine ob2 ?_
       exact hQ
      refine Exec.regEnd ?_
      refine Exec.cond (t := false) rfl ?_
      simp only [reduceIte, Bool.false_eq_true]
      refine sk ?_
      refine Exec.inBlock ?_
      apply Exec.regionL te_ok
      ·intro u' Q hQ
       simp only [go_sem, hS.m2, hS.m6, hS.f2, hS.f6, hS.le, hF.m2, hF.m6, hF.f2, hF.f6, hF.le, ha, w2]
       repeat refine ob2 ?_
       exact hQ
      refine Exec.back (ih0 (i + 1, n1) ?_ ?_) ?_ ?_ ?_ ?_ ?_ ?_ ?_
      ·try simp only
       exact ⟨by omega, hk1.2, by rw [wlks_take hi hx.2.2]; exact hk1.1⟩
      ·try simp only
       omega
      ·rfl
      ·rfl
      ·(simp only [go_sem, hS.m2, hS.m6, hS.f2, hS.f6, hS.le, hF.m2, hF.m6, hF.f2, hF.f6, hF.le, ha, w2])
      ·(simp only [go_sem, hS.m2, hS.m6, hS.f2, hS.f6, hS.le, hF.m2, hF.m6, hF.f2, hF.f6, hF.le, ha, w2])
      ·(simp only [go_sem, hS.m2, hS.m6, hS.f2, hS.f6, hS.le, hF.m2, hF.m6, hF.f2, hF.f6, hF.le, ha, w2])
      ·simp only [go_sem, hS.m2, hS.m6, hS.f2, hS.f6, hS.le, hF.m2, hF.m6, hF.f2, hF.f6, hF.le, ha, w2]
      ·rfl
     ·apply Exec.norm
      ·simp only [go_sem, hS.m2, hS.m6, hS.f2, hS.f6, hS.le, hF.m2, hF.m6, hF.f2, hF.f6, hF.le, ha, w2]
       rfl
      apply Exec.regPart 3 1 0 te_ok rfl
      ·intro u' Q hQ
       simp only [go_sem, hS.m2, hS.m6, hS.f2, hS.f6, hS.le, hF.m2, hF.m6, hF.f2, hF.f6, hF.le, ha, w2]
       repeat refine ob2 ?_
       exact hQ
      refine Exec.regEnd ?_
      refine Exec.cond (t := true) rfl ?_
      simp only [reduceIte, Bool.false_eq_true]
      refine sq ?_
      apply Exec.regionL te_ok
      ·intro u' Q hQ
       simp only [go_sem, hS.m2, hS.m6, hS.f2, hS.f6, hS.le, hF.m2, hF.m6, hF.f2, hF.f6, hF.le, ha, w2]
       repeat refine ob2 ?_
       exact hQ
      refine Exec.leave te_ok Tryz.func145 rfl rfl rfl (.inr ⟨_, rfl⟩) rfl rfl hag hdg hd hdN ?_
      apply Exec.norm
      ·simp only [go_sem, hS.m2, hS.m6, hS.f2, hS.f6, hS.le, hF.m2, hF.m6, hF.f2, hF.f6, hF.le, ha, w2]
       rfl
      exact hK2 (by rw [wlk_eq, if_pos ⟨hka0, hkb0⟩]; exact wlks_bad hi hx.2.2 hk1) _
    ·refine Exec.exit rfl ?_
     refine sq ?_
     apply Exec.regionL te_ok
     ·intro u' Q hQ
      simp only [go_sem, hS.m2, hS.m6, hS.f2, hS.f6, hS.le, hF.m2, hF.m6, hF.f2, hF.f6, hF.le]
      repeat refine ob2 ?_
      exact hQ
     refine Exec.leave te_ok Tryz.func145 rfl rfl rfl (.inr ⟨_, rfl⟩) rfl rfl hag hdg hd hdN ?_
     apply Exec.norm
     ·simp only [go_sem, hS.m2, hS.m6, hS.f2, hS.f6, hS.le, hF.m2, hF.m6, hF.f2, hF.f6, hF.le]
      rfl
     exact hK1 n ⟨by rw [wlk_eq, if_pos ⟨hka0, hkb0⟩]; have := hx.2.2; rwa [List.take_of_length_le (by have := of_decide_eq_false h1; omega)] at this, hx.2.1⟩
  ·apply Exec.norm
   ·simp only [go_sem, hS.m2, hS.m6, hS.f2, hS.f6, hS.le, hF.m2, hF.m6, hF.f2, hF.f6, hF.le]
    rfl
   apply Exec.regPart 3 1 0 te_ok rfl
   ·intro u' Q hQ
    simp only [go_sem, hS.m2, hS.m6, hS.f2, hS.f6, hS.le, hF.m2, hF.m6, hF.f2, hF.f6, hF.le]
    repeat refine ob2 ?_
    exact hQ
   refine Exec.regEnd ?_
   refine Exec.cond (t := true) rfl ?_
   simp only [reduceIte, Bool.false_eq_true]
   refine sq ?_
   apply Exec.regionL te_ok
   ·intro u' Q hQ
    simp only [go_sem, hS.m2, hS.m6, hS.f2, hS.f6, hS.le, hF.m2, hF.m6, hF.f2, hF.f6, hF.le]
    repeat refine ob2 ?_
    exact hQ
   refine Exec.leave te_ok Tryz.func145 rfl rfl rfl (.inr ⟨_, rfl⟩) rfl rfl hag hdg hd hdN ?_
   apply Exec.norm
   ·simp only [go_sem, hS.m2, hS.m6, hS.f2, hS.f6, hS.le, hF.m2, hF.m6, hF.f2, hF.f6, hF.le]
    rfl
   exact hK2 (by rw [wlk_eq, if_neg hk0]) _
 apply Exec.norm
 ·simp only [go_sem]
  rfl
 refine Exec.regStart 3 rfl ?_
 apply Exec.regPart 0 2 1 te_ok rfl
 ·intro u' Q hQ
  simp only [go_sem]
  repeat refine ob2 ?_
  exact hQ
 refine wk x hfx 0 (by omega) (m := 0) rfl rfl rfl rfl rfl rfl rfl rfl List.mem_cons_self (by constructor <;> (intros; first | rfl | simp only [go_sem])) (by constructor <;> (intros; first | rfl | simp only [go_sem])) (fun n0 hk0 => ?_) (fun hk0 z0 => ?_)
 ·apply Exec.norm
  ·simp only [go_sem]
   rfl
  refine Exec.regEnd ?_
  refine Exec.rangeEnd 1 (pd := none) Tryz.func144 rfl (.inl rfl) rfl rfl hlo0 hfl0 rfl rfl hN0 hD0 ?_
  apply Exec.norm
  ·simp only [go_sem]
   rfl
  refine Exec.inBlock ?_
  refine sreg te_ok ?_
  refine Exec.retsM hR te_ok rfl (.cons hfr0 .nil) rfl (LeX.le ?_) (.inr ⟨_, rfl⟩)
  simp only [go_sem]
  rw [wlk_right, hk0.1]; rfl
 ·apply Exec.norm
  ·simp only [go_sem]
   rfl
  refine Exec.regEnd ?_
  refine Exec.rangeEnd 1 (pd := (some .ret)) Tryz.func144 rfl (.inl rfl) rfl rfl hlo0 hfl0 rfl rfl hN0 hD0 ?_
  apply Exec.norm
  ·simp only [go_sem]
   rfl
  refine Exec.retsM hR te_ok rfl (.cons hfr0 .nil) rfl (LeX.le ?_) (.inr ⟨_, rfl⟩)
  simp only [go_sem]
  rw [wlk_right, hk0]; rfl
end Go.Proofs.YtonchjamoblioaaGreatDoor
