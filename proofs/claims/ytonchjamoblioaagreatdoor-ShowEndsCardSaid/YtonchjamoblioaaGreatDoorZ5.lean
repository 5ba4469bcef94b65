/- Steps of a function body on data, and contracts of the functions of the seat, walked. -/
import Derived.Test.YtonchjamoblioaaGreatDoorZ4
set_option linter.unusedSimpArgs false
set_option linter.unusedVariables false
set_option linter.unusedSectionVars false
namespace Go.Proofs.YtonchjamoblioaaGreatDoor
open Go.Kin
/-! ### when an expression, an operand, a query is right -/
inductive FitX : Ex → Prop
  | mk {x : Ex} (h1 : x.s.length ≤ 140737488355328) (h2 : x.kids.length ≤ 140737488355328) (h3 : ∀ y ∈ x.kids, FitX y) : FitX x
theorem FitX.s {x : Ex} (h : FitX x) : x.s.length ≤ 140737488355328 := by cases h; assumption
theorem FitX.k {x : Ex} (h : FitX x) : x.kids.length ≤ 140737488355328 := by cases h; assumption
theorem FitX.y {x y : Ex} (h : FitX x) (hy : y ∈ x.kids) : FitX y := by cases h with | mk a b c => exact c y hy
/-- one part of an expression is as it should be -/
def partR (x : Ex) : Bool :=
  if x.k = 1 then (x.kids.length == 0 && freeB x.s)
  else if x.k = 2 ∨ x.k = 3 then (decide (1 < x.kids.length) && x.s == [])
  else if x.k = 4 ∨ x.k = 5 ∨ x.k = 6 then (x.kids.length == 1 && x.s == [])
  else false
mutual
def exOk : Ex → Bool
  | .mk k s ks => partR (.mk k s ks) && exsOk ks
def exsOk : List Ex → Bool
  | [] => true
  | x :: r => exOk x && exsOk r
end
theorem exOk_eq (x : Ex) : exOk x = (partR x && exsOk x.kids) := by cases x; simp [exOk, Ex.kids]
theorem exsOk_app : ∀ (l m : List Ex), exsOk (l ++ m) = (exsOk l && exsOk m)
  | [], m => by simp [exsOk]
  | x :: l, m => by simp [exsOk, exsOk_app l m, Bool.and_assoc]
theorem exsOk_take {l : List Ex} {i : Nat} (h : i < l.length) : exsOk (l.take (i + 1)) = (exsOk (l.take i) && exOk (nth l i)) := by
  rw [take_succ_nth h, exsOk_app]; simp [exsOk]
theorem exsOk_bad : ∀ {l : List Ex} {i : Nat}, i < l.length → exOk (nth l i) = false → exsOk l = false
  | x :: r, 0, _, h => by simp [exsOk]; intro h2; have : exOk x = false := h; rw [h2] at this; cases this
  | x :: r, i + 1, hi, h => by
    have := exsOk_bad (l := r) (i := i) (by simpa using hi) h
    simp [exsOk, this]
def exRight (x : Ex) : Bool := decide (x.size ≤ 24) && exOk x
theorem partR_1 {x : Ex} (h : x.k = 1) : exOk x = (freeB x.s && x.kids.length == 0) := by
  rw [exOk_eq]; unfold partR; rw [if_pos h]
  cases hk : x.kids with
  | nil => simp [exsOk]
  | cons a r => simp
theorem partR_2 {x : Ex} (h : x.k = 2 ∨ x.k = 3) : exOk x = (decide (1 < x.kids.length) && (x.s == [] && exsOk x.kids)) := by
  rw [exOk_eq]; unfold partR; rw [if_neg (by omega), if_pos h, Bool.and_assoc]
theorem partR_4 {x : Ex} (h : x.k = 4 ∨ x.k = 5 ∨ x.k = 6) : exOk x = (x.kids.length == 1 && (x.s == [] && exsOk x.kids)) := by
  rw [exOk_eq]; unfold partR; rw [if_neg (by omega), if_neg (by omega), if_pos h, Bool.and_assoc]
theorem partR_0 {x : Ex} (h : ¬ x.k = 1) (h2 : ¬ (x.k = 2 ∨ x.k = 3)) (h4 : ¬ (x.k = 4 ∨ x.k = 5 ∨ x.k = 6)) : exOk x = false := by
  rw [exOk_eq]; unfold partR; rw [if_neg h, if_neg h2, if_neg h4]; rfl
/-- an operand -/
def opR (o : Opd) : Bool :=
  if o.k = 1 then (freeB o.n && (o.key == [] && (o.vk == 0 && (o.vn == 0 && o.vs == []))))
  else if o.k = 2 then (freeB o.n && (freeB o.key && (o.vk == 0 && (o.vn == 0 && o.vs == []))))
  else if o.k = 3 then (o.n == [] && (o.key == [] && rightV o.vk o.vn o.vs))
  else false
structure FitO (o : Opd) : Prop where
  n : o.n.length ≤ 140737488355328
  key : o.key.length ≤ 140737488355328
  vs : o.vs.length ≤ 140737488355328
def cdR (c : Cd) : Bool := decide (1 ≤ c.op) && (decide (c.op ≤ 6) && (opR c.l && opR c.r))
structure FitC (c : Cd) : Prop where
  l : FitO c.l
  r : FitO c.r
abbrev zEx : Ex := .mk 0 [] []
noncomputable def ptR (p : Pt) : Bool :=
  freeB p.a && (freeB p.z && (if p.path then (p.lab == [] && (p.name == [] && exRight p.e)) else (freeB p.lab && ((p.name == [] || freeB p.name) && decide (p.e = zEx)))))
structure FitP (p : Pt) : Prop where
  a : p.a.length ≤ 140737488355328
  z : p.z.length ≤ 140737488355328
  lab : p.lab.length ≤ 140737488355328
  name : p.name.length ≤ 140737488355328
  e : FitX p.e
  sz : p.e.size ≤ 1000000
noncomputable def quR (q : Qu) : Bool :=
  (decide (1 ≤ q.p.length) && decide (q.p.length ≤ 4)) && (decide (q.c.length ≤ 6) && ((decide (1 ≤ q.r.length) && decide (q.r.length ≤ 4)) &&
  ((decide (1 ≤ q.range) && decide (q.range ≤ 1048576)) && ((decide (1 ≤ q.slide) && decide (q.slide ≤ 1048576)) &&
  (q.p.all ptR && (q.c.all cdR && q.r.all (fun o => o.k != 3 && opR o)))))))
structure FitQ (q : Qu) : Prop where
  p : q.p.length ≤ 140737488355328
  c : q.c.length ≤ 140737488355328
  r : q.r.length ≤ 140737488355328
  pa : ∀ p ∈ q.p, FitP p
  ca : ∀ c ∈ q.c, FitC c
  ra : ∀ o ∈ q.r, FitO o
end Go.Proofs.YtonchjamoblioaaGreatDoor
namespace Go.Proofs.YtonchjamoblioaaGreatDoor
open Go.Kin
set_option maxRecDepth 100000
set_option maxHeartbeats 0
theorem czN (n : Nat) : ((n : Int) == 0) = (n == 0) := by rw [Bool.eq_iff_iff]; simp
theorem c1N (n : Nat) : ((n : Int) == 1) = (n == 1) := by rw [Bool.eq_iff_iff]; simp; omega
theorem l1N (n : Nat) : decide (1 < (n : Int)) = decide (1 < n) := by rw [Bool.eq_iff_iff]; simp; omega
theorem ors {a c : Bool} (h : (bif a then a else c) = true) : a = true ∨ c = true := by cases a <;> simp_all
theorem orsF {a c : Bool} (h : (bif a then a else c) = false) : a = false ∧ c = false := by cases a <;> simp_all
theorem or46 {k : Int} (h : (bif k == 4 then k == 4 else bif k == 5 then k == 5 else k == 6) = true) : k = 4 ∨ k = 5 ∨ k = 6 := by
 rcases ors h with h | h
 ·left; simpa using h
 ·right; simpa using ors h
theorem n46 {k : Int} (h : (bif k == 4 then k == 4 else bif k == 5 then k == 5 else k == 6) = false) : ¬ (k = 4 ∨ k = 5 ∨ k = 6) := by
 have h1 := orsF h
 have h2 := orsF h1.2
 simp at h1 h2; omega
theorem n23 {k : Int} (h : (bif k == 2 then k == 2 else k == 3) = false) : ¬ (k = 2 ∨ k = 3) := by
 have h1 := orsF h
 simp at h1; omega
theorem part_ok (x : Ex) (hs : x.s.length ≤ 140737488355328) (hx0 : x.kids.length ≤ 140737488355328) : FnOK Laid Tryz.prog 76 [exD x] (bv (partR x)) := by
 refine FnOK_of laid_stable Tryz.func76 Tryz.ntmps76 rfl (by as_aux_lemma => kernel_rfl) (Nat.le_of_ble_eq_true rfl) (fun R hR => ?_)
 obtain ⟨_, b, cs, T, C⟩ := R
 obtain rfl : _ = Tryz.prog := hR.p
 have hk := kd_eq x
 refine sq ?_
 apply Exec.regionL te_ok
 ·intro u' Q hQ
  simp only [go_sem, hk, czN, c1N, l1N]
  repeat refine ob2 ?_
  exact hQ
 refine sq ?_
 refine sq ?_
 apply Exec.regionL te_ok
 ·intro u' Q hQ
  simp only [go_sem, hk, czN, c1N, l1N]
  repeat refine ob2 ?_
  exact hQ
 refine sq ?_
 apply Exec.regionL te_ok
 ·intro u' Q hQ
  simp only [go_sem, hk, czN, c1N, l1N]
  repeat refine ob2 ?_
  exact hQ
 refine Exec.block ?_
 refine sq ?_
 apply Exec.regionL te_ok
 ·intro u' Q hQ
  simp only [go_sem, hk, czN, c1N, l1N]
  repeat refine ob2 ?_
  exact hQ
 refine Exec.cond_split rfl (fun h0 => ?_) (fun h0 => ?_)
 ·refine sq ?_
  apply Exec.regionL te_ok
  ·intro u' Q hQ
   simp only [go_sem, hk, czN, c1N, l1N]
   repeat refine ob2 ?_
   refine kcallG hR.inv te_ok rfl rfl rfl rfl rfl rfl ob1 (fun hq => free_ok x.s hs) ?_
   simp only [go_sem, hk, czN, c1N, l1N]
   repeat refine ob2 ?_
   exact hQ
  refine Exec.rets hR te_ok rfl rfl rfl (LeX.le ?_) (.inr ⟨_, rfl⟩)
  simp only [go_sem, partR, czN, c1N, l1N]
  simp_all
 ·refine sq ?_
  refine sq ?_
  apply Exec.regionL te_ok
  ·intro u' Q hQ
   simp only [go_sem, hk, czN, c1N, l1N]
   repeat refine ob2 ?_
   exact hQ
  apply Exec.join [1, 3, 8, 18] rfl
  case hx =>
   intro h1 hK
   refine sk ?_
   exact hK
  case hy =>
   intro h1 hK
   apply Exec.regionL te_ok
   ·intro u' Q hQ
    simp only [go_sem, hk, czN, c1N, l1N]
    repeat refine ob2 ?_
    exact hQ
   exact hK
  case hN => rfl
  case hdf => rfl
  case hF => simp only [go_sem]
  case hP => rfl
  apply Exec.norm
  ·simp only [go_sem, hk, czN, c1N, l1N]
   rfl
  refine Exec.cond_split rfl (fun h2 => ?_) (fun h2 => ?_)
  ·refine sq ?_
   apply Exec.regionL te_ok
   ·intro u' Q hQ
    simp only [go_sem, hk, czN, c1N, l1N]
    repeat refine ob2 ?_
    exact hQ
   refine Exec.rets hR te_ok rfl rfl rfl (LeX.le ?_) (.inr ⟨_, rfl⟩)
   simp only [go_sem, partR, czN, c1N, l1N]
   simp_all
  ·refine sq ?_
   refine sq ?_
   apply Exec.regionL te_ok
   ·intro u' Q hQ
    simp only [go_sem, hk, czN, c1N, l1N]
    repeat refine ob2 ?_
    exact hQ
   apply Exec.join [1, 3, 28] rfl
   case hx =>
    intro h3 hK
    refine sk ?_
    exact hK
   case hy =>
    intro h3 hK
    refine sq ?_
    apply Exec.regionL te_ok
    ·intro u' Q hQ
     simp only [go_sem, hk, czN, c1N, l1N]
     repeat refine ob2 ?_
     exact hQ
    apply Exec.join [1, 3, 28] rfl
    case hx =>
     intro h4 hK
     refine sk ?_
     exact hK
    case hy =>
     intro h4 hK
     apply Exec.regionL te_ok
     ·intro u' Q hQ
      simp only [go_sem, hk, czN, c1N, l1N]
      repeat refine ob2 ?_
      exact hQ
     exact hK
    case hN => rfl
    case hdf => rfl
    case hF => simp only [go_sem]
    case hP => rfl
    apply Exec.norm
    ·simp only [go_sem, hk, czN, c1N, l1N]
     rfl
    exact hK
   case hN => rfl
   case hdf => rfl
   case hF => simp only [go_sem]
   case hP => rfl
   apply Exec.norm
   ·simp only [go_sem, hk, czN, c1N, l1N]
    rfl
   refine Exec.cond_split rfl (fun h5 => ?_) (fun h5 => ?_)
   ·refine sq ?_
    apply Exec.regionL te_ok
    ·intro u' Q hQ
     simp only [go_sem, hk, czN, c1N, l1N]
     repeat refine ob2 ?_
     exact hQ
    refine Exec.rets hR te_ok rfl rfl rfl (LeX.le ?_) (.inr ⟨_, rfl⟩)
    simp only [go_sem, partR, czN, c1N, l1N]
    simp_all
   ·refine sk ?_
    refine Exec.inBlock ?_
    refine sq ?_
    apply Exec.regionL te_ok
    ·intro u' Q hQ
     simp only [go_sem, hk, czN, c1N, l1N]
     repeat refine ob2 ?_
     exact hQ
    refine Exec.rets hR te_ok rfl rfl rfl (LeX.le ?_) (.inr ⟨_, rfl⟩)
    simp only [go_sem, partR, czN, c1N, l1N]
    simp_all
theorem rpart_step (x : Ex) (hfx : FitX x) (ihx : ∀ y ∈ x.kids, FnOK Laid Tryz.prog 97 [exD y] (bv (exOk y))) : FnOK Laid Tryz.prog 97 [exD x] (bv (exOk x)) := by
 refine FnOK_of laid_stable Tryz.func97 Tryz.ntmps97 rfl (by as_aux_lemma => kernel_rfl) (Nat.le_of_ble_eq_true rfl) (fun R hR => ?_)
 obtain ⟨_, b, cs, T, C⟩ := R
 obtain rfl : _ = Tryz.prog := hR.p
 have hk := kd_eq x
 have hs := hfx.s
 have hx0 := hfx.k
 refine sq ?_
 apply Exec.regionL te_ok
 ·intro u' Q hQ
  simp only [go_sem, hk]
  repeat refine ob2 ?_
  exact hQ
 refine sq ?_
 refine sq ?_
 apply Exec.regionL te_ok
 ·intro u' Q hQ
  simp only [go_sem, hk]
  repeat refine ob2 ?_
  exact hQ
 refine Exec.block ?_
 refine sq ?_
 apply Exec.regionL te_ok
 ·intro u' Q hQ
  simp only [go_sem, hk]
  repeat refine ob2 ?_
  exact hQ
 refine Exec.cond_split rfl (fun h0 => ?_) (fun h0 => ?_)
 ·refine sq ?_
  apply Exec.regionL te_ok
  ·intro u' Q hQ
   simp only [go_sem, hk]
   repeat refine ob2 ?_
   refine kcall hR.inv te_ok rfl rfl rfl rfl rfl rfl (r2free_ok x.s hs) ?_
   simp only [go_sem, hk]
   repeat refine ob2 ?_
   exact hQ
  refine Exec.rets hR te_ok rfl rfl rfl (LeX.le ?_) (.inr ⟨_, rfl⟩)
  simp only [go_sem]
  rw [partR_1 (by simpa using h0), ← czN]
 ·refine sq ?_
  refine sq ?_
  apply Exec.regionL te_ok
  ·intro u' Q hQ
   simp only [go_sem, hk]
   repeat refine ob2 ?_
   exact hQ
  apply Exec.join [1, 5, 17] rfl
  case hx =>
   intro h1 hK
   refine sk ?_
   exact hK
  case hy =>
   intro h1 hK
   apply Exec.regionL te_ok
   ·intro u' Q hQ
    simp only [go_sem, hk]
    repeat refine ob2 ?_
    exact hQ
   exact hK
  case hN => rfl
  case hdf => rfl
  case hF => simp only [go_sem]
  case hP => rfl
  apply Exec.norm
  ·simp only [go_sem, hk]
   rfl
  refine Exec.cond_split rfl (fun h2 => ?_) (fun h2 => ?_)
  ·have hk2 : x.k = 2 ∨ x.k = 3 := by simpa using ors h2
   refine sq ?_
   apply Exec.regionL te_ok
   ·intro u' Q hQ
    simp only [go_sem, hk]
    repeat refine ob2 ?_
    exact hQ
   refine Exec.cond_split rfl (fun h3 => ?_) (fun h3 => ?_)
   ·refine sq ?_
    apply Exec.regionL te_ok
    ·intro u' Q hQ
     simp only [go_sem, hk]
     repeat refine ob2 ?_
     exact hQ
    refine Exec.rets hR te_ok rfl rfl rfl (LeX.le ?_) (.inr ⟨_, rfl⟩)
    simp only [go_sem]
    rw [partR_2 hk2, decide_eq_false (by simp at h3; omega)]; rfl
   ·refine sk ?_
    refine Exec.inBlock ?_
    refine sq ?_
    refine sq ?_
    apply Exec.regionL te_ok
    ·intro u' Q hQ
     simp only [go_sem, hk]
     repeat refine ob2 ?_
     exact hQ
    refine Exec.block ?_
    apply Exec.loopU [1] (X := Nat) (fun i => [(3, .d (iv i))]) (fun i => []) (fun i => []) (fun i => x.kids.length - i) (fun i => i ≤ x.kids.length ∧ exsOk (x.kids.take i) = true) 0
    case h0 =>
     simp [exsOk]
    case hw =>
     simp only [go_sem, hk]
    case body =>
     rintro i hx ih0
     try simp only at hx
     apply Exec.norm
     ·simp only [go_sem, hk]
      rfl
     refine sq ?_
     refine sq ?_
     apply Exec.regionL te_ok
     ·intro u' Q hQ
      simp only [go_sem, hk]
      repeat refine ob2 ?_
      exact hQ
     refine Exec.cond_split rfl (fun h4 => ?_) (fun h4 => ?_)
     ·have hi : i < x.kids.length := by have := of_decide_eq_true h4; omega
      have ha := kdR_at hi
      have w2 : IntKind.i64.wrap ((i : Int) + 1) = ((i + 1 : Nat) : Int) := by rw [wrap_id (by omega)]; omega
      refine sk ?_
      refine sq ?_
      refine Exec.block ?_
      refine sq ?_
      apply Exec.regionL te_ok
      ·intro u' Q hQ
       simp only [go_sem, hk, ha, w2]
       repeat refine ob2 ?_
       refine kcall hR.inv te_ok rfl rfl rfl rfl rfl rfl (ihx _ (nth_mem hi)) ?_
       simp only [go_sem, hk, ha, w2]
       repeat refine ob2 ?_
       exact hQ
      refine Exec.cond_split rfl (fun h5 => ?_) (fun h5 => ?_)
      ·refine sq ?_
       apply Exec.regionL te_ok
       ·intro u' Q hQ
        simp only [go_sem, hk, ha, w2]
        repeat refine ob2 ?_
        exact hQ
       refine Exec.rets hR te_ok rfl rfl rfl (LeX.le ?_) (.inr ⟨_, rfl⟩)
       simp only [go_sem]
       rw [partR_2 hk2, exsOk_bad hi (by simpa using h5)]; simp
      ·refine sk ?_
       refine Exec.inBlock ?_
       apply Exec.regionL te_ok
       ·intro u' Q hQ
        simp only [go_sem, hk, ha, w2]
        repeat refine ob2 ?_
        exact hQ
       refine Exec.back (ih0 (i + 1) ?_ ?_) ?_ ?_ ?_ ?_ ?_ ?_ ?_
       ·try simp only
        exact ⟨by omega, by rw [exsOk_take hi, hx.2]; simpa using h5⟩
       ·try simp only
        omega
       ·rfl
       ·rfl
       ·(simp only [go_sem, hk, ha, w2])
       ·(simp only [go_sem, hk, ha, w2])
       ·(simp only [go_sem, hk, ha, w2])
       ·simp only [go_sem, hk, ha, w2]
       ·rfl
     ·refine Exec.exit rfl ?_
      refine sq ?_
      apply Exec.regionL te_ok
      ·intro u' Q hQ
       simp only [go_sem, hk]
       repeat refine ob2 ?_
       exact hQ
      refine Exec.rets hR te_ok rfl rfl rfl (LeX.le ?_) (.inr ⟨_, rfl⟩)
      simp only [go_sem]
      rw [partR_2 hk2, decide_eq_true (by simp at h3; omega), show exsOk x.kids = true from by have := hx.2; rwa [List.take_of_length_le (by have := of_decide_eq_false h4; omega)] at this]; simp
  ·refine sq ?_
   refine sq ?_
   apply Exec.regionL te_ok
   ·intro u' Q hQ
    simp only [go_sem, hk]
    repeat refine ob2 ?_
    exact hQ
   apply Exec.join [1, 24] rfl
   case hx =>
    intro h6 hK
    refine sk ?_
    exact hK
   case hy =>
    intro h6 hK
    refine sq ?_
    apply Exec.regionL te_ok
    ·intro u' Q hQ
     simp only [go_sem, hk]
     repeat refine ob2 ?_
     exact hQ
    apply Exec.join [1, 24] rfl
    case hx =>
     intro h7 hK
     refine sk ?_
     exact hK
    case hy =>
     intro h7 hK
     apply Exec.regionL te_ok
     ·intro u' Q hQ
      simp only [go_sem, hk]
      repeat refine ob2 ?_
      exact hQ
     exact hK
    case hN => rfl
    case hdf => rfl
    case hF => simp only [go_sem]
    case hP => rfl
    apply Exec.norm
    ·simp only [go_sem, hk]
     rfl
    exact hK
   case hN => rfl
   case hdf => rfl
   case hF => simp only [go_sem]
   case hP => rfl
   apply Exec.norm
   ·simp only [go_sem, hk]
    rfl
   refine Exec.cond_split rfl (fun h8 => ?_) (fun h8 => ?_)
   ·have hk4 := or46 h8
    refine sq ?_
    apply Exec.regionL te_ok
    ·intro u' Q hQ
     simp only [go_sem, hk]
     repeat refine ob2 ?_
     exact hQ
    refine Exec.cond_split rfl (fun h9 => ?_) (fun h9 => ?_)
    ·refine sq ?_
     apply Exec.regionL te_ok
     ·intro u' Q hQ
      simp only [go_sem, hk]
      repeat refine ob2 ?_
      exact hQ
     refine Exec.rets hR te_ok rfl rfl rfl (LeX.le ?_) (.inr ⟨_, rfl⟩)
     simp only [go_sem]
     rw [partR_4 hk4, show (x.kids.length == 1) = false from by simp at h9 ⊢; omega]; rfl
    ·refine sk ?_
     refine Exec.inBlock ?_
     refine sq ?_
     refine sq ?_
     apply Exec.regionL te_ok
     ·intro u' Q hQ
      simp only [go_sem, hk]
      repeat refine ob2 ?_
      exact hQ
     refine Exec.block ?_
     apply Exec.loopU [1] (X := Nat) (fun i => [(3, .d (iv i))]) (fun i => []) (fun i => []) (fun i => x.kids.length - i) (fun i => i ≤ x.kids.length ∧ exsOk (x.kids.take i) = true) 0
     case h0 =>
      simp [exsOk]
     case hw =>
      simp only [go_sem, hk]
     case body =>
      rintro i hx ih1
      try simp only at hx
      apply Exec.norm
      ·simp only [go_sem, hk]
       rfl
      refine sq ?_
      refine sq ?_
      apply Exec.regionL te_ok
      ·intro u' Q hQ
       simp only [go_sem, hk]
       repeat refine ob2 ?_
       exact hQ
      refine Exec.cond_split rfl (fun h10 => ?_) (fun h10 => ?_)
      ·have hi : i < x.kids.length := by have := of_decide_eq_true h10; omega
       have ha := kdR_at hi
       have w2 : IntKind.i64.wrap ((i : Int) + 1) = ((i + 1 : Nat) : Int) := by rw [wrap_id (by omega)]; omega
       refine sk ?_
       refine sq ?_
       refine Exec.block ?_
       refine sq ?_
       apply Exec.regionL te_ok
       ·intro u' Q hQ
        simp only [go_sem, hk, ha, w2]
        repeat refine ob2 ?_
        refine kcall hR.inv te_ok rfl rfl rfl rfl rfl rfl (ihx _ (nth_mem hi)) ?_
        simp only [go_sem, hk, ha, w2]
        repeat refine ob2 ?_
        exact hQ
       refine Exec.cond_split rfl (fun h11 => ?_) (fun h11 => ?_)
       ·refine sq ?_
        apply Exec.regionL te_ok
        ·intro u' Q hQ
         simp only [go_sem, hk, ha, w2]
         repeat refine ob2 ?_
         exact hQ
        refine Exec.rets hR te_ok rfl rfl rfl (LeX.le ?_) (.inr ⟨_, rfl⟩)
        simp only [go_sem]
        rw [partR_4 hk4, exsOk_bad hi (by simpa using h11)]; simp
       ·refine sk ?_
        refine Exec.inBlock ?_
        apply Exec.regionL te_ok
        ·intro u' Q hQ
         simp only [go_sem, hk, ha, w2]
         repeat refine ob2 ?_
         exact hQ
        refine Exec.back (ih1 (i + 1) ?_ ?_) ?_ ?_ ?_ ?_ ?_ ?_ ?_
        ·try simp only
         exact ⟨by omega, by rw [exsOk_take hi, hx.2]; simpa using h11⟩
        ·try simp only
         omega
        ·rfl
        ·rfl
        ·(simp only [go_sem, hk, ha, w2])
        ·(simp only [go_sem, hk, ha, w2])
        ·(simp only [go_sem, hk, ha, w2])
        ·simp only [go_sem, hk, ha, w2]
        ·rfl
      ·refine Exec.exit rfl ?_
       refine sq ?_
       apply Exec.regionL te_ok
       ·intro u' Q hQ
        simp only [go_sem, hk]
        repeat refine ob2 ?_
        exact hQ
       refine Exec.rets hR te_ok rfl rfl rfl (LeX.le ?_) (.inr ⟨_, rfl⟩)
       simp only [go_sem]
       rw [partR_4 hk4, show (x.kids.length == 1) = true from by simp at h9 ⊢; omega, show exsOk x.kids = true from by have := hx.2; rwa [List.take_of_length_le (by have := of_decide_eq_false h10; omega)] at this]; simp
   ·refine sq ?_
    apply Exec.regionL te_ok
    ·intro u' Q hQ
     simp only [go_sem, hk]
     repeat refine ob2 ?_
     exact hQ
    refine Exec.rets hR te_ok rfl rfl rfl (LeX.le ?_) (.inr ⟨_, rfl⟩)
    simp only [go_sem]
    rw [partR_0 (by simpa using h0) (n23 h2) (n46 h8)]
theorem rpart_ok (x : Ex) (hfx : FitX x) : FnOK Laid Tryz.prog 97 [exD x] (bv (exOk x)) := by
 refine Ex.ind (p := fun x => FitX x → FnOK Laid Tryz.prog 97 [exD x] (bv (exOk x))) (fun x ih h => rpart_step x h fun y hy => ih y hy (h.y hy)) x hfx
theorem r7right_ok (x : Ex) (hfx : FitX x) (hx0 : x.size ≤ 1000000) : FnOK Laid Tryz.prog 49 [exD x] (bv (exRight x)) := by
 refine FnOK_of laid_stable Tryz.func49 Tryz.ntmps49 rfl (by as_aux_lemma => kernel_rfl) (Nat.le_of_ble_eq_true rfl) (fun R hR => ?_)
 obtain ⟨_, b, cs, T, C⟩ := R
 obtain rfl : _ = Tryz.prog := hR.p
 refine sreg te_ok ?_
 refine sq ?_
 apply Exec.regionL te_ok
 ·intro u' Q hQ
  simp only [go_sem]
  repeat refine ob2 ?_
  refine kcall hR.inv te_ok rfl rfl rfl rfl rfl rfl (rsize_ok x hx0) ?_
  simp only [go_sem]
  repeat refine ob2 ?_
  refine kcallG hR.inv te_ok rfl rfl rfl rfl rfl rfl ob1 (fun hq => rpart_ok x hfx) ?_
  simp only [go_sem]
  repeat refine ob2 ?_
  exact hQ
 refine Exec.rets hR te_ok rfl rfl rfl (LeX.le ?_) (.inr ⟨_, rfl⟩)
 simp only [go_sem, exRight]
 have : decide ((x.size : Int) ≤ 24) = decide (x.size ≤ 24) := by rw [Bool.eq_iff_iff]; simp; omega
 rw [this]
theorem r7same_step (x y : Ex) (hx0 : x.kids.length ≤ 140737488355328) (ihx : ∀ x2 ∈ x.kids, ∀ y, FnOK Laid Tryz.prog 150 [exD x2, exD y] (bv (decide (x2 = y)))) : FnOK Laid Tryz.prog 150 [exD x, exD y] (bv (decide (x = y))) := by
 refine FnOK_of laid_stable Tryz.func150 Tryz.ntmps150 rfl (by as_aux_lemma => kernel_rfl) (Nat.le_of_ble_eq_true rfl) (fun R hR => ?_)
 obtain ⟨_, b, cs, T, C⟩ := R
 obtain rfl : _ = Tryz.prog := hR.p
 have hk := kd_eq x
 have hk2 := kd_eq y
 refine sq ?_
 apply Exec.regionL te_ok
 ·intro u' Q hQ
  simp only [go_sem, hk, hk2]
  repeat refine ob2 ?_
  exact hQ
 refine sq ?_
 refine sq ?_
 apply Exec.regionL te_ok
 ·intro u' Q hQ
  simp only [go_sem, hk, hk2]
  repeat refine ob2 ?_
  exact hQ
 refine Exec.cond_split rfl (fun h0 => ?_) (fun h0 => ?_)
 ·refine sq ?_
  apply Exec.regionL te_ok
  ·intro u' Q hQ
   simp only [go_sem, hk, hk2]
   repeat refine ob2 ?_
   exact hQ
  refine Exec.rets hR te_ok rfl rfl rfl (LeX.le ?_) (.inr ⟨_, rfl⟩)
  simp only [go_sem]
  have : x ≠ y := fun e => by subst e; simp at h0
  simp [this]
 ·have hlm : x.k = y.k ∧ x.s = y.s ∧ x.kids.length = y.kids.length := by simp at h0; exact ⟨h0.1.1, h0.1.2, by omega⟩
  obtain ⟨he1, he2, hlm⟩ := hlm
  refine sk ?_
  refine sq ?_
  refine sq ?_
  apply Exec.regionL te_ok
  ·intro u' Q hQ
   simp only [go_sem, hk, hk2]
   repeat refine ob2 ?_
   exact hQ
  refine Exec.block ?_
  apply Exec.loopU [2, 3] (X := Nat) (fun i => [(5, .d (iv i))]) (fun i => []) (fun i => []) (fun i => x.kids.length - i) (fun i => i ≤ x.kids.length ∧ x.kids.take i = y.kids.take i) 0
  case h0 =>
   simp
  case hw =>
   simp only [go_sem, hk, hk2]
  case body =>
   rintro i hx ih0
   try simp only at hx
   apply Exec.norm
   ·simp only [go_sem, hk, hk2]
    rfl
   refine sq ?_
   refine sq ?_
   apply Exec.regionL te_ok
   ·intro u' Q hQ
    simp only [go_sem, hk, hk2]
    repeat refine ob2 ?_
    exact hQ
   refine Exec.cond_split rfl (fun h1 => ?_) (fun h1 => ?_)
   ·have hi : i < x.kids.length := by simp at h1; omega
    have ha := kdR_at hi
    have ha2 := kdR_at (show i < y.kids.length by omega)
    have w2 : IntKind.i64.wrap ((i : Int) + 1) = ((i + 1 : Nat) : Int) := by rw [wrap_id (by omega)]; omega
    refine sk ?_
    refine sq ?_
    refine Exec.block ?_
    refine sq ?_
    apply Exec.draw (st := _) 13 12 [] [] te_ok (by as_aux_lemma => kernel_rfl) (by as_aux_lemma => kernel_rfl) (by as_aux_lemma => kernel_rfl)
    ·intro u' Q hQ
     simp only [go_sem, hk, hk2, ha, ha2, w2]
     repeat refine ob2 ?_
     refine kdcall hR.inv te_ok rfl rfl rfl rfl rfl rfl (ihx _ (nth_mem hi) _) ?_
     simp only [go_sem, hk, hk2, ha, ha2, w2]
     repeat refine ob2 ?_
     exact hQ
    refine Exec.cond_split rfl (fun h2 => ?_) (fun h2 => ?_)
    ·refine sq ?_
     apply Exec.regionL te_ok
     ·intro u' Q hQ
      simp only [go_sem, hk, hk2, ha, ha2, w2]
      repeat refine ob2 ?_
      exact hQ
     refine Exec.rets hR te_ok rfl rfl rfl (LeX.le ?_) (.inr ⟨_, rfl⟩)
     simp only [go_sem]
     have : x ≠ y := fun e => by subst e; simp at h2
     simp [this]
    ·refine sk ?_
     refine Exec.inBlock ?_
     apply Exec.regionL te_ok
     ·intro u' Q hQ
      simp only [go_sem, hk, hk2, ha, ha2, w2]
      repeat refine ob2 ?_
      exact hQ
     refine Exec.back (ih0 (i + 1) ?_ ?_) ?_ ?_ ?_ ?_ ?_ ?_ ?_
     ·try simp only
      exact ⟨by omega, (same_step hlm hi hx.2).2 (by simpa using h2)⟩
     ·try simp only
      omega
     ·rfl
     ·rfl
     ·(simp only [go_sem, hk, hk2, ha, ha2, w2])
     ·(simp only [go_sem, hk, hk2, ha, ha2, w2])
     ·(simp only [go_sem, hk, hk2, ha, ha2, w2])
     ·simp only [go_sem, hk, hk2, ha, ha2, w2]
     ·rfl
   ·refine Exec.exit rfl ?_
    refine sq ?_
    apply Exec.regionL te_ok
    ·intro u' Q hQ
     simp only [go_sem, hk, hk2]
     repeat refine ob2 ?_
     exact hQ
    refine Exec.rets hR te_ok rfl rfl rfl (LeX.le ?_) (.inr ⟨_, rfl⟩)
    simp only [go_sem]
    have : x = y := Ex.ext he1 he2 (by have := hx.2; simp at h1; rw [List.take_of_length_le (by omega), List.take_of_length_le (by omega)] at this; exact this)
    simp [this]
theorem r7same_ok (x y : Ex) (hfx : FitX x) : FnOK Laid Tryz.prog 150 [exD x, exD y] (bv (decide (x = y))) := by
 refine Ex.ind (p := fun x => FitX x → ∀ y, FnOK Laid Tryz.prog 150 [exD x, exD y] (bv (decide (x = y)))) (fun x ih h y => r7same_step x y h.k fun x2 h2 => ih x2 h2 (h.y h2)) x hfx y
theorem eqf_ok (l m : List Ex) (hl : l.length ≤ 140737488355328) (ihx : ∀ x ∈ l, ∀ y, FnOK Laid Tryz.prog 37 [exD x, exD y] (bv (decide (x = y)))) : FnOK Laid Tryz.prog 77 [exsD l, exsD m, .fn 37 []] (bv (decide (l = m))) := by
 refine FnOK_of laid_stable Tryz.func77 Tryz.ntmps77 rfl (by as_aux_lemma => kernel_rfl) (Nat.le_of_ble_eq_true rfl) (fun R hR => ?_)
 obtain ⟨_, b, cs, T, C⟩ := R
 obtain rfl : _ = Tryz.prog := hR.p
 refine sreg te_ok ?_
 refine sq ?_
 refine sreg te_ok ?_
 refine Exec.cond_split rfl (fun h0 => ?_) (fun h0 => ?_)
 ·refine sreg te_ok ?_
  refine Exec.rets hR te_ok rfl rfl rfl (LeX.le ?_) (.inr ⟨_, rfl⟩)
  simp only [go_sem]
  have : l ≠ m := fun e => by subst e; simp at h0
  simp [this]
 ·have hlm : l.length = m.length := by simp at h0; omega
  refine sk ?_
  refine sq ?_
  refine sreg te_ok ?_
  refine Exec.block ?_
  apply Exec.loopU [1, 2, 15, 16] (X := Nat) (fun i => [(17, .d (iv i))]) (fun i => []) (fun i => []) (fun i => l.length - i) (fun i => i ≤ l.length ∧ l.take i = m.take i) 0
  case h0 =>
   simp
  case hw =>
   simp only [go_sem]
  case body =>
   rintro i hx ih0
   try simp only at hx
   apply Exec.norm
   ·simp only [go_sem]
    rfl
   refine sreg te_ok ?_
   refine sq ?_
   refine Exec.cond_split rfl (fun h1 => ?_) (fun h1 => ?_)
   ·have hi : i < l.length := by simp at h1; omega
    have ha := kdR_at hi
    have ha2 := kdR_at (show i < m.length by omega)
    have w2 : IntKind.i64.wrap ((i : Int) + 1) = ((i + 1 : Nat) : Int) := by rw [wrap_id (by omega)]; omega
    refine sk ?_
    refine sq ?_
    refine Exec.block ?_
    refine sq ?_
    apply Exec.regionL te_ok
    ·intro u' Q hQ
     simp only [go_sem, ha, ha2, w2]
     repeat refine ob2 ?_
     exact hQ
    refine sq ?_
    apply Exec.regionL te_ok
    ·intro u' Q hQ
     simp only [go_sem, ha, ha2, w2]
     repeat refine ob2 ?_
     exact hQ
    refine sq ?_
    apply Exec.regionL te_ok
    ·intro u' Q hQ
     simp only [go_sem, ha, ha2, w2]
     repeat refine ob2 ?_
     refine kcall hR.inv te_ok rfl rfl rfl rfl rfl rfl (ihx _ (nth_mem hi) _) ?_
     simp only [go_sem, ha, ha2, w2]
     repeat refine ob2 ?_
     exact hQ
    refine Exec.cond_split rfl (fun h2 => ?_) (fun h2 => ?_)
    ·refine sq ?_
     apply Exec.regionL te_ok
     ·intro u' Q hQ
      simp only [go_sem, ha, ha2, w2]
      repeat refine ob2 ?_
      exact hQ
     refine Exec.rets hR te_ok rfl rfl rfl (LeX.le ?_) (.inr ⟨_, rfl⟩)
     simp only [go_sem]
     have : l ≠ m := fun e => by subst e; simp at h2
     simp [this]
    ·refine sk ?_
     refine Exec.inBlock ?_
     apply Exec.regionL te_ok
     ·intro u' Q hQ
      simp only [go_sem, ha, ha2, w2]
      repeat refine ob2 ?_
      exact hQ
     refine Exec.back (ih0 (i + 1) ?_ ?_) ?_ ?_ ?_ ?_ ?_ ?_ ?_
     ·try simp only
      exact ⟨by omega, (same_step hlm hi hx.2).2 (by simpa using h2)⟩
     ·try simp only
      omega
     ·rfl
     ·rfl
     ·(simp only [go_sem, ha, ha2, w2])
     ·(simp only [go_sem, ha, ha2, w2])
     ·(simp only [go_sem, ha, ha2, w2])
     ·simp only [go_sem, ha, ha2, w2]
     ·rfl
   ·refine Exec.exit rfl ?_
    refine sreg te_ok ?_
    refine Exec.rets hR te_ok rfl rfl rfl (LeX.le ?_) (.inr ⟨_, rfl⟩)
    simp only [go_sem]
    have : l = m := by have := hx.2; simp at h1; rw [List.take_of_length_le (by omega), List.take_of_length_le (by omega)] at this; exact this
    simp [this]
theorem xsame_step (x y : Ex) (hx0 : x.kids.length ≤ 140737488355328) (ihx : ∀ x2 ∈ x.kids, ∀ y, FnOK Laid Tryz.prog 37 [exD x2, exD y] (bv (decide (x2 = y)))) : FnOK Laid Tryz.prog 37 [exD x, exD y] (bv (decide (x = y))) := by
 refine FnOK_of laid_stable Tryz.func37 Tryz.ntmps37 rfl (by as_aux_lemma => kernel_rfl) (Nat.le_of_ble_eq_true rfl) (fun R hR => ?_)
 obtain ⟨_, b, cs, T, C⟩ := R
 obtain rfl : _ = Tryz.prog := hR.p
 have hk := kd_eq x
 have hk2 := kd_eq y
 refine sq ?_
 apply Exec.regionL te_ok
 ·intro u' Q hQ
  simp only [go_sem, hk, hk2]
  repeat refine ob2 ?_
  exact hQ
 refine sq ?_
 apply Exec.regionL te_ok
 ·intro u' Q hQ
  simp only [go_sem, hk, hk2]
  repeat refine ob2 ?_
  refine kcallG hR.inv te_ok rfl rfl rfl rfl rfl rfl ob1 (fun hq => eqf_ok x.kids y.kids hx0 ihx) ?_
  simp only [go_sem, hk, hk2]
  repeat refine ob2 ?_
  exact hQ
 refine Exec.rets hR te_ok rfl rfl rfl (LeX.le ?_) (.inr ⟨_, rfl⟩)
 simp only [go_sem]
 rw [← ex_eq]
 cases (x.k == y.k) <;> cases (x.s == y.s) <;> simp
theorem xsame_ok (x y : Ex) (hfx : FitX x) : FnOK Laid Tryz.prog 37 [exD x, exD y] (bv (decide (x = y))) := by
 refine Ex.ind (p := fun x => FitX x → ∀ y, FnOK Laid Tryz.prog 37 [exD x, exD y] (bv (decide (x = y)))) (fun x ih h y => xsame_step x y h.k fun x2 h2 => ih x2 h2 (h.y h2)) x hfx y
end Go.Proofs.YtonchjamoblioaaGreatDoor
