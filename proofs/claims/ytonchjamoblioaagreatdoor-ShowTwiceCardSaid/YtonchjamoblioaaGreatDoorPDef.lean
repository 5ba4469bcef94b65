/- Steps of a function body on data, and contracts of the functions of the seat, walked. -/
import Derived.Test.YtonchjamoblioaaGreatDoorZ6
import Derived.Test.YtonchjamoblioaaGreatDoorKPan
set_option linter.unusedSimpArgs false
set_option linter.unusedVariables false
set_option linter.unusedSectionVars false
namespace Go.Proofs.YtonchjamoblioaaGreatDoor
open Go.Kin
set_option maxRecDepth 100000
set_option maxHeartbeats 0
theorem isE_app (x y : List UInt8) : (x ++ y).isEmpty = (x.isEmpty && y.isEmpty) := by cases x <;> simp
theorem mgD_kd (c : Bool) (x : Ex) : mgD c (kdX x) (kdX x) = some (kdX x) := by rw [kd_eq]; cases c <;> simp [mgD]
attribute [go_sem ↓] mgD_kd
theorem xsame_z (x : Ex) (hfx : FitX x) : FnOK Laid Tryz.prog 37 [exD x, .ag [.v (.int .i64 0), .v (.string (mkS [])), .v (.slice none 0 0)]] (bv (decide (x = zEx))) :=
 FnOK.args (xsame_ok x zEx hfx) ⟨LeD.refl _, LeD.ag ⟨LeD.refl _, LeD.refl _, by rw [kd_eq]; exact LeD.nil 3 _, trivial⟩, trivial⟩
theorem between_ok (n u v : Int) : FnOK Laid Tryz.prog 68 [iv n, iv u, iv v] (bv (decide (u ≤ n) && decide (n ≤ v))) := by
 refine FnOK_of laid_stable Tryz.func68 Tryz.ntmps68 rfl (by as_aux_lemma => kernel_rfl) (Nat.le_of_ble_eq_true rfl) (fun R hR => ?_)
 obtain ⟨_, b, cs, T, C⟩ := R
 obtain rfl : _ = Tryz.prog := hR.p
 refine sreg te_ok ?_
 refine sreg te_ok ?_
 refine Exec.rets hR te_ok rfl rfl rfl (LeX.le ?_) (.inr ⟨_, rfl⟩)
 simp only [go_sem]
theorem xop_ok (o : Opd) (hfo : FitO o) : FnOK Laid Tryz.prog 141 [opD o] (bv (opR o)) := by
 refine FnOK_of laid_stable Tryz.func141 Tryz.ntmps141 rfl (by as_aux_lemma => kernel_rfl) (Nat.le_of_ble_eq_true rfl) (fun R hR => ?_)
 obtain ⟨_, b, cs, T, C⟩ := R
 obtain rfl : _ = Tryz.prog := hR.p
 have hvs := hfo.vs
 refine sreg te_ok ?_
 refine sq ?_
 apply Exec.regionL te_ok
 ·intro u' Q hQ
  simp only [go_sem]
  repeat refine ob2 ?_
  refine kcall hR.inv te_ok rfl rfl rfl rfl rfl rfl (free_ok o.n hfo.n) ?_
  simp only [go_sem]
  repeat refine ob2 ?_
  exact hQ
 refine sreg te_ok ?_
 refine sq ?_
 refine sreg te_ok ?_
 refine Exec.block ?_
 refine sreg te_ok ?_
 refine Exec.cond_split rfl (fun h0 => ?_) (fun h0 => ?_)
 ·refine Exec.reg te_ok ?_
  refine Exec.inBlock ?_
  refine sreg te_ok ?_
  refine Exec.rets hR te_ok rfl rfl rfl (LeX.le ?_) (.inr ⟨_, rfl⟩)
  simp only [go_sem, opR]
  first | (simp_all [Bool.and_assoc]; done) | (simp_all; cases rightV o.vk o.vn o.vs <;> simp)
 ·refine sreg te_ok ?_
  refine Exec.cond_split rfl (fun h1 => ?_) (fun h1 => ?_)
  ·refine sq ?_
   apply Exec.draw (st := _) 9 5 [] [2, 3, 100001] te_ok (by as_aux_lemma => kernel_rfl) (by as_aux_lemma => kernel_rfl) (by as_aux_lemma => kernel_rfl)
   ·intro u' Q hQ
    simp only [go_sem]
    repeat refine ob2 ?_
    exact hQ
   apply Exec.regionL te_ok
   ·intro u' Q hQ
    simp only [go_sem]
    repeat refine ob2 ?_
    refine kcallG hR.inv te_ok rfl rfl rfl rfl rfl rfl ob1 (fun hq => free_ok o.key hfo.key) ?_
    simp only [go_sem]
    repeat refine ob2 ?_
    exact hQ
   refine Exec.inBlock ?_
   refine sreg te_ok ?_
   refine Exec.rets hR te_ok rfl rfl rfl (LeX.le ?_) (.inr ⟨_, rfl⟩)
   simp only [go_sem, opR]
   first | (simp_all [Bool.and_assoc]; done) | (simp_all; cases rightV o.vk o.vn o.vs <;> simp)
  ·refine sreg te_ok ?_
   refine Exec.cond_split rfl (fun h2 => ?_) (fun h2 => ?_)
   ·refine sreg te_ok ?_
    apply Exec.regionL te_ok
    ·intro u' Q hQ
     simp only [go_sem]
     repeat refine ob2 ?_
     refine kcall hR.inv te_ok rfl rfl rfl rfl rfl rfl (right_ok _ _ _ (by omega)) ?_
     simp only [go_sem]
     repeat refine ob2 ?_
     exact hQ
    refine Exec.inBlock ?_
    refine sreg te_ok ?_
    refine Exec.rets hR te_ok rfl rfl rfl (LeX.le ?_) (.inr ⟨_, rfl⟩)
    simp only [go_sem, opR]
    first | (simp_all [Bool.and_assoc]; done) | (simp_all; cases rightV o.vk o.vn o.vs <;> simp)
   ·refine sreg te_ok ?_
    refine Exec.rets hR te_ok rfl rfl rfl (LeX.le ?_) (.inr ⟨_, rfl⟩)
    simp only [go_sem, opR]
    first | (simp_all [Bool.and_assoc]; done) | (simp_all; cases rightV o.vk o.vn o.vs <;> simp)
def idxI {α : Type} (g : α → Bool) : List α → Int
 | [] => -1
 | x :: r => if g x then 0 else if idxI g r < 0 then -1 else idxI g r + 1
theorem idxI_iff {α : Type} (g : α → Bool) : ∀ l : List α, (0 ≤ idxI g l ↔ l.any g = true)
 | [] => by simp [idxI]
 | x :: r => by
  have ih := idxI_iff g r
  have e1 : idxI g (x :: r) = if g x then 0 else if idxI g r < 0 then -1 else idxI g r + 1 := rfl
  rw [e1, List.any_cons]
  by_cases hg : g x = true
  ·rw [if_pos hg, hg]; simp
  ·rw [if_neg hg, show g x = false from by simpa using hg, Bool.false_or, ← ih]
   split <;> omega
theorem idxI_any {α : Type} (g : α → Bool) (l : List α) : decide (0 ≤ idxI g l) = l.any g := by
 rw [Bool.eq_iff_iff, decide_eq_true_iff]; exact idxI_iff g l
theorem idxI_none {α : Type} {g : α → Bool} : ∀ {l : List α}, l.any g = false → idxI g l = -1
 | [], _ => rfl
 | x :: r, h => by
  simp only [List.any_cons, Bool.or_eq_false_iff] at h
  simp only [idxI, h.1, Bool.false_eq_true, if_false, idxI_none h.2]; rfl
theorem idxI_at {α : Type} [Inhabited α] {g : α → Bool} : ∀ {l : List α} {i : Nat}, i < l.length → (l.take i).any g = false → g (nth l i) = true → idxI g l = i
 | x :: r, 0, _, _, h => by
  have h' : g x = true := h
  simp only [idxI]; rw [if_pos h']; rfl
 | x :: r, i + 1, hi, ha, h => by
  simp only [List.take_succ_cons, List.any_cons, Bool.or_eq_false_iff] at ha
  have ih := idxI_at (l := r) (i := i) (by simpa using hi) ha.2 h
  simp only [idxI, ha.1, Bool.false_eq_true, if_false, ih]
  rw [if_neg (by omega)]; simp
theorem any_take {α : Type} [Inhabited α] {g : α → Bool} {l : List α} {i : Nat} (h : i < l.length) : (l.take (i + 1)).any g = ((l.take i).any g || g (nth l i)) := by
 rw [take_succ_nth h, List.any_append]; simp
theorem all_not {α : Type} (g : α → Bool) (l : List α) : (!l.any fun x => !g x) = l.all g := by
 induction l with
 | nil => rfl
 | cons x r ih => simp only [List.any_cons, List.all_cons, Bool.not_or, Bool.not_not, ih]
theorem xcond_ok (c : Cd) (hc : FitC c) : FnOK Laid Tryz.prog 72 [cdD c] (bv (cdR c)) := by
 refine FnOK_of laid_stable Tryz.func72 Tryz.ntmps72 rfl (by as_aux_lemma => kernel_rfl) (Nat.le_of_ble_eq_true rfl) (fun R hR => ?_)
 obtain ⟨_, b, cs, T, C⟩ := R
 obtain rfl : _ = Tryz.prog := hR.p
 refine sreg te_ok ?_
 refine sq ?_
 apply Exec.regionL te_ok
 ·intro u' Q hQ
  simp only [go_sem]
  repeat refine ob2 ?_
  refine kcall hR.inv te_ok rfl rfl rfl rfl rfl rfl (between_ok _ _ _) ?_
  simp only [go_sem]
  repeat refine ob2 ?_
  refine kcallG hR.inv te_ok rfl rfl rfl rfl rfl rfl ob1 (fun hq => xop_ok c.l hc.l) ?_
  simp only [go_sem]
  repeat refine ob2 ?_
  refine kcallG hR.inv te_ok rfl rfl rfl rfl rfl rfl ob1 (fun hq => xop_ok c.r hc.r) ?_
  simp only [go_sem]
  repeat refine ob2 ?_
  exact hQ
 refine Exec.rets hR te_ok rfl rfl rfl (LeX.le ?_) (.inr ⟨_, rfl⟩)
 simp only [go_sem, cdR]
 try simp only [Bool.and_assoc]
theorem told_ok (o : Opd) (hfo : FitO o) : FnOK Laid Tryz.prog 74 [opD o] (bv (o.k != 3 && opR o)) := by
 refine FnOK_of laid_stable Tryz.func74 Tryz.ntmps74 rfl (by as_aux_lemma => kernel_rfl) (Nat.le_of_ble_eq_true rfl) (fun R hR => ?_)
 obtain ⟨_, b, cs, T, C⟩ := R
 obtain rfl : _ = Tryz.prog := hR.p
 refine sreg te_ok ?_
 refine sq ?_
 apply Exec.regionL te_ok
 ·intro u' Q hQ
  simp only [go_sem]
  repeat refine ob2 ?_
  refine kcallG hR.inv te_ok rfl rfl rfl rfl rfl rfl ob1 (fun hq => xop_ok _ (by assumption)) ?_
  simp only [go_sem]
  repeat refine ob2 ?_
  exact hQ
 refine Exec.rets hR te_ok rfl rfl rfl (LeX.le ?_) (.inr ⟨_, rfl⟩)
 simp only [go_sem]
theorem xpat_ok (p : Pt) (hp : FitP p) : FnOK Laid Tryz.prog 70 [ptD p] (bv (ptR p)) := by
 refine FnOK_of laid_stable Tryz.func70 Tryz.ntmps70 rfl (by as_aux_lemma => kernel_rfl) (Nat.le_of_ble_eq_true rfl) (fun R hR => ?_)
 obtain ⟨_, b, cs, T, C⟩ := R
 obtain rfl : _ = Tryz.prog := hR.p
 have h1 := hp.a
 have h2 := hp.z
 have h3 := hp.lab
 have h4 := hp.name
 refine sreg te_ok ?_
 refine sq ?_
 refine Exec.block ?_
 refine sq ?_
 refine sq ?_
 apply Exec.regionL te_ok
 ·intro u' Q hQ
  simp only [go_sem]
  repeat refine ob2 ?_
  refine kcall hR.inv te_ok rfl rfl rfl rfl rfl rfl (free_ok p.a hp.a) ?_
  simp only [go_sem]
  repeat refine ob2 ?_
  exact hQ
 apply Exec.join [1, 3] rfl
 case hx =>
  intro h0 hK
  refine sk ?_
  exact hK
 case hy =>
  intro h0 hK
  apply Exec.regionL te_ok
  ·intro u' Q hQ
   simp only [go_sem]
   repeat refine ob2 ?_
   refine kcall hR.inv te_ok rfl rfl rfl rfl rfl rfl (free_ok p.z hp.z) ?_
   simp only [go_sem]
   repeat refine ob2 ?_
   exact hQ
  exact hK
 case hN => rfl
 case hdf => rfl
 case hF => simp only [go_sem]
 case hP => rfl
 apply Exec.norm
 ·simp only [go_sem]
  rfl
 refine Exec.cond_split rfl (fun h1 => ?_) (fun h1 => ?_)
 ·refine sreg te_ok ?_
  refine Exec.rets hR te_ok rfl rfl rfl (LeX.le ?_) (.inr ⟨_, rfl⟩)
  simp only [go_sem, ptR]
  first | (simp_all; done) | (cases hpa : freeB p.a <;> cases hpz : freeB p.z <;> cases hpp : p.path <;> simp_all [Bool.and_assoc, isE_app])
 ·refine sreg te_ok ?_
  refine Exec.cond_split rfl (fun h2 => ?_) (fun h2 => ?_)
  ·refine sq ?_
   apply Exec.regionL te_ok
   ·intro u' Q hQ
    simp only [go_sem]
    repeat refine ob2 ?_
    refine kcallG hR.inv te_ok rfl rfl rfl rfl rfl rfl ob1 (fun hq => xright_ok p.e hp.e) ?_
    simp only [go_sem]
    repeat refine ob2 ?_
    exact hQ
   refine Exec.rets hR te_ok rfl rfl rfl (LeX.le ?_) (.inr ⟨_, rfl⟩)
   simp only [go_sem, ptR]
   first | (simp_all; done) | (cases hpa : freeB p.a <;> cases hpz : freeB p.z <;> cases hpp : p.path <;> simp_all [Bool.and_assoc, isE_app])
  ·refine sk ?_
   refine Exec.inBlock ?_
   refine sq ?_
   apply Exec.regionL te_ok
   ·intro u' Q hQ
    simp only [go_sem]
    repeat refine ob2 ?_
    refine kcall hR.inv te_ok rfl rfl rfl rfl rfl rfl (free_ok p.lab hp.lab) ?_
    simp only [go_sem]
    repeat refine ob2 ?_
    refine kcallG hR.inv te_ok rfl rfl rfl rfl rfl rfl ob1 (fun hq => free_ok p.name hp.name) ?_
    simp only [go_sem]
    repeat refine ob2 ?_
    refine kcallG hR.inv te_ok rfl rfl rfl rfl rfl rfl ob1 (fun hq => xsame_z p.e hp.e) ?_
    simp only [go_sem]
    repeat refine ob2 ?_
    exact hQ
   refine Exec.rets hR te_ok rfl rfl rfl (LeX.le ?_) (.inr ⟨_, rfl⟩)
   simp only [go_sem, ptR]
   first | (simp_all; done) | (cases hpa : freeB p.a <;> cases hpz : freeB p.z <;> cases hpp : p.path <;> simp_all [Bool.and_assoc, isE_app])
theorem cl_p (p : Pt) (hp : FitP p) : FnOK Laid Tryz.prog 137 [ptD p, .ptr [.fn 70 []]] (bv (!ptR p)) := by
 refine FnOK_of laid_stable Tryz.func137 Tryz.ntmps137 rfl (by as_aux_lemma => kernel_rfl) (Nat.le_of_ble_eq_true rfl) (fun R hR => ?_)
 obtain ⟨_, b, cs, T, C⟩ := R
 obtain rfl : _ = Tryz.prog := hR.p
 refine sreg te_ok ?_
 refine sq ?_
 apply Exec.regionL te_ok
 ·intro u' Q hQ
  simp only [go_sem]
  repeat refine ob2 ?_
  refine kcall hR.inv te_ok rfl rfl rfl rfl rfl rfl (xpat_ok p hp) ?_
  simp only [go_sem]
  repeat refine ob2 ?_
  exact hQ
 refine Exec.rets hR te_ok rfl rfl rfl (LeX.le ?_) (.inr ⟨_, rfl⟩)
 simp only [go_sem]
theorem ix_p (l : List Pt) (hl : l.length ≤ 140737488355328) (hf : ∀ p ∈ l, FitP p) : FnOK Laid Tryz.prog 172 [ptsD l, .fn 137 [.ptr [.fn 70 []]]] (iv (idxI (fun x => !ptR x) l)) := by
 refine FnOK_of laid_stable Tryz.func172 Tryz.ntmps172 rfl (by as_aux_lemma => kernel_rfl) (Nat.le_of_ble_eq_true rfl) (fun R hR => ?_)
 obtain ⟨_, b, cs, T, C⟩ := R
 obtain rfl : _ = Tryz.prog := hR.p
 refine sreg te_ok ?_
 refine sq ?_
 refine sreg te_ok ?_
 refine Exec.block ?_
 apply Exec.loopU [0, 1, 7] (X := Nat) (fun i => [(8, .d (iv i))]) (fun i => []) (fun i => []) (fun i => l.length - i) (fun i => i ≤ l.length ∧ (l.take i).any (fun x => !ptR x) = false) 0
 case h0 =>
  simp
 case hw =>
  simp only [go_sem]
 case body =>
  rintro i hx ih0
  try simp only at hx
  apply Exec.norm
  ·simp only [go_sem]
   rfl
  refine sreg te_ok ?_
  refine sq ?_
  refine Exec.cond_split rfl (fun h0 => ?_) (fun h0 => ?_)
  ·have hi : i < l.length := by have := of_decide_eq_true h0; omega
   have w2 : IntKind.i64.wrap ((i : Int) + 1) = ((i + 1 : Nat) : Int) := by rw [wrap_id (by omega)]; omega
   refine sk ?_
   refine sq ?_
   refine Exec.block ?_
   refine sq ?_
   apply Exec.regionL te_ok
   ·intro u' Q hQ
    simp only [go_sem, w2]
    repeat refine ob2 ?_
    exact hQ
   refine sq ?_
   apply Exec.regionL te_ok
   ·intro u' Q hQ
    simp only [go_sem, w2]
    repeat refine ob2 ?_
    refine kcall hR.inv te_ok rfl rfl rfl rfl rfl rfl (cl_p _ (hf _ (nth_mem hi))) ?_
    simp only [go_sem, w2]
    repeat refine ob2 ?_
    exact hQ
   refine Exec.cond_split rfl (fun h1 => ?_) (fun h1 => ?_)
   ·refine sq ?_
    apply Exec.regionL te_ok
    ·intro u' Q hQ
     simp only [go_sem, w2]
     repeat refine ob2 ?_
     exact hQ
    refine Exec.rets hR te_ok rfl rfl rfl (LeX.le ?_) (.inr ⟨_, rfl⟩)
    simp only [go_sem]
    rw [idxI_at hi hx.2 h1]
   ·refine sk ?_
    refine Exec.inBlock ?_
    apply Exec.regionL te_ok
    ·intro u' Q hQ
     simp only [go_sem, w2]
     repeat refine ob2 ?_
     exact hQ
    refine Exec.back (ih0 (i + 1) ?_ ?_) ?_ ?_ ?_ ?_ ?_ ?_ ?_
    ·try simp only
     exact ⟨by omega, by rw [any_take hi, hx.2]; simpa using h1⟩
    ·try simp only
     omega
    ·rfl
    ·rfl
    ·(simp only [go_sem, w2])
    ·(simp only [go_sem, w2])
    ·(simp only [go_sem, w2])
    ·simp only [go_sem, w2]
    ·rfl
  ·refine Exec.exit rfl ?_
   refine sreg te_ok ?_
   refine Exec.rets hR te_ok rfl rfl rfl (LeX.le ?_) (.inr ⟨_, rfl⟩)
   simp only [go_sem]
   rw [idxI_none (by have := hx.2; rwa [List.take_of_length_le (by have := of_decide_eq_false h0; omega)] at this)]
theorem co_p (l : List Pt) (hl : l.length ≤ 140737488355328) (hf : ∀ p ∈ l, FitP p) : FnOK Laid Tryz.prog 136 [ptsD l, .fn 137 [.ptr [.fn 70 []]]] (bv (l.any fun x => !ptR x)) := by
 refine FnOK_of laid_stable Tryz.func136 Tryz.ntmps136 rfl (by as_aux_lemma => kernel_rfl) (Nat.le_of_ble_eq_true rfl) (fun R hR => ?_)
 obtain ⟨_, b, cs, T, C⟩ := R
 obtain rfl : _ = Tryz.prog := hR.p
 refine sq ?_
 apply Exec.regionL te_ok
 ·intro u' Q hQ
  simp only [go_sem, idxI_any]
  repeat refine ob2 ?_
  exact hQ
 refine sq ?_
 apply Exec.regionL te_ok
 ·intro u' Q hQ
  simp only [go_sem, idxI_any]
  repeat refine ob2 ?_
  refine kcall hR.inv te_ok rfl rfl rfl rfl rfl rfl (ix_p l hl hf) ?_
  simp only [go_sem, idxI_any]
  repeat refine ob2 ?_
  exact hQ
 refine Exec.rets hR te_ok rfl rfl rfl (LeX.le ?_) (.inr ⟨_, rfl⟩)
 simp only [go_sem, idxI_any]
theorem ev_p (l : List Pt) (hl : l.length ≤ 140737488355328) (hf : ∀ p ∈ l, FitP p) : FnOK Laid Tryz.prog 69 [ptsD l, .fn 70 []] (bv (l.all ptR)) := by
 refine FnOK_of laid_stable Tryz.func69 Tryz.ntmps69 rfl (by as_aux_lemma => kernel_rfl) (Nat.le_of_ble_eq_true rfl) (fun R hR => ?_)
 obtain ⟨_, b, cs, T, C⟩ := R
 obtain rfl : _ = Tryz.prog := hR.p
 refine sq ?_
 apply Exec.regionL te_ok
 ·intro u' Q hQ
  simp only [go_sem, all_not]
  repeat refine ob2 ?_
  exact hQ
 refine sq ?_
 apply Exec.regionL te_ok
 ·intro u' Q hQ
  simp only [go_sem, all_not]
  repeat refine ob2 ?_
  refine kfreezeB 3 rfl rfl (by simp only [go_sem, all_not]; rfl) ?_
  refine kcall hR.inv te_ok rfl rfl rfl rfl rfl rfl (co_p l hl hf) ?_
  simp only [go_sem, all_not]
  repeat refine ob2 ?_
  exact hQ
 refine Exec.rets hR te_ok rfl rfl rfl (LeX.le ?_) (.inr ⟨_, rfl⟩)
 simp only [go_sem, all_not]
theorem cl_c (p : Cd) (hp : FitC p) : FnOK Laid Tryz.prog 140 [cdD p, .ptr [.fn 72 []]] (bv (!cdR p)) := by
 refine FnOK_of laid_stable Tryz.func140 Tryz.ntmps140 rfl (by as_aux_lemma => kernel_rfl) (Nat.le_of_ble_eq_true rfl) (fun R hR => ?_)
 obtain ⟨_, b, cs, T, C⟩ := R
 obtain rfl : _ = Tryz.prog := hR.p
 refine sreg te_ok ?_
 refine sq ?_
 apply Exec.regionL te_ok
 ·intro u' Q hQ
  simp only [go_sem]
  repeat refine ob2 ?_
  refine kcall hR.inv te_ok rfl rfl rfl rfl rfl rfl (xcond_ok p hp) ?_
  simp only [go_sem]
  repeat refine ob2 ?_
  exact hQ
 refine Exec.rets hR te_ok rfl rfl rfl (LeX.le ?_) (.inr ⟨_, rfl⟩)
 simp only [go_sem]
theorem ix_c (l : List Cd) (hl : l.length ≤ 140737488355328) (hf : ∀ p ∈ l, FitC p) : FnOK Laid Tryz.prog 175 [cdsD l, .fn 140 [.ptr [.fn 72 []]]] (iv (idxI (fun x => !cdR x) l)) := by
 refine FnOK_of laid_stable Tryz.func175 Tryz.ntmps175 rfl (by as_aux_lemma => kernel_rfl) (Nat.le_of_ble_eq_true rfl) (fun R hR => ?_)
 obtain ⟨_, b, cs, T, C⟩ := R
 obtain rfl : _ = Tryz.prog := hR.p
 refine sreg te_ok ?_
 refine sq ?_
 refine sreg te_ok ?_
 refine Exec.block ?_
 apply Exec.loopU [0, 1, 7] (X := Nat) (fun i => [(8, .d (iv i))]) (fun i => []) (fun i => []) (fun i => l.length - i) (fun i => i ≤ l.length ∧ (l.take i).any (fun x => !cdR x) = false) 0
 case h0 =>
  simp
 case hw =>
  simp only [go_sem]
 case body =>
  rintro i hx ih0
  try simp only at hx
  apply Exec.norm
  ·simp only [go_sem]
   rfl
  refine sreg te_ok ?_
  refine sq ?_
  refine Exec.cond_split rfl (fun h0 => ?_) (fun h0 => ?_)
  ·have hi : i < l.length := by have := of_decide_eq_true h0; omega
   have w2 : IntKind.i64.wrap ((i : Int) + 1) = ((i + 1 : Nat) : Int) := by rw [wrap_id (by omega)]; omega
   refine sk ?_
   refine sq ?_
   refine Exec.block ?_
   refine sq ?_
   apply Exec.regionL te_ok
   ·intro u' Q hQ
    simp only [go_sem, w2]
    repeat refine ob2 ?_
    exact hQ
   refine sq ?_
   apply Exec.regionL te_ok
   ·intro u' Q hQ
    simp only [go_sem, w2]
    repeat refine ob2 ?_
    refine kcall hR.inv te_ok rfl rfl rfl rfl rfl rfl (cl_c _ (hf _ (nth_mem hi))) ?_
    simp only [go_sem, w2]
    repeat refine ob2 ?_
    exact hQ
   refine Exec.cond_split rfl (fun h1 => ?_) (fun h1 => ?_)
   ·refine sq ?_
    apply Exec.regionL te_ok
    ·intro u' Q hQ
     simp only [go_sem, w2]
     repeat refine ob2 ?_
     exact hQ
    refine Exec.rets hR te_ok rfl rfl rfl (LeX.le ?_) (.inr ⟨_, rfl⟩)
    simp only [go_sem]
    rw [idxI_at hi hx.2 h1]
   ·refine sk ?_
    refine Exec.inBlock ?_
    apply Exec.regionL te_ok
    ·intro u' Q hQ
     simp only [go_sem, w2]
     repeat refine ob2 ?_
     exact hQ
    refine Exec.back (ih0 (i + 1) ?_ ?_) ?_ ?_ ?_ ?_ ?_ ?_ ?_
    ·try simp only
     exact ⟨by omega, by rw [any_take hi, hx.2]; simpa using h1⟩
    ·try simp only
     omega
    ·rfl
    ·rfl
    ·(simp only [go_sem, w2])
    ·(simp only [go_sem, w2])
    ·(simp only [go_sem, w2])
    ·simp only [go_sem, w2]
    ·rfl
  ·refine Exec.exit rfl ?_
   refine sreg te_ok ?_
   refine Exec.rets hR te_ok rfl rfl rfl (LeX.le ?_) (.inr ⟨_, rfl⟩)
   simp only [go_sem]
   rw [idxI_none (by have := hx.2; rwa [List.take_of_length_le (by have := of_decide_eq_false h0; omega)] at this)]
theorem co_c (l : List Cd) (hl : l.length ≤ 140737488355328) (hf : ∀ p ∈ l, FitC p) : FnOK Laid Tryz.prog 139 [cdsD l, .fn 140 [.ptr [.fn 72 []]]] (bv (l.any fun x => !cdR x)) := by
 refine FnOK_of laid_stable Tryz.func139 Tryz.ntmps139 rfl (by as_aux_lemma => kernel_rfl) (Nat.le_of_ble_eq_true rfl) (fun R hR => ?_)
 obtain ⟨_, b, cs, T, C⟩ := R
 obtain rfl : _ = Tryz.prog := hR.p
 refine sq ?_
 apply Exec.regionL te_ok
 ·intro u' Q hQ
  simp only [go_sem, idxI_any]
  repeat refine ob2 ?_
  exact hQ
 refine sq ?_
 apply Exec.regionL te_ok
 ·intro u' Q hQ
  simp only [go_sem, idxI_any]
  repeat refine ob2 ?_
  refine kcall hR.inv te_ok rfl rfl rfl rfl rfl rfl (ix_c l hl hf) ?_
  simp only [go_sem, idxI_any]
  repeat refine ob2 ?_
  exact hQ
 refine Exec.rets hR te_ok rfl rfl rfl (LeX.le ?_) (.inr ⟨_, rfl⟩)
 simp only [go_sem, idxI_any]
theorem ev_c (l : List Cd) (hl : l.length ≤ 140737488355328) (hf : ∀ p ∈ l, FitC p) : FnOK Laid Tryz.prog 71 [cdsD l, .fn 72 []] (bv (l.all cdR)) := by
 refine FnOK_of laid_stable Tryz.func71 Tryz.ntmps71 rfl (by as_aux_lemma => kernel_rfl) (Nat.le_of_ble_eq_true rfl) (fun R hR => ?_)
 obtain ⟨_, b, cs, T, C⟩ := R
 obtain rfl : _ = Tryz.prog := hR.p
 refine sq ?_
 apply Exec.regionL te_ok
 ·intro u' Q hQ
  simp only [go_sem, all_not]
  repeat refine ob2 ?_
  exact hQ
 refine sq ?_
 apply Exec.regionL te_ok
 ·intro u' Q hQ
  simp only [go_sem, all_not]
  repeat refine ob2 ?_
  refine kfreezeB 3 rfl rfl (by simp only [go_sem, all_not]; rfl) ?_
  refine kcall hR.inv te_ok rfl rfl rfl rfl rfl rfl (co_c l hl hf) ?_
  simp only [go_sem, all_not]
  repeat refine ob2 ?_
  exact hQ
 refine Exec.rets hR te_ok rfl rfl rfl (LeX.le ?_) (.inr ⟨_, rfl⟩)
 simp only [go_sem, all_not]
abbrev toR (o : Opd) : Bool := o.k != 3 && opR o
theorem cl_o (p : Opd) (hp : FitO p) : FnOK Laid Tryz.prog 143 [opD p, .ptr [.fn 74 []]] (bv (!toR p)) := by
 refine FnOK_of laid_stable Tryz.func143 Tryz.ntmps143 rfl (by as_aux_lemma => kernel_rfl) (Nat.le_of_ble_eq_true rfl) (fun R hR => ?_)
 obtain ⟨_, b, cs, T, C⟩ := R
 obtain rfl : _ = Tryz.prog := hR.p
 refine sreg te_ok ?_
 refine sq ?_
 apply Exec.regionL te_ok
 ·intro u' Q hQ
  simp only [go_sem]
  repeat refine ob2 ?_
  refine kcall hR.inv te_ok rfl rfl rfl rfl rfl rfl (told_ok p hp) ?_
  simp only [go_sem]
  repeat refine ob2 ?_
  exact hQ
 refine Exec.rets hR te_ok rfl rfl rfl (LeX.le ?_) (.inr ⟨_, rfl⟩)
 simp only [go_sem]
theorem ix_o (l : List Opd) (hl : l.length ≤ 140737488355328) (hf : ∀ p ∈ l, FitO p) : FnOK Laid Tryz.prog 177 [opsD l, .fn 143 [.ptr [.fn 74 []]]] (iv (idxI (fun x => !toR x) l)) := by
 refine FnOK_of laid_stable Tryz.func177 Tryz.ntmps177 rfl (by as_aux_lemma => kernel_rfl) (Nat.le_of_ble_eq_true rfl) (fun R hR => ?_)
 obtain ⟨_, b, cs, T, C⟩ := R
 obtain rfl : _ = Tryz.prog := hR.p
 refine sreg te_ok ?_
 refine sq ?_
 refine sreg te_ok ?_
 refine Exec.block ?_
 apply Exec.loopU [0, 1, 7] (X := Nat) (fun i => [(8, .d (iv i))]) (fun i => []) (fun i => []) (fun i => l.length - i) (fun i => i ≤ l.length ∧ (l.take i).any (fun x => !toR x) = false) 0
 case h0 =>
  simp
 case hw =>
  simp only [go_sem]
 case body =>
  rintro i hx ih0
  try simp only at hx
  apply Exec.norm
  ·simp only [go_sem]
   rfl
  refine sreg te_ok ?_
  refine sq ?_
  refine Exec.cond_split rfl (fun h0 => ?_) (fun h0 => ?_)
  ·have hi : i < l.length := by have := of_decide_eq_true h0; omega
   have w2 : IntKind.i64.wrap ((i : Int) + 1) = ((i + 1 : Nat) : Int) := by rw [wrap_id (by omega)]; omega
   refine sk ?_
   refine sq ?_
   refine Exec.block ?_
   refine sq ?_
   apply Exec.regionL te_ok
   ·intro u' Q hQ
    simp only [go_sem, w2]
    repeat refine ob2 ?_
    exact hQ
   refine sq ?_
   apply Exec.regionL te_ok
   ·intro u' Q hQ
    simp only [go_sem, w2]
    repeat refine ob2 ?_
    refine kcall hR.inv te_ok rfl rfl rfl rfl rfl rfl (cl_o _ (hf _ (nth_mem hi))) ?_
    simp only [go_sem, w2]
    repeat refine ob2 ?_
    exact hQ
   refine Exec.cond_split rfl (fun h1 => ?_) (fun h1 => ?_)
   ·refine sq ?_
    apply Exec.regionL te_ok
    ·intro u' Q hQ
     simp only [go_sem, w2]
     repeat refine ob2 ?_
     exact hQ
    refine Exec.rets hR te_ok rfl rfl rfl (LeX.le ?_) (.inr ⟨_, rfl⟩)
    simp only [go_sem]
    rw [idxI_at hi hx.2 h1]
   ·refine sk ?_
    refine Exec.inBlock ?_
    apply Exec.regionL te_ok
    ·intro u' Q hQ
     simp only [go_sem, w2]
     repeat refine ob2 ?_
     exact hQ
    refine Exec.back (ih0 (i + 1) ?_ ?_) ?_ ?_ ?_ ?_ ?_ ?_ ?_
    ·try simp only
     exact ⟨by omega, by rw [any_take hi, hx.2]; simpa using h1⟩
    ·try simp only
     omega
    ·rfl
    ·rfl
    ·(simp only [go_sem, w2])
    ·(simp only [go_sem, w2])
    ·(simp only [go_sem, w2])
    ·simp only [go_sem, w2]
    ·rfl
  ·refine Exec.exit rfl ?_
   refine sreg te_ok ?_
   refine Exec.rets hR te_ok rfl rfl rfl (LeX.le ?_) (.inr ⟨_, rfl⟩)
   simp only [go_sem]
   rw [idxI_none (by have := hx.2; rwa [List.take_of_length_le (by have := of_decide_eq_false h0; omega)] at this)]
theorem co_o (l : List Opd) (hl : l.length ≤ 140737488355328) (hf : ∀ p ∈ l, FitO p) : FnOK Laid Tryz.prog 142 [opsD l, .fn 143 [.ptr [.fn 74 []]]] (bv (l.any fun x => !toR x)) := by
 refine FnOK_of laid_stable Tryz.func142 Tryz.ntmps142 rfl (by as_aux_lemma => kernel_rfl) (Nat.le_of_ble_eq_true rfl) (fun R hR => ?_)
 obtain ⟨_, b, cs, T, C⟩ := R
 obtain rfl : _ = Tryz.prog := hR.p
 refine sq ?_
 apply Exec.regionL te_ok
 ·intro u' Q hQ
  simp only [go_sem, idxI_any]
  repeat refine ob2 ?_
  exact hQ
 refine sq ?_
 apply Exec.regionL te_ok
 ·intro u' Q hQ
  simp only [go_sem, idxI_any]
  repeat refine ob2 ?_
  refine kcall hR.inv te_ok rfl rfl rfl rfl rfl rfl (ix_o l hl hf) ?_
  simp only [go_sem, idxI_any]
  repeat refine ob2 ?_
  exact hQ
 refine Exec.rets hR te_ok rfl rfl rfl (LeX.le ?_) (.inr ⟨_, rfl⟩)
 simp only [go_sem, idxI_any]
theorem ev_o (l : List Opd) (hl : l.length ≤ 140737488355328) (hf : ∀ p ∈ l, FitO p) : FnOK Laid Tryz.prog 73 [opsD l, .fn 74 []] (bv (l.all toR)) := by
 refine FnOK_of laid_stable Tryz.func73 Tryz.ntmps73 rfl (by as_aux_lemma => kernel_rfl) (Nat.le_of_ble_eq_true rfl) (fun R hR => ?_)
 obtain ⟨_, b, cs, T, C⟩ := R
 obtain rfl : _ = Tryz.prog := hR.p
 refine sq ?_
 apply Exec.regionL te_ok
 ·intro u' Q hQ
  simp only [go_sem, all_not]
  repeat refine ob2 ?_
  exact hQ
 refine sq ?_
 apply Exec.regionL te_ok
 ·intro u' Q hQ
  simp only [go_sem, all_not]
  repeat refine ob2 ?_
  refine kfreezeB 3 rfl rfl (by simp only [go_sem, all_not]; rfl) ?_
  refine kcall hR.inv te_ok rfl rfl rfl rfl rfl rfl (co_o l hl hf) ?_
  simp only [go_sem, all_not]
  repeat refine ob2 ?_
  exact hQ
 refine Exec.rets hR te_ok rfl rfl rfl (LeX.le ?_) (.inr ⟨_, rfl⟩)
 simp only [go_sem, all_not]
theorem dN1 (n : Nat) : decide ((1 : Int) ≤ (n : Int)) = decide (1 ≤ n) := by rw [Bool.eq_iff_iff]; simp; omega
theorem dN4 (n : Nat) : decide ((n : Int) ≤ 4) = decide (n ≤ 4) := by rw [Bool.eq_iff_iff]; simp; omega
theorem dN6 (n : Nat) : decide ((n : Int) ≤ 6) = decide (n ≤ 6) := by rw [Bool.eq_iff_iff]; simp; omega
theorem g6 (n : Nat) : decide (6 < (n : Int)) = !decide (n ≤ 6) := by rw [Bool.eq_iff_iff]; simp; omega
theorem g4 (n : Nat) : decide (4 < (n : Int)) = !decide (n ≤ 4) := by rw [Bool.eq_iff_iff]; simp; omega
theorem g1 (n : Nat) : decide ((n : Int) < 1) = !decide (1 ≤ n) := by rw [Bool.eq_iff_iff]; simp; omega
theorem j1 (n : Int) : decide (n < 1) = !decide (1 ≤ n) := by rw [Bool.eq_iff_iff]; simp
theorem j2 (n : Int) : decide (1048576 < n) = !decide (n ≤ 1048576) := by rw [Bool.eq_iff_iff]; simp
theorem xtree_ok (q : Qu) (hfq : FitQ q) : FnOK Laid Tryz.prog 35 [quD q] (bv (quR q)) := by
 refine FnOK_of laid_stable Tryz.func35 Tryz.ntmps35 rfl (by as_aux_lemma => kernel_rfl) (Nat.le_of_ble_eq_true rfl) (fun R hR => ?_)
 obtain ⟨_, b, cs, T, C⟩ := R
 obtain rfl : _ = Tryz.prog := hR.p
 have q1 := hfq.p
 have q2 := hfq.c
 have q3 := hfq.r
 refine sq ?_
 apply Exec.regionL te_ok
 ·intro u' Q hQ
  simp only [go_sem, dN1, dN4, dN6, g6]
  repeat refine ob2 ?_
  exact hQ
 refine sq ?_
 refine Exec.block ?_
 refine sq ?_
 refine sq ?_
 apply Exec.regionL te_ok
 ·intro u' Q hQ
  simp only [go_sem, dN1, dN4, dN6, g6]
  repeat refine ob2 ?_
  refine kcall hR.inv te_ok rfl rfl rfl rfl rfl rfl (between_ok _ _ _) ?_
  simp only [go_sem, dN1, dN4, dN6, g6]
  repeat refine ob2 ?_
  exact hQ
 apply Exec.join [1, 3] rfl
 case hx =>
  intro h0 hK
  refine sk ?_
  exact hK
 case hy =>
  intro h0 hK
  refine sq ?_
  apply Exec.regionL te_ok
  ·intro u' Q hQ
   simp only [go_sem, dN1, dN4, dN6, g6]
   repeat refine ob2 ?_
   exact hQ
  apply Exec.join [1, 3] rfl
  case hx =>
   intro h1 hK
   refine sk ?_
   exact hK
  case hy =>
   intro h1 hK
   apply Exec.regionL te_ok
   ·intro u' Q hQ
    simp only [go_sem, dN1, dN4, dN6, g6]
    repeat refine ob2 ?_
    refine kcall hR.inv te_ok rfl rfl rfl rfl rfl rfl (between_ok _ _ _) ?_
    simp only [go_sem, dN1, dN4, dN6, g6]
    repeat refine ob2 ?_
    exact hQ
   exact hK
  case hN => rfl
  case hdf => rfl
  case hF => simp only [go_sem]
  case hP => rfl
  apply Exec.norm
  ·simp only [go_sem, dN1, dN4, dN6, g6]
   rfl
  exact hK
 case hN => rfl
 case hdf => rfl
 case hF => simp only [go_sem]
 case hP => rfl
 apply Exec.norm
 ·simp only [go_sem, dN1, dN4, dN6, g6]
  rfl
 refine Exec.cond_split rfl (fun h2 => ?_) (fun h2 => ?_)
 ·refine sq ?_
  apply Exec.regionL te_ok
  ·intro u' Q hQ
   simp only [go_sem, dN1, dN4, dN6, g6]
   repeat refine ob2 ?_
   exact hQ
  refine Exec.rets hR te_ok rfl rfl rfl (LeX.le ?_) (.inr ⟨_, rfl⟩)
  simp only [go_sem, quR, dN1, dN4, dN6, g6]
  clear hR
  generalize (decide (1 ≤ q.p.length) && decide (q.p.length ≤ 4)) = u1 at *
  generalize decide (q.c.length ≤ 6) = u2 at *
  generalize (decide (1 ≤ q.r.length) && decide (q.r.length ≤ 4)) = u3 at *
  generalize (decide (1 ≤ q.range) && decide (q.range ≤ 1048576)) = u4 at *
  generalize (decide (1 ≤ q.slide) && decide (q.slide ≤ 1048576)) = u5 at *
  generalize q.p.all ptR = u6 at *
  generalize q.c.all cdR = u7 at *
  cases u1 <;> cases u2 <;> cases u3 <;> cases u4 <;> cases u5 <;> cases u6 <;> cases u7 <;> simp_all
 ·refine sq ?_
  refine sq ?_
  apply Exec.regionL te_ok
  ·intro u' Q hQ
   simp only [go_sem, dN1, dN4, dN6, g6]
   repeat refine ob2 ?_
   refine kcall hR.inv te_ok rfl rfl rfl rfl rfl rfl (between_ok _ _ _) ?_
   simp only [go_sem, dN1, dN4, dN6, g6]
   repeat refine ob2 ?_
   exact hQ
  apply Exec.join [1, 18] rfl
  case hx =>
   intro h3 hK
   refine sk ?_
   exact hK
  case hy =>
   intro h3 hK
   apply Exec.regionL te_ok
   ·intro u' Q hQ
    simp only [go_sem, dN1, dN4, dN6, g6]
    repeat refine ob2 ?_
    refine kcall hR.inv te_ok rfl rfl rfl rfl rfl rfl (between_ok _ _ _) ?_
    simp only [go_sem, dN1, dN4, dN6, g6]
    repeat refine ob2 ?_
    exact hQ
   exact hK
  case hN => rfl
  case hdf => rfl
  case hF => simp only [go_sem]
  case hP => rfl
  apply Exec.norm
  ·simp only [go_sem, dN1, dN4, dN6, g6]
   rfl
  refine Exec.cond_split rfl (fun h4 => ?_) (fun h4 => ?_)
  ·refine sq ?_
   apply Exec.regionL te_ok
   ·intro u' Q hQ
    simp only [go_sem, dN1, dN4, dN6, g6]
    repeat refine ob2 ?_
    exact hQ
   refine Exec.rets hR te_ok rfl rfl rfl (LeX.le ?_) (.inr ⟨_, rfl⟩)
   simp only [go_sem, quR, dN1, dN4, dN6, g6]
   clear hR
   generalize (decide (1 ≤ q.p.length) && decide (q.p.length ≤ 4)) = u1 at *
   generalize decide (q.c.length ≤ 6) = u2 at *
   generalize (decide (1 ≤ q.r.length) && decide (q.r.length ≤ 4)) = u3 at *
   generalize (decide (1 ≤ q.range) && decide (q.range ≤ 1048576)) = u4 at *
   generalize (decide (1 ≤ q.slide) && decide (q.slide ≤ 1048576)) = u5 at *
   generalize q.p.all ptR = u6 at *
   generalize q.c.all cdR = u7 at *
   cases u1 <;> cases u2 <;> cases u3 <;> cases u4 <;> cases u5 <;> cases u6 <;> cases u7 <;> simp_all
  ·refine sk ?_
   refine Exec.inBlock ?_
   refine sq ?_
   apply Exec.regionL te_ok
   ·intro u' Q hQ
    simp only [go_sem, dN1, dN4, dN6, g6]
    repeat refine ob2 ?_
    refine kcall hR.inv te_ok rfl rfl rfl rfl rfl rfl (ev_p q.p q1 hfq.pa) ?_
    simp only [go_sem, dN1, dN4, dN6, g6]
    repeat refine ob2 ?_
    refine kcallG hR.inv te_ok rfl rfl rfl rfl rfl rfl ob1 (fun hq => ev_c q.c q2 hfq.ca) ?_
    simp only [go_sem, dN1, dN4, dN6, g6]
    repeat refine ob2 ?_
    refine kcallG hR.inv te_ok rfl rfl rfl rfl rfl rfl ob1 (fun hq => ev_o q.r q3 hfq.ra) ?_
    simp only [go_sem, dN1, dN4, dN6, g6]
    repeat refine ob2 ?_
    exact hQ
   refine Exec.rets hR te_ok rfl rfl rfl (LeX.le ?_) (.inr ⟨_, rfl⟩)
   simp only [go_sem, quR, dN1, dN4, dN6, g6]
   clear hR
   generalize (decide (1 ≤ q.p.length) && decide (q.p.length ≤ 4)) = u1 at *
   generalize decide (q.c.length ≤ 6) = u2 at *
   generalize (decide (1 ≤ q.r.length) && decide (q.r.length ≤ 4)) = u3 at *
   generalize (decide (1 ≤ q.range) && decide (q.range ≤ 1048576)) = u4 at *
   generalize (decide (1 ≤ q.slide) && decide (q.slide ≤ 1048576)) = u5 at *
   generalize q.p.all ptR = u6 at *
   generalize q.c.all cdR = u7 at *
   cases u1 <;> cases u2 <;> cases u3 <;> cases u4 <;> cases u5 <;> cases u6 <;> cases u7 <;> simp_all
def quH (q : Qu) : Bool := (decide (1 ≤ q.p.length) && decide (q.p.length ≤ 4)) && (decide (q.c.length ≤ 6) && ((decide (1 ≤ q.r.length) && decide (q.r.length ≤ 4)) &&
 ((decide (1 ≤ q.range) && decide (q.range ≤ 1048576)) && (decide (1 ≤ q.slide) && decide (q.slide ≤ 1048576)))))
end Go.Proofs.YtonchjamoblioaaGreatDoor
namespace Go.Proofs.YtonchjamoblioaaGreatDoor
open Go.Kin
/-! ### the text of an expression -/
theorem nth_map {α β : Type} [Inhabited α] [Inhabited β] (f : α → β) {l : List α} {i : Nat} (h : i < l.length) : nth (l.map f) i = f (nth l i) := by
  simp [nth, List.getD_eq_getElem?_getD, List.getElem?_map, List.getElem?_eq_getElem h]
def sumL (c : Nat) : List (List UInt8) → Nat
  | [] => 0
  | x :: r => x.length + c + sumL c r
theorem tail_len (s : List UInt8) : ∀ r : List (List UInt8), (Lib.joinTail s r).length = sumL s.length r
  | [] => by simp [Lib.joinTail, sumL]
  | x :: r => by have := tail_len s r; simp [Lib.joinTail, sumL] at this ⊢; omega
theorem join_len (l : List (List UInt8)) (s : List UInt8) : (Lib.join l s).length ≤ sumL s.length l := by
  cases l with
  | nil => simp [Lib.join_nil]
  | cons a r => rw [Lib.join_cons, List.length_append, tail_len]; simp only [sumL]; omega
/-- a part within an expression: in brackets where it binds less -/
def grp (pk k : Int) (t : List UInt8) : List UInt8 := if k = 3 ∨ (k = 2 ∧ ¬ pk = 3) then 40 :: (t ++ [41]) else t
theorem grp_len (pk k : Int) (t : List UInt8) : (grp pk k t).length ≤ t.length + 2 := by
  unfold grp; split <;> simp
def sgn (k : Int) : UInt8 := if k = 4 then 42 else if k = 5 then 43 else 63
mutual
def exT : Ex → List UInt8
  | .mk k s ks => if k = 1 then s else if k = 2 then Lib.join (exTs k ks) [46] else if k = 3 then Lib.join (exTs k ks) [124] else nth (exTs k ks) 0 ++ [sgn k]
def exTs (pk : Int) : List Ex → List (List UInt8)
  | [] => []
  | y :: r => grp pk y.k (exT y) :: exTs pk r
end
theorem exTs_map (pk : Int) : ∀ l : List Ex, exTs pk l = l.map fun y => grp pk y.k (exT y)
  | [] => by simp [exTs]
  | y :: r => by simp [exTs, exTs_map pk r]
theorem exT_eq (x : Ex) : exT x = if x.k = 1 then x.s else if x.k = 2 then Lib.join (exTs x.k x.kids) [46] else if x.k = 3 then Lib.join (exTs x.k x.kids) [124] else nth (exTs x.k x.kids) 0 ++ [sgn x.k] := by
  cases x; simp only [exT, Ex.k, Ex.s, Ex.kids]; rfl
theorem free_len {s : List UInt8} (h : freeB s = true) : s.length ≤ 20 := by
  unfold freeB vertexB at h; simp at h; omega
theorem exsOk_mem : ∀ {l : List Ex}, exsOk l = true → ∀ y ∈ l, exOk y = true
  | x :: r, h, y, hy => by
    simp only [exsOk, Bool.and_eq_true] at h
    rcases List.mem_cons.1 hy with rfl | hy
    · exact h.1
    · exact exsOk_mem h.2 y hy
theorem exOk_kids {x : Ex} (h : exOk x = true) : ∀ y ∈ x.kids, exOk y = true := by
  rw [exOk_eq, Bool.and_eq_true] at h; exact exsOk_mem h.2
theorem exTs_sum (pk : Int) : ∀ l : List Ex, (∀ y ∈ l, (exT y).length + 3 ≤ 24 * y.size) → sumL 1 (exTs pk l) ≤ 24 * Ex.sizes l
  | [], _ => by simp [exTs, sumL]
  | y :: r, h => by
    have h1 := exTs_sum pk r fun z hz => h z (List.mem_cons_of_mem _ hz)
    have h2 := h y List.mem_cons_self
    have h3 := grp_len pk y.k (exT y)
    simp only [exTs, sumL, Ex.sizes]; omega
theorem exT_len : ∀ x : Ex, exOk x = true → (exT x).length + 3 ≤ 24 * x.size := fun x => by
  refine Ex.ind (p := fun x => exOk x = true → (exT x).length + 3 ≤ 24 * x.size) (fun x ih h => ?_) x
  have hs := exTs_sum x.k x.kids fun y hy => ih y hy (exOk_kids h y hy)
  have he := x.size_eq
  rw [exT_eq]
  by_cases h1 : x.k = 1
  · rw [if_pos h1]
    rw [partR_1 h1, Bool.and_eq_true] at h
    have := free_len h.1; omega
  · rw [if_neg h1]
    have j1 := join_len (exTs x.k x.kids) [46]
    have j2 := join_len (exTs x.k x.kids) [124]
    simp only [List.length_singleton] at j1 j2
    by_cases h2 : x.k = 2
    · rw [if_pos h2]; omega
    · rw [if_neg h2]
      by_cases h3 : x.k = 3
      · rw [if_pos h3]; omega
      · rw [if_neg h3]
        have hle : (nth (exTs x.k x.kids) 0).length ≤ sumL 1 (exTs x.k x.kids) := by
          cases exTs x.k x.kids with
          | nil => simp [nth, sumL]; rfl
          | cons a r => show a.length ≤ _; simp only [sumL]; omega
        simp only [List.length_append, List.length_singleton]; omega
end Go.Proofs.YtonchjamoblioaaGreatDoor

namespace Go.Proofs.YtonchjamoblioaaGreatDoor
open Go.Kin
/-! ### how texts are parsed, as functions of rows of tokens -/
structure PS where
 n : Nat
 m : Int
/-- how a rule ends: it goes on from a state, with what it read; or it throws a place -/
inductive PR (α : Type) where
 | ok (s : PS) (x : α)
 | err (a : Int)
abbrev tkC (t : Tk) : List D := [.v (.int .i64 t.k), .v (.string (mkS t.t)), .v (.int .i64 t.a), .v (.int .i64 t.v.k), .v (.int .i64 t.v.n), .v (.string (mkS t.v.s))]
abbrev tksD (l : List Tk) : D := .sl 6 l.length l.length fun i => tkC (nth l i)
abbrev rdC (l : List Tk) (s : PS) : List D := [tksD l, .v (.int .i64 s.n), .v (.int .i64 s.m)]
def outP {α : Type} (wt : Nat) (l : List Tk) (f : α → D) : PR α → Out
 | .ok s x => .ret (rdC l s) (f x)
 | .err a => .pan (.ifc wt (.ag [.v (.int .i64 a)]))
/-- a row of tokens: the last one, and it alone, is the end -/
structure TkOk (l : List Tk) : Prop where
 few : l.length ≤ 100000
 len : l.length ≤ 1099511627776
 on : ∀ i, i < l.length → (nth l i).k ≠ 5 → i + 1 < l.length
 tx : ∀ i, i < l.length → (nth l i).t.length ≤ 140737488355328
 a0 : ∀ i, i < l.length → 0 ≤ (nth l i).a ∧ (nth l i).a ≤ 1099511627776
section
variable (l : List Tk)
def PS.adv (s : PS) : PS := ⟨s.n + 1, s.m⟩
def isP (w : List UInt8) (s : PS) : Bool := ((nth l s.n).k == 1 || (nth l s.n).k == 4) && (nth l s.n).t == w
def isS (w : List UInt8) (s : PS) : PS := if isP l w s = true then s.adv else s
def mustP (w : List UInt8) (s : PS) : PR Unit := if isP l w s = true then .ok s.adv () else .err (nth l s.n).a
def nameB (s : PS) : Bool := (nth l s.n).k == 1 && freeB (nth l s.n).t
def nameP (s : PS) : PR (List UInt8) := if nameB l s = true then .ok s.adv (nth l s.n).t else .err (nth l s.n).a
def limS (b : Bool) (a : Int) (s : PS) : PS := if (b && (decide (s.m < 0) || decide (a < s.m))) = true then ⟨s.n, a⟩ else s
end
theorem isP_k {l : List Tk} {w : List UInt8} {s : PS} (h : isP l w s = true) : (nth l s.n).k ≠ 5 := by
 unfold isP at h; simp at h; omega
theorem nameB_k {l : List Tk} {s : PS} (h : nameB l s = true) : (nth l s.n).k ≠ 5 := by
 unfold nameB at h; simp at h; omega
theorem outP_err {α : Type} {wt : Nat} {l : List Tk} {f : α → D} {r : PR α} {a : Int} (h : r = .err a) : outP wt l f r = .pan (.ifc wt (.ag [.v (.int .i64 a)])) := by rw [h]; rfl
theorem outP_ok {α : Type} {wt : Nat} {l : List Tk} {f : α → D} {r : PR α} {s : PS} {x : α} (h : r = .ok s x) : outP wt l f r = .ret (rdC l s) (f x) := by rw [h]; rfl
theorem fAs {I : World → Prop} {P : Program} {f : FuncId} {T : TypeId} {cs : List D} {args : List SV} {out out' : Out} (h : FnM I P f T cs args out) (e : out = out') : FnM I P f T cs args out' := e ▸ h
/-- a rule's contract, where it goes on -/
theorem fOk {I : World → Prop} {P : Program} {f : FuncId} {T : TypeId} {cs : List D} {args : List SV} {α : Type} {wt : Nat} {l : List Tk} {g : α → D} {r : PR α} (h : FnM I P f T cs args (outP wt l g r)) {s : PS} {x : α} (e : r = .ok s x) : FnM I P f T cs args (.ret (rdC l s) (g x)) := fAs h (outP_ok e)
theorem fEr {I : World → Prop} {P : Program} {f : FuncId} {T : TypeId} {cs : List D} {args : List SV} {α : Type} {wt : Nat} {l : List Tk} {g : α → D} {r : PR α} (h : FnM I P f T cs args (outP wt l g r)) {a : Int} (e : r = .err a) : FnM I P f T cs args (.pan (.ifc wt (.ag [.v (.int .i64 a)]))) := fAs h (outP_err e)
/-- where a rule goes on, it has gone on -/
def AdvP {α : Type} (l : List Tk) (s : PS) (r : PR α) : Prop := ∀ s1 x, r = .ok s1 x → s.n < s1.n ∧ s1.n < l.length
theorem must_adv {l : List Tk} (hk : TkOk l) {w : List UInt8} {s : PS} (hn : s.n < l.length) : AdvP l s (mustP l w s) := by
 intro s1 x h
 unfold mustP at h
 split at h
 ·rename_i hp; cases h; exact ⟨by simp [PS.adv], hk.on _ hn (isP_k hp)⟩
 ·cases h
theorem name_adv {l : List Tk} (hk : TkOk l) {s : PS} (hn : s.n < l.length) : AdvP l s (nameP l s) := by
 intro s1 x h
 unfold nameP at h
 split at h
 ·rename_i hp; cases h; exact ⟨by simp [PS.adv], hk.on _ hn (nameB_k hp)⟩
 ·cases h
theorem is_adv {l : List Tk} (hk : TkOk l) {w : List UInt8} {s : PS} (hn : s.n < l.length) (h : isP l w s = true) : s.n + 1 < l.length := hk.on _ hn (isP_k h)
/-! ### the rules -/
def PR.bind {α β : Type} (r : PR α) (f : PS → α → PR β) : PR β := match r with
 | .ok s x => f s x
 | .err a => .err a
section
variable (l : List Tk)
/-- the signs behind a name or brackets -/
def signP : Nat → PS → Ex → PR Ex
 | 0, s, x => .ok s x
 | f + 1, s, x =>
  if isP l [42] s = true then signP f s.adv (.mk 4 [] [x])
  else if isP l [43] s = true then signP f s.adv (.mk 5 [] [x])
  else if isP l [63] s = true then signP f s.adv (.mk 6 [] [x])
  else .ok s x
/-- what stands between separators -/
def sepP {α : Type} (rd : PS → PR α) (w : List UInt8) : Nat → PS → List α → PR (List α)
 | 0, _, _ => .err 0
 | f + 1, s, acc => (rd s).bind fun s1 x => if isP l w s1 = true then sepP rd w f s1.adv (acc ++ [x]) else .ok s1 (acc ++ [x])
def oneEx (k : Int) (xs : List Ex) : Ex := if xs.length = 1 then nth xs 0 else .mk k [] xs
def joinP (rd : PS → PR Ex) (w : List UInt8) (k : Int) (s : PS) : PR Ex := (sepP l rd w (l.length + 1) s []).bind fun s1 xs => .ok s1 (oneEx k xs)
def rowP (it : PS → PR Ex) : PS → PR Ex := joinP l it [46] 2
def exprP (it : PS → PR Ex) : PS → PR Ex := joinP l (rowP l it) [124] 3
def itemP : Nat → PS → PR Ex
 | 0, _ => .err 0
 | f + 1, s =>
  if isP l [40] s = true then (exprP l (itemP f) s.adv).bind fun s1 x => (mustP l [41] s1).bind fun s2 _ => signP l (l.length + 1) s2 x
  else (nameP l s).bind fun s1 w => signP l (l.length + 1) s1 (.mk 1 w [])
def exP (s : PS) : PR Ex := exprP l (itemP l (l.length + 1)) s
def wholeP (s : PS) : PR Ex := (exP l s).bind fun s1 x => .ok (limS (decide (24 < x.size)) (nth l s.n).a s1) x
def vertexP (s : PS) : PR (List UInt8) := (mustP l [40] s).bind fun s1 _ => (nameP l s1).bind fun s2 w => (mustP l [41] s2).bind fun s3 _ => .ok s3 w
def patP (s : PS) : PR Pt := (vertexP l s).bind fun s1 a =>
 if isP l [61, 91] s1 = true then (wholeP l s1.adv).bind fun s2 x => (mustP l [93, 61, 62] s2).bind fun s3 _ => (vertexP l s3).bind fun s4 z => .ok s4 ⟨a, z, true, [], [], x⟩
 else (mustP l [45, 91] s1).bind fun s2 _ => (nameP l s2).bind fun s3 lb =>
  if isP l [97, 115] s3 = true then (nameP l s3.adv).bind fun s4 nm => (mustP l [93, 45, 62] s4).bind fun s5 _ => (vertexP l s5).bind fun s6 z => .ok s6 ⟨a, z, false, lb, nm, Ex.mk 0 [] []⟩
  else (mustP l [93, 45, 62] s3).bind fun s5 _ => (vertexP l s5).bind fun s6 z => .ok s6 ⟨a, z, false, lb, [], Ex.mk 0 [] []⟩
def toldP (s : PS) : PR Opd := (nameP l s).bind fun s1 n =>
 if isP l [46] s1 = true then (nameP l s1.adv).bind fun s2 key => .ok s2 ⟨2, n, key, 0, 0, []⟩
 else .ok s1 ⟨1, n, [], 0, 0, []⟩
def opdB (s : PS) : Bool := (nth l s.n).k == 2 || (nth l s.n).k == 3
def opdP (s : PS) : PR Opd := if opdB l s = true then .ok s.adv ⟨3, [], [], (nth l s.n).v.k, (nth l s.n).v.n, (nth l s.n).v.s⟩ else toldP l s
def cmpsW : List (List UInt8) := [[61], [33, 61], [60], [60, 61], [62], [62, 61]]
def cmpP (a : Opd) (s : PS) : Nat → List (List UInt8) → PR Cd
 | _, [] => .err (nth l s.n).a
 | i, w :: r => if isP l w s = true then (opdP l s.adv).bind fun s1 b => .ok s1 ⟨1 + i, a, b⟩ else cmpP a s (i + 1) r
def cdP (s : PS) : PR Cd := (opdP l s).bind fun s1 a => cmpP l a s1 0 cmpsW
def numB (v : Int) : Bool := decide (v < 1) || decide (1048576 < v)
def numP (s : PS) : PR Int := if (nth l s.n).k = 2 then .ok (limS (numB (nth l s.n).v.n) (nth l s.n).a s).adv (nth l s.n).v.n else .err (nth l s.n).a
/-- the same, where more than so many are too many -/
def manyP {α : Type} (rd : PS → PR α) (w : List UInt8) (mx : Nat) : Nat → PS → List α → PR (List α)
 | 0, _, _ => .err 0
 | f + 1, s, acc => (rd (limS (decide (acc.length = mx)) (nth l s.n).a s)).bind fun s1 x => if isP l w s1 = true then manyP rd w mx f s1.adv (acc ++ [x]) else .ok s1 (acc ++ [x])
def queryP (s : PS) : PR Qu := (mustP l [109, 97, 116, 99, 104] s).bind fun s1 _ => (manyP l (patP l) [44] 4 (l.length + 1) s1 []).bind fun s2 ps =>
 (if isP l [119, 104, 101, 114, 101] s2 = true then manyP l (cdP l) [97, 110, 100] 6 (l.length + 1) s2.adv [] else .ok s2 []).bind fun s3 cs =>
 (mustP l [114, 101, 116, 117, 114, 110] s3).bind fun s4 _ => (manyP l (toldP l) [44] 4 (l.length + 1) s4 []).bind fun s5 rs =>
 (mustP l [114, 97, 110, 103, 101] s5).bind fun s6 _ => (numP l s6).bind fun s7 rg => (mustP l [115, 108, 105, 100, 101] s7).bind fun s8 _ => (numP l s8).bind fun s9 sl => .ok s9 ⟨ps, cs, rs, rg, sl⟩
end
end Go.Proofs.YtonchjamoblioaaGreatDoor
