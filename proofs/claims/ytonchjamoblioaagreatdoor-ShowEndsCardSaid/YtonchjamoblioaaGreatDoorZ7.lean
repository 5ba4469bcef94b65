/- Steps of a function body on data, and contracts of the functions of the seat, walked. -/
import Derived.Test.YtonchjamoblioaaGreatDoorZ6
set_option linter.unusedSimpArgs false
set_option linter.unusedVariables false
set_option linter.unusedSectionVars false
namespace Go.Proofs.YtonchjamoblioaaGreatDoor
open Go.Kin
set_option maxRecDepth 100000
set_option maxHeartbeats 0
theorem isE_app (x y : List UInt8) : (x ++ y).isEmpty = (x.isEmpty && y.isEmpty) := by cases x <;> simp
theorem mgD_kd (c : Bool) (x : Ex) : mgD c (kdX x) (kdX x) = some (kdX x) := by rw [kd_eq]; cases c <;> simp [mgD]
attribute [go_sem ↓] mgD_kd
theorem xsame_z (x : Ex) (hfx : FitX x) : FnOK Laid Tryz.prog 37 [exD x, .ag [.v (.int .i64 0), .v (.string (mkS [])), .v (.slice none 0 0)]] (bv (decide (x = zEx))) :=
 FnOK.args (xsame_ok x zEx hfx) ⟨LeD.refl _, LeD.ag ⟨LeD.refl _, LeD.refl _, by rw [kd_eq]; exact LeD.nil 3 _, trivial⟩, trivial⟩
theorem r7same_z (x : Ex) (hfx : FitX x) : FnOK Laid Tryz.prog 150 [exD x, .ag [.v (.int .i64 0), .v (.string (mkS [])), .v (.slice none 0 0)]] (bv (decide (x = zEx))) :=
 FnOK.args (r7same_ok x zEx hfx) ⟨LeD.refl _, LeD.ag ⟨LeD.refl _, LeD.refl _, by rw [kd_eq]; exact LeD.nil 3 _, trivial⟩, trivial⟩
theorem between_ok (n u v : Int) : FnOK Laid Tryz.prog 68 [iv n, iv u, iv v] (bv (decide (u ≤ n) && decide (n ≤ v))) := by
 refine FnOK_of laid_stable Tryz.func68 Tryz.ntmps68 rfl (by as_aux_lemma => kernel_rfl) (Nat.le_of_ble_eq_true rfl) (fun R hR => ?_)
 obtain ⟨_, b, cs, T, C⟩ := R
 obtain rfl : _ = Tryz.prog := hR.p
 refine sreg te_ok ?_
 refine sreg te_ok ?_
 refine Exec.rets hR te_ok rfl rfl rfl (LeX.le ?_) (.inr ⟨_, rfl⟩)
 simp only [go_sem]
theorem xop_ok (o : Opd) (hfo : FitO o) : FnOK Laid Tryz.prog 141 [opD o] (bv (opR o)) := by
 refine FnOK_of laid_stable Tryz.func141 Tryz.ntmps141 rfl (by as_aux_lemma => kernel_rfl) (Nat.le_of_ble_eq_true rfl) (fun R hR => ?_)
 obtain ⟨_, b, cs, T, C⟩ := R
 obtain rfl : _ = Tryz.prog := hR.p
 have hvs := hfo.vs
 refine sreg te_ok ?_
 refine sq ?_
 apply Exec.regionL te_ok
 ·intro u' Q hQ
  simp only [go_sem]
  repeat refine ob2 ?_
  refine kcall hR.inv te_ok rfl rfl rfl rfl rfl rfl (free_ok o.n hfo.n) ?_
  simp only [go_sem]
  repeat refine ob2 ?_
  exact hQ
 refine sreg te_ok ?_
 refine sq ?_
 refine sreg te_ok ?_
 refine Exec.block ?_
 refine sreg te_ok ?_
 refine Exec.cond_split rfl (fun h0 => ?_) (fun h0 => ?_)
 ·refine Exec.reg te_ok ?_
  refine Exec.inBlock ?_
  refine sreg te_ok ?_
  refine Exec.rets hR te_ok rfl rfl rfl (LeX.le ?_) (.inr ⟨_, rfl⟩)
  simp only [go_sem, opR]
  first | (simp_all [Bool.and_assoc]; done) | (simp_all; cases rightV o.vk o.vn o.vs <;> simp)
 ·refine sreg te_ok ?_
  refine Exec.cond_split rfl (fun h1 => ?_) (fun h1 => ?_)
  ·refine sq ?_
   apply Exec.draw (st := _) 9 5 [] [2, 3, 100001] te_ok (by as_aux_lemma => kernel_rfl) (by as_aux_lemma => kernel_rfl) (by as_aux_lemma => kernel_rfl)
   ·intro u' Q hQ
    simp only [go_sem]
    repeat refine ob2 ?_
    exact hQ
   apply Exec.regionL te_ok
   ·intro u' Q hQ
    simp only [go_sem]
    repeat refine ob2 ?_
    refine kcallG hR.inv te_ok rfl rfl rfl rfl rfl rfl ob1 (fun hq => free_ok o.key hfo.key) ?_
    simp only [go_sem]
    repeat refine ob2 ?_
    exact hQ
   refine Exec.inBlock ?_
   refine sreg te_ok ?_
   refine Exec.rets hR te_ok rfl rfl rfl (LeX.le ?_) (.inr ⟨_, rfl⟩)
   simp only [go_sem, opR]
   first | (simp_all [Bool.and_assoc]; done) | (simp_all; cases rightV o.vk o.vn o.vs <;> simp)
  ·refine sreg te_ok ?_
   refine Exec.cond_split rfl (fun h2 => ?_) (fun h2 => ?_)
   ·refine sreg te_ok ?_
    apply Exec.regionL te_ok
    ·intro u' Q hQ
     simp only [go_sem]
     repeat refine ob2 ?_
     refine kcall hR.inv te_ok rfl rfl rfl rfl rfl rfl (right_ok _ _ _ (by omega)) ?_
     simp only [go_sem]
     repeat refine ob2 ?_
     exact hQ
    refine Exec.inBlock ?_
    refine sreg te_ok ?_
    refine Exec.rets hR te_ok rfl rfl rfl (LeX.le ?_) (.inr ⟨_, rfl⟩)
    simp only [go_sem, opR]
    first | (simp_all [Bool.and_assoc]; done) | (simp_all; cases rightV o.vk o.vn o.vs <;> simp)
   ·refine sreg te_ok ?_
    refine Exec.rets hR te_ok rfl rfl rfl (LeX.le ?_) (.inr ⟨_, rfl⟩)
    simp only [go_sem, opR]
    first | (simp_all [Bool.and_assoc]; done) | (simp_all; cases rightV o.vk o.vn o.vs <;> simp)
theorem rop_ok (o : Opd) (hfo : FitO o) : FnOK Laid Tryz.prog 91 [opD o] (bv (opR o)) := by
 refine FnOK_of laid_stable Tryz.func91 Tryz.ntmps91 rfl (by as_aux_lemma => kernel_rfl) (Nat.le_of_ble_eq_true rfl) (fun R hR => ?_)
 obtain ⟨_, b, cs, T, C⟩ := R
 obtain rfl : _ = Tryz.prog := hR.p
 have hvs := hfo.vs
 refine sreg te_ok ?_
 refine sreg te_ok ?_
 refine sq ?_
 refine sreg te_ok ?_
 refine Exec.block ?_
 refine sreg te_ok ?_
 refine Exec.cond_split rfl (fun h0 => ?_) (fun h0 => ?_)
 ·refine sq ?_
  apply Exec.regionL te_ok
  ·intro u' Q hQ
   simp only [go_sem]
   repeat refine ob2 ?_
   refine kcall hR.inv te_ok rfl rfl rfl rfl rfl rfl (r2free_ok o.n hfo.n) ?_
   simp only [go_sem]
   repeat refine ob2 ?_
   exact hQ
  refine Exec.rets hR te_ok rfl rfl rfl (LeX.le ?_) (.inr ⟨_, rfl⟩)
  simp only [go_sem, opR]
  first | (simp_all [Bool.and_assoc]; done) | (simp_all; cases rightV o.vk o.vn o.vs <;> simp)
 ·refine sreg te_ok ?_
  refine Exec.cond_split rfl (fun h1 => ?_) (fun h1 => ?_)
  ·refine sq ?_
   apply Exec.regionL te_ok
   ·intro u' Q hQ
    simp only [go_sem]
    repeat refine ob2 ?_
    refine kcall hR.inv te_ok rfl rfl rfl rfl rfl rfl (r2free_ok o.n hfo.n) ?_
    simp only [go_sem]
    repeat refine ob2 ?_
    refine kcallG hR.inv te_ok rfl rfl rfl rfl rfl rfl ob1 (fun hq => r2free_ok o.key hfo.key) ?_
    simp only [go_sem]
    repeat refine ob2 ?_
    exact hQ
   refine Exec.rets hR te_ok rfl rfl rfl (LeX.le ?_) (.inr ⟨_, rfl⟩)
   simp only [go_sem, opR]
   first | (simp_all [Bool.and_assoc]; done) | (simp_all; cases rightV o.vk o.vn o.vs <;> simp)
  ·refine sreg te_ok ?_
   refine Exec.cond_split rfl (fun h2 => ?_) (fun h2 => ?_)
   ·refine sq ?_
    apply Exec.regionL te_ok
    ·intro u' Q hQ
     simp only [go_sem]
     repeat refine ob2 ?_
     refine kcallG hR.inv te_ok rfl rfl rfl rfl rfl rfl ob1 (fun hq => rright_ok _ _ _ (by omega)) ?_
     simp only [go_sem]
     repeat refine ob2 ?_
     exact hQ
    refine Exec.rets hR te_ok rfl rfl rfl (LeX.le ?_) (.inr ⟨_, rfl⟩)
    simp only [go_sem, opR]
    first | (simp_all [Bool.and_assoc]; done) | (simp_all; cases rightV o.vk o.vn o.vs <;> simp)
   ·refine sk ?_
    refine Exec.inBlock ?_
    refine sreg te_ok ?_
    refine Exec.rets hR te_ok rfl rfl rfl (LeX.le ?_) (.inr ⟨_, rfl⟩)
    simp only [go_sem, opR]
    first | (simp_all [Bool.and_assoc]; done) | (simp_all; cases rightV o.vk o.vn o.vs <;> simp)
def idxI {α : Type} (g : α → Bool) : List α → Int
 | [] => -1
 | x :: r => if g x then 0 else if idxI g r < 0 then -1 else idxI g r + 1
theorem idxI_iff {α : Type} (g : α → Bool) : ∀ l : List α, (0 ≤ idxI g l ↔ l.any g = true)
 | [] => by simp [idxI]
 | x :: r => by
  have ih := idxI_iff g r
  have e1 : idxI g (x :: r) = if g x then 0 else if idxI g r < 0 then -1 else idxI g r + 1 := rfl
  rw [e1, List.any_cons]
  by_cases hg : g x = true
  ·rw [if_pos hg, hg]; simp
  ·rw [if_neg hg, show g x = false from by simpa using hg, Bool.false_or, ← ih]
   split <;> omega
theorem idxI_any {α : Type} (g : α → Bool) (l : List α) : decide (0 ≤ idxI g l) = l.any g := by
 rw [Bool.eq_iff_iff, decide_eq_true_iff]; exact idxI_iff g l
theorem idxI_none {α : Type} {g : α → Bool} : ∀ {l : List α}, l.any g = false → idxI g l = -1
 | [], _ => rfl
 | x :: r, h => by
  simp only [List.any_cons, Bool.or_eq_false_iff] at h
  simp only [idxI, h.1, Bool.false_eq_true, if_false, idxI_none h.2]; rfl
theorem idxI_at {α : Type} [Inhabited α] {g : α → Bool} : ∀ {l : List α} {i : Nat}, i < l.length → (l.take i).any g = false → g (nth l i) = true → idxI g l = i
 | x :: r, 0, _, _, h => by
  have h' : g x = true := h
  simp only [idxI]; rw [if_pos h']; rfl
 | x :: r, i + 1, hi, ha, h => by
  simp only [List.take_succ_cons, List.any_cons, Bool.or_eq_false_iff] at ha
  have ih := idxI_at (l := r) (i := i) (by simpa using hi) ha.2 h
  simp only [idxI, ha.1, Bool.false_eq_true, if_false, ih]
  rw [if_neg (by omega)]; simp
theorem any_take {α : Type} [Inhabited α] {g : α → Bool} {l : List α} {i : Nat} (h : i < l.length) : (l.take (i + 1)).any g = ((l.take i).any g || g (nth l i)) := by
 rw [take_succ_nth h, List.any_append]; simp
theorem all_not {α : Type} (g : α → Bool) (l : List α) : (!l.any fun x => !g x) = l.all g := by
 induction l with
 | nil => rfl
 | cons x r ih => simp only [List.any_cons, List.all_cons, Bool.not_or, Bool.not_not, ih]
theorem xcond_ok (c : Cd) (hc : FitC c) : FnOK Laid Tryz.prog 72 [cdD c] (bv (cdR c)) := by
 refine FnOK_of laid_stable Tryz.func72 Tryz.ntmps72 rfl (by as_aux_lemma => kernel_rfl) (Nat.le_of_ble_eq_true rfl) (fun R hR => ?_)
 obtain ⟨_, b, cs, T, C⟩ := R
 obtain rfl : _ = Tryz.prog := hR.p
 refine sreg te_ok ?_
 refine sq ?_
 apply Exec.regionL te_ok
 ·intro u' Q hQ
  simp only [go_sem]
  repeat refine ob2 ?_
  refine kcall hR.inv te_ok rfl rfl rfl rfl rfl rfl (between_ok _ _ _) ?_
  simp only [go_sem]
  repeat refine ob2 ?_
  refine kcallG hR.inv te_ok rfl rfl rfl rfl rfl rfl ob1 (fun hq => xop_ok c.l hc.l) ?_
  simp only [go_sem]
  repeat refine ob2 ?_
  refine kcallG hR.inv te_ok rfl rfl rfl rfl rfl rfl ob1 (fun hq => xop_ok c.r hc.r) ?_
  simp only [go_sem]
  repeat refine ob2 ?_
  exact hQ
 refine Exec.rets hR te_ok rfl rfl rfl (LeX.le ?_) (.inr ⟨_, rfl⟩)
 simp only [go_sem, cdR]
 try simp only [Bool.and_assoc]
theorem told_ok (o : Opd) (hfo : FitO o) : FnOK Laid Tryz.prog 74 [opD o] (bv (o.k != 3 && opR o)) := by
 refine FnOK_of laid_stable Tryz.func74 Tryz.ntmps74 rfl (by as_aux_lemma => kernel_rfl) (Nat.le_of_ble_eq_true rfl) (fun R hR => ?_)
 obtain ⟨_, b, cs, T, C⟩ := R
 obtain rfl : _ = Tryz.prog := hR.p
 refine sreg te_ok ?_
 refine sq ?_
 apply Exec.regionL te_ok
 ·intro u' Q hQ
  simp only [go_sem]
  repeat refine ob2 ?_
  refine kcallG hR.inv te_ok rfl rfl rfl rfl rfl rfl ob1 (fun hq => xop_ok _ (by assumption)) ?_
  simp only [go_sem]
  repeat refine ob2 ?_
  exact hQ
 refine Exec.rets hR te_ok rfl rfl rfl (LeX.le ?_) (.inr ⟨_, rfl⟩)
 simp only [go_sem]
theorem xpat_ok (p : Pt) (hp : FitP p) : FnOK Laid Tryz.prog 70 [ptD p] (bv (ptR p)) := by
 refine FnOK_of laid_stable Tryz.func70 Tryz.ntmps70 rfl (by as_aux_lemma => kernel_rfl) (Nat.le_of_ble_eq_true rfl) (fun R hR => ?_)
 obtain ⟨_, b, cs, T, C⟩ := R
 obtain rfl : _ = Tryz.prog := hR.p
 have h1 := hp.a
 have h2 := hp.z
 have h3 := hp.lab
 have h4 := hp.name
 refine sreg te_ok ?_
 refine sq ?_
 refine Exec.block ?_
 refine sq ?_
 refine sq ?_
 apply Exec.regionL te_ok
 ·intro u' Q hQ
  simp only [go_sem]
  repeat refine ob2 ?_
  refine kcall hR.inv te_ok rfl rfl rfl rfl rfl rfl (free_ok p.a hp.a) ?_
  simp only [go_sem]
  repeat refine ob2 ?_
  exact hQ
 apply Exec.join [1, 3] rfl
 case hx =>
  intro h0 hK
  refine sk ?_
  exact hK
 case hy =>
  intro h0 hK
  apply Exec.regionL te_ok
  ·intro u' Q hQ
   simp only [go_sem]
   repeat refine ob2 ?_
   refine kcall hR.inv te_ok rfl rfl rfl rfl rfl rfl (free_ok p.z hp.z) ?_
   simp only [go_sem]
   repeat refine ob2 ?_
   exact hQ
  exact hK
 case hN => rfl
 case hdf => rfl
 case hF => simp only [go_sem]
 case hP => rfl
 apply Exec.norm
 ·simp only [go_sem]
  rfl
 refine Exec.cond_split rfl (fun h1 => ?_) (fun h1 => ?_)
 ·refine sreg te_ok ?_
  refine Exec.rets hR te_ok rfl rfl rfl (LeX.le ?_) (.inr ⟨_, rfl⟩)
  simp only [go_sem, ptR]
  first | (simp_all; done) | (cases hpa : freeB p.a <;> cases hpz : freeB p.z <;> cases hpp : p.path <;> simp_all [Bool.and_assoc, isE_app])
 ·refine sreg te_ok ?_
  refine Exec.cond_split rfl (fun h2 => ?_) (fun h2 => ?_)
  ·refine sq ?_
   apply Exec.regionL te_ok
   ·intro u' Q hQ
    simp only [go_sem]
    repeat refine ob2 ?_
    refine kcallG hR.inv te_ok rfl rfl rfl rfl rfl rfl ob1 (fun hq => xright_ok p.e hp.e) ?_
    simp only [go_sem]
    repeat refine ob2 ?_
    exact hQ
   refine Exec.rets hR te_ok rfl rfl rfl (LeX.le ?_) (.inr ⟨_, rfl⟩)
   simp only [go_sem, ptR]
   first | (simp_all; done) | (cases hpa : freeB p.a <;> cases hpz : freeB p.z <;> cases hpp : p.path <;> simp_all [Bool.and_assoc, isE_app])
  ·refine sk ?_
   refine Exec.inBlock ?_
   refine sq ?_
   apply Exec.regionL te_ok
   ·intro u' Q hQ
    simp only [go_sem]
    repeat refine ob2 ?_
    refine kcall hR.inv te_ok rfl rfl rfl rfl rfl rfl (free_ok p.lab hp.lab) ?_
    simp only [go_sem]
    repeat refine ob2 ?_
    refine kcallG hR.inv te_ok rfl rfl rfl rfl rfl rfl ob1 (fun hq => free_ok p.name hp.name) ?_
    simp only [go_sem]
    repeat refine ob2 ?_
    refine kcallG hR.inv te_ok rfl rfl rfl rfl rfl rfl ob1 (fun hq => xsame_z p.e hp.e) ?_
    simp only [go_sem]
    repeat refine ob2 ?_
    exact hQ
   refine Exec.rets hR te_ok rfl rfl rfl (LeX.le ?_) (.inr ⟨_, rfl⟩)
   simp only [go_sem, ptR]
   first | (simp_all; done) | (cases hpa : freeB p.a <;> cases hpz : freeB p.z <;> cases hpp : p.path <;> simp_all [Bool.and_assoc, isE_app])
theorem cl_p (p : Pt) (hp : FitP p) : FnOK Laid Tryz.prog 137 [ptD p, .ptr [.fn 70 []]] (bv (!ptR p)) := by
 refine FnOK_of laid_stable Tryz.func137 Tryz.ntmps137 rfl (by as_aux_lemma => kernel_rfl) (Nat.le_of_ble_eq_true rfl) (fun R hR => ?_)
 obtain ⟨_, b, cs, T, C⟩ := R
 obtain rfl : _ = Tryz.prog := hR.p
 refine sreg te_ok ?_
 refine sq ?_
 apply Exec.regionL te_ok
 ·intro u' Q hQ
  simp only [go_sem]
  repeat refine ob2 ?_
  refine kcall hR.inv te_ok rfl rfl rfl rfl rfl rfl (xpat_ok p hp) ?_
  simp only [go_sem]
  repeat refine ob2 ?_
  exact hQ
 refine Exec.rets hR te_ok rfl rfl rfl (LeX.le ?_) (.inr ⟨_, rfl⟩)
 simp only [go_sem]
theorem ix_p (l : List Pt) (hl : l.length ≤ 140737488355328) (hf : ∀ p ∈ l, FitP p) : FnOK Laid Tryz.prog 172 [ptsD l, .fn 137 [.ptr [.fn 70 []]]] (iv (idxI (fun x => !ptR x) l)) := by
 refine FnOK_of laid_stable Tryz.func172 Tryz.ntmps172 rfl (by as_aux_lemma => kernel_rfl) (Nat.le_of_ble_eq_true rfl) (fun R hR => ?_)
 obtain ⟨_, b, cs, T, C⟩ := R
 obtain rfl : _ = Tryz.prog := hR.p
 refine sreg te_ok ?_
 refine sq ?_
 refine sreg te_ok ?_
 refine Exec.block ?_
 apply Exec.loopU [0, 1, 7] (X := Nat) (fun i => [(8, .d (iv i))]) (fun i => []) (fun i => []) (fun i => l.length - i) (fun i => i ≤ l.length ∧ (l.take i).any (fun x => !ptR x) = false) 0
 case h0 =>
  simp
 case hw =>
  simp only [go_sem]
 case body =>
  rintro i hx ih0
  try simp only at hx
  apply Exec.norm
  ·simp only [go_sem]
   rfl
  refine sreg te_ok ?_
  refine sq ?_
  refine Exec.cond_split rfl (fun h0 => ?_) (fun h0 => ?_)
  ·have hi : i < l.length := by have := of_decide_eq_true h0; omega
   have w2 : IntKind.i64.wrap ((i : Int) + 1) = ((i + 1 : Nat) : Int) := by rw [wrap_id (by omega)]; omega
   refine sk ?_
   refine sq ?_
   refine Exec.block ?_
   refine sq ?_
   apply Exec.regionL te_ok
   ·intro u' Q hQ
    simp only [go_sem, w2]
    repeat refine ob2 ?_
    exact hQ
   refine sq ?_
   apply Exec.regionL te_ok
   ·intro u' Q hQ
    simp only [go_sem, w2]
    repeat refine ob2 ?_
    refine kcall hR.inv te_ok rfl rfl rfl rfl rfl rfl (cl_p _ (hf _ (nth_mem hi))) ?_
    simp only [go_sem, w2]
    repeat refine ob2 ?_
    exact hQ
   refine Exec.cond_split rfl (fun h1 => ?_) (fun h1 => ?_)
   ·refine sq ?_
    apply Exec.regionL te_ok
    ·intro u' Q hQ
     simp only [go_sem, w2]
     repeat refine ob2 ?_
     exact hQ
    refine Exec.rets hR te_ok rfl rfl rfl (LeX.le ?_) (.inr ⟨_, rfl⟩)
    simp only [go_sem]
    rw [idxI_at hi hx.2 h1]
   ·refine sk ?_
    refine Exec.inBlock ?_
    apply Exec.regionL te_ok
    ·intro u' Q hQ
     simp only [go_sem, w2]
     repeat refine ob2 ?_
     exact hQ
    refine Exec.back (ih0 (i + 1) ?_ ?_) ?_ ?_ ?_ ?_ ?_ ?_ ?_
    ·try simp only
     exact ⟨by omega, by rw [any_take hi, hx.2]; simpa using h1⟩
    ·try simp only
     omega
    ·rfl
    ·rfl
    ·(simp only [go_sem, w2])
    ·(simp only [go_sem, w2])
    ·(simp only [go_sem, w2])
    ·simp only [go_sem, w2]
    ·rfl
  ·refine Exec.exit rfl ?_
   refine sreg te_ok ?_
   refine Exec.rets hR te_ok rfl rfl rfl (LeX.le ?_) (.inr ⟨_, rfl⟩)
   simp only [go_sem]
   rw [idxI_none (by have := hx.2; rwa [List.take_of_length_le (by have := of_decide_eq_false h0; omega)] at this)]
theorem co_p (l : List Pt) (hl : l.length ≤ 140737488355328) (hf : ∀ p ∈ l, FitP p) : FnOK Laid Tryz.prog 136 [ptsD l, .fn 137 [.ptr [.fn 70 []]]] (bv (l.any fun x => !ptR x)) := by
 refine FnOK_of laid_stable Tryz.func136 Tryz.ntmps136 rfl (by as_aux_lemma => kernel_rfl) (Nat.le_of_ble_eq_true rfl) (fun R hR => ?_)
 obtain ⟨_, b, cs, T, C⟩ := R
 obtain rfl : _ = Tryz.prog := hR.p
 refine sq ?_
 apply Exec.regionL te_ok
 ·intro u' Q hQ
  simp only [go_sem, idxI_any]
  repeat refine ob2 ?_
  exact hQ
 refine sq ?_
 apply Exec.regionL te_ok
 ·intro u' Q hQ
  simp only [go_sem, idxI_any]
  repeat refine ob2 ?_
  refine kcall hR.inv te_ok rfl rfl rfl rfl rfl rfl (ix_p l hl hf) ?_
  simp only [go_sem, idxI_any]
  repeat refine ob2 ?_
  exact hQ
 refine Exec.rets hR te_ok rfl rfl rfl (LeX.le ?_) (.inr ⟨_, rfl⟩)
 simp only [go_sem, idxI_any]
theorem ev_p (l : List Pt) (hl : l.length ≤ 140737488355328) (hf : ∀ p ∈ l, FitP p) : FnOK Laid Tryz.prog 69 [ptsD l, .fn 70 []] (bv (l.all ptR)) := by
 refine FnOK_of laid_stable Tryz.func69 Tryz.ntmps69 rfl (by as_aux_lemma => kernel_rfl) (Nat.le_of_ble_eq_true rfl) (fun R hR => ?_)
 obtain ⟨_, b, cs, T, C⟩ := R
 obtain rfl : _ = Tryz.prog := hR.p
 refine sq ?_
 apply Exec.regionL te_ok
 ·intro u' Q hQ
  simp only [go_sem, all_not]
  repeat refine ob2 ?_
  exact hQ
 refine sq ?_
 apply Exec.regionL te_ok
 ·intro u' Q hQ
  simp only [go_sem, all_not]
  repeat refine ob2 ?_
  refine kfreezeB 3 rfl rfl (by simp only [go_sem, all_not]; rfl) ?_
  refine kcall hR.inv te_ok rfl rfl rfl rfl rfl rfl (co_p l hl hf) ?_
  simp only [go_sem, all_not]
  repeat refine ob2 ?_
  exact hQ
 refine Exec.rets hR te_ok rfl rfl rfl (LeX.le ?_) (.inr ⟨_, rfl⟩)
 simp only [go_sem, all_not]
theorem cl_c (p : Cd) (hp : FitC p) : FnOK Laid Tryz.prog 140 [cdD p, .ptr [.fn 72 []]] (bv (!cdR p)) := by
 refine FnOK_of laid_stable Tryz.func140 Tryz.ntmps140 rfl (by as_aux_lemma => kernel_rfl) (Nat.le_of_ble_eq_true rfl) (fun R hR => ?_)
 obtain ⟨_, b, cs, T, C⟩ := R
 obtain rfl : _ = Tryz.prog := hR.p
 refine sreg te_ok ?_
 refine sq ?_
 apply Exec.regionL te_ok
 ·intro u' Q hQ
  simp only [go_sem]
  repeat refine ob2 ?_
  refine kcall hR.inv te_ok rfl rfl rfl rfl rfl rfl (xcond_ok p hp) ?_
  simp only [go_sem]
  repeat refine ob2 ?_
  exact hQ
 refine Exec.rets hR te_ok rfl rfl rfl (LeX.le ?_) (.inr ⟨_, rfl⟩)
 simp only [go_sem]
theorem ix_c (l : List Cd) (hl : l.length ≤ 140737488355328) (hf : ∀ p ∈ l, FitC p) : FnOK Laid Tryz.prog 175 [cdsD l, .fn 140 [.ptr [.fn 72 []]]] (iv (idxI (fun x => !cdR x) l)) := by
 refine FnOK_of laid_stable Tryz.func175 Tryz.ntmps175 rfl (by as_aux_lemma => kernel_rfl) (Nat.le_of_ble_eq_true rfl) (fun R hR => ?_)
 obtain ⟨_, b, cs, T, C⟩ := R
 obtain rfl : _ = Tryz.prog := hR.p
 refine sreg te_ok ?_
 refine sq ?_
 refine sreg te_ok ?_
 refine Exec.block ?_
 apply Exec.loopU [0, 1, 7] (X := Nat) (fun i => [(8, .d (iv i))]) (fun i => []) (fun i => []) (fun i => l.length - i) (fun i => i ≤ l.length ∧ (l.take i).any (fun x => !cdR x) = false) 0
 case h0 =>
  simp
 case hw =>
  simp only [go_sem]
 case body =>
  rintro i hx ih0
  try simp only at hx
  apply Exec.norm
  ·simp only [go_sem]
   rfl
  refine sreg te_ok ?_
  refine sq ?_
  refine Exec.cond_split rfl (fun h0 => ?_) (fun h0 => ?_)
  ·have hi : i < l.length := by have := of_decide_eq_true h0; omega
   have w2 : IntKind.i64.wrap ((i : Int) + 1) = ((i + 1 : Nat) : Int) := by rw [wrap_id (by omega)]; omega
   refine sk ?_
   refine sq ?_
   refine Exec.block ?_
   refine sq ?_
   apply Exec.regionL te_ok
   ·intro u' Q hQ
    simp only [go_sem, w2]
    repeat refine ob2 ?_
    exact hQ
   refine sq ?_
   apply Exec.regionL te_ok
   ·intro u' Q hQ
    simp only [go_sem, w2]
    repeat refine ob2 ?_
    refine kcall hR.inv te_ok rfl rfl rfl rfl rfl rfl (cl_c _ (hf _ (nth_mem hi))) ?_
    simp only [go_sem, w2]
    repeat refine ob2 ?_
    exact hQ
   refine Exec.cond_split rfl (fun h1 => ?_) (fun h1 => ?_)
   ·refine sq ?_
    apply Exec.regionL te_ok
    ·intro u' Q hQ
     simp only [go_sem, w2]
     repeat refine ob2 ?_
     exact hQ
    refine Exec.rets hR te_ok rfl rfl rfl (LeX.le ?_) (.inr ⟨_, rfl⟩)
    simp only [go_sem]
    rw [idxI_at hi hx.2 h1]
   ·refine sk ?_
    refine Exec.inBlock ?_
    apply Exec.regionL te_ok
    ·intro u' Q hQ
     simp only [go_sem, w2]
     repeat refine ob2 ?_
     exact hQ
    refine Exec.back (ih0 (i + 1) ?_ ?_) ?_ ?_ ?_ ?_ ?_ ?_ ?_
    ·try simp only
     exact ⟨by omega, by rw [any_take hi, hx.2]; simpa using h1⟩
    ·try simp only
     omega
    ·rfl
    ·rfl
    ·(simp only [go_sem, w2])
    ·(simp only [go_sem, w2])
    ·(simp only [go_sem, w2])
    ·simp only [go_sem, w2]
    ·rfl
  ·refine Exec.exit rfl ?_
   refine sreg te_ok ?_
   refine Exec.rets hR te_ok rfl rfl rfl (LeX.le ?_) (.inr ⟨_, rfl⟩)
   simp only [go_sem]
   rw [idxI_none (by have := hx.2; rwa [List.take_of_length_le (by have := of_decide_eq_false h0; omega)] at this)]
theorem co_c (l : List Cd) (hl : l.length ≤ 140737488355328) (hf : ∀ p ∈ l, FitC p) : FnOK Laid Tryz.prog 139 [cdsD l, .fn 140 [.ptr [.fn 72 []]]] (bv (l.any fun x => !cdR x)) := by
 refine FnOK_of laid_stable Tryz.func139 Tryz.ntmps139 rfl (by as_aux_lemma => kernel_rfl) (Nat.le_of_ble_eq_true rfl) (fun R hR => ?_)
 obtain ⟨_, b, cs, T, C⟩ := R
 obtain rfl : _ = Tryz.prog := hR.p
 refine sq ?_
 apply Exec.regionL te_ok
 ·intro u' Q hQ
  simp only [go_sem, idxI_any]
  repeat refine ob2 ?_
  exact hQ
 refine sq ?_
 apply Exec.regionL te_ok
 ·intro u' Q hQ
  simp only [go_sem, idxI_any]
  repeat refine ob2 ?_
  refine kcall hR.inv te_ok rfl rfl rfl rfl rfl rfl (ix_c l hl hf) ?_
  simp only [go_sem, idxI_any]
  repeat refine ob2 ?_
  exact hQ
 refine Exec.rets hR te_ok rfl rfl rfl (LeX.le ?_) (.inr ⟨_, rfl⟩)
 simp only [go_sem, idxI_any]
theorem ev_c (l : List Cd) (hl : l.length ≤ 140737488355328) (hf : ∀ p ∈ l, FitC p) : FnOK Laid Tryz.prog 71 [cdsD l, .fn 72 []] (bv (l.all cdR)) := by
 refine FnOK_of laid_stable Tryz.func71 Tryz.ntmps71 rfl (by as_aux_lemma => kernel_rfl) (Nat.le_of_ble_eq_true rfl) (fun R hR => ?_)
 obtain ⟨_, b, cs, T, C⟩ := R
 obtain rfl : _ = Tryz.prog := hR.p
 refine sq ?_
 apply Exec.regionL te_ok
 ·intro u' Q hQ
  simp only [go_sem, all_not]
  repeat refine ob2 ?_
  exact hQ
 refine sq ?_
 apply Exec.regionL te_ok
 ·intro u' Q hQ
  simp only [go_sem, all_not]
  repeat refine ob2 ?_
  refine kfreezeB 3 rfl rfl (by simp only [go_sem, all_not]; rfl) ?_
  refine kcall hR.inv te_ok rfl rfl rfl rfl rfl rfl (co_c l hl hf) ?_
  simp only [go_sem, all_not]
  repeat refine ob2 ?_
  exact hQ
 refine Exec.rets hR te_ok rfl rfl rfl (LeX.le ?_) (.inr ⟨_, rfl⟩)
 simp only [go_sem, all_not]
abbrev toR (o : Opd) : Bool := o.k != 3 && opR o
theorem cl_o (p : Opd) (hp : FitO p) : FnOK Laid Tryz.prog 143 [opD p, .ptr [.fn 74 []]] (bv (!toR p)) := by
 refine FnOK_of laid_stable Tryz.func143 Tryz.ntmps143 rfl (by as_aux_lemma => kernel_rfl) (Nat.le_of_ble_eq_true rfl) (fun R hR => ?_)
 obtain ⟨_, b, cs, T, C⟩ := R
 obtain rfl : _ = Tryz.prog := hR.p
 refine sreg te_ok ?_
 refine sq ?_
 apply Exec.regionL te_ok
 ·intro u' Q hQ
  simp only [go_sem]
  repeat refine ob2 ?_
  refine kcall hR.inv te_ok rfl rfl rfl rfl rfl rfl (told_ok p hp) ?_
  simp only [go_sem]
  repeat refine ob2 ?_
  exact hQ
 refine Exec.rets hR te_ok rfl rfl rfl (LeX.le ?_) (.inr ⟨_, rfl⟩)
 simp only [go_sem]
theorem ix_o (l : List Opd) (hl : l.length ≤ 140737488355328) (hf : ∀ p ∈ l, FitO p) : FnOK Laid Tryz.prog 177 [opsD l, .fn 143 [.ptr [.fn 74 []]]] (iv (idxI (fun x => !toR x) l)) := by
 refine FnOK_of laid_stable Tryz.func177 Tryz.ntmps177 rfl (by as_aux_lemma => kernel_rfl) (Nat.le_of_ble_eq_true rfl) (fun R hR => ?_)
 obtain ⟨_, b, cs, T, C⟩ := R
 obtain rfl : _ = Tryz.prog := hR.p
 refine sreg te_ok ?_
 refine sq ?_
 refine sreg te_ok ?_
 refine Exec.block ?_
 apply Exec.loopU [0, 1, 7] (X := Nat) (fun i => [(8, .d (iv i))]) (fun i => []) (fun i => []) (fun i => l.length - i) (fun i => i ≤ l.length ∧ (l.take i).any (fun x => !toR x) = false) 0
 case h0 =>
  simp
 case hw =>
  simp only [go_sem]
 case body =>
  rintro i hx ih0
  try simp only at hx
  apply Exec.norm
  ·simp only [go_sem]
   rfl
  refine sreg te_ok ?_
  refine sq ?_
  refine Exec.cond_split rfl (fun h0 => ?_) (fun h0 => ?_)
  ·have hi : i < l.length := by have := of_decide_eq_true h0; omega
   have w2 : IntKind.i64.wrap ((i : Int) + 1) = ((i + 1 : Nat) : Int) := by rw [wrap_id (by omega)]; omega
   refine sk ?_
   refine sq ?_
   refine Exec.block ?_
   refine sq ?_
   apply Exec.regionL te_ok
   ·intro u' Q hQ
    simp only [go_sem, w2]
    repeat refine ob2 ?_
    exact hQ
   refine sq ?_
   apply Exec.regionL te_ok
   ·intro u' Q hQ
    simp only [go_sem, w2]
    repeat refine ob2 ?_
    refine kcall hR.inv te_ok rfl rfl rfl rfl rfl rfl (cl_o _ (hf _ (nth_mem hi))) ?_
    simp only [go_sem, w2]
    repeat refine ob2 ?_
    exact hQ
   refine Exec.cond_split rfl (fun h1 => ?_) (fun h1 => ?_)
   ·refine sq ?_
    apply Exec.regionL te_ok
    ·intro u' Q hQ
     simp only [go_sem, w2]
     repeat refine ob2 ?_
     exact hQ
    refine Exec.rets hR te_ok rfl rfl rfl (LeX.le ?_) (.inr ⟨_, rfl⟩)
    simp only [go_sem]
    rw [idxI_at hi hx.2 h1]
   ·refine sk ?_
    refine Exec.inBlock ?_
    apply Exec.regionL te_ok
    ·intro u' Q hQ
     simp only [go_sem, w2]
     repeat refine ob2 ?_
     exact hQ
    refine Exec.back (ih0 (i + 1) ?_ ?_) ?_ ?_ ?_ ?_ ?_ ?_ ?_
    ·try simp only
     exact ⟨by omega, by rw [any_take hi, hx.2]; simpa using h1⟩
    ·try simp only
     omega
    ·rfl
    ·rfl
    ·(simp only [go_sem, w2])
    ·(simp only [go_sem, w2])
    ·(simp only [go_sem, w2])
    ·simp only [go_sem, w2]
    ·rfl
  ·refine Exec.exit rfl ?_
   refine sreg te_ok ?_
   refine Exec.rets hR te_ok rfl rfl rfl (LeX.le ?_) (.inr ⟨_, rfl⟩)
   simp only [go_sem]
   rw [idxI_none (by have := hx.2; rwa [List.take_of_length_le (by have := of_decide_eq_false h0; omega)] at this)]
theorem co_o (l : List Opd) (hl : l.length ≤ 140737488355328) (hf : ∀ p ∈ l, FitO p) : FnOK Laid Tryz.prog 142 [opsD l, .fn 143 [.ptr [.fn 74 []]]] (bv (l.any fun x => !toR x)) := by
 refine FnOK_of laid_stable Tryz.func142 Tryz.ntmps142 rfl (by as_aux_lemma => kernel_rfl) (Nat.le_of_ble_eq_true rfl) (fun R hR => ?_)
 obtain ⟨_, b, cs, T, C⟩ := R
 obtain rfl : _ = Tryz.prog := hR.p
 refine sq ?_
 apply Exec.regionL te_ok
 ·intro u' Q hQ
  simp only [go_sem, idxI_any]
  repeat refine ob2 ?_
  exact hQ
 refine sq ?_
 apply Exec.regionL te_ok
 ·intro u' Q hQ
  simp only [go_sem, idxI_any]
  repeat refine ob2 ?_
  refine kcall hR.inv te_ok rfl rfl rfl rfl rfl rfl (ix_o l hl hf) ?_
  simp only [go_sem, idxI_any]
  repeat refine ob2 ?_
  exact hQ
 refine Exec.rets hR te_ok rfl rfl rfl (LeX.le ?_) (.inr ⟨_, rfl⟩)
 simp only [go_sem, idxI_any]
theorem ev_o (l : List Opd) (hl : l.length ≤ 140737488355328) (hf : ∀ p ∈ l, FitO p) : FnOK Laid Tryz.prog 73 [opsD l, .fn 74 []] (bv (l.all toR)) := by
 refine FnOK_of laid_stable Tryz.func73 Tryz.ntmps73 rfl (by as_aux_lemma => kernel_rfl) (Nat.le_of_ble_eq_true rfl) (fun R hR => ?_)
 obtain ⟨_, b, cs, T, C⟩ := R
 obtain rfl : _ = Tryz.prog := hR.p
 refine sq ?_
 apply Exec.regionL te_ok
 ·intro u' Q hQ
  simp only [go_sem, all_not]
  repeat refine ob2 ?_
  exact hQ
 refine sq ?_
 apply Exec.regionL te_ok
 ·intro u' Q hQ
  simp only [go_sem, all_not]
  repeat refine ob2 ?_
  refine kfreezeB 3 rfl rfl (by simp only [go_sem, all_not]; rfl) ?_
  refine kcall hR.inv te_ok rfl rfl rfl rfl rfl rfl (co_o l hl hf) ?_
  simp only [go_sem, all_not]
  repeat refine ob2 ?_
  exact hQ
 refine Exec.rets hR te_ok rfl rfl rfl (LeX.le ?_) (.inr ⟨_, rfl⟩)
 simp only [go_sem, all_not]
theorem dN1 (n : Nat) : decide ((1 : Int) ≤ (n : Int)) = decide (1 ≤ n) := by rw [Bool.eq_iff_iff]; simp; omega
theorem dN4 (n : Nat) : decide ((n : Int) ≤ 4) = decide (n ≤ 4) := by rw [Bool.eq_iff_iff]; simp; omega
theorem dN6 (n : Nat) : decide ((n : Int) ≤ 6) = decide (n ≤ 6) := by rw [Bool.eq_iff_iff]; simp; omega
theorem g6 (n : Nat) : decide (6 < (n : Int)) = !decide (n ≤ 6) := by rw [Bool.eq_iff_iff]; simp; omega
theorem g4 (n : Nat) : decide (4 < (n : Int)) = !decide (n ≤ 4) := by rw [Bool.eq_iff_iff]; simp; omega
theorem g1 (n : Nat) : decide ((n : Int) < 1) = !decide (1 ≤ n) := by rw [Bool.eq_iff_iff]; simp; omega
theorem j1 (n : Int) : decide (n < 1) = !decide (1 ≤ n) := by rw [Bool.eq_iff_iff]; simp
theorem j2 (n : Int) : decide (1048576 < n) = !decide (n ≤ 1048576) := by rw [Bool.eq_iff_iff]; simp
theorem xtree_ok (q : Qu) (hfq : FitQ q) : FnOK Laid Tryz.prog 35 [quD q] (bv (quR q)) := by
 refine FnOK_of laid_stable Tryz.func35 Tryz.ntmps35 rfl (by as_aux_lemma => kernel_rfl) (Nat.le_of_ble_eq_true rfl) (fun R hR => ?_)
 obtain ⟨_, b, cs, T, C⟩ := R
 obtain rfl : _ = Tryz.prog := hR.p
 have q1 := hfq.p
 have q2 := hfq.c
 have q3 := hfq.r
 refine sq ?_
 apply Exec.regionL te_ok
 ·intro u' Q hQ
  simp only [go_sem, dN1, dN4, dN6, g6]
  repeat refine ob2 ?_
  exact hQ
 refine sq ?_
 refine Exec.block ?_
 refine sq ?_
 refine sq ?_
 apply Exec.regionL te_ok
 ·intro u' Q hQ
  simp only [go_sem, dN1, dN4, dN6, g6]
  repeat refine ob2 ?_
  refine kcall hR.inv te_ok rfl rfl rfl rfl rfl rfl (between_ok _ _ _) ?_
  simp only [go_sem, dN1, dN4, dN6, g6]
  repeat refine ob2 ?_
  exact hQ
 apply Exec.join [1, 3] rfl
 case hx =>
  intro h0 hK
  refine sk ?_
  exact hK
 case hy =>
  intro h0 hK
  refine sq ?_
  apply Exec.regionL te_ok
  ·intro u' Q hQ
   simp only [go_sem, dN1, dN4, dN6, g6]
   repeat refine ob2 ?_
   exact hQ
  apply Exec.join [1, 3] rfl
  case hx =>
   intro h1 hK
   refine sk ?_
   exact hK
  case hy =>
   intro h1 hK
   apply Exec.regionL te_ok
   ·intro u' Q hQ
    simp only [go_sem, dN1, dN4, dN6, g6]
    repeat refine ob2 ?_
    refine kcall hR.inv te_ok rfl rfl rfl rfl rfl rfl (between_ok _ _ _) ?_
    simp only [go_sem, dN1, dN4, dN6, g6]
    repeat refine ob2 ?_
    exact hQ
   exact hK
  case hN => rfl
  case hdf => rfl
  case hF => simp only [go_sem]
  case hP => rfl
  apply Exec.norm
  ·simp only [go_sem, dN1, dN4, dN6, g6]
   rfl
  exact hK
 case hN => rfl
 case hdf => rfl
 case hF => simp only [go_sem]
 case hP => rfl
 apply Exec.norm
 ·simp only [go_sem, dN1, dN4, dN6, g6]
  rfl
 refine Exec.cond_split rfl (fun h2 => ?_) (fun h2 => ?_)
 ·refine sq ?_
  apply Exec.regionL te_ok
  ·intro u' Q hQ
   simp only [go_sem, dN1, dN4, dN6, g6]
   repeat refine ob2 ?_
   exact hQ
  refine Exec.rets hR te_ok rfl rfl rfl (LeX.le ?_) (.inr ⟨_, rfl⟩)
  simp only [go_sem, quR, dN1, dN4, dN6, g6]
  clear hR
  generalize (decide (1 ≤ q.p.length) && decide (q.p.length ≤ 4)) = u1 at *
  generalize decide (q.c.length ≤ 6) = u2 at *
  generalize (decide (1 ≤ q.r.length) && decide (q.r.length ≤ 4)) = u3 at *
  generalize (decide (1 ≤ q.range) && decide (q.range ≤ 1048576)) = u4 at *
  generalize (decide (1 ≤ q.slide) && decide (q.slide ≤ 1048576)) = u5 at *
  generalize q.p.all ptR = u6 at *
  generalize q.c.all cdR = u7 at *
  cases u1 <;> cases u2 <;> cases u3 <;> cases u4 <;> cases u5 <;> cases u6 <;> cases u7 <;> simp_all
 ·refine sq ?_
  refine sq ?_
  apply Exec.regionL te_ok
  ·intro u' Q hQ
   simp only [go_sem, dN1, dN4, dN6, g6]
   repeat refine ob2 ?_
   refine kcall hR.inv te_ok rfl rfl rfl rfl rfl rfl (between_ok _ _ _) ?_
   simp only [go_sem, dN1, dN4, dN6, g6]
   repeat refine ob2 ?_
   exact hQ
  apply Exec.join [1, 18] rfl
  case hx =>
   intro h3 hK
   refine sk ?_
   exact hK
  case hy =>
   intro h3 hK
   apply Exec.regionL te_ok
   ·intro u' Q hQ
    simp only [go_sem, dN1, dN4, dN6, g6]
    repeat refine ob2 ?_
    refine kcall hR.inv te_ok rfl rfl rfl rfl rfl rfl (between_ok _ _ _) ?_
    simp only [go_sem, dN1, dN4, dN6, g6]
    repeat refine ob2 ?_
    exact hQ
   exact hK
  case hN => rfl
  case hdf => rfl
  case hF => simp only [go_sem]
  case hP => rfl
  apply Exec.norm
  ·simp only [go_sem, dN1, dN4, dN6, g6]
   rfl
  refine Exec.cond_split rfl (fun h4 => ?_) (fun h4 => ?_)
  ·refine sq ?_
   apply Exec.regionL te_ok
   ·intro u' Q hQ
    simp only [go_sem, dN1, dN4, dN6, g6]
    repeat refine ob2 ?_
    exact hQ
   refine Exec.rets hR te_ok rfl rfl rfl (LeX.le ?_) (.inr ⟨_, rfl⟩)
   simp only [go_sem, quR, dN1, dN4, dN6, g6]
   clear hR
   generalize (decide (1 ≤ q.p.length) && decide (q.p.length ≤ 4)) = u1 at *
   generalize decide (q.c.length ≤ 6) = u2 at *
   generalize (decide (1 ≤ q.r.length) && decide (q.r.length ≤ 4)) = u3 at *
   generalize (decide (1 ≤ q.range) && decide (q.range ≤ 1048576)) = u4 at *
   generalize (decide (1 ≤ q.slide) && decide (q.slide ≤ 1048576)) = u5 at *
   generalize q.p.all ptR = u6 at *
   generalize q.c.all cdR = u7 at *
   cases u1 <;> cases u2 <;> cases u3 <;> cases u4 <;> cases u5 <;> cases u6 <;> cases u7 <;> simp_all
  ·refine sk ?_
   refine Exec.inBlock ?_
   refine sq ?_
   apply Exec.regionL te_ok
   ·intro u' Q hQ
    simp only [go_sem, dN1, dN4, dN6, g6]
    repeat refine ob2 ?_
    refine kcall hR.inv te_ok rfl rfl rfl rfl rfl rfl (ev_p q.p q1 hfq.pa) ?_
    simp only [go_sem, dN1, dN4, dN6, g6]
    repeat refine ob2 ?_
    refine kcallG hR.inv te_ok rfl rfl rfl rfl rfl rfl ob1 (fun hq => ev_c q.c q2 hfq.ca) ?_
    simp only [go_sem, dN1, dN4, dN6, g6]
    repeat refine ob2 ?_
    refine kcallG hR.inv te_ok rfl rfl rfl rfl rfl rfl ob1 (fun hq => ev_o q.r q3 hfq.ra) ?_
    simp only [go_sem, dN1, dN4, dN6, g6]
    repeat refine ob2 ?_
    exact hQ
   refine Exec.rets hR te_ok rfl rfl rfl (LeX.le ?_) (.inr ⟨_, rfl⟩)
   simp only [go_sem, quR, dN1, dN4, dN6, g6]
   clear hR
   generalize (decide (1 ≤ q.p.length) && decide (q.p.length ≤ 4)) = u1 at *
   generalize decide (q.c.length ≤ 6) = u2 at *
   generalize (decide (1 ≤ q.r.length) && decide (q.r.length ≤ 4)) = u3 at *
   generalize (decide (1 ≤ q.range) && decide (q.range ≤ 1048576)) = u4 at *
   generalize (decide (1 ≤ q.slide) && decide (q.slide ≤ 1048576)) = u5 at *
   generalize q.p.all ptR = u6 at *
   generalize q.c.all cdR = u7 at *
   cases u1 <;> cases u2 <;> cases u3 <;> cases u4 <;> cases u5 <;> cases u6 <;> cases u7 <;> simp_all
theorem rpat_ok (p : Pt) (hp : FitP p) : FnOK Laid Tryz.prog 90 [ptD p] (bv (ptR p)) := by
 refine FnOK_of laid_stable Tryz.func90 Tryz.ntmps90 rfl (by as_aux_lemma => kernel_rfl) (Nat.le_of_ble_eq_true rfl) (fun R hR => ?_)
 obtain ⟨_, b, cs, T, C⟩ := R
 obtain rfl : _ = Tryz.prog := hR.p
 have h1 := hp.a
 have h2 := hp.z
 have h3 := hp.lab
 have h4 := hp.name
 refine sreg te_ok ?_
 refine sq ?_
 refine sq ?_
 apply Exec.regionL te_ok
 ·intro u' Q hQ
  simp only [go_sem]
  repeat refine ob2 ?_
  refine kcall hR.inv te_ok rfl rfl rfl rfl rfl rfl (r2free_ok p.a hp.a) ?_
  simp only [go_sem]
  repeat refine ob2 ?_
  refine kcallG hR.inv te_ok rfl rfl rfl rfl rfl rfl ob1 (fun hq => r2free_ok p.z hp.z) ?_
  simp only [go_sem]
  repeat refine ob2 ?_
  exact hQ
 refine Exec.cond_split rfl (fun h0 => ?_) (fun h0 => ?_)
 ·refine sreg te_ok ?_
  refine Exec.rets hR te_ok rfl rfl rfl (LeX.le ?_) (.inr ⟨_, rfl⟩)
  simp only [go_sem, ptR]
  first | (simp_all; done) | (cases hpa : freeB p.a <;> cases hpz : freeB p.z <;> cases hpp : p.path <;> simp_all [Bool.and_assoc, isE_app])
 ·refine sk ?_
  refine sq ?_
  refine sreg te_ok ?_
  refine Exec.cond_split rfl (fun h1 => ?_) (fun h1 => ?_)
  ·refine sq ?_
   apply Exec.regionL te_ok
   ·intro u' Q hQ
    simp only [go_sem]
    repeat refine ob2 ?_
    refine kcallG hR.inv te_ok rfl rfl rfl rfl rfl rfl ob1 (fun hq => r7right_ok p.e hp.e hp.sz) ?_
    simp only [go_sem]
    repeat refine ob2 ?_
    exact hQ
   refine Exec.rets hR te_ok rfl rfl rfl (LeX.le ?_) (.inr ⟨_, rfl⟩)
   simp only [go_sem, ptR]
   first | (simp_all; done) | (cases hpa : freeB p.a <;> cases hpz : freeB p.z <;> cases hpp : p.path <;> simp_all [Bool.and_assoc, isE_app])
  ·refine sk ?_
   refine sq ?_
   apply Exec.regionL te_ok
   ·intro u' Q hQ
    simp only [go_sem]
    repeat refine ob2 ?_
    refine kcall hR.inv te_ok rfl rfl rfl rfl rfl rfl (r2free_ok p.lab hp.lab) ?_
    simp only [go_sem]
    repeat refine ob2 ?_
    refine kcallG hR.inv te_ok rfl rfl rfl rfl rfl rfl ob1 (fun hq => r2free_ok p.name hp.name) ?_
    simp only [go_sem]
    repeat refine ob2 ?_
    refine kcallG hR.inv te_ok rfl rfl rfl rfl rfl rfl ob1 (fun hq => r7same_z p.e hp.e) ?_
    simp only [go_sem]
    repeat refine ob2 ?_
    exact hQ
   refine Exec.rets hR te_ok rfl rfl rfl (LeX.le ?_) (.inr ⟨_, rfl⟩)
   simp only [go_sem, ptR]
   first | (simp_all; done) | (cases hpa : freeB p.a <;> cases hpz : freeB p.z <;> cases hpp : p.path <;> simp_all [Bool.and_assoc, isE_app])
theorem all_take' {α : Type} [Inhabited α] {g : α → Bool} {l : List α} {i : Nat} (h : i < l.length) : (l.take (i + 1)).all g = ((l.take i).all g && g (nth l i)) := by
 rw [take_succ_nth h, List.all_append]; simp
theorem all_bad {α : Type} [Inhabited α] {g : α → Bool} {l : List α} {i : Nat} (h : i < l.length) (hb : g (nth l i) = false) : l.all g = false := by
 rw [List.all_eq_false]; exact ⟨_, nth_mem h, by rw [hb]; simp⟩
theorem all_end {α : Type} {g : α → Bool} {l : List α} {i : Nat} (h : l.length ≤ i) (ha : (l.take i).all g = true) : l.all g = true := by rwa [List.take_of_length_le h] at ha
def quH (q : Qu) : Bool := (decide (1 ≤ q.p.length) && decide (q.p.length ≤ 4)) && (decide (q.c.length ≤ 6) && ((decide (1 ≤ q.r.length) && decide (q.r.length ≤ 4)) &&
 ((decide (1 ≤ q.range) && decide (q.range ≤ 1048576)) && (decide (1 ≤ q.slide) && decide (q.slide ≤ 1048576)))))
theorem j6 (n : Int) : decide (6 < n) = !decide (n ≤ 6) := by rw [Bool.eq_iff_iff]; simp
theorem quR_eq (q : Qu) : quR q = (quH q && (q.p.all ptR && (q.c.all cdR && q.r.all toR))) := by unfold quR quH; simp only [Bool.and_assoc]
theorem rtree_ok (q : Qu) (hfq : FitQ q) : FnOK Laid Tryz.prog 43 [quD q] (bv (quR q)) := by
 refine FnOK_of laid_stable Tryz.func43 Tryz.ntmps43 rfl (by as_aux_lemma => kernel_rfl) (Nat.le_of_ble_eq_true rfl) (fun R hR => ?_)
 obtain ⟨_, b, cs, T, C⟩ := R
 obtain rfl : _ = Tryz.prog := hR.p
 have q1 := hfq.p
 have q2 := hfq.c
 have q3 := hfq.r
 refine sq ?_
 apply Exec.regionL te_ok
 ·intro u' Q hQ
  simp only [go_sem, g1, g4, g6, j1, j2, j6]
  repeat refine ob2 ?_
  exact hQ
 refine sq ?_
 refine sq ?_
 apply Exec.regionL te_ok
 ·intro u' Q hQ
  simp only [go_sem, g1, g4, g6, j1, j2, j6]
  repeat refine ob2 ?_
  exact hQ
 refine Exec.cond_split rfl (fun h0 => ?_) (fun h0 => ?_)
 ·refine sq ?_
  apply Exec.regionL te_ok
  ·intro u' Q hQ
   simp only [go_sem, g1, g4, g6, j1, j2, j6]
   repeat refine ob2 ?_
   exact hQ
  refine Exec.rets hR te_ok rfl rfl rfl (LeX.le ?_) (.inr ⟨_, rfl⟩)
  simp only [go_sem]
  rw [quR_eq, show quH q = false from by rw [Bool.eq_false_iff]; intro hc; unfold quH at hc; simp at hc h0; omega]; rfl
 ·have hH : quH q = true := by unfold quH; simp at h0 ⊢; omega
  refine sk ?_
  refine sq ?_
  refine sq ?_
  apply Exec.regionL te_ok
  ·intro u' Q hQ
   simp only [go_sem, g1, g4, g6, j1, j2, j6]
   repeat refine ob2 ?_
   exact hQ
  refine Exec.block ?_
  apply Exec.loopU [1] (X := Nat) (fun i => [(3, .d (iv i))]) (fun i => []) (fun i => []) (fun i => q.p.length - i) (fun i => i ≤ q.p.length ∧ (q.p.take i).all ptR = true) 0
  case h0 =>
   simp
  case hw =>
   simp only [go_sem, g1, g4, g6, j1, j2, j6]
  case body =>
   rintro i hx ih0
   try simp only at hx
   apply Exec.norm
   ·simp only [go_sem, g1, g4, g6, j1, j2, j6]
    rfl
   refine sq ?_
   refine sq ?_
   apply Exec.regionL te_ok
   ·intro u' Q hQ
    simp only [go_sem, g1, g4, g6, j1, j2, j6]
    repeat refine ob2 ?_
    exact hQ
   refine Exec.cond_split rfl (fun h1 => ?_) (fun h1 => ?_)
   ·have hi : i < q.p.length := by have := of_decide_eq_true h1; omega
    have w2 : IntKind.i64.wrap ((i : Int) + 1) = ((i + 1 : Nat) : Int) := by rw [wrap_id (by omega)]; omega
    refine sk ?_
    refine sq ?_
    refine Exec.block ?_
    refine sq ?_
    apply Exec.regionL te_ok
    ·intro u' Q hQ
     simp only [go_sem, g1, g4, g6, j1, j2, j6, w2]
     repeat refine ob2 ?_
     refine kcall hR.inv te_ok rfl rfl rfl rfl rfl rfl (rpat_ok _ (hfq.pa _ (nth_mem hi))) ?_
     simp only [go_sem, g1, g4, g6, j1, j2, j6, w2]
     repeat refine ob2 ?_
     exact hQ
    refine Exec.cond_split rfl (fun h2 => ?_) (fun h2 => ?_)
    ·refine sq ?_
     apply Exec.regionL te_ok
     ·intro u' Q hQ
      simp only [go_sem, g1, g4, g6, j1, j2, j6, w2]
      repeat refine ob2 ?_
      exact hQ
     refine Exec.rets hR te_ok rfl rfl rfl (LeX.le ?_) (.inr ⟨_, rfl⟩)
     simp only [go_sem]
     rw [quR_eq, all_bad hi (by simpa using h2)]; simp
    ·refine sk ?_
     refine Exec.inBlock ?_
     apply Exec.regionL te_ok
     ·intro u' Q hQ
      simp only [go_sem, g1, g4, g6, j1, j2, j6, w2]
      repeat refine ob2 ?_
      exact hQ
     refine Exec.back (ih0 (i + 1) ?_ ?_) ?_ ?_ ?_ ?_ ?_ ?_ ?_
     ·try simp only
      exact ⟨by omega, by rw [all_take' hi, hx.2]; simpa using h2⟩
     ·try simp only
      omega
     ·rfl
     ·rfl
     ·(simp only [go_sem, g1, g4, g6, j1, j2, j6, w2])
     ·(simp only [go_sem, g1, g4, g6, j1, j2, j6, w2])
     ·(simp only [go_sem, g1, g4, g6, j1, j2, j6, w2])
     ·simp only [go_sem, g1, g4, g6, j1, j2, j6, w2]
     ·rfl
   ·have hP := all_end (by have := of_decide_eq_false h1; omega) hx.2
    refine Exec.exit rfl ?_
    refine sq ?_
    refine sq ?_
    apply Exec.regionL te_ok
    ·intro u' Q hQ
     simp only [go_sem, g1, g4, g6, j1, j2, j6]
     repeat refine ob2 ?_
     exact hQ
    refine Exec.block ?_
    apply Exec.loopU [1] (X := Nat) (fun i => [(4, .d (iv i))]) (fun i => []) (fun i => []) (fun i => q.c.length - i) (fun i => i ≤ q.c.length ∧ (q.c.take i).all cdR = true) 0
    case h0 =>
     simp
    case hw =>
     simp only [go_sem, g1, g4, g6, j1, j2, j6]
    case body =>
     rintro i hx ih1
     try simp only at hx
     apply Exec.norm
     ·simp only [go_sem, g1, g4, g6, j1, j2, j6]
      rfl
     refine sq ?_
     refine sq ?_
     apply Exec.regionL te_ok
     ·intro u' Q hQ
      simp only [go_sem, g1, g4, g6, j1, j2, j6]
      repeat refine ob2 ?_
      exact hQ
     refine Exec.cond_split rfl (fun h3 => ?_) (fun h3 => ?_)
     ·have hi : i < q.c.length := by have := of_decide_eq_true h3; omega
      have w2 : IntKind.i64.wrap ((i : Int) + 1) = ((i + 1 : Nat) : Int) := by rw [wrap_id (by omega)]; omega
      refine sk ?_
      refine sq ?_
      refine Exec.block ?_
      refine sq ?_
      apply Exec.regionL te_ok
      ·intro u' Q hQ
       simp only [go_sem, g1, g4, g6, j1, j2, j6, w2]
       repeat refine ob2 ?_
       exact hQ
      refine sq ?_
      apply Exec.regionL te_ok
      ·intro u' Q hQ
       simp only [go_sem, g1, g4, g6, j1, j2, j6, w2]
       repeat refine ob2 ?_
       refine kcallG hR.inv te_ok rfl rfl rfl rfl rfl rfl ob1 (fun hq => rop_ok _ (hfq.ca _ (nth_mem hi)).l) ?_
       simp only [go_sem, g1, g4, g6, j1, j2, j6, w2]
       repeat refine ob2 ?_
       refine kcallG hR.inv te_ok rfl rfl rfl rfl rfl rfl ob1 (fun hq => rop_ok _ (hfq.ca _ (nth_mem hi)).r) ?_
       simp only [go_sem, g1, g4, g6, j1, j2, j6, w2]
       repeat refine ob2 ?_
       exact hQ
      refine Exec.cond_split rfl (fun h4 => ?_) (fun h4 => ?_)
      ·refine sq ?_
       apply Exec.regionL te_ok
       ·intro u' Q hQ
        simp only [go_sem, g1, g4, g6, j1, j2, j6, w2]
        repeat refine ob2 ?_
        exact hQ
       refine Exec.rets hR te_ok rfl rfl rfl (LeX.le ?_) (.inr ⟨_, rfl⟩)
       simp only [go_sem]
       rw [quR_eq, all_bad (l := q.c) hi (by unfold cdR; rw [Bool.eq_false_iff]; intro hc; simp only [Bool.and_eq_true] at hc; simp [hc] at h4)]; simp
      ·refine sk ?_
       refine Exec.inBlock ?_
       apply Exec.regionL te_ok
       ·intro u' Q hQ
        simp only [go_sem, g1, g4, g6, j1, j2, j6, w2]
        repeat refine ob2 ?_
        exact hQ
       refine Exec.back (ih1 (i + 1) ?_ ?_) ?_ ?_ ?_ ?_ ?_ ?_ ?_
       ·try simp only
        exact ⟨by omega, by rw [all_take' hi, hx.2]; unfold cdR; simpa [and_assoc] using h4⟩
       ·try simp only
        omega
       ·rfl
       ·rfl
       ·(simp only [go_sem, g1, g4, g6, j1, j2, j6, w2])
       ·(simp only [go_sem, g1, g4, g6, j1, j2, j6, w2])
       ·(simp only [go_sem, g1, g4, g6, j1, j2, j6, w2])
       ·simp only [go_sem, g1, g4, g6, j1, j2, j6, w2]
       ·rfl
     ·have hC := all_end (by have := of_decide_eq_false h3; omega) hx.2
      refine Exec.exit rfl ?_
      refine sq ?_
      refine sq ?_
      apply Exec.regionL te_ok
      ·intro u' Q hQ
       simp only [go_sem, g1, g4, g6, j1, j2, j6]
       repeat refine ob2 ?_
       exact hQ
      refine Exec.block ?_
      apply Exec.loopU [1] (X := Nat) (fun i => [(6, .d (iv i))]) (fun i => []) (fun i => []) (fun i => q.r.length - i) (fun i => i ≤ q.r.length ∧ (q.r.take i).all toR = true) 0
      case h0 =>
       simp
      case hw =>
       simp only [go_sem, g1, g4, g6, j1, j2, j6]
      case body =>
       rintro i hx ih2
       try simp only at hx
       apply Exec.norm
       ·simp only [go_sem, g1, g4, g6, j1, j2, j6]
        rfl
       refine sq ?_
       refine sq ?_
       apply Exec.regionL te_ok
       ·intro u' Q hQ
        simp only [go_sem, g1, g4, g6, j1, j2, j6]
        repeat refine ob2 ?_
        exact hQ
       refine Exec.cond_split rfl (fun h5 => ?_) (fun h5 => ?_)
       ·have hi : i < q.r.length := by have := of_decide_eq_true h5; omega
        have w2 : IntKind.i64.wrap ((i : Int) + 1) = ((i + 1 : Nat) : Int) := by rw [wrap_id (by omega)]; omega
        refine sk ?_
        refine sq ?_
        refine Exec.block ?_
        refine sq ?_
        apply Exec.regionL te_ok
        ·intro u' Q hQ
         simp only [go_sem, g1, g4, g6, j1, j2, j6, w2]
         repeat refine ob2 ?_
         refine kcall hR.inv te_ok rfl rfl rfl rfl rfl rfl (rop_ok _ (hfq.ra _ (nth_mem hi))) ?_
         simp only [go_sem, g1, g4, g6, j1, j2, j6, w2]
         repeat refine ob2 ?_
         exact hQ
        refine Exec.cond_split rfl (fun h6 => ?_) (fun h6 => ?_)
        ·refine sq ?_
         apply Exec.regionL te_ok
         ·intro u' Q hQ
          simp only [go_sem, g1, g4, g6, j1, j2, j6, w2]
          repeat refine ob2 ?_
          exact hQ
         refine Exec.rets hR te_ok rfl rfl rfl (LeX.le ?_) (.inr ⟨_, rfl⟩)
         simp only [go_sem]
         rw [quR_eq, all_bad (l := q.r) hi (by unfold toR; rw [Bool.eq_false_iff]; intro hc; simp only [Bool.and_eq_true] at hc; simp [hc] at h6; simp [h6] at hc)]; simp
        ·refine sk ?_
         refine Exec.inBlock ?_
         apply Exec.regionL te_ok
         ·intro u' Q hQ
          simp only [go_sem, g1, g4, g6, j1, j2, j6, w2]
          repeat refine ob2 ?_
          exact hQ
         refine Exec.back (ih2 (i + 1) ?_ ?_) ?_ ?_ ?_ ?_ ?_ ?_ ?_
         ·try simp only
          exact ⟨by omega, by rw [all_take' hi, hx.2]; unfold toR; simpa [and_comm] using h6⟩
         ·try simp only
          omega
         ·rfl
         ·rfl
         ·(simp only [go_sem, g1, g4, g6, j1, j2, j6, w2])
         ·(simp only [go_sem, g1, g4, g6, j1, j2, j6, w2])
         ·(simp only [go_sem, g1, g4, g6, j1, j2, j6, w2])
         ·simp only [go_sem, g1, g4, g6, j1, j2, j6, w2]
         ·rfl
       ·refine Exec.exit rfl ?_
        refine sq ?_
        apply Exec.regionL te_ok
        ·intro u' Q hQ
         simp only [go_sem, g1, g4, g6, j1, j2, j6]
         repeat refine ob2 ?_
         exact hQ
        refine Exec.rets hR te_ok rfl rfl rfl (LeX.le ?_) (.inr ⟨_, rfl⟩)
        simp only [go_sem]
        rw [quR_eq, hH, hP, hC, all_end (by have := of_decide_eq_false h5; omega) hx.2]; rfl
end Go.Proofs.YtonchjamoblioaaGreatDoor
