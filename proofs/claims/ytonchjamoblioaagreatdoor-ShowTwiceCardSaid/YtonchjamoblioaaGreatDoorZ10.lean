/- Steps of a function body on data, and contracts of the functions of the seat, walked. -/
import Derived.Test.YtonchjamoblioaaGreatDoorPDef
import Derived.Lib.ItoaLen
set_option linter.unusedSimpArgs false
set_option linter.unusedVariables false
set_option linter.unusedSectionVars false
namespace Go.Proofs.YtonchjamoblioaaGreatDoor
open Go.Kin
set_option maxRecDepth 100000
set_option maxHeartbeats 0
theorem join_map {α : Type} [Inhabited α] (l : List α) (f : α → List UInt8) (s : List UInt8) (hl : l.length ≤ 140737488355328) (hj : (Lib.join (l.map f) s).length ≤ 140737488355328) :
  FnOK Laid Tryz.prog 147 [.sl 1 l.length l.length (fun j => [sv (nth (l.map f) j)]), sv s] (sv (Lib.join (l.map f) s)) := by
 have h := join_ok (l.map f) s (by simpa using hl) hj
 unfold strsD at h
 rwa [List.length_map] at h
theorem joinedX_ok (l : List Ex) (s : List UInt8) (g : Ex → List UInt8) (x : Ex) (hl : l.length ≤ 1000000) (hj : (Lib.join (l.map g) s).length ≤ 140737488355328) (ihx : ∀ y ∈ l, FnOK Laid Tryz.prog 94 [exD y, .ptr (exC x)] (sv (g y))) : FnOK Laid Tryz.prog 95 [exsD l, sv s, .fn 94 [.ptr (exC x)]] (sv (Lib.join (l.map g) s)) := by
 refine FnOK_of laid_stable Tryz.func95 Tryz.ntmps95 rfl (by as_aux_lemma => kernel_rfl) (Nat.le_of_ble_eq_true rfl) (fun R hR => ?_)
 obtain ⟨_, b, cs, T, C⟩ := R
 obtain rfl : _ = Tryz.prog := hR.p
 refine sreg te_ok ?_
 refine sreg te_ok ?_
 refine sq ?_
 refine sreg te_ok ?_
 refine Exec.block ?_
 refine Exec.ownNil 7 1500 9 1 rfl rfl ?_
 apply Exec.norm
 ·simp only [go_sem]
  rfl
 apply Exec.loopU [1, 2, 10, 11] (X := Nat) (fun i => [(12, .d (iv i)), (7, .own 1500)]) (fun i => []) (fun i => [(1500, ⟨9, 1, i, i, fun j => [sv (nth (l.map g) j)]⟩)]) (fun i => l.length - i) (fun i => i ≤ l.length) 0
 case h0 =>
  first | assumption | omega | (simp only [Bool.not_eq_true', Bool.or_eq_false_iff, Bool.or_eq_true, Bool.and_eq_true, decide_eq_true_eq, decide_eq_false_iff_not, beq_iff_eq, Bool.not_eq_false']; omega) | (simp; done) | (simp; omega) | (intros; omega) | (simp_all; done) | (simp_all; omega)
 case hw =>
  simp only [go_sem]; exact fun i hi => absurd hi (Nat.not_lt_zero i)
 case body =>
  rintro i hx ih0
  try simp only at hx
  apply Exec.norm
  ·simp only [go_sem]
   rfl
  refine sreg te_ok ?_
  refine sq ?_
  refine Exec.cond_split rfl (fun h0 => ?_) (fun h0 => ?_)
  ·have hi : i < l.length := by have := of_decide_eq_true h0; omega
   have hr : nth (l.map g) i = g (nth l i) := nth_map g hi
   have ha := kdR_at hi
   have w2 : IntKind.i64.wrap ((i : Int) + 1) = ((i + 1 : Nat) : Int) := by rw [wrap_id (by omega)]; omega
   refine sk ?_
   refine sq ?_
   refine Exec.block ?_
   refine sq ?_
   apply Exec.regionL te_ok
   ·intro u' Q hQ
    simp only [go_sem, ha, w2]
    repeat refine ob2 ?_
    exact hQ
   apply Exec.regionL te_ok
   ·intro u' Q hQ
    simp only [go_sem, ha, w2]
    repeat refine ob2 ?_
    refine kcall hR.inv te_ok rfl rfl rfl rfl rfl rfl (ihx _ (nth_mem hi)) ?_
    simp only [go_sem, ha, w2]
    repeat refine ob2 ?_
    exact hQ
   refine Exec.inBlock ?_
   apply Exec.regionL te_ok
   ·intro u' Q hQ
    simp only [go_sem, ha, w2]
    repeat refine ob2 ?_
    exact hQ
   refine Exec.back (ih0 (i + 1) ?_ ?_) ?_ ?_ ?_ ?_ ?_ ?_ ?_
   ·try simp only
    omega
   ·try simp only
    omega
   ·rfl
   ·rfl
   ·(simp only [go_sem, w2])
   ·(simp only [go_sem, w2])
   ·simp only [go_sem, w2]
    exact fun q hq => catR_row (row := fun j => [sv (nth (l.map g) j)]) (by simp only [hr]) q hq
   ·simp only [go_sem, ha, w2]
   ·rfl
  ·obtain rfl : i = l.length := by have := of_decide_eq_false h0; omega
   refine Exec.exit rfl ?_
   refine sq ?_
   refine Exec.freeze 1500 rfl ?_
   apply Exec.norm
   ·simp only [go_sem]
    rfl
   apply Exec.regionL te_ok
   ·intro u' Q hQ
    simp only [go_sem]
    repeat refine ob2 ?_
    refine kcall hR.inv te_ok rfl rfl rfl rfl rfl rfl (join_map l g s (by omega) hj) ?_
    simp only [go_sem]
    repeat refine ob2 ?_
    exact hQ
   refine Exec.rets hR te_ok rfl rfl rfl (LeX.le ?_) (.inr ⟨_, rfl⟩)
   simp only [go_sem]
theorem sh1_ok (x y : Ex) (hy : (exT y).length ≤ 1000000) (h48 : FnOK Laid Tryz.prog 48 [exD y] (sv (exT y))) : FnOK Laid Tryz.prog 94 [exD y, .ptr (exC x)] (sv (grp x.k y.k (exT y))) := by
 refine FnOK_of laid_stable Tryz.func94 Tryz.ntmps94 rfl (by as_aux_lemma => kernel_rfl) (Nat.le_of_ble_eq_true rfl) (fun R hR => ?_)
 obtain ⟨_, b, cs, T, C⟩ := R
 obtain rfl : _ = Tryz.prog := hR.p
 refine sreg te_ok ?_
 refine sq ?_
 apply Exec.regionL te_ok
 ·intro u' Q hQ
  simp only [go_sem]
  repeat refine ob2 ?_
  refine kcall hR.inv te_ok rfl rfl rfl rfl rfl rfl (h48) ?_
  simp only [go_sem]
  repeat refine ob2 ?_
  exact hQ
 refine sq ?_
 refine sreg te_ok ?_
 refine Exec.cond_split rfl (fun h0 => ?_) (fun h0 => ?_)
 ·refine sreg te_ok ?_
  refine Exec.rets hR te_ok rfl rfl rfl (LeX.le ?_) (.inr ⟨_, rfl⟩)
  simp only [go_sem, grp]
  rw [if_pos (by simpa using h0)]
 ·refine sk ?_
  refine sreg te_ok ?_
  refine Exec.rets hR te_ok rfl rfl rfl (LeX.le ?_) (.inr ⟨_, rfl⟩)
  simp only [go_sem, grp]
  rw [if_neg (by simpa using h0)]
theorem sgn_at {k : Int} (h : k = 4 ∨ k = 5 ∨ k = 6) : List.take (Int.toNat 1) (List.take (((3 : Nat) : Int) - (k - 4)).toNat (List.drop (k - 4).toNat ([42, 43, 63] : List UInt8))) = [sgn k] := by
 rcases h with rfl | rfl | rfl <;> rfl
theorem kids1 {x : Ex} (h : exOk x = true) (h1 : ¬ x.k = 1) (h2 : ¬ x.k = 2) (h3 : ¬ x.k = 3) : (x.k = 4 ∨ x.k = 5 ∨ x.k = 6) ∧ 0 < x.kids.length := by
 have h4 : x.k = 4 ∨ x.k = 5 ∨ x.k = 6 := by
  rcases Classical.em (x.k = 4 ∨ x.k = 5 ∨ x.k = 6) with h4 | h4
  ·exact h4
  ·rw [partR_0 h1 (by omega) h4] at h; cases h
 rw [partR_4 h4] at h; simp at h; exact ⟨h4, by omega⟩
theorem exT_1 {x : Ex} (h : x.k = 1) : exT x = x.s := by rw [exT_eq, if_pos h]
theorem exT_2 {x : Ex} (h : x.k = 2) : exT x = Lib.join (x.kids.map fun y => grp x.k y.k (exT y)) [46] := by rw [exT_eq, if_neg (by omega), if_pos h, exTs_map]
theorem exT_3 {x : Ex} (h : x.k = 3) : exT x = Lib.join (x.kids.map fun y => grp x.k y.k (exT y)) [124] := by rw [exT_eq, if_neg (by omega), if_neg (by omega), if_pos h, exTs_map]
theorem exT_4 {x : Ex} (h1 : ¬ x.k = 1) (h2 : ¬ x.k = 2) (h3 : ¬ x.k = 3) (hk : 0 < x.kids.length) : exT x = grp x.k (nth x.kids 0).k (exT (nth x.kids 0)) ++ [sgn x.k] := by
 rw [exT_eq, if_neg h1, if_neg h2, if_neg h3, exTs_map, nth_map _ hk]
theorem shown_step (x : Ex) (hok : exOk x = true) (hsz : x.size ≤ 1000) (ihx : ∀ y ∈ x.kids, FnOK Laid Tryz.prog 94 [exD y, .ptr (exC x)] (sv (grp x.k y.k (exT y)))) : FnOK Laid Tryz.prog 48 [exD x] (sv (exT x)) := by
 refine FnOK_of laid_stable Tryz.func48 Tryz.ntmps48 rfl (by as_aux_lemma => kernel_rfl) (Nat.le_of_ble_eq_true rfl) (fun R hR => ?_)
 obtain ⟨_, b, cs, T, C⟩ := R
 obtain rfl : _ = Tryz.prog := hR.p
 have hln := Ex.len_le x.kids
 have hse := x.size_eq
 have htl := exT_len x hok
 refine sreg te_ok ?_
 refine sreg te_ok ?_
 refine sq ?_
 refine sq ?_
 refine Exec.freezeB 1 rfl rfl rfl ?_
 apply Exec.norm
 ·simp only [go_sem]
  rfl
 have hk := kd_eq x
 apply Exec.regionL te_ok
 ·intro u' Q hQ
  simp only [go_sem, hk]
  repeat refine ob2 ?_
  exact hQ
 refine Exec.block ?_
 refine sreg te_ok ?_
 refine Exec.cond_split rfl (fun h0 => ?_) (fun h0 => ?_)
 ·refine sreg te_ok ?_
  refine Exec.rets hR te_ok rfl rfl rfl (LeX.le ?_) (.inr ⟨_, rfl⟩)
  simp only [go_sem]
  rw [exT_1 (by simpa using h0)]
 ·refine sreg te_ok ?_
  refine Exec.cond_split rfl (fun h1 => ?_) (fun h1 => ?_)
  ·have hk2 : x.k = 2 := by simpa using h1
   have htl2 := exT_2 hk2
   have hj2 := joinedX_ok x.kids [46] (fun y => grp x.k y.k (exT y)) x (by omega) (by rw [← htl2]; omega) ihx
   simp only [exC, hk] at hj2
   refine sq ?_
   apply Exec.regionL te_ok
   ·intro u' Q hQ
    simp only [go_sem]
    repeat refine ob2 ?_
    refine kcall hR.inv te_ok rfl rfl rfl rfl rfl rfl (hj2) ?_
    simp only [go_sem]
    repeat refine ob2 ?_
    exact hQ
   refine Exec.rets hR te_ok rfl rfl rfl (LeX.le ?_) (.inr ⟨_, rfl⟩)
   simp only [go_sem]
   rw [exT_2 (by simpa using h1)]
  ·refine sreg te_ok ?_
   refine Exec.cond_split rfl (fun h2 => ?_) (fun h2 => ?_)
   ·have hk3 : x.k = 3 := by simpa using h2
    have htl3 := exT_3 hk3
    have hj3 := joinedX_ok x.kids [124] (fun y => grp x.k y.k (exT y)) x (by omega) (by rw [← htl3]; omega) ihx
    simp only [exC, hk] at hj3
    refine sq ?_
    apply Exec.regionL te_ok
    ·intro u' Q hQ
     simp only [go_sem]
     repeat refine ob2 ?_
     refine kcall hR.inv te_ok rfl rfl rfl rfl rfl rfl (hj3) ?_
     simp only [go_sem]
     repeat refine ob2 ?_
     exact hQ
    refine Exec.rets hR te_ok rfl rfl rfl (LeX.le ?_) (.inr ⟨_, rfl⟩)
    simp only [go_sem]
    rw [exT_3 (by simpa using h2)]
   ·obtain ⟨hk4, hkl⟩ := kids1 hok (by simpa using h0) (by simpa using h1) (by simpa using h2)
    have ha := kdR_at hkl
    have hj4 := ihx _ (nth_mem hkl)
    simp only [exC, hk] at hj4
    have ht4 := exT_4 (by simpa using h0) (by simpa using h1) (by simpa using h2) hkl
    have w9 : IntKind.i64.wrap (x.k - 4) = x.k - 4 := wrap_id (by omega)
    refine sk ?_
    refine Exec.inBlock ?_
    refine sq ?_
    apply Exec.draw (st := _) 14 13 [] [] te_ok (by as_aux_lemma => kernel_rfl) (by as_aux_lemma => kernel_rfl) (by as_aux_lemma => kernel_rfl)
    ·intro u' Q hQ
     simp only [go_sem, ha, w9]
     repeat refine ob2 ?_
     refine kdcall hR.inv te_ok rfl rfl rfl rfl rfl rfl (hj4) ?_
     simp only [go_sem, ha, w9]
     repeat refine ob2 ?_
     exact hQ
    refine Exec.rets hR te_ok rfl rfl rfl (LeX.le ?_) (.inr ⟨_, rfl⟩)
    simp only [go_sem]
    rw [ht4, sgn_at hk4]
theorem shown_ok' (x : Ex) (hok : exOk x = true) (hsz : x.size ≤ 1000) : FnOK Laid Tryz.prog 48 [exD x] (sv (exT x)) := by
 refine Ex.ind (p := fun x => exOk x = true → x.size ≤ 1000 → FnOK Laid Tryz.prog 48 [exD x] (sv (exT x))) (fun x ih h1 h2 => shown_step x h1 h2 fun y hy => ?_) x hok hsz
 have := Ex.sizes_mem hy
 have := x.size_eq
 have := exT_len y (exOk_kids h1 y hy)
 exact sh1_ok x y (by omega) (ih y hy (exOk_kids h1 y hy) (by omega))
abbrev kt (x : Ex) : List (List UInt8) := x.kids.map fun y => grp x.k y.k (exT y)
end Go.Proofs.YtonchjamoblioaaGreatDoor
namespace Go.Proofs.YtonchjamoblioaaGreatDoor
open Go.Kin
set_option maxRecDepth 100000
set_option maxHeartbeats 0
attribute [go_sem] te_124 te_165
def opT (o : Opd) : List UInt8 := if o.k = 1 then o.n else if o.k = 2 then o.n ++ [46] ++ o.key else showT ⟨o.vk, o.vn, o.vs⟩
def opS (k : Int) : List UInt8 := if k = 1 then [61] else if k = 2 then [33, 61] else if k = 3 then [60] else if k = 4 then [60, 61] else if k = 5 then [62] else [62, 61]
def cdT (c : Cd) : List UInt8 := opT c.l ++ [32] ++ opS c.op ++ [32] ++ opT c.r
def ptT (p : Pt) : List UInt8 := [40] ++ p.a ++ [41] ++ (if p.path then [61, 91] ++ exT p.e ++ [93, 61, 62] else if p.name = [] then [45, 91] ++ p.lab ++ [93, 45, 62] else [45, 91] ++ p.lab ++ [32, 97, 115, 32] ++ p.name ++ [93, 45, 62]) ++ [40] ++ p.z ++ [41]
theorem xopT_ok (o : Opd) (hfo : FitO o) : FnOK Laid Tryz.prog 89 [opD o] (sv (opT o)) := by
 refine FnOK_of laid_stable Tryz.func89 Tryz.ntmps89 rfl (by as_aux_lemma => kernel_rfl) (Nat.le_of_ble_eq_true rfl) (fun R hR => ?_)
 obtain ⟨_, b, cs, T, C⟩ := R
 obtain rfl : _ = Tryz.prog := hR.p
 have hn := hfo.n
 have hkey := hfo.key
 have hvs := hfo.vs
 refine sreg te_ok ?_
 refine sq ?_
 apply Exec.regionL te_ok
 ·intro u' Q hQ
  simp only [go_sem]
  repeat refine ob2 ?_
  refine kcall hR.inv te_ok rfl rfl rfl rfl rfl rfl (show_ok o.vk o.vn o.vs (by omega)) ?_
  simp only [go_sem]
  repeat refine ob2 ?_
  exact hQ
 refine sq ?_
 refine sreg te_ok ?_
 refine Exec.block ?_
 refine sreg te_ok ?_
 refine Exec.cond_split rfl (fun h0 => ?_) (fun h0 => ?_)
 ·refine Exec.reg te_ok ?_
  refine Exec.inBlock ?_
  refine sreg te_ok ?_
  refine Exec.rets hR te_ok rfl rfl rfl (LeX.le ?_) (.inr ⟨_, rfl⟩)
  simp only [go_sem, opT]
  simp_all
 ·refine sreg te_ok ?_
  refine Exec.cond_split rfl (fun h1 => ?_) (fun h1 => ?_)
  ·refine Exec.reg te_ok ?_
   refine Exec.inBlock ?_
   refine sreg te_ok ?_
   refine Exec.rets hR te_ok rfl rfl rfl (LeX.le ?_) (.inr ⟨_, rfl⟩)
   simp only [go_sem, opT]
   simp_all
  ·refine sk ?_
   refine Exec.inBlock ?_
   refine sreg te_ok ?_
   refine Exec.rets hR te_ok rfl rfl rfl (LeX.le ?_) (.inr ⟨_, rfl⟩)
   simp only [go_sem, opT]
   simp_all
theorem xcond1_ok (c : Cd) (hop : c.op = 1) (hl : FitO c.l) (hr : FitO c.r) (hl2 : (opT c.l).length ≤ 1000000) (hr2 : (opT c.r).length ≤ 1000000) : FnOK Laid Tryz.prog 85 [cdD c] (sv (cdT c)) := by
 refine FnOK_of laid_stable Tryz.func85 Tryz.ntmps85 rfl (by as_aux_lemma => kernel_rfl) (Nat.le_of_ble_eq_true rfl) (fun R hR => ?_)
 obtain ⟨_, b, cs, T, C⟩ := R
 obtain rfl : _ = Tryz.prog := hR.p
 have hz : Int.toNat 1 * 1 = 1 := rfl
 refine sq ?_
 apply Exec.regionL te_ok
 ·intro u' Q hQ
  simp only [go_sem, hop, hz]
  repeat refine ob2 ?_
  exact hQ
 refine sq ?_
 apply Exec.regionL te_ok
 ·intro u' Q hQ
  simp only [go_sem, hop, hz]
  repeat refine ob2 ?_
  exact hQ
 refine sq ?_
 apply Exec.draw (st := _) 16 15 [] [] te_ok (by as_aux_lemma => kernel_rfl) (by as_aux_lemma => kernel_rfl) (by as_aux_lemma => kernel_rfl)
 ·intro u' Q hQ
  simp only [go_sem, hop, hz]
  repeat refine ob2 ?_
  refine kdcall hR.inv te_ok rfl rfl rfl rfl rfl rfl (xopT_ok c.l hl) ?_
  simp only [go_sem, hop, hz]
  repeat refine ob2 ?_
  refine kdcall hR.inv te_ok rfl rfl rfl rfl rfl rfl (xopT_ok c.r hr) ?_
  simp only [go_sem, hop, hz]
  repeat refine ob2 ?_
  exact hQ
 refine Exec.rets hR te_ok rfl rfl rfl (LeX.le ?_) (.inr ⟨_, rfl⟩)
 simp only [go_sem, cdT, hop, opS]
theorem xcond2_ok (c : Cd) (hop : c.op = 2) (hl : FitO c.l) (hr : FitO c.r) (hl2 : (opT c.l).length ≤ 1000000) (hr2 : (opT c.r).length ≤ 1000000) : FnOK Laid Tryz.prog 85 [cdD c] (sv (cdT c)) := by
 refine FnOK_of laid_stable Tryz.func85 Tryz.ntmps85 rfl (by as_aux_lemma => kernel_rfl) (Nat.le_of_ble_eq_true rfl) (fun R hR => ?_)
 obtain ⟨_, b, cs, T, C⟩ := R
 obtain rfl : _ = Tryz.prog := hR.p
 have hz : Int.toNat 2 * 1 = 2 := rfl
 refine sq ?_
 apply Exec.regionL te_ok
 ·intro u' Q hQ
  simp only [go_sem, hop, hz]
  repeat refine ob2 ?_
  exact hQ
 refine sq ?_
 apply Exec.regionL te_ok
 ·intro u' Q hQ
  simp only [go_sem, hop, hz]
  repeat refine ob2 ?_
  exact hQ
 refine sq ?_
 apply Exec.draw (st := _) 16 15 [] [] te_ok (by as_aux_lemma => kernel_rfl) (by as_aux_lemma => kernel_rfl) (by as_aux_lemma => kernel_rfl)
 ·intro u' Q hQ
  simp only [go_sem, hop, hz]
  repeat refine ob2 ?_
  refine kdcall hR.inv te_ok rfl rfl rfl rfl rfl rfl (xopT_ok c.l hl) ?_
  simp only [go_sem, hop, hz]
  repeat refine ob2 ?_
  refine kdcall hR.inv te_ok rfl rfl rfl rfl rfl rfl (xopT_ok c.r hr) ?_
  simp only [go_sem, hop, hz]
  repeat refine ob2 ?_
  exact hQ
 refine Exec.rets hR te_ok rfl rfl rfl (LeX.le ?_) (.inr ⟨_, rfl⟩)
 simp only [go_sem, cdT, hop, opS]
theorem xcond3_ok (c : Cd) (hop : c.op = 3) (hl : FitO c.l) (hr : FitO c.r) (hl2 : (opT c.l).length ≤ 1000000) (hr2 : (opT c.r).length ≤ 1000000) : FnOK Laid Tryz.prog 85 [cdD c] (sv (cdT c)) := by
 refine FnOK_of laid_stable Tryz.func85 Tryz.ntmps85 rfl (by as_aux_lemma => kernel_rfl) (Nat.le_of_ble_eq_true rfl) (fun R hR => ?_)
 obtain ⟨_, b, cs, T, C⟩ := R
 obtain rfl : _ = Tryz.prog := hR.p
 have hz : Int.toNat 3 * 1 = 3 := rfl
 refine sq ?_
 apply Exec.regionL te_ok
 ·intro u' Q hQ
  simp only [go_sem, hop, hz]
  repeat refine ob2 ?_
  exact hQ
 refine sq ?_
 apply Exec.regionL te_ok
 ·intro u' Q hQ
  simp only [go_sem, hop, hz]
  repeat refine ob2 ?_
  exact hQ
 refine sq ?_
 apply Exec.draw (st := _) 16 15 [] [] te_ok (by as_aux_lemma => kernel_rfl) (by as_aux_lemma => kernel_rfl) (by as_aux_lemma => kernel_rfl)
 ·intro u' Q hQ
  simp only [go_sem, hop, hz]
  repeat refine ob2 ?_
  refine kdcall hR.inv te_ok rfl rfl rfl rfl rfl rfl (xopT_ok c.l hl) ?_
  simp only [go_sem, hop, hz]
  repeat refine ob2 ?_
  refine kdcall hR.inv te_ok rfl rfl rfl rfl rfl rfl (xopT_ok c.r hr) ?_
  simp only [go_sem, hop, hz]
  repeat refine ob2 ?_
  exact hQ
 refine Exec.rets hR te_ok rfl rfl rfl (LeX.le ?_) (.inr ⟨_, rfl⟩)
 simp only [go_sem, cdT, hop, opS]
theorem xcond4_ok (c : Cd) (hop : c.op = 4) (hl : FitO c.l) (hr : FitO c.r) (hl2 : (opT c.l).length ≤ 1000000) (hr2 : (opT c.r).length ≤ 1000000) : FnOK Laid Tryz.prog 85 [cdD c] (sv (cdT c)) := by
 refine FnOK_of laid_stable Tryz.func85 Tryz.ntmps85 rfl (by as_aux_lemma => kernel_rfl) (Nat.le_of_ble_eq_true rfl) (fun R hR => ?_)
 obtain ⟨_, b, cs, T, C⟩ := R
 obtain rfl : _ = Tryz.prog := hR.p
 have hz : Int.toNat 4 * 1 = 4 := rfl
 refine sq ?_
 apply Exec.regionL te_ok
 ·intro u' Q hQ
  simp only [go_sem, hop, hz]
  repeat refine ob2 ?_
  exact hQ
 refine sq ?_
 apply Exec.regionL te_ok
 ·intro u' Q hQ
  simp only [go_sem, hop, hz]
  repeat refine ob2 ?_
  exact hQ
 refine sq ?_
 apply Exec.draw (st := _) 16 15 [] [] te_ok (by as_aux_lemma => kernel_rfl) (by as_aux_lemma => kernel_rfl) (by as_aux_lemma => kernel_rfl)
 ·intro u' Q hQ
  simp only [go_sem, hop, hz]
  repeat refine ob2 ?_
  refine kdcall hR.inv te_ok rfl rfl rfl rfl rfl rfl (xopT_ok c.l hl) ?_
  simp only [go_sem, hop, hz]
  repeat refine ob2 ?_
  refine kdcall hR.inv te_ok rfl rfl rfl rfl rfl rfl (xopT_ok c.r hr) ?_
  simp only [go_sem, hop, hz]
  repeat refine ob2 ?_
  exact hQ
 refine Exec.rets hR te_ok rfl rfl rfl (LeX.le ?_) (.inr ⟨_, rfl⟩)
 simp only [go_sem, cdT, hop, opS]
theorem xcond5_ok (c : Cd) (hop : c.op = 5) (hl : FitO c.l) (hr : FitO c.r) (hl2 : (opT c.l).length ≤ 1000000) (hr2 : (opT c.r).length ≤ 1000000) : FnOK Laid Tryz.prog 85 [cdD c] (sv (cdT c)) := by
 refine FnOK_of laid_stable Tryz.func85 Tryz.ntmps85 rfl (by as_aux_lemma => kernel_rfl) (Nat.le_of_ble_eq_true rfl) (fun R hR => ?_)
 obtain ⟨_, b, cs, T, C⟩ := R
 obtain rfl : _ = Tryz.prog := hR.p
 have hz : Int.toNat 5 * 1 = 5 := rfl
 refine sq ?_
 apply Exec.regionL te_ok
 ·intro u' Q hQ
  simp only [go_sem, hop, hz]
  repeat refine ob2 ?_
  exact hQ
 refine sq ?_
 apply Exec.regionL te_ok
 ·intro u' Q hQ
  simp only [go_sem, hop, hz]
  repeat refine ob2 ?_
  exact hQ
 refine sq ?_
 apply Exec.draw (st := _) 16 15 [] [] te_ok (by as_aux_lemma => kernel_rfl) (by as_aux_lemma => kernel_rfl) (by as_aux_lemma => kernel_rfl)
 ·intro u' Q hQ
  simp only [go_sem, hop, hz]
  repeat refine ob2 ?_
  refine kdcall hR.inv te_ok rfl rfl rfl rfl rfl rfl (xopT_ok c.l hl) ?_
  simp only [go_sem, hop, hz]
  repeat refine ob2 ?_
  refine kdcall hR.inv te_ok rfl rfl rfl rfl rfl rfl (xopT_ok c.r hr) ?_
  simp only [go_sem, hop, hz]
  repeat refine ob2 ?_
  exact hQ
 refine Exec.rets hR te_ok rfl rfl rfl (LeX.le ?_) (.inr ⟨_, rfl⟩)
 simp only [go_sem, cdT, hop, opS]
theorem xcond6_ok (c : Cd) (hop : c.op = 6) (hl : FitO c.l) (hr : FitO c.r) (hl2 : (opT c.l).length ≤ 1000000) (hr2 : (opT c.r).length ≤ 1000000) : FnOK Laid Tryz.prog 85 [cdD c] (sv (cdT c)) := by
 refine FnOK_of laid_stable Tryz.func85 Tryz.ntmps85 rfl (by as_aux_lemma => kernel_rfl) (Nat.le_of_ble_eq_true rfl) (fun R hR => ?_)
 obtain ⟨_, b, cs, T, C⟩ := R
 obtain rfl : _ = Tryz.prog := hR.p
 have hz : Int.toNat 6 * 1 = 6 := rfl
 refine sq ?_
 apply Exec.regionL te_ok
 ·intro u' Q hQ
  simp only [go_sem, hop, hz]
  repeat refine ob2 ?_
  exact hQ
 refine sq ?_
 apply Exec.regionL te_ok
 ·intro u' Q hQ
  simp only [go_sem, hop, hz]
  repeat refine ob2 ?_
  exact hQ
 refine sq ?_
 apply Exec.draw (st := _) 16 15 [] [] te_ok (by as_aux_lemma => kernel_rfl) (by as_aux_lemma => kernel_rfl) (by as_aux_lemma => kernel_rfl)
 ·intro u' Q hQ
  simp only [go_sem, hop, hz]
  repeat refine ob2 ?_
  refine kdcall hR.inv te_ok rfl rfl rfl rfl rfl rfl (xopT_ok c.l hl) ?_
  simp only [go_sem, hop, hz]
  repeat refine ob2 ?_
  refine kdcall hR.inv te_ok rfl rfl rfl rfl rfl rfl (xopT_ok c.r hr) ?_
  simp only [go_sem, hop, hz]
  repeat refine ob2 ?_
  exact hQ
 refine Exec.rets hR te_ok rfl rfl rfl (LeX.le ?_) (.inr ⟨_, rfl⟩)
 simp only [go_sem, cdT, hop, opS]
end Go.Proofs.YtonchjamoblioaaGreatDoor
namespace Go.Proofs.YtonchjamoblioaaGreatDoor
open Go.Kin
set_option maxRecDepth 100000
set_option maxHeartbeats 0
theorem opS_len (k : Int) : (opS k).length ≤ 2 := by unfold opS; repeat (first | split | simp)
theorem showT_len (k n : Int) (s : List UInt8) : (showT ⟨k, n, s⟩).length ≤ 100 := by
 unfold showT
 by_cases hr : Vl.right ⟨k, n, s⟩ = true
 ·rw [if_pos hr]
  unfold Vl.right rightV at hr
  unfold Vl.shown shownV
  simp only at hr ⊢
  by_cases h2 : k = 2
  ·rw [if_pos h2]
   rw [if_neg (by omega), if_pos h2] at hr
   simp at hr ⊢; omega
  ·rw [if_neg h2]
   by_cases h1 : k = 1
   ·rw [if_pos h1] at hr
    simp at hr
    have := Lib.itoa_length_le n (by omega) (by omega); omega
   ·rw [if_neg h1, if_neg h2] at hr; cases hr
 ·rw [if_neg hr]; simp
theorem opT_len {o : Opd} (h : opR o = true) : (opT o).length ≤ 100 := by
 unfold opR at h; unfold opT
 by_cases h1 : o.k = 1
 ·rw [if_pos h1] at h ⊢
  simp only [Bool.and_eq_true] at h
  have := free_len h.1; omega
 ·rw [if_neg h1] at h ⊢
  by_cases h2 : o.k = 2
  ·rw [if_pos h2] at h ⊢
   simp only [Bool.and_eq_true] at h
   have := free_len h.1
   have := free_len h.2.1
   simp only [List.length_append, List.length_singleton]; omega
  ·rw [if_neg h2]
   exact showT_len _ _ _
structure CdF (c : Cd) : Prop where
 o : 1 ≤ c.op ∧ c.op ≤ 6
 l : opR c.l = true
 r : opR c.r = true
theorem cd_f {c : Cd} (h : cdR c = true) : CdF c := by
 unfold cdR at h
 simp only [Bool.and_eq_true, decide_eq_true_eq] at h
 exact ⟨⟨h.1, h.2.1⟩, h.2.2.1, h.2.2.2⟩
theorem xcondT_ok (c : Cd) (hc : FitC c) (hr : cdR c = true) : FnOK Laid Tryz.prog 85 [cdD c] (sv (cdT c)) := by
 obtain ⟨h, h1, h2⟩ := cd_f hr
 have l1 := opT_len h1
 have l2 := opT_len h2
 rcases (show c.op = 1 ∨ c.op = 2 ∨ c.op = 3 ∨ c.op = 4 ∨ c.op = 5 ∨ c.op = 6 by omega) with e | e | e | e | e | e
 ·exact xcond1_ok c e hc.l hc.r (by omega) (by omega)
 ·exact xcond2_ok c e hc.l hc.r (by omega) (by omega)
 ·exact xcond3_ok c e hc.l hc.r (by omega) (by omega)
 ·exact xcond4_ok c e hc.l hc.r (by omega) (by omega)
 ·exact xcond5_ok c e hc.l hc.r (by omega) (by omega)
 ·exact xcond6_ok c e hc.l hc.r (by omega) (by omega)
theorem cdT_len {c : Cd} (h : cdR c = true) : (cdT c).length ≤ 300 := by
 obtain ⟨_, h1, h2⟩ := cd_f h
 have l1 := opT_len h1
 have l2 := opT_len h2
 have l3 := opS_len c.op
 unfold cdT; simp only [List.length_append, List.length_singleton]; omega
structure PtF (p : Pt) : Prop where
 a : p.a.length ≤ 20
 z : p.z.length ≤ 20
 lab : p.lab.length ≤ 20
 name : p.name.length ≤ 20
 e : p.path = true → exOk p.e = true ∧ p.e.size ≤ 24 ∧ (exT p.e).length ≤ 600
theorem pt_f {p : Pt} (h : ptR p = true) : PtF p := by
 unfold ptR at h
 simp only [Bool.and_eq_true] at h
 obtain ⟨h1, h2, h3⟩ := h
 have e1 := free_len h1
 have e2 := free_len h2
 by_cases hp : p.path = true
 ·rw [if_pos hp] at h3
  simp only [Bool.and_eq_true, beq_iff_eq] at h3
  obtain ⟨h4, h5, h6⟩ := h3
  refine ⟨e1, e2, by rw [h4]; simp, by rw [h5]; simp, fun _ => ?_⟩
  unfold exRight at h6
  simp only [Bool.and_eq_true, decide_eq_true_eq] at h6
  have := exT_len _ h6.2
  exact ⟨h6.2, h6.1, by omega⟩
 ·rw [if_neg hp] at h3
  simp only [Bool.and_eq_true, Bool.or_eq_true, beq_iff_eq] at h3
  refine ⟨e1, e2, free_len h3.1, ?_, fun h => absurd h hp⟩
  rcases h3.2.1 with h | h
  ·rw [h]; simp
  ·exact free_len h
theorem ptT_len {p : Pt} (h : ptR p = true) : (ptT p).length ≤ 1000 := by
 obtain ⟨h1, h2, h3, h4, h5⟩ := pt_f h
 unfold ptT
 by_cases hp : p.path = true
 ·have := (h5 hp).2.2
  rw [if_pos hp]; simp only [List.length_append, List.length_cons, List.length_nil]; omega
 ·rw [if_neg hp]
  split <;> simp only [List.length_append, List.length_cons, List.length_nil] <;> omega
theorem xptT_ok (p : Pt) (hr : ptR p = true) : FnOK Laid Tryz.prog 87 [ptD p] (sv (ptT p)) := by
 refine FnOK_of laid_stable Tryz.func87 Tryz.ntmps87 rfl (by as_aux_lemma => kernel_rfl) (Nat.le_of_ble_eq_true rfl) (fun R hR => ?_)
 obtain ⟨_, b, cs, T, C⟩ := R
 obtain rfl : _ = Tryz.prog := hR.p
 obtain ⟨f1, f2, f3, f4, f5⟩ := pt_f hr
 refine sreg te_ok ?_
 refine sreg te_ok ?_
 refine sq ?_
 refine Exec.block ?_
 refine sreg te_ok ?_
 refine Exec.cond_split rfl (fun h0 => ?_) (fun h0 => ?_)
 ·obtain ⟨g1, g2, g3⟩ := f5 h0
  apply Exec.regionL te_ok
  ·intro u' Q hQ
   simp only [go_sem]
   repeat refine ob2 ?_
   refine kcall hR.inv te_ok rfl rfl rfl rfl rfl rfl (shown_ok' p.e g1 (by omega)) ?_
   simp only [go_sem]
   repeat refine ob2 ?_
   exact hQ
  refine Exec.inBlock ?_
  refine sreg te_ok ?_
  refine Exec.rets hR te_ok rfl rfl rfl (LeX.le ?_) (.inr ⟨_, rfl⟩)
  simp only [go_sem, ptT]
  simp_all [List.append_assoc]
 ·refine sreg te_ok ?_
  refine Exec.cond_split rfl (fun h1 => ?_) (fun h1 => ?_)
  ·refine Exec.reg te_ok ?_
   refine Exec.inBlock ?_
   refine sreg te_ok ?_
   refine Exec.rets hR te_ok rfl rfl rfl (LeX.le ?_) (.inr ⟨_, rfl⟩)
   simp only [go_sem, ptT]
   simp_all [List.append_assoc]
  ·refine sk ?_
   refine Exec.inBlock ?_
   refine sreg te_ok ?_
   refine Exec.rets hR te_ok rfl rfl rfl (LeX.le ?_) (.inr ⟨_, rfl⟩)
   simp only [go_sem, ptT]
   simp_all [List.append_assoc]
theorem joinedP_ok (l : List Pt) (s : List UInt8) (g : Pt → List UInt8)  (hl : l.length ≤ 1000000) (hj : (Lib.join (l.map g) s).length ≤ 140737488355328) (ihx : ∀ y ∈ l, FnOK Laid Tryz.prog 87 [ptD y] (sv (g y))) : FnOK Laid Tryz.prog 86 [ptsD l, sv s, .fn 87 []] (sv (Lib.join (l.map g) s)) := by
 refine FnOK_of laid_stable Tryz.func86 Tryz.ntmps86 rfl (by as_aux_lemma => kernel_rfl) (Nat.le_of_ble_eq_true rfl) (fun R hR => ?_)
 obtain ⟨_, b, cs, T, C⟩ := R
 obtain rfl : _ = Tryz.prog := hR.p
 refine sreg te_ok ?_
 refine sreg te_ok ?_
 refine sq ?_
 refine sreg te_ok ?_
 refine Exec.block ?_
 refine Exec.ownNil 7 1500 9 1 rfl rfl ?_
 apply Exec.norm
 ·simp only [go_sem]
  rfl
 apply Exec.loopU [1, 2, 10, 11] (X := Nat) (fun i => [(12, .d (iv i)), (7, .own 1500)]) (fun i => []) (fun i => [(1500, ⟨9, 1, i, i, fun j => [sv (nth (l.map g) j)]⟩)]) (fun i => l.length - i) (fun i => i ≤ l.length) 0
 case h0 =>
  first | assumption | omega | (simp only [Bool.not_eq_true', Bool.or_eq_false_iff, Bool.or_eq_true, Bool.and_eq_true, decide_eq_true_eq, decide_eq_false_iff_not, beq_iff_eq, Bool.not_eq_false']; omega) | (simp; done) | (simp; omega) | (intros; omega) | (simp_all; done) | (simp_all; omega)
 case hw =>
  simp only [go_sem]; exact fun i hi => absurd hi (Nat.not_lt_zero i)
 case body =>
  rintro i hx ih0
  try simp only at hx
  apply Exec.norm
  ·simp only [go_sem]
   rfl
  refine sreg te_ok ?_
  refine sq ?_
  refine Exec.cond_split rfl (fun h0 => ?_) (fun h0 => ?_)
  ·have hi : i < l.length := by have := of_decide_eq_true h0; omega
   have hr : nth (l.map g) i = g (nth l i) := nth_map g hi
   have w2 : IntKind.i64.wrap ((i : Int) + 1) = ((i + 1 : Nat) : Int) := by rw [wrap_id (by omega)]; omega
   refine sk ?_
   refine sq ?_
   refine Exec.block ?_
   refine sq ?_
   apply Exec.regionL te_ok
   ·intro u' Q hQ
    simp only [go_sem, w2]
    repeat refine ob2 ?_
    exact hQ
   apply Exec.regionL te_ok
   ·intro u' Q hQ
    simp only [go_sem, w2]
    repeat refine ob2 ?_
    refine kcall hR.inv te_ok rfl rfl rfl rfl rfl rfl (ihx _ (nth_mem hi)) ?_
    simp only [go_sem, w2]
    repeat refine ob2 ?_
    exact hQ
   refine Exec.inBlock ?_
   apply Exec.regionL te_ok
   ·intro u' Q hQ
    simp only [go_sem, w2]
    repeat refine ob2 ?_
    exact hQ
   refine Exec.back (ih0 (i + 1) ?_ ?_) ?_ ?_ ?_ ?_ ?_ ?_ ?_
   ·try simp only
    omega
   ·try simp only
    omega
   ·rfl
   ·rfl
   ·(simp only [go_sem, w2])
   ·(simp only [go_sem, w2])
   ·simp only [go_sem, w2]
    exact fun q hq => catR_row (row := fun j => [sv (nth (l.map g) j)]) (by simp only [hr]) q hq
   ·simp only [go_sem, w2]
   ·rfl
  ·obtain rfl : i = l.length := by have := of_decide_eq_false h0; omega
   refine Exec.exit rfl ?_
   refine sq ?_
   refine Exec.freeze 1500 rfl ?_
   apply Exec.norm
   ·simp only [go_sem]
    rfl
   apply Exec.regionL te_ok
   ·intro u' Q hQ
    simp only [go_sem]
    repeat refine ob2 ?_
    refine kcall hR.inv te_ok rfl rfl rfl rfl rfl rfl (join_map l g s (by omega) hj) ?_
    simp only [go_sem]
    repeat refine ob2 ?_
    exact hQ
   refine Exec.rets hR te_ok rfl rfl rfl (LeX.le ?_) (.inr ⟨_, rfl⟩)
   simp only [go_sem]
theorem joinedC_ok (l : List Cd) (s : List UInt8) (g : Cd → List UInt8)  (hl : l.length ≤ 1000000) (hj : (Lib.join (l.map g) s).length ≤ 140737488355328) (ihx : ∀ y ∈ l, FnOK Laid Tryz.prog 85 [cdD y] (sv (g y))) : FnOK Laid Tryz.prog 84 [cdsD l, sv s, .fn 85 []] (sv (Lib.join (l.map g) s)) := by
 refine FnOK_of laid_stable Tryz.func84 Tryz.ntmps84 rfl (by as_aux_lemma => kernel_rfl) (Nat.le_of_ble_eq_true rfl) (fun R hR => ?_)
 obtain ⟨_, b, cs, T, C⟩ := R
 obtain rfl : _ = Tryz.prog := hR.p
 refine sreg te_ok ?_
 refine sreg te_ok ?_
 refine sq ?_
 refine sreg te_ok ?_
 refine Exec.block ?_
 refine Exec.ownNil 7 1500 9 1 rfl rfl ?_
 apply Exec.norm
 ·simp only [go_sem]
  rfl
 apply Exec.loopU [1, 2, 10, 11] (X := Nat) (fun i => [(12, .d (iv i)), (7, .own 1500)]) (fun i => []) (fun i => [(1500, ⟨9, 1, i, i, fun j => [sv (nth (l.map g) j)]⟩)]) (fun i => l.length - i) (fun i => i ≤ l.length) 0
 case h0 =>
  first | assumption | omega | (simp only [Bool.not_eq_true', Bool.or_eq_false_iff, Bool.or_eq_true, Bool.and_eq_true, decide_eq_true_eq, decide_eq_false_iff_not, beq_iff_eq, Bool.not_eq_false']; omega) | (simp; done) | (simp; omega) | (intros; omega) | (simp_all; done) | (simp_all; omega)
 case hw =>
  simp only [go_sem]; exact fun i hi => absurd hi (Nat.not_lt_zero i)
 case body =>
  rintro i hx ih0
  try simp only at hx
  apply Exec.norm
  ·simp only [go_sem]
   rfl
  refine sreg te_ok ?_
  refine sq ?_
  refine Exec.cond_split rfl (fun h0 => ?_) (fun h0 => ?_)
  ·have hi : i < l.length := by have := of_decide_eq_true h0; omega
   have hr : nth (l.map g) i = g (nth l i) := nth_map g hi
   have w2 : IntKind.i64.wrap ((i : Int) + 1) = ((i + 1 : Nat) : Int) := by rw [wrap_id (by omega)]; omega
   refine sk ?_
   refine sq ?_
   refine Exec.block ?_
   refine sq ?_
   apply Exec.regionL te_ok
   ·intro u' Q hQ
    simp only [go_sem, w2]
    repeat refine ob2 ?_
    exact hQ
   apply Exec.regionL te_ok
   ·intro u' Q hQ
    simp only [go_sem, w2]
    repeat refine ob2 ?_
    refine kcall hR.inv te_ok rfl rfl rfl rfl rfl rfl (ihx _ (nth_mem hi)) ?_
    simp only [go_sem, w2]
    repeat refine ob2 ?_
    exact hQ
   refine Exec.inBlock ?_
   apply Exec.regionL te_ok
   ·intro u' Q hQ
    simp only [go_sem, w2]
    repeat refine ob2 ?_
    exact hQ
   refine Exec.back (ih0 (i + 1) ?_ ?_) ?_ ?_ ?_ ?_ ?_ ?_ ?_
   ·try simp only
    omega
   ·try simp only
    omega
   ·rfl
   ·rfl
   ·(simp only [go_sem, w2])
   ·(simp only [go_sem, w2])
   ·simp only [go_sem, w2]
    exact fun q hq => catR_row (row := fun j => [sv (nth (l.map g) j)]) (by simp only [hr]) q hq
   ·simp only [go_sem, w2]
   ·rfl
  ·obtain rfl : i = l.length := by have := of_decide_eq_false h0; omega
   refine Exec.exit rfl ?_
   refine sq ?_
   refine Exec.freeze 1500 rfl ?_
   apply Exec.norm
   ·simp only [go_sem]
    rfl
   apply Exec.regionL te_ok
   ·intro u' Q hQ
    simp only [go_sem]
    repeat refine ob2 ?_
    refine kcall hR.inv te_ok rfl rfl rfl rfl rfl rfl (join_map l g s (by omega) hj) ?_
    simp only [go_sem]
    repeat refine ob2 ?_
    exact hQ
   refine Exec.rets hR te_ok rfl rfl rfl (LeX.le ?_) (.inr ⟨_, rfl⟩)
   simp only [go_sem]
theorem joinedO_ok (l : List Opd) (s : List UInt8) (g : Opd → List UInt8)  (hl : l.length ≤ 1000000) (hj : (Lib.join (l.map g) s).length ≤ 140737488355328) (ihx : ∀ y ∈ l, FnOK Laid Tryz.prog 89 [opD y] (sv (g y))) : FnOK Laid Tryz.prog 88 [opsD l, sv s, .fn 89 []] (sv (Lib.join (l.map g) s)) := by
 refine FnOK_of laid_stable Tryz.func88 Tryz.ntmps88 rfl (by as_aux_lemma => kernel_rfl) (Nat.le_of_ble_eq_true rfl) (fun R hR => ?_)
 obtain ⟨_, b, cs, T, C⟩ := R
 obtain rfl : _ = Tryz.prog := hR.p
 refine sreg te_ok ?_
 refine sreg te_ok ?_
 refine sq ?_
 refine sreg te_ok ?_
 refine Exec.block ?_
 refine Exec.ownNil 7 1500 9 1 rfl rfl ?_
 apply Exec.norm
 ·simp only [go_sem]
  rfl
 apply Exec.loopU [1, 2, 10, 11] (X := Nat) (fun i => [(12, .d (iv i)), (7, .own 1500)]) (fun i => []) (fun i => [(1500, ⟨9, 1, i, i, fun j => [sv (nth (l.map g) j)]⟩)]) (fun i => l.length - i) (fun i => i ≤ l.length) 0
 case h0 =>
  first | assumption | omega | (simp only [Bool.not_eq_true', Bool.or_eq_false_iff, Bool.or_eq_true, Bool.and_eq_true, decide_eq_true_eq, decide_eq_false_iff_not, beq_iff_eq, Bool.not_eq_false']; omega) | (simp; done) | (simp; omega) | (intros; omega) | (simp_all; done) | (simp_all; omega)
 case hw =>
  simp only [go_sem]; exact fun i hi => absurd hi (Nat.not_lt_zero i)
 case body =>
  rintro i hx ih0
  try simp only at hx
  apply Exec.norm
  ·simp only [go_sem]
   rfl
  refine sreg te_ok ?_
  refine sq ?_
  refine Exec.cond_split rfl (fun h0 => ?_) (fun h0 => ?_)
  ·have hi : i < l.length := by have := of_decide_eq_true h0; omega
   have hr : nth (l.map g) i = g (nth l i) := nth_map g hi
   have w2 : IntKind.i64.wrap ((i : Int) + 1) = ((i + 1 : Nat) : Int) := by rw [wrap_id (by omega)]; omega
   refine sk ?_
   refine sq ?_
   refine Exec.block ?_
   refine sq ?_
   apply Exec.regionL te_ok
   ·intro u' Q hQ
    simp only [go_sem, w2]
    repeat refine ob2 ?_
    exact hQ
   apply Exec.regionL te_ok
   ·intro u' Q hQ
    simp only [go_sem, w2]
    repeat refine ob2 ?_
    refine kcall hR.inv te_ok rfl rfl rfl rfl rfl rfl (ihx _ (nth_mem hi)) ?_
    simp only [go_sem, w2]
    repeat refine ob2 ?_
    exact hQ
   refine Exec.inBlock ?_
   apply Exec.regionL te_ok
   ·intro u' Q hQ
    simp only [go_sem, w2]
    repeat refine ob2 ?_
    exact hQ
   refine Exec.back (ih0 (i + 1) ?_ ?_) ?_ ?_ ?_ ?_ ?_ ?_ ?_
   ·try simp only
    omega
   ·try simp only
    omega
   ·rfl
   ·rfl
   ·(simp only [go_sem, w2])
   ·(simp only [go_sem, w2])
   ·simp only [go_sem, w2]
    exact fun q hq => catR_row (row := fun j => [sv (nth (l.map g) j)]) (by simp only [hr]) q hq
   ·simp only [go_sem, w2]
   ·rfl
  ·obtain rfl : i = l.length := by have := of_decide_eq_false h0; omega
   refine Exec.exit rfl ?_
   refine sq ?_
   refine Exec.freeze 1500 rfl ?_
   apply Exec.norm
   ·simp only [go_sem]
    rfl
   apply Exec.regionL te_ok
   ·intro u' Q hQ
    simp only [go_sem]
    repeat refine ob2 ?_
    refine kcall hR.inv te_ok rfl rfl rfl rfl rfl rfl (join_map l g s (by omega) hj) ?_
    simp only [go_sem]
    repeat refine ob2 ?_
    exact hQ
   refine Exec.rets hR te_ok rfl rfl rfl (LeX.le ?_) (.inr ⟨_, rfl⟩)
   simp only [go_sem]
end Go.Proofs.YtonchjamoblioaaGreatDoor
