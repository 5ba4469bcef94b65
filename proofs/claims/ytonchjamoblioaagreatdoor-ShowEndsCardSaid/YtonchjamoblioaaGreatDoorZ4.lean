/- Steps of a function body on data, and contracts of the functions of the seat, walked. -/
import Derived.Test.YtonchjamoblioaaGreatDoorQDef
set_option linter.unusedSimpArgs false
set_option linter.unusedVariables false
set_option linter.unusedSectionVars false
namespace Go.Proofs.YtonchjamoblioaaGreatDoor
open Go.Kin
set_option maxRecDepth 100000
set_option maxHeartbeats 0
attribute [go_sem] opC cdC ptC ptLC ptsD cdsD opsD quD opMk cdMk ptMk ptsLD cdsLD opsLD quLD mkPt
abbrev opD (o : Opd) : D := .ag (opC o)
abbrev cdD (c : Cd) : D := .ag (cdC c)
abbrev ptD (p : Pt) : D := .ag (ptC p)
abbrev ptLD (p : Pt) : D := .ag (ptLC p)
attribute [go_sem] opD cdD ptD ptLD
theorem leX_kd (x : Ex) : LeX (kdX x) (kdX x) = True := by rw [kd_eq]; simp [LeX]
theorem leX_kdL (x : Ex) : LeX (kdL x) (kdL x) = True := by rw [kdL_eq]; simp [LeX]
attribute [go_sem ↓] leX_kd leX_kdL
theorem markP_ok (i : Int) (hi : 0 ≤ i ∧ i ≤ 10000000) : FnOK Laid Tryz.prog 79 [iv 1, iv i] (.ag [.v (.string (mkS [])), .v (.string (mkS [])), .v (.bool false), .v (.string (mkS [109])), .v (.string (mkS [])), .v (.int .i64 (mkI 1 i)), .v (.string (mkS [])), .v (.slice none 0 0)]) := by
 refine FnOK_of laid_stable Tryz.func79 Tryz.ntmps79 rfl (by as_aux_lemma => kernel_rfl) (Nat.le_of_ble_eq_true rfl) (fun R hR => ?_)
 obtain ⟨_, b, cs, T, C⟩ := R
 obtain rfl : _ = Tryz.prog := hR.p
 refine sreg te_ok ?_
 refine sq ?_
 apply Exec.regionL te_ok
 ·intro u' Q hQ
  simp only [go_sem]
  repeat refine ob2 ?_
  refine kcall hR.inv te_ok rfl rfl rfl rfl rfl rfl (mark_ok 1 i (by omega) (by omega)) ?_
  simp only [go_sem]
  repeat refine ob2 ?_
  exact hQ
 refine Exec.rets hR te_ok rfl rfl rfl (LeX.le ?_) (.inr ⟨_, rfl⟩)
 simp only [go_sem]
theorem markC_ok (i : Int) (hi : 0 ≤ i ∧ i ≤ 10000000) : FnOK Laid Tryz.prog 80 [iv 1, iv i] (.ag [.v (.int .i64 (mkI 1 i)), .v (.int .i64 0), .v (.string (mkS [])), .v (.string (mkS [])), .v (.int .i64 0), .v (.int .i64 0), .v (.string (mkS [])),  .v (.int .i64 0), .v (.string (mkS [])), .v (.string (mkS [])), .v (.int .i64 0), .v (.int .i64 0), .v (.string (mkS []))]) := by
 refine FnOK_of laid_stable Tryz.func80 Tryz.ntmps80 rfl (by as_aux_lemma => kernel_rfl) (Nat.le_of_ble_eq_true rfl) (fun R hR => ?_)
 obtain ⟨_, b, cs, T, C⟩ := R
 obtain rfl : _ = Tryz.prog := hR.p
 refine sreg te_ok ?_
 refine sq ?_
 apply Exec.regionL te_ok
 ·intro u' Q hQ
  simp only [go_sem]
  repeat refine ob2 ?_
  refine kcall hR.inv te_ok rfl rfl rfl rfl rfl rfl (mark_ok 1 i (by omega) (by omega)) ?_
  simp only [go_sem]
  repeat refine ob2 ?_
  exact hQ
 refine Exec.rets hR te_ok rfl rfl rfl (LeX.le ?_) (.inr ⟨_, rfl⟩)
 simp only [go_sem]
theorem markO_ok (i : Int) (hi : 0 ≤ i ∧ i ≤ 10000000) : FnOK Laid Tryz.prog 81 [iv 1, iv i] (.ag [.v (.int .i64 0), .v (.string (mkS [])), .v (.string (mkS [])), .v (.int .i64 0), .v (.int .i64 (mkI 1 i)), .v (.string (mkS []))]) := by
 refine FnOK_of laid_stable Tryz.func81 Tryz.ntmps81 rfl (by as_aux_lemma => kernel_rfl) (Nat.le_of_ble_eq_true rfl) (fun R hR => ?_)
 obtain ⟨_, b, cs, T, C⟩ := R
 obtain rfl : _ = Tryz.prog := hR.p
 refine sreg te_ok ?_
 refine sq ?_
 apply Exec.regionL te_ok
 ·intro u' Q hQ
  simp only [go_sem]
  repeat refine ob2 ?_
  refine kcall hR.inv te_ok rfl rfl rfl rfl rfl rfl (mark_ok 1 i (by omega) (by omega)) ?_
  simp only [go_sem]
  repeat refine ob2 ?_
  exact hQ
 refine Exec.rets hR te_ok rfl rfl rfl (LeX.le ?_) (.inr ⟨_, rfl⟩)
 simp only [go_sem]
theorem lentP_ok (p : Pt) (hx0 : p.e.size ≤ 1000000) : FnOK Laid Tryz.prog 78 [ptD p] (ptLD p) := by
 refine FnOK_of laid_stable Tryz.func78 Tryz.ntmps78 rfl (by as_aux_lemma => kernel_rfl) (Nat.le_of_ble_eq_true rfl) (fun R hR => ?_)
 obtain ⟨_, b, cs, T, C⟩ := R
 obtain rfl : _ = Tryz.prog := hR.p
 refine sreg te_ok ?_
 refine sq ?_
 apply Exec.regionL te_ok
 ·intro u' Q hQ
  simp only [go_sem]
  repeat refine ob2 ?_
  refine kcall hR.inv te_ok rfl rfl rfl rfl rfl rfl (lentE_ok p.e (by omega)) ?_
  simp only [go_sem]
  repeat refine ob2 ?_
  exact hQ
 refine sreg te_ok ?_
 refine Exec.rets hR te_ok rfl rfl rfl (LeX.le ?_) (.inr ⟨_, rfl⟩)
 simp only [go_sem]
theorem lentPs_ok (l : List Pt) (hl : l.length ≤ 1000000) (hx0 : ∀ p ∈ l, p.e.size ≤ 1000000) : FnOK Laid Tryz.prog 38 [ptsD l] (ptsLD l) := by
 refine FnOK_of laid_stable Tryz.func38 Tryz.ntmps38 rfl (by as_aux_lemma => kernel_rfl) (Nat.le_of_ble_eq_true rfl) (fun R hR => ?_)
 obtain ⟨_, b, cs, T, C⟩ := R
 obtain rfl : _ = Tryz.prog := hR.p
 have w5 : IntKind.i64.wrap ((l.length : Int) + 12) = ((l.length + 12 : Nat) : Int) := by rw [wrap_id (by omega)]; omega
 refine sq ?_
 apply Exec.regionL te_ok
 ·intro u' Q hQ
  simp only [go_sem, w5]
  repeat refine ob2 ?_
  exact hQ
 refine sq ?_
 apply Exec.regionL te_ok
 ·intro u' Q hQ
  simp only [go_sem, w5]
  repeat refine ob2 ?_
  exact hQ
 refine sq ?_
 refine sq ?_
 apply Exec.regionL te_ok
 ·intro u' Q hQ
  simp only [go_sem, w5]
  repeat refine ob2 ?_
  exact hQ
 refine Exec.block ?_
 apply Exec.loopU [0] (X := Nat) (fun i => [(4, .d (iv i)), (3, .own 10)]) (fun i => []) (fun i => [(10, ⟨56, 8, i, i, lentR ptLC ptMk l⟩)]) (fun i => l.length - i) (fun i => i ≤ l.length) 0
 case h0 =>
  first | assumption | omega | (simp only [Bool.not_eq_true', Bool.or_eq_false_iff, Bool.or_eq_true, Bool.and_eq_true, decide_eq_true_eq, decide_eq_false_iff_not, beq_iff_eq, Bool.not_eq_false']; omega) | (simp; done) | (simp; omega) | (intros; omega) | (simp_all; done) | (simp_all; omega)
 case hw =>
  simp only [go_sem]; simp
 case body =>
  rintro i hx ih0
  try simp only at hx
  apply Exec.norm
  ·simp only [go_sem, w5]
   rfl
  refine sq ?_
  refine sq ?_
  apply Exec.regionL te_ok
  ·intro u' Q hQ
   simp only [go_sem, w5]
   repeat refine ob2 ?_
   exact hQ
  refine Exec.cond_split rfl (fun h0 => ?_) (fun h0 => ?_)
  ·have hi : i < l.length := by have := of_decide_eq_true h0; omega
   have hr := lentR_at (f := ptLC) (m := ptMk) hi
   have w2 : IntKind.i64.wrap ((i : Int) + 1) = ((i + 1 : Nat) : Int) := by rw [wrap_id (by omega)]; omega
   refine sk ?_
   refine sq ?_
   refine Exec.block ?_
   refine sq ?_
   apply Exec.regionL te_ok
   ·intro u' Q hQ
    simp only [go_sem, w5, w2]
    repeat refine ob2 ?_
    refine kcall hR.inv te_ok rfl rfl rfl rfl rfl rfl (lentP_ok _ (hx0 _ (nth_mem hi))) ?_
    simp only [go_sem, w5, w2]
    repeat refine ob2 ?_
    exact hQ
   apply Exec.regionL te_ok
   ·intro u' Q hQ
    simp only [go_sem, w5, w2]
    repeat refine ob2 ?_
    exact hQ
   refine Exec.inBlock ?_
   apply Exec.regionL te_ok
   ·intro u' Q hQ
    simp only [go_sem, w5, w2]
    repeat refine ob2 ?_
    exact hQ
   refine Exec.back (ih0 (i + 1) ?_ ?_) ?_ ?_ ?_ ?_ ?_ ?_ ?_
   ·try simp only
    omega
   ·try simp only
    omega
   ·rfl
   ·rfl
   ·(simp only [go_sem, w2])
   ·(simp only [go_sem, w2])
   ·simp only [go_sem, w2]
    exact fun q hq => lentR_put hr q hq
   ·simp only [go_sem, w5, w2]
   ·rfl
  ·obtain rfl : i = l.length := by have := of_decide_eq_false h0; omega
   refine Exec.exit rfl ?_
   refine sq ?_
   refine sq ?_
   apply Exec.regionL te_ok
   ·intro u' Q hQ
    simp only [go_sem, w5]
    repeat refine ob2 ?_
    exact hQ
   refine Exec.block ?_
   apply Exec.loopU [0] (X := Nat) (fun j => [(6, .d (iv j)), (3, .own 10)]) (fun j => []) (fun j => [(10, ⟨56, 8, l.length + j, l.length + j, lentR ptLC ptMk l⟩)]) (fun j => 12 - j) (fun j => j ≤ 12) 0
   case h0 =>
    first | assumption | omega | (simp only [Bool.not_eq_true', Bool.or_eq_false_iff, Bool.or_eq_true, Bool.and_eq_true, decide_eq_true_eq, decide_eq_false_iff_not, beq_iff_eq, Bool.not_eq_false']; omega) | (simp; done) | (simp; omega) | (intros; omega) | (simp_all; done) | (simp_all; omega)
   case hw =>
    simp only [go_sem]
   case body =>
    rintro j hx ih1
    try simp only at hx
    apply Exec.norm
    ·simp only [go_sem, w5]
     rfl
    refine sq ?_
    refine sq ?_
    apply Exec.regionL te_ok
    ·intro u' Q hQ
     simp only [go_sem, w5]
     repeat refine ob2 ?_
     exact hQ
    refine Exec.cond_split rfl (fun h1 => ?_) (fun h1 => ?_)
    ·have hj : j < 12 := by have := of_decide_eq_true h1; omega
     have hr : lentR ptLC ptMk l (l.length + j) = ptMk j := by rw [lentR_mk (by omega)]; simp
     have w3 : IntKind.i64.wrap ((j : Int) + 1) = ((j + 1 : Nat) : Int) := by rw [wrap_id (by omega)]; omega
     refine sk ?_
     refine sq ?_
     refine Exec.block ?_
     apply Exec.regionL te_ok
     ·intro u' Q hQ
      simp only [go_sem, w5, w3]
      repeat refine ob2 ?_
      refine kcall hR.inv te_ok rfl rfl rfl rfl rfl rfl (markP_ok _ (by omega)) ?_
      simp only [go_sem, w5, w3]
      repeat refine ob2 ?_
      exact hQ
     refine Exec.inBlock ?_
     apply Exec.regionL te_ok
     ·intro u' Q hQ
      simp only [go_sem, w5, w3]
      repeat refine ob2 ?_
      exact hQ
     refine Exec.back (ih1 (j + 1) ?_ ?_) ?_ ?_ ?_ ?_ ?_ ?_ ?_
     ·try simp only
      omega
     ·try simp only
      omega
     ·rfl
     ·rfl
     ·(simp only [go_sem, w3])
     ·(simp only [go_sem, w3])
     ·simp only [go_sem, w3]
      exact ⟨by omega, .inl (by omega), fun q hq => lentR_put hr q (by omega)⟩
     ·simp only [go_sem, w5, w3]
     ·rfl
    ·obtain rfl : j = 12 := by have := of_decide_eq_false h1; omega
     refine Exec.exit rfl ?_
     refine sq ?_
     refine Exec.freeze 10 rfl ?_
     apply Exec.norm
     ·simp only [go_sem]
      rfl
     apply Exec.regionL te_ok
     ·intro u' Q hQ
      simp only [go_sem, w5]
      repeat refine ob2 ?_
      exact hQ
     refine Exec.rets hR te_ok rfl rfl rfl (LeX.le ?_) (.inr ⟨_, rfl⟩)
     simp only [go_sem, w5]
theorem lentCs_ok (l : List Cd) (hl : l.length ≤ 1000000) : FnOK Laid Tryz.prog 39 [cdsD l] (cdsLD l) := by
 refine FnOK_of laid_stable Tryz.func39 Tryz.ntmps39 rfl (by as_aux_lemma => kernel_rfl) (Nat.le_of_ble_eq_true rfl) (fun R hR => ?_)
 obtain ⟨_, b, cs, T, C⟩ := R
 obtain rfl : _ = Tryz.prog := hR.p
 have w5 : IntKind.i64.wrap ((l.length : Int) + 12) = ((l.length + 12 : Nat) : Int) := by rw [wrap_id (by omega)]; omega
 refine sq ?_
 apply Exec.regionL te_ok
 ·intro u' Q hQ
  simp only [go_sem, w5]
  repeat refine ob2 ?_
  exact hQ
 refine sq ?_
 apply Exec.regionL te_ok
 ·intro u' Q hQ
  simp only [go_sem, w5]
  repeat refine ob2 ?_
  exact hQ
 refine sq ?_
 apply Exec.regionL te_ok
 ·intro u' Q hQ
  simp only [go_sem, w5]
  repeat refine ob2 ?_
  exact hQ
 refine sq ?_
 refine sq ?_
 apply Exec.regionL te_ok
 ·intro u' Q hQ
  simp only [go_sem, w5]
  repeat refine ob2 ?_
  exact hQ
 refine Exec.block ?_
 apply Exec.loopU [0] (X := Nat) (fun j => [(4, .d (iv j)), (3, .own 8)]) (fun j => []) (fun j => [(8, ⟨53, 13, l.length + j, l.length + j, lentR cdC cdMk l⟩)]) (fun j => 12 - j) (fun j => j ≤ 12) 0
 case h0 =>
  first | assumption | omega | (simp only [Bool.not_eq_true', Bool.or_eq_false_iff, Bool.or_eq_true, Bool.and_eq_true, decide_eq_true_eq, decide_eq_false_iff_not, beq_iff_eq, Bool.not_eq_false']; omega) | (simp; done) | (simp; omega) | (intros; omega) | (simp_all; done) | (simp_all; omega)
 case hw =>
  simp only [go_sem]; intro i hi; rw [lentR_at hi]
 case body =>
  rintro j hx ih0
  try simp only at hx
  apply Exec.norm
  ·simp only [go_sem, w5]
   rfl
  refine sq ?_
  refine sq ?_
  apply Exec.regionL te_ok
  ·intro u' Q hQ
   simp only [go_sem, w5]
   repeat refine ob2 ?_
   exact hQ
  refine Exec.cond_split rfl (fun h0 => ?_) (fun h0 => ?_)
  ·have hj : j < 12 := by have := of_decide_eq_true h0; omega
   have hr : lentR cdC cdMk l (l.length + j) = cdMk j := by rw [lentR_mk (by omega)]; simp
   have w3 : IntKind.i64.wrap ((j : Int) + 1) = ((j + 1 : Nat) : Int) := by rw [wrap_id (by omega)]; omega
   refine sk ?_
   refine sq ?_
   refine Exec.block ?_
   apply Exec.regionL te_ok
   ·intro u' Q hQ
    simp only [go_sem, w5, w3]
    repeat refine ob2 ?_
    refine kcall hR.inv te_ok rfl rfl rfl rfl rfl rfl (markC_ok _ (by omega)) ?_
    simp only [go_sem, w5, w3]
    repeat refine ob2 ?_
    exact hQ
   refine Exec.inBlock ?_
   apply Exec.regionL te_ok
   ·intro u' Q hQ
    simp only [go_sem, w5, w3]
    repeat refine ob2 ?_
    exact hQ
   refine Exec.back (ih0 (j + 1) ?_ ?_) ?_ ?_ ?_ ?_ ?_ ?_ ?_
   ·try simp only
    omega
   ·try simp only
    omega
   ·rfl
   ·rfl
   ·(simp only [go_sem, w3])
   ·(simp only [go_sem, w3])
   ·simp only [go_sem, w3]
    exact ⟨by omega, .inl (by omega), fun q hq => lentR_put hr q (by omega)⟩
   ·simp only [go_sem, w5, w3]
   ·rfl
  ·obtain rfl : j = 12 := by have := of_decide_eq_false h0; omega
   refine Exec.exit rfl ?_
   refine sq ?_
   refine Exec.freeze 8 rfl ?_
   apply Exec.norm
   ·simp only [go_sem]
    rfl
   apply Exec.regionL te_ok
   ·intro u' Q hQ
    simp only [go_sem, w5]
    repeat refine ob2 ?_
    exact hQ
   refine Exec.rets hR te_ok rfl rfl rfl (LeX.le ?_) (.inr ⟨_, rfl⟩)
   simp only [go_sem, w5]
theorem lentOs_ok (l : List Opd) (hl : l.length ≤ 1000000) : FnOK Laid Tryz.prog 40 [opsD l] (opsLD l) := by
 refine FnOK_of laid_stable Tryz.func40 Tryz.ntmps40 rfl (by as_aux_lemma => kernel_rfl) (Nat.le_of_ble_eq_true rfl) (fun R hR => ?_)
 obtain ⟨_, b, cs, T, C⟩ := R
 obtain rfl : _ = Tryz.prog := hR.p
 have w5 : IntKind.i64.wrap ((l.length : Int) + 12) = ((l.length + 12 : Nat) : Int) := by rw [wrap_id (by omega)]; omega
 refine sq ?_
 apply Exec.regionL te_ok
 ·intro u' Q hQ
  simp only [go_sem, w5]
  repeat refine ob2 ?_
  exact hQ
 refine sq ?_
 apply Exec.regionL te_ok
 ·intro u' Q hQ
  simp only [go_sem, w5]
  repeat refine ob2 ?_
  exact hQ
 refine sq ?_
 apply Exec.regionL te_ok
 ·intro u' Q hQ
  simp only [go_sem, w5]
  repeat refine ob2 ?_
  exact hQ
 refine sq ?_
 refine sq ?_
 apply Exec.regionL te_ok
 ·intro u' Q hQ
  simp only [go_sem, w5]
  repeat refine ob2 ?_
  exact hQ
 refine Exec.block ?_
 apply Exec.loopU [0] (X := Nat) (fun j => [(4, .d (iv j)), (3, .own 8)]) (fun j => []) (fun j => [(8, ⟨51, 6, l.length + j, l.length + j, lentR opC opMk l⟩)]) (fun j => 12 - j) (fun j => j ≤ 12) 0
 case h0 =>
  first | assumption | omega | (simp only [Bool.not_eq_true', Bool.or_eq_false_iff, Bool.or_eq_true, Bool.and_eq_true, decide_eq_true_eq, decide_eq_false_iff_not, beq_iff_eq, Bool.not_eq_false']; omega) | (simp; done) | (simp; omega) | (intros; omega) | (simp_all; done) | (simp_all; omega)
 case hw =>
  simp only [go_sem]; intro i hi; rw [lentR_at hi]
 case body =>
  rintro j hx ih0
  try simp only at hx
  apply Exec.norm
  ·simp only [go_sem, w5]
   rfl
  refine sq ?_
  refine sq ?_
  apply Exec.regionL te_ok
  ·intro u' Q hQ
   simp only [go_sem, w5]
   repeat refine ob2 ?_
   exact hQ
  refine Exec.cond_split rfl (fun h0 => ?_) (fun h0 => ?_)
  ·have hj : j < 12 := by have := of_decide_eq_true h0; omega
   have hr : lentR opC opMk l (l.length + j) = opMk j := by rw [lentR_mk (by omega)]; simp
   have w3 : IntKind.i64.wrap ((j : Int) + 1) = ((j + 1 : Nat) : Int) := by rw [wrap_id (by omega)]; omega
   refine sk ?_
   refine sq ?_
   refine Exec.block ?_
   apply Exec.regionL te_ok
   ·intro u' Q hQ
    simp only [go_sem, w5, w3]
    repeat refine ob2 ?_
    refine kcall hR.inv te_ok rfl rfl rfl rfl rfl rfl (markO_ok _ (by omega)) ?_
    simp only [go_sem, w5, w3]
    repeat refine ob2 ?_
    exact hQ
   refine Exec.inBlock ?_
   apply Exec.regionL te_ok
   ·intro u' Q hQ
    simp only [go_sem, w5, w3]
    repeat refine ob2 ?_
    exact hQ
   refine Exec.back (ih0 (j + 1) ?_ ?_) ?_ ?_ ?_ ?_ ?_ ?_ ?_
   ·try simp only
    omega
   ·try simp only
    omega
   ·rfl
   ·rfl
   ·(simp only [go_sem, w3])
   ·(simp only [go_sem, w3])
   ·simp only [go_sem, w3]
    exact ⟨by omega, .inl (by omega), fun q hq => lentR_put hr q (by omega)⟩
   ·simp only [go_sem, w5, w3]
   ·rfl
  ·obtain rfl : j = 12 := by have := of_decide_eq_false h0; omega
   refine Exec.exit rfl ?_
   refine sq ?_
   refine Exec.freeze 8 rfl ?_
   apply Exec.norm
   ·simp only [go_sem]
    rfl
   apply Exec.regionL te_ok
   ·intro u' Q hQ
    simp only [go_sem, w5]
    repeat refine ob2 ?_
    exact hQ
   refine Exec.rets hR te_ok rfl rfl rfl (LeX.le ?_) (.inr ⟨_, rfl⟩)
   simp only [go_sem, w5]
theorem lentQ_ok (q : Qu) (h1 : q.p.length ≤ 1000000) (h2 : q.c.length ≤ 1000000) (h3 : q.r.length ≤ 1000000) (hx0 : ∀ p ∈ q.p, p.e.size ≤ 1000000) : FnOK Laid Tryz.prog 14 [quD q] (quLD q) := by
 refine FnOK_of laid_stable Tryz.func14 Tryz.ntmps14 rfl (by as_aux_lemma => kernel_rfl) (Nat.le_of_ble_eq_true rfl) (fun R hR => ?_)
 obtain ⟨_, b, cs, T, C⟩ := R
 obtain rfl : _ = Tryz.prog := hR.p
 refine sreg te_ok ?_
 refine sq ?_
 apply Exec.regionL te_ok
 ·intro u' Q hQ
  simp only [go_sem]
  repeat refine ob2 ?_
  refine kcall hR.inv te_ok rfl rfl rfl rfl rfl rfl (lentPs_ok q.p (by omega) hx0) ?_
  simp only [go_sem]
  repeat refine ob2 ?_
  exact hQ
 refine sq ?_
 apply Exec.regionL te_ok
 ·intro u' Q hQ
  simp only [go_sem]
  repeat refine ob2 ?_
  refine kcall hR.inv te_ok rfl rfl rfl rfl rfl rfl (lentCs_ok q.c (by omega)) ?_
  simp only [go_sem]
  repeat refine ob2 ?_
  exact hQ
 refine sq ?_
 apply Exec.regionL te_ok
 ·intro u' Q hQ
  simp only [go_sem]
  repeat refine ob2 ?_
  refine kcall hR.inv te_ok rfl rfl rfl rfl rfl rfl (lentOs_ok q.r (by omega)) ?_
  simp only [go_sem]
  repeat refine ob2 ?_
  exact hQ
 refine sreg te_ok ?_
 refine Exec.rets hR te_ok rfl rfl rfl (LeX.le ?_) (.inr ⟨_, rfl⟩)
 simp only [go_sem]
theorem pt_eq (x y : Pt) : (x.a == y.a && (x.z == y.z && (x.path == y.path && (x.lab == y.lab && (x.name == y.name && decide (x.e = y.e)))))) = decide (x = y) := by
 cases x; cases y; rw [Bool.eq_iff_iff]; simp
theorem cdx (x y : Cd) : x = y ↔ (x.op = y.op ∧ x.l.k = y.l.k ∧ x.l.n = y.l.n ∧ x.l.key = y.l.key ∧ x.l.vk = y.l.vk ∧ x.l.vn = y.l.vn ∧ x.l.vs = y.l.vs ∧ x.r.k = y.r.k ∧ x.r.n = y.r.n ∧ x.r.key = y.r.key ∧ x.r.vk = y.r.vk ∧ x.r.vn = y.r.vn ∧ x.r.vs = y.r.vs) := by
 obtain ⟨o, ⟨_, _, _, _, _, _⟩, ⟨_, _, _, _, _, _⟩⟩ := x; obtain ⟨o2, ⟨_, _, _, _, _, _⟩, ⟨_, _, _, _, _, _⟩⟩ := y; simp [and_assoc]
theorem qu_eq (x y : Qu) : (decide (x.p = y.p) && (decide (x.c = y.c) && (decide (x.r = y.r) && (x.range == y.range && x.slide == y.slide)))) = decide (x = y) := by
 cases x; cases y; rw [Bool.eq_iff_iff]; simp
theorem sameP_ok (x y : Pt) (hx0 : x.e.size ≤ 1000000) : FnOK Laid Tryz.prog 103 [ptD x, ptD y] (bv (decide (x = y))) := by
 refine FnOK_of laid_stable Tryz.func103 Tryz.ntmps103 rfl (by as_aux_lemma => kernel_rfl) (Nat.le_of_ble_eq_true rfl) (fun R hR => ?_)
 obtain ⟨_, b, cs, T, C⟩ := R
 obtain rfl : _ = Tryz.prog := hR.p
 refine sreg te_ok ?_
 refine sq ?_
 apply Exec.regionL te_ok
 ·intro u' Q hQ
  simp only [go_sem]
  repeat refine ob2 ?_
  refine kcallG hR.inv te_ok rfl rfl rfl rfl rfl rfl ob1 (fun hq => kSame_ok x.e y.e hx0) ?_
  simp only [go_sem]
  repeat refine ob2 ?_
  exact hQ
 refine Exec.rets hR te_ok rfl rfl rfl (LeX.le ?_) (.inr ⟨_, rfl⟩)
 simp only [go_sem]
 rw [← pt_eq]
 cases (x.a == y.a) <;> cases (x.z == y.z) <;> cases (x.path == y.path) <;> cases (x.lab == y.lab) <;> cases (x.name == y.name) <;> simp
theorem samePs_ok (l m : List Pt) (hl : l.length ≤ 1000000) (hx0 : ∀ p ∈ l, p.e.size ≤ 1000000) : FnOK Laid Tryz.prog 99 [ptsD l, ptsD m] (bv (decide (l = m))) := by
 refine FnOK_of laid_stable Tryz.func99 Tryz.ntmps99 rfl (by as_aux_lemma => kernel_rfl) (Nat.le_of_ble_eq_true rfl) (fun R hR => ?_)
 obtain ⟨_, b, cs, T, C⟩ := R
 obtain rfl : _ = Tryz.prog := hR.p
 refine sreg te_ok ?_
 refine sq ?_
 refine sreg te_ok ?_
 refine Exec.cond_split rfl (fun h0 => ?_) (fun h0 => ?_)
 ·refine sreg te_ok ?_
  refine Exec.rets hR te_ok rfl rfl rfl (LeX.le ?_) (.inr ⟨_, rfl⟩)
  simp only [go_sem]
  have : l ≠ m := fun e => by subst e; simp at h0
  simp [this]
 ·have hlm : l.length = m.length := by simp at h0; omega
  refine sk ?_
  refine sq ?_
  refine sreg te_ok ?_
  refine Exec.block ?_
  apply Exec.loopU [0, 1] (X := Nat) (fun i => [(5, .d (iv i))]) (fun i => []) (fun i => []) (fun i => l.length - i) (fun i => i ≤ l.length ∧ l.take i = m.take i) 0
  case h0 =>
   simp
  case hw =>
   simp only [go_sem]
  case body =>
   rintro i hx ih0
   try simp only at hx
   apply Exec.norm
   ·simp only [go_sem]
    rfl
   refine sq ?_
   refine sreg te_ok ?_
   refine Exec.cond_split rfl (fun h1 => ?_) (fun h1 => ?_)
   ·have hi : i < l.length := by simp at h1; omega
    have w2 : IntKind.i64.wrap ((i : Int) + 1) = ((i + 1 : Nat) : Int) := by rw [wrap_id (by omega)]; omega
    refine sk ?_
    refine sq ?_
    refine Exec.block ?_
    refine sq ?_
    apply Exec.draw (st := _) 11 10 [] [] te_ok (by as_aux_lemma => kernel_rfl) (by as_aux_lemma => kernel_rfl) (by as_aux_lemma => kernel_rfl)
    ·intro u' Q hQ
     simp only [go_sem, w2]
     repeat refine ob2 ?_
     refine kdcall hR.inv te_ok rfl rfl rfl rfl rfl rfl (sameP_ok _ _ (hx0 _ (nth_mem hi))) ?_
     simp only [go_sem, w2]
     repeat refine ob2 ?_
     exact hQ
    refine Exec.cond_split rfl (fun h2 => ?_) (fun h2 => ?_)
    ·refine sq ?_
     apply Exec.regionL te_ok
     ·intro u' Q hQ
      simp only [go_sem, w2]
      repeat refine ob2 ?_
      exact hQ
     refine Exec.rets hR te_ok rfl rfl rfl (LeX.le ?_) (.inr ⟨_, rfl⟩)
     simp only [go_sem]
     have : l ≠ m := fun e => by subst e; simp [decide_eq_true_eq] at h2
     simp [this]
    ·refine sk ?_
     refine Exec.inBlock ?_
     apply Exec.regionL te_ok
     ·intro u' Q hQ
      simp only [go_sem, w2]
      repeat refine ob2 ?_
      exact hQ
     refine Exec.back (ih0 (i + 1) ?_ ?_) ?_ ?_ ?_ ?_ ?_ ?_ ?_
     ·try simp only
      exact ⟨by omega, (same_step hlm hi hx.2).2 (by simpa [decide_eq_true_eq] using h2)⟩
     ·try simp only
      omega
     ·rfl
     ·rfl
     ·(simp only [go_sem, w2])
     ·(simp only [go_sem, w2])
     ·(simp only [go_sem, w2])
     ·simp only [go_sem, w2]
     ·rfl
   ·refine Exec.exit rfl ?_
    refine sreg te_ok ?_
    refine Exec.rets hR te_ok rfl rfl rfl (LeX.le ?_) (.inr ⟨_, rfl⟩)
    simp only [go_sem]
    have : l = m := by have := hx.2; simp at h1; rw [List.take_of_length_le (by omega), List.take_of_length_le (by omega)] at this; exact this
    simp [this]
theorem sameCs_ok (l m : List Cd) (hl : l.length ≤ 1000000)  : FnOK Laid Tryz.prog 100 [cdsD l, cdsD m] (bv (decide (l = m))) := by
 refine FnOK_of laid_stable Tryz.func100 Tryz.ntmps100 rfl (by as_aux_lemma => kernel_rfl) (Nat.le_of_ble_eq_true rfl) (fun R hR => ?_)
 obtain ⟨_, b, cs, T, C⟩ := R
 obtain rfl : _ = Tryz.prog := hR.p
 refine sreg te_ok ?_
 refine sq ?_
 refine sreg te_ok ?_
 refine Exec.cond_split rfl (fun h0 => ?_) (fun h0 => ?_)
 ·refine sreg te_ok ?_
  refine Exec.rets hR te_ok rfl rfl rfl (LeX.le ?_) (.inr ⟨_, rfl⟩)
  simp only [go_sem]
  have : l ≠ m := fun e => by subst e; simp at h0
  simp [this]
 ·have hlm : l.length = m.length := by simp at h0; omega
  refine sk ?_
  refine sq ?_
  refine sreg te_ok ?_
  refine Exec.block ?_
  apply Exec.loopU [0, 1] (X := Nat) (fun i => [(5, .d (iv i))]) (fun i => []) (fun i => []) (fun i => l.length - i) (fun i => i ≤ l.length ∧ l.take i = m.take i) 0
  case h0 =>
   simp
  case hw =>
   simp only [go_sem]
  case body =>
   rintro i hx ih0
   try simp only at hx
   apply Exec.norm
   ·simp only [go_sem]
    rfl
   refine sq ?_
   refine sreg te_ok ?_
   refine Exec.cond_split rfl (fun h1 => ?_) (fun h1 => ?_)
   ·have hi : i < l.length := by simp at h1; omega
    have w2 : IntKind.i64.wrap ((i : Int) + 1) = ((i + 1 : Nat) : Int) := by rw [wrap_id (by omega)]; omega
    refine sk ?_
    refine sq ?_
    refine Exec.block ?_
    refine sq ?_
    apply Exec.draw (st := _) 10 9 [] [] te_ok (by as_aux_lemma => kernel_rfl) (by as_aux_lemma => kernel_rfl) (by as_aux_lemma => kernel_rfl)
    ·intro u' Q hQ
     simp only [go_sem, w2]
     repeat refine ob2 ?_
     exact hQ
    refine Exec.cond_split rfl (fun h2 => ?_) (fun h2 => ?_)
    ·refine sq ?_
     apply Exec.regionL te_ok
     ·intro u' Q hQ
      simp only [go_sem, w2]
      repeat refine ob2 ?_
      exact hQ
     refine Exec.rets hR te_ok rfl rfl rfl (LeX.le ?_) (.inr ⟨_, rfl⟩)
     simp only [go_sem]
     have : l ≠ m := fun e => by subst e; simp [cdx, and_assoc] at h2
     simp [this]
    ·refine sk ?_
     refine Exec.inBlock ?_
     apply Exec.regionL te_ok
     ·intro u' Q hQ
      simp only [go_sem, w2]
      repeat refine ob2 ?_
      exact hQ
     refine Exec.back (ih0 (i + 1) ?_ ?_) ?_ ?_ ?_ ?_ ?_ ?_ ?_
     ·try simp only
      exact ⟨by omega, (same_step hlm hi hx.2).2 (by simpa [cdx, and_assoc] using h2)⟩
     ·try simp only
      omega
     ·rfl
     ·rfl
     ·(simp only [go_sem, w2])
     ·(simp only [go_sem, w2])
     ·(simp only [go_sem, w2])
     ·simp only [go_sem, w2]
     ·rfl
   ·refine Exec.exit rfl ?_
    refine sreg te_ok ?_
    refine Exec.rets hR te_ok rfl rfl rfl (LeX.le ?_) (.inr ⟨_, rfl⟩)
    simp only [go_sem]
    have : l = m := by have := hx.2; simp at h1; rw [List.take_of_length_le (by omega), List.take_of_length_le (by omega)] at this; exact this
    simp [this]
theorem sameOs_ok (l m : List Opd) (hl : l.length ≤ 1000000)  : FnOK Laid Tryz.prog 101 [opsD l, opsD m] (bv (decide (l = m))) := by
 refine FnOK_of laid_stable Tryz.func101 Tryz.ntmps101 rfl (by as_aux_lemma => kernel_rfl) (Nat.le_of_ble_eq_true rfl) (fun R hR => ?_)
 obtain ⟨_, b, cs, T, C⟩ := R
 obtain rfl : _ = Tryz.prog := hR.p
 refine sreg te_ok ?_
 refine sq ?_
 refine sreg te_ok ?_
 refine Exec.cond_split rfl (fun h0 => ?_) (fun h0 => ?_)
 ·refine sreg te_ok ?_
  refine Exec.rets hR te_ok rfl rfl rfl (LeX.le ?_) (.inr ⟨_, rfl⟩)
  simp only [go_sem]
  have : l ≠ m := fun e => by subst e; simp at h0
  simp [this]
 ·have hlm : l.length = m.length := by simp at h0; omega
  refine sk ?_
  refine sq ?_
  refine sreg te_ok ?_
  refine Exec.block ?_
  apply Exec.loopU [0, 1] (X := Nat) (fun i => [(5, .d (iv i))]) (fun i => []) (fun i => []) (fun i => l.length - i) (fun i => i ≤ l.length ∧ l.take i = m.take i) 0
  case h0 =>
   simp
  case hw =>
   simp only [go_sem]
  case body =>
   rintro i hx ih0
   try simp only at hx
   apply Exec.norm
   ·simp only [go_sem]
    rfl
   refine sq ?_
   refine sreg te_ok ?_
   refine Exec.cond_split rfl (fun h1 => ?_) (fun h1 => ?_)
   ·have hi : i < l.length := by simp at h1; omega
    have w2 : IntKind.i64.wrap ((i : Int) + 1) = ((i + 1 : Nat) : Int) := by rw [wrap_id (by omega)]; omega
    refine sk ?_
    refine sq ?_
    refine Exec.block ?_
    refine sq ?_
    apply Exec.draw (st := _) 10 9 [] [] te_ok (by as_aux_lemma => kernel_rfl) (by as_aux_lemma => kernel_rfl) (by as_aux_lemma => kernel_rfl)
    ·intro u' Q hQ
     simp only [go_sem, w2]
     repeat refine ob2 ?_
     exact hQ
    refine Exec.cond_split rfl (fun h2 => ?_) (fun h2 => ?_)
    ·refine sq ?_
     apply Exec.regionL te_ok
     ·intro u' Q hQ
      simp only [go_sem, w2]
      repeat refine ob2 ?_
      exact hQ
     refine Exec.rets hR te_ok rfl rfl rfl (LeX.le ?_) (.inr ⟨_, rfl⟩)
     simp only [go_sem]
     have : l ≠ m := fun e => by subst e; simp [op_eq] at h2
     simp [this]
    ·refine sk ?_
     refine Exec.inBlock ?_
     apply Exec.regionL te_ok
     ·intro u' Q hQ
      simp only [go_sem, w2]
      repeat refine ob2 ?_
      exact hQ
     refine Exec.back (ih0 (i + 1) ?_ ?_) ?_ ?_ ?_ ?_ ?_ ?_ ?_
     ·try simp only
      exact ⟨by omega, (same_step hlm hi hx.2).2 (by simpa [op_eq] using h2)⟩
     ·try simp only
      omega
     ·rfl
     ·rfl
     ·(simp only [go_sem, w2])
     ·(simp only [go_sem, w2])
     ·(simp only [go_sem, w2])
     ·simp only [go_sem, w2]
     ·rfl
   ·refine Exec.exit rfl ?_
    refine sreg te_ok ?_
    refine Exec.rets hR te_ok rfl rfl rfl (LeX.le ?_) (.inr ⟨_, rfl⟩)
    simp only [go_sem]
    have : l = m := by have := hx.2; simp at h1; rw [List.take_of_length_le (by omega), List.take_of_length_le (by omega)] at this; exact this
    simp [this]
theorem sameQ_ok (x y : Qu) (h1 : x.p.length ≤ 1000000) (h2 : x.c.length ≤ 1000000) (h3 : x.r.length ≤ 1000000) (hx0 : ∀ p ∈ x.p, p.e.size ≤ 1000000) : FnOK Laid Tryz.prog 51 [quD x, quD y] (bv (decide (x = y))) := by
 refine FnOK_of laid_stable Tryz.func51 Tryz.ntmps51 rfl (by as_aux_lemma => kernel_rfl) (Nat.le_of_ble_eq_true rfl) (fun R hR => ?_)
 obtain ⟨_, b, cs, T, C⟩ := R
 obtain rfl : _ = Tryz.prog := hR.p
 refine sreg te_ok ?_
 refine sq ?_
 apply Exec.regionL te_ok
 ·intro u' Q hQ
  simp only [go_sem]
  repeat refine ob2 ?_
  refine kcall hR.inv te_ok rfl rfl rfl rfl rfl rfl (samePs_ok x.p y.p (by omega) hx0) ?_
  simp only [go_sem]
  repeat refine ob2 ?_
  refine kcallG hR.inv te_ok rfl rfl rfl rfl rfl rfl ob1 (fun hq => sameCs_ok x.c y.c (by omega)) ?_
  simp only [go_sem]
  repeat refine ob2 ?_
  refine kcallG hR.inv te_ok rfl rfl rfl rfl rfl rfl ob1 (fun hq => sameOs_ok x.r y.r (by omega)) ?_
  simp only [go_sem]
  repeat refine ob2 ?_
  exact hQ
 refine Exec.rets hR te_ok rfl rfl rfl (LeX.le ?_) (.inr ⟨_, rfl⟩)
 simp only [go_sem]
 rw [← qu_eq]
 cases decide (x.p = y.p) <;> cases decide (x.c = y.c) <;> cases decide (x.r = y.r) <;> cases (x.range == y.range) <;> simp
theorem sameP_true {x : Pt} {a b : D} (ha : LeD a (ptD x)) (hb : LeD b (ptD x)) (hx0 : x.e.size ≤ 1000000) : FnOK Laid Tryz.prog 103 [a, b] (bv true) := by
 have h := FnOK.args (xs := [a, b]) (sameP_ok x x hx0) ⟨ha, hb, trivial⟩
 rwa [decide_eq_true rfl] at h
theorem sameQ_true {x : Qu} {a b : D} (ha : LeD a (quD x)) (hb : LeD b (quD x)) (h1 : x.p.length ≤ 1000000) (h2 : x.c.length ≤ 1000000) (h3 : x.r.length ≤ 1000000) (hx0 : ∀ p ∈ x.p, p.e.size ≤ 1000000) : FnOK Laid Tryz.prog 51 [a, b] (bv true) := by
 have h := FnOK.args (xs := [a, b]) (sameQ_ok x x h1 h2 h3 hx0) ⟨ha, hb, trivial⟩
 rwa [decide_eq_true rfl] at h
theorem keptP_ok (p : Pt) (hx0 : p.e.size ≤ 1000000) : FnOK Laid Tryz.prog 102 [ptLD p, ptD p] (bv true) := by
 refine FnOK_of laid_stable Tryz.func102 Tryz.ntmps102 rfl (by as_aux_lemma => kernel_rfl) (Nat.le_of_ble_eq_true rfl) (fun R hR => ?_)
 obtain ⟨_, b, cs, T, C⟩ := R
 obtain rfl : _ = Tryz.prog := hR.p
 refine sreg te_ok ?_
 refine sq ?_
 apply Exec.regionL te_ok
 ·intro u' Q hQ
  simp only [go_sem]
  repeat refine ob2 ?_
  refine kcall hR.inv te_ok rfl rfl rfl rfl rfl rfl (sameP_true (x := p) (LeD.ag (ptLC_le p)) (LeD.refl _) hx0) ?_
  simp only [go_sem]
  repeat refine ob2 ?_
  refine kcallG hR.inv te_ok rfl rfl rfl rfl rfl rfl ob1 (fun hq => keptE_ok p.e hx0) ?_
  simp only [go_sem]
  repeat refine ob2 ?_
  exact hQ
 refine Exec.rets hR te_ok rfl rfl rfl (LeX.le ?_) (.inr ⟨_, rfl⟩)
 simp only [go_sem]
theorem keptPs_ok (l : List Pt) (hl : l.length ≤ 1000000) (hx0 : ∀ p ∈ l, p.e.size ≤ 1000000) : FnOK Laid Tryz.prog 52 [ptsLD l, ptsD l] (bv true) := by
 refine FnOK_of laid_stable Tryz.func52 Tryz.ntmps52 rfl (by as_aux_lemma => kernel_rfl) (Nat.le_of_ble_eq_true rfl) (fun R hR => ?_)
 obtain ⟨_, b, cs, T, C⟩ := R
 obtain rfl : _ = Tryz.prog := hR.p
 have w5 : IntKind.i64.wrap ((l.length : Int) + 12) = ((l.length + 12 : Nat) : Int) := by rw [wrap_id (by omega)]; omega
 refine sq ?_
 apply Exec.regionL te_ok
 ·intro u' Q hQ
  simp only [go_sem, w5]
  repeat refine ob2 ?_
  exact hQ
 refine sq ?_
 refine sq ?_
 apply Exec.regionL te_ok
 ·intro u' Q hQ
  simp only [go_sem, w5]
  repeat refine ob2 ?_
  exact hQ
 refine Exec.cond (t := false) rfl ?_
 simp only [reduceIte, Bool.false_eq_true]
 refine sk ?_
 refine sq ?_
 apply Exec.regionL te_ok
 ·intro u' Q hQ
  simp only [go_sem, w5]
  repeat refine ob2 ?_
  exact hQ
 refine sq ?_
 refine sq ?_
 apply Exec.regionL te_ok
 ·intro u' Q hQ
  simp only [go_sem, w5]
  repeat refine ob2 ?_
  exact hQ
 refine Exec.block ?_
 apply Exec.loopU [1, 5] (X := Nat) (fun i => [(6, .d (iv i))]) (fun i => []) (fun i => []) (fun i => l.length + 12 - i) (fun i => i ≤ l.length + 12) 0
 case h0 =>
  first | assumption | omega | (simp only [Bool.not_eq_true', Bool.or_eq_false_iff, Bool.or_eq_true, Bool.and_eq_true, decide_eq_true_eq, decide_eq_false_iff_not, beq_iff_eq, Bool.not_eq_false']; omega) | (simp; done) | (simp; omega) | (intros; omega) | (simp_all; done) | (simp_all; omega)
 case hw =>
  simp only [go_sem]
 case body =>
  rintro i hx ih0
  try simp only at hx
  apply Exec.norm
  ·simp only [go_sem, w5]
   rfl
  refine sq ?_
  refine sq ?_
  apply Exec.regionL te_ok
  ·intro u' Q hQ
   simp only [go_sem, w5]
   repeat refine ob2 ?_
   exact hQ
  refine Exec.cond_split rfl (fun h1 => ?_) (fun h1 => ?_)
  ·have hi : i < l.length + 12 := by have := of_decide_eq_true h1; omega
   have w2 : IntKind.i64.wrap ((i : Int) + 1) = ((i + 1 : Nat) : Int) := by rw [wrap_id (by omega)]; omega
   refine sk ?_
   refine sq ?_
   refine Exec.block ?_
   refine sq ?_
   rcases Classical.em (i < l.length) with hs7 | hs7
   ·have hr := lentR_at (f := ptLC) (m := ptMk) hs7
    have hd1 : decide ((i : Int) < (l.length : Int)) = true := by simp; omega
    have hd2 : decide ((l.length : Int) ≤ (i : Int)) = false := by simp; omega
    apply Exec.draw (st := _) 36 35 [] [] te_ok (by as_aux_lemma => kernel_rfl) (by as_aux_lemma => kernel_rfl) (by as_aux_lemma => kernel_rfl)
    ·intro u' Q hQ
     simp only [go_sem, w5, w2, hr, hd1, hd2]
     repeat refine ob2 ?_
     refine kdcallG hR.inv te_ok rfl rfl rfl rfl rfl rfl ob1 (fun hq => keptP_ok _ (hx0 _ (nth_mem hs7))) ?_
     simp only [go_sem, w5, w2, hr, hd1, hd2]
     repeat refine ob2 ?_
     refine kdcallG hR.inv te_ok rfl rfl rfl rfl rfl rfl ob1 (fun hq => (show FnOK _ _ _ _ (.ag (ptMk 0)) from by simp at hq)) ?_
     simp only [go_sem, w5, w2, hr, hd1, hd2]
     repeat refine ob2 ?_
     refine kdcallG hR.inv te_ok rfl rfl rfl rfl rfl rfl ob1 (fun hq => (show FnOK _ _ _ _ (bv true) from by simp at hq)) ?_
     simp only [go_sem, w5, w2, hr, hd1, hd2]
     repeat refine ob2 ?_
     exact hQ
    refine Exec.cond (t := false) rfl ?_
    simp only [reduceIte, Bool.false_eq_true]
    refine sk ?_
    refine Exec.inBlock ?_
    apply Exec.regionL te_ok
    ·intro u' Q hQ
     simp only [go_sem, w5, w2, hr, hd1, hd2]
     repeat refine ob2 ?_
     exact hQ
    refine Exec.back (ih0 (i + 1) ?_ ?_) ?_ ?_ ?_ ?_ ?_ ?_ ?_
    ·try simp only
     omega
    ·try simp only
     omega
    ·rfl
    ·rfl
    ·(simp only [go_sem, w5, w2, hr, hd1, hd2])
    ·(simp only [go_sem, w5, w2, hr, hd1, hd2])
    ·(simp only [go_sem, w5, w2, hr, hd1, hd2])
    ·simp only [go_sem, w5, w2, hr, hd1, hd2]
    ·rfl
   ·have hr := lentR_mk (f := ptLC) (m := ptMk) (l := l) (i := i) (by omega)
    have hd1 : decide ((i : Int) < (l.length : Int)) = false := by simp; omega
    have hd2 : decide ((l.length : Int) ≤ (i : Int)) = true := by simp; omega
    have w6 : IntKind.i64.wrap ((i : Int) - (l.length : Int)) = ((i - l.length : Nat) : Int) := by rw [wrap_id (by omega)]; omega
    apply Exec.draw (st := _) 36 35 [] [] te_ok (by as_aux_lemma => kernel_rfl) (by as_aux_lemma => kernel_rfl) (by as_aux_lemma => kernel_rfl)
    ·intro u' Q hQ
     simp only [go_sem, w5, w2, hr, hd1, hd2, w6]
     repeat refine ob2 ?_
     refine kdcallG hR.inv te_ok rfl rfl rfl rfl rfl rfl ob1 (fun hq => (show FnOK _ _ _ _ (bv true) from by simp at hq)) ?_
     simp only [go_sem, w5, w2, hr, hd1, hd2, w6]
     repeat refine ob2 ?_
     refine kdcallG hR.inv te_ok rfl rfl rfl rfl rfl rfl ob1 (fun hq => markP_ok ((i - l.length : Nat) : Int) (by omega)) ?_
     simp only [go_sem, w5, w2, hr, hd1, hd2, w6]
     repeat refine ob2 ?_
     refine kdcallG hR.inv te_ok rfl rfl rfl rfl rfl rfl ob1 (fun hq => sameP_true (x := mkPt (i - l.length)) (LeD.ag (ptMk_le _)) (LeD.ag (ptMk_le _)) (by simp [Ex.size_eq, Ex.kids, Ex.sizes])) ?_
     simp only [go_sem, w5, w2, hr, hd1, hd2, w6]
     repeat refine ob2 ?_
     exact hQ
    refine Exec.cond (t := false) rfl ?_
    simp only [reduceIte, Bool.false_eq_true]
    refine sk ?_
    refine Exec.inBlock ?_
    apply Exec.regionL te_ok
    ·intro u' Q hQ
     simp only [go_sem, w5, w2, hr, hd1, hd2, w6]
     repeat refine ob2 ?_
     exact hQ
    refine Exec.back (ih0 (i + 1) ?_ ?_) ?_ ?_ ?_ ?_ ?_ ?_ ?_
    ·try simp only
     omega
    ·try simp only
     omega
    ·rfl
    ·rfl
    ·(simp only [go_sem, w5, w2, hr, hd1, hd2, w6])
    ·(simp only [go_sem, w5, w2, hr, hd1, hd2, w6])
    ·(simp only [go_sem, w5, w2, hr, hd1, hd2, w6])
    ·simp only [go_sem, w5, w2, hr, hd1, hd2, w6]
    ·rfl
  ·refine Exec.exit rfl ?_
   refine sq ?_
   apply Exec.regionL te_ok
   ·intro u' Q hQ
    simp only [go_sem, w5]
    repeat refine ob2 ?_
    exact hQ
   refine Exec.rets hR te_ok rfl rfl rfl (LeX.le ?_) (.inr ⟨_, rfl⟩)
   simp only [go_sem, w5]
theorem keptCs_ok (l : List Cd) (hl : l.length ≤ 1000000)  : FnOK Laid Tryz.prog 53 [cdsLD l, cdsD l] (bv true) := by
 refine FnOK_of laid_stable Tryz.func53 Tryz.ntmps53 rfl (by as_aux_lemma => kernel_rfl) (Nat.le_of_ble_eq_true rfl) (fun R hR => ?_)
 obtain ⟨_, b, cs, T, C⟩ := R
 obtain rfl : _ = Tryz.prog := hR.p
 have w5 : IntKind.i64.wrap ((l.length : Int) + 12) = ((l.length + 12 : Nat) : Int) := by rw [wrap_id (by omega)]; omega
 refine sq ?_
 apply Exec.regionL te_ok
 ·intro u' Q hQ
  simp only [go_sem, w5]
  repeat refine ob2 ?_
  exact hQ
 refine sq ?_
 refine sq ?_
 apply Exec.regionL te_ok
 ·intro u' Q hQ
  simp only [go_sem, w5]
  repeat refine ob2 ?_
  exact hQ
 refine Exec.cond (t := false) rfl ?_
 simp only [reduceIte, Bool.false_eq_true]
 refine sk ?_
 refine sq ?_
 apply Exec.regionL te_ok
 ·intro u' Q hQ
  simp only [go_sem, w5]
  repeat refine ob2 ?_
  exact hQ
 refine sq ?_
 refine sq ?_
 apply Exec.regionL te_ok
 ·intro u' Q hQ
  simp only [go_sem, w5]
  repeat refine ob2 ?_
  exact hQ
 refine Exec.block ?_
 apply Exec.loopU [1, 5] (X := Nat) (fun i => [(6, .d (iv i))]) (fun i => []) (fun i => []) (fun i => l.length + 12 - i) (fun i => i ≤ l.length + 12) 0
 case h0 =>
  first | assumption | omega | (simp only [Bool.not_eq_true', Bool.or_eq_false_iff, Bool.or_eq_true, Bool.and_eq_true, decide_eq_true_eq, decide_eq_false_iff_not, beq_iff_eq, Bool.not_eq_false']; omega) | (simp; done) | (simp; omega) | (intros; omega) | (simp_all; done) | (simp_all; omega)
 case hw =>
  simp only [go_sem]
 case body =>
  rintro i hx ih0
  try simp only at hx
  apply Exec.norm
  ·simp only [go_sem, w5]
   rfl
  refine sq ?_
  refine sq ?_
  apply Exec.regionL te_ok
  ·intro u' Q hQ
   simp only [go_sem, w5]
   repeat refine ob2 ?_
   exact hQ
  refine Exec.cond_split rfl (fun h1 => ?_) (fun h1 => ?_)
  ·have hi : i < l.length + 12 := by have := of_decide_eq_true h1; omega
   have w2 : IntKind.i64.wrap ((i : Int) + 1) = ((i + 1 : Nat) : Int) := by rw [wrap_id (by omega)]; omega
   refine sk ?_
   refine sq ?_
   refine Exec.block ?_
   refine sq ?_
   rcases Classical.em (i < l.length) with hs7 | hs7
   ·have hr := lentR_at (f := cdC) (m := cdMk) hs7
    have hd1 : decide ((i : Int) < (l.length : Int)) = true := by simp; omega
    have hd2 : decide ((l.length : Int) ≤ (i : Int)) = false := by simp; omega
    apply Exec.draw (st := _) 36 35 [] [] te_ok (by as_aux_lemma => kernel_rfl) (by as_aux_lemma => kernel_rfl) (by as_aux_lemma => kernel_rfl)
    ·intro u' Q hQ
     simp only [go_sem, w5, w2, hr, hd1, hd2]
     repeat refine ob2 ?_
     refine kdcallG hR.inv te_ok rfl rfl rfl rfl rfl rfl ob1 (fun hq => (show FnOK _ _ _ _ (.ag (cdMk 0)) from by simp at hq)) ?_
     simp only [go_sem, w5, w2, hr, hd1, hd2]
     repeat refine ob2 ?_
     exact hQ
    refine Exec.cond (t := false) rfl ?_
    simp only [reduceIte, Bool.false_eq_true]
    refine sk ?_
    refine Exec.inBlock ?_
    apply Exec.regionL te_ok
    ·intro u' Q hQ
     simp only [go_sem, w5, w2, hr, hd1, hd2]
     repeat refine ob2 ?_
     exact hQ
    refine Exec.back (ih0 (i + 1) ?_ ?_) ?_ ?_ ?_ ?_ ?_ ?_ ?_
    ·try simp only
     omega
    ·try simp only
     omega
    ·rfl
    ·rfl
    ·(simp only [go_sem, w5, w2, hr, hd1, hd2])
    ·(simp only [go_sem, w5, w2, hr, hd1, hd2])
    ·(simp only [go_sem, w5, w2, hr, hd1, hd2])
    ·simp only [go_sem, w5, w2, hr, hd1, hd2]
    ·rfl
   ·have hr := lentR_mk (f := cdC) (m := cdMk) (l := l) (i := i) (by omega)
    have hd1 : decide ((i : Int) < (l.length : Int)) = false := by simp; omega
    have hd2 : decide ((l.length : Int) ≤ (i : Int)) = true := by simp; omega
    have w6 : IntKind.i64.wrap ((i : Int) - (l.length : Int)) = ((i - l.length : Nat) : Int) := by rw [wrap_id (by omega)]; omega
    apply Exec.draw (st := _) 36 35 [] [] te_ok (by as_aux_lemma => kernel_rfl) (by as_aux_lemma => kernel_rfl) (by as_aux_lemma => kernel_rfl)
    ·intro u' Q hQ
     simp only [go_sem, w5, w2, hr, hd1, hd2, w6]
     repeat refine ob2 ?_
     refine kdcallG hR.inv te_ok rfl rfl rfl rfl rfl rfl ob1 (fun hq => markC_ok ((i - l.length : Nat) : Int) (by omega)) ?_
     simp only [go_sem, w5, w2, hr, hd1, hd2, w6]
     repeat refine ob2 ?_
     exact hQ
    refine Exec.cond (t := false) rfl ?_
    simp only [reduceIte, Bool.false_eq_true]
    refine sk ?_
    refine Exec.inBlock ?_
    apply Exec.regionL te_ok
    ·intro u' Q hQ
     simp only [go_sem, w5, w2, hr, hd1, hd2, w6]
     repeat refine ob2 ?_
     exact hQ
    refine Exec.back (ih0 (i + 1) ?_ ?_) ?_ ?_ ?_ ?_ ?_ ?_ ?_
    ·try simp only
     omega
    ·try simp only
     omega
    ·rfl
    ·rfl
    ·(simp only [go_sem, w5, w2, hr, hd1, hd2, w6])
    ·(simp only [go_sem, w5, w2, hr, hd1, hd2, w6])
    ·(simp only [go_sem, w5, w2, hr, hd1, hd2, w6])
    ·simp only [go_sem, w5, w2, hr, hd1, hd2, w6]
    ·rfl
  ·refine Exec.exit rfl ?_
   refine sq ?_
   apply Exec.regionL te_ok
   ·intro u' Q hQ
    simp only [go_sem, w5]
    repeat refine ob2 ?_
    exact hQ
   refine Exec.rets hR te_ok rfl rfl rfl (LeX.le ?_) (.inr ⟨_, rfl⟩)
   simp only [go_sem, w5]
theorem keptOs_ok (l : List Opd) (hl : l.length ≤ 1000000)  : FnOK Laid Tryz.prog 54 [opsLD l, opsD l] (bv true) := by
 refine FnOK_of laid_stable Tryz.func54 Tryz.ntmps54 rfl (by as_aux_lemma => kernel_rfl) (Nat.le_of_ble_eq_true rfl) (fun R hR => ?_)
 obtain ⟨_, b, cs, T, C⟩ := R
 obtain rfl : _ = Tryz.prog := hR.p
 have w5 : IntKind.i64.wrap ((l.length : Int) + 12) = ((l.length + 12 : Nat) : Int) := by rw [wrap_id (by omega)]; omega
 refine sq ?_
 apply Exec.regionL te_ok
 ·intro u' Q hQ
  simp only [go_sem, w5]
  repeat refine ob2 ?_
  exact hQ
 refine sq ?_
 refine sq ?_
 apply Exec.regionL te_ok
 ·intro u' Q hQ
  simp only [go_sem, w5]
  repeat refine ob2 ?_
  exact hQ
 refine Exec.cond (t := false) rfl ?_
 simp only [reduceIte, Bool.false_eq_true]
 refine sk ?_
 refine sq ?_
 apply Exec.regionL te_ok
 ·intro u' Q hQ
  simp only [go_sem, w5]
  repeat refine ob2 ?_
  exact hQ
 refine sq ?_
 refine sq ?_
 apply Exec.regionL te_ok
 ·intro u' Q hQ
  simp only [go_sem, w5]
  repeat refine ob2 ?_
  exact hQ
 refine Exec.block ?_
 apply Exec.loopU [1, 5] (X := Nat) (fun i => [(6, .d (iv i))]) (fun i => []) (fun i => []) (fun i => l.length + 12 - i) (fun i => i ≤ l.length + 12) 0
 case h0 =>
  first | assumption | omega | (simp only [Bool.not_eq_true', Bool.or_eq_false_iff, Bool.or_eq_true, Bool.and_eq_true, decide_eq_true_eq, decide_eq_false_iff_not, beq_iff_eq, Bool.not_eq_false']; omega) | (simp; done) | (simp; omega) | (intros; omega) | (simp_all; done) | (simp_all; omega)
 case hw =>
  simp only [go_sem]
 case body =>
  rintro i hx ih0
  try simp only at hx
  apply Exec.norm
  ·simp only [go_sem, w5]
   rfl
  refine sq ?_
  refine sq ?_
  apply Exec.regionL te_ok
  ·intro u' Q hQ
   simp only [go_sem, w5]
   repeat refine ob2 ?_
   exact hQ
  refine Exec.cond_split rfl (fun h1 => ?_) (fun h1 => ?_)
  ·have hi : i < l.length + 12 := by have := of_decide_eq_true h1; omega
   have w2 : IntKind.i64.wrap ((i : Int) + 1) = ((i + 1 : Nat) : Int) := by rw [wrap_id (by omega)]; omega
   refine sk ?_
   refine sq ?_
   refine Exec.block ?_
   refine sq ?_
   rcases Classical.em (i < l.length) with hs7 | hs7
   ·have hr := lentR_at (f := opC) (m := opMk) hs7
    have hd1 : decide ((i : Int) < (l.length : Int)) = true := by simp; omega
    have hd2 : decide ((l.length : Int) ≤ (i : Int)) = false := by simp; omega
    apply Exec.draw (st := _) 36 35 [] [] te_ok (by as_aux_lemma => kernel_rfl) (by as_aux_lemma => kernel_rfl) (by as_aux_lemma => kernel_rfl)
    ·intro u' Q hQ
     simp only [go_sem, w5, w2, hr, hd1, hd2]
     repeat refine ob2 ?_
     refine kdcallG hR.inv te_ok rfl rfl rfl rfl rfl rfl ob1 (fun hq => (show FnOK _ _ _ _ (.ag (opMk 0)) from by simp at hq)) ?_
     simp only [go_sem, w5, w2, hr, hd1, hd2]
     repeat refine ob2 ?_
     exact hQ
    refine Exec.cond (t := false) rfl ?_
    simp only [reduceIte, Bool.false_eq_true]
    refine sk ?_
    refine Exec.inBlock ?_
    apply Exec.regionL te_ok
    ·intro u' Q hQ
     simp only [go_sem, w5, w2, hr, hd1, hd2]
     repeat refine ob2 ?_
     exact hQ
    refine Exec.back (ih0 (i + 1) ?_ ?_) ?_ ?_ ?_ ?_ ?_ ?_ ?_
    ·try simp only
     omega
    ·try simp only
     omega
    ·rfl
    ·rfl
    ·(simp only [go_sem, w5, w2, hr, hd1, hd2])
    ·(simp only [go_sem, w5, w2, hr, hd1, hd2])
    ·(simp only [go_sem, w5, w2, hr, hd1, hd2])
    ·simp only [go_sem, w5, w2, hr, hd1, hd2]
    ·rfl
   ·have hr := lentR_mk (f := opC) (m := opMk) (l := l) (i := i) (by omega)
    have hd1 : decide ((i : Int) < (l.length : Int)) = false := by simp; omega
    have hd2 : decide ((l.length : Int) ≤ (i : Int)) = true := by simp; omega
    have w6 : IntKind.i64.wrap ((i : Int) - (l.length : Int)) = ((i - l.length : Nat) : Int) := by rw [wrap_id (by omega)]; omega
    apply Exec.draw (st := _) 36 35 [] [] te_ok (by as_aux_lemma => kernel_rfl) (by as_aux_lemma => kernel_rfl) (by as_aux_lemma => kernel_rfl)
    ·intro u' Q hQ
     simp only [go_sem, w5, w2, hr, hd1, hd2, w6]
     repeat refine ob2 ?_
     refine kdcallG hR.inv te_ok rfl rfl rfl rfl rfl rfl ob1 (fun hq => markO_ok ((i - l.length : Nat) : Int) (by omega)) ?_
     simp only [go_sem, w5, w2, hr, hd1, hd2, w6]
     repeat refine ob2 ?_
     exact hQ
    refine Exec.cond (t := false) rfl ?_
    simp only [reduceIte, Bool.false_eq_true]
    refine sk ?_
    refine Exec.inBlock ?_
    apply Exec.regionL te_ok
    ·intro u' Q hQ
     simp only [go_sem, w5, w2, hr, hd1, hd2, w6]
     repeat refine ob2 ?_
     exact hQ
    refine Exec.back (ih0 (i + 1) ?_ ?_) ?_ ?_ ?_ ?_ ?_ ?_ ?_
    ·try simp only
     omega
    ·try simp only
     omega
    ·rfl
    ·rfl
    ·(simp only [go_sem, w5, w2, hr, hd1, hd2, w6])
    ·(simp only [go_sem, w5, w2, hr, hd1, hd2, w6])
    ·(simp only [go_sem, w5, w2, hr, hd1, hd2, w6])
    ·simp only [go_sem, w5, w2, hr, hd1, hd2, w6]
    ·rfl
  ·refine Exec.exit rfl ?_
   refine sq ?_
   apply Exec.regionL te_ok
   ·intro u' Q hQ
    simp only [go_sem, w5]
    repeat refine ob2 ?_
    exact hQ
   refine Exec.rets hR te_ok rfl rfl rfl (LeX.le ?_) (.inr ⟨_, rfl⟩)
   simp only [go_sem, w5]
theorem keptQ_ok (q : Qu) (h1 : q.p.length ≤ 1000000) (h2 : q.c.length ≤ 1000000) (h3 : q.r.length ≤ 1000000) (hx0 : ∀ p ∈ q.p, p.e.size ≤ 1000000) : FnOK Laid Tryz.prog 20 [quLD q, quD q] (bv true) := by
 refine FnOK_of laid_stable Tryz.func20 Tryz.ntmps20 rfl (by as_aux_lemma => kernel_rfl) (Nat.le_of_ble_eq_true rfl) (fun R hR => ?_)
 obtain ⟨_, b, cs, T, C⟩ := R
 obtain rfl : _ = Tryz.prog := hR.p
 refine sreg te_ok ?_
 refine sq ?_
 apply Exec.regionL te_ok
 ·intro u' Q hQ
  simp only [go_sem]
  repeat refine ob2 ?_
  refine kcall hR.inv te_ok rfl rfl rfl rfl rfl rfl (sameQ_true (x := q) (quLD_le q) (LeD.refl _) h1 h2 h3 hx0) ?_
  simp only [go_sem]
  repeat refine ob2 ?_
  refine kcallG hR.inv te_ok rfl rfl rfl rfl rfl rfl ob1 (fun hq => keptPs_ok q.p h1 hx0) ?_
  simp only [go_sem]
  repeat refine ob2 ?_
  refine kcallG hR.inv te_ok rfl rfl rfl rfl rfl rfl ob1 (fun hq => keptCs_ok q.c h2) ?_
  simp only [go_sem]
  repeat refine ob2 ?_
  refine kcallG hR.inv te_ok rfl rfl rfl rfl rfl rfl ob1 (fun hq => keptOs_ok q.r h3) ?_
  simp only [go_sem]
  repeat refine ob2 ?_
  exact hQ
 refine Exec.rets hR te_ok rfl rfl rfl (LeX.le ?_) (.inr ⟨_, rfl⟩)
 simp only [go_sem]
def ptLim : List Pt → Nat → Nat
 | [], n => n
 | p :: r, n => if n ≤ 400 then ptLim r (n + p.e.lim 0) else n
def _root_.Go.Kin.Qu.lim (q : Qu) : Nat := ptLim q.p (q.p.length + q.c.length + q.r.length)
theorem ptLim_step {l : List Pt} {i n : Nat} (h : i < l.length) (hn : n ≤ 400) : ptLim (l.drop i) n = ptLim (l.drop (i + 1)) (n + (nth l i).e.lim 0) := by
 rw [drop_nth h]; simp only [ptLim, if_pos hn]
theorem ptLim_stop {l : List Pt} {i n : Nat} (h : l.length ≤ i ∨ 400 < n) : ptLim (l.drop i) n = n := by
 rcases h with h | h
 ·rw [List.drop_eq_nil_of_le h]; rfl
 ·cases l.drop i with
  | nil => rfl
  | cons x r => simp only [ptLim]; rw [if_neg (by omega)]
theorem ptLim_ge : ∀ (l : List Pt) (n : Nat), n ≤ ptLim l n
 | [], _ => Nat.le_refl _
 | p :: r, n => by
  simp only [ptLim]
  split
  ·have := ptLim_ge r (n + p.e.lim 0); omega
  ·exact Nat.le_refl _
theorem ptLim_mem {p : Pt} : ∀ {l : List Pt} {n : Nat}, p ∈ l → ptLim l n ≤ 400 → p.e.size ≤ 400
 | q :: r, n, hp, h => by
  simp only [ptLim] at h
  split at h
  ·have hg := ptLim_ge r (n + q.e.lim 0)
   rcases List.mem_cons.1 hp with rfl | hp
   ·have := Ex.lim_size p.e 0 (by omega); omega
   ·exact ptLim_mem hp h
  ·omega
theorem _root_.Go.Kin.Qu.lim_mem {q : Qu} (h : q.lim ≤ 400) : q.p.length ≤ 400 ∧ q.c.length ≤ 400 ∧ q.r.length ≤ 400 ∧ ∀ p ∈ q.p, p.e.size ≤ 400 := by
 have := ptLim_ge q.p (q.p.length + q.c.length + q.r.length)
 unfold Qu.lim at h
 exact ⟨by omega, by omega, by omega, fun p hp => ptLim_mem hp h⟩
theorem size_ok (B : Ex → Prop) (hB : ∀ x, B x → x.kids.length ≤ 140737488355328 ∧ ∀ y ∈ x.kids, B y) (q : Qu) (h1 : q.p.length ≤ 140737488355328) (h2 : q.c.length ≤ 140737488355328) (h3 : q.r.length ≤ 140737488355328) (hb : ∀ p ∈ q.p, B p.e) : FnOK Laid Tryz.prog 11 [quD q] (iv q.lim) := by
 refine FnOK_of laid_stable Tryz.func11 Tryz.ntmps11 rfl (by as_aux_lemma => kernel_rfl) (Nat.le_of_ble_eq_true rfl) (fun R hR => ?_)
 obtain ⟨_, b, cs, T, C⟩ := R
 obtain rfl : _ = Tryz.prog := hR.p
 have w5 : IntKind.i64.wrap ((q.p.length : Int) + (q.c.length : Int)) = ((q.p.length + q.c.length : Nat) : Int) := by rw [wrap_id (by omega)]; omega
 have w6 : IntKind.i64.wrap (((q.p.length + q.c.length : Nat) : Int) + (q.r.length : Int)) = ((q.p.length + q.c.length + q.r.length : Nat) : Int) := by rw [wrap_id (by omega)]; omega
 refine sq ?_
 apply Exec.regionL te_ok
 ·intro u' Q hQ
  simp only [go_sem, w5, w6]
  repeat refine ob2 ?_
  exact hQ
 refine sq ?_
 apply Exec.regionL te_ok
 ·intro u' Q hQ
  simp only [go_sem, w5, w6]
  repeat refine ob2 ?_
  exact hQ
 refine sq ?_
 refine sq ?_
 apply Exec.regionL te_ok
 ·intro u' Q hQ
  simp only [go_sem, w5, w6]
  repeat refine ob2 ?_
  exact hQ
 refine Exec.block ?_
 apply Exec.loopU [1] (X := Nat × Nat) (fun ⟨i, n⟩ => [(4, .d (iv i)), (3, .d (iv n))]) (fun ⟨i, n⟩ => []) (fun ⟨i, n⟩ => []) (fun ⟨i, n⟩ => q.p.length - i) (fun ⟨i, n⟩ => i ≤ q.p.length ∧ q.lim = ptLim (q.p.drop i) n ∧ n ≤ 422212465065984 + 100000 * i) (0, q.p.length + q.c.length + q.r.length)
 case h0 =>
  exact ⟨Nat.zero_le _, rfl, by omega⟩
 case hw =>
  simp only [go_sem]
 case body =>
  rintro ⟨i, n⟩ hx ih0
  try simp only at hx
  apply Exec.norm
  ·simp only [go_sem, w5, w6]
   rfl
  refine sq ?_
  refine sq ?_
  apply Exec.regionL te_ok
  ·intro u' Q hQ
   simp only [go_sem, w5, w6]
   repeat refine ob2 ?_
   exact hQ
  refine Exec.cond_split rfl (fun h0 => ?_) (fun h0 => ?_)
  ·have hit : i < q.p.length ∧ n ≤ 400 := by simp at h0; omega
   obtain ⟨hi, hn⟩ := hit
   have hlb := Ex.lim_le (nth q.p i).e (d := 0) (by omega)
   have w2 : IntKind.i64.wrap ((i : Int) + 1) = ((i + 1 : Nat) : Int) := by rw [wrap_id (by omega)]; omega
   have w3 : IntKind.i64.wrap ((n : Int) + (((nth q.p i).e.lim 0 : Nat) : Int)) = ((n + (nth q.p i).e.lim 0 : Nat) : Int) := by rw [wrap_id (by omega)]; omega
   refine sk ?_
   refine sq ?_
   refine Exec.block ?_
   apply Exec.regionL te_ok
   ·intro u' Q hQ
    simp only [go_sem, w5, w6, w2, w3]
    repeat refine ob2 ?_
    refine kcall hR.inv te_ok rfl rfl rfl rfl rfl rfl (esize_ok B hB _ (hb _ (nth_mem hi)) 0 (by omega)) ?_
    simp only [go_sem, w5, w6, w2, w3]
    repeat refine ob2 ?_
    exact hQ
   refine Exec.inBlock ?_
   apply Exec.regionL te_ok
   ·intro u' Q hQ
    simp only [go_sem, w5, w6, w2, w3]
    repeat refine ob2 ?_
    exact hQ
   refine Exec.back (ih0 (i + 1, n + (nth q.p i).e.lim 0) ?_ ?_) ?_ ?_ ?_ ?_ ?_ ?_ ?_
   ·try simp only
    exact ⟨by omega, by rw [hx.2.1, ptLim_step hi hn], by omega⟩
   ·try simp only
    omega
   ·rfl
   ·rfl
   ·(simp only [go_sem, w5, w6, w2, w3])
   ·(simp only [go_sem, w5, w6, w2, w3])
   ·(simp only [go_sem, w5, w6, w2, w3])
   ·simp only [go_sem, w5, w6, w2, w3]
   ·rfl
  ·refine Exec.exit rfl ?_
   refine sq ?_
   apply Exec.regionL te_ok
   ·intro u' Q hQ
    simp only [go_sem, w5, w6]
    repeat refine ob2 ?_
    exact hQ
   refine Exec.rets hR te_ok rfl rfl rfl (LeX.le ?_) (.inr ⟨_, rfl⟩)
   simp only [go_sem]
   rw [hx.2.1, ptLim_stop (by simp at h0; omega)]
end Go.Proofs.YtonchjamoblioaaGreatDoor
