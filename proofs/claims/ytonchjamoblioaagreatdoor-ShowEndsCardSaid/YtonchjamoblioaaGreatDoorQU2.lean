/- Steps of a function body on data, and contracts of the functions of the seat, walked. -/
import Derived.Test.YtonchjamoblioaaGreatDoorQU1
set_option linter.unusedSimpArgs false
set_option linter.unusedVariables false
set_option linter.unusedSectionVars false
namespace Go.Proofs.YtonchjamoblioaaGreatDoor
open Go.Kin
set_option maxRecDepth 100000
set_option maxHeartbeats 0
theorem ends_ok  : FnOK Laid Tryz.prog 4 [] (bv true) := by
 refine FnOK_of laid_stable Tryz.func4 Tryz.ntmps4 rfl (by as_aux_lemma => kernel_rfl) (Nat.le_of_ble_eq_true rfl) (fun R hR => ?_)
 obtain ⟨_, b, cs, T, C⟩ := R
 obtain rfl : _ = Tryz.prog := hR.p
 refine sreg te_ok ?_
 refine sq ?_
 refine sreg te_ok ?_
 refine Exec.block ?_
 apply Exec.loopU [] (X := Nat) (fun n => [(1, .d (iv n))]) (fun n => []) (fun n => []) (fun n => 4096 - n) (fun n => n ≤ 4096) 0
 case h0 =>
  omega
 case hw =>
  simp only [go_sem]
 case body =>
  rintro n hx ih0
  try simp only at hx
  apply Exec.norm
  ·simp only [go_sem]
   rfl
  refine sq ?_
  refine sreg te_ok ?_
  refine Exec.cond_split rfl (fun h0 => ?_) (fun h0 => ?_)
  ·have hn : n < 4096 := by simp at h0; omega
   have ew : IntKind.i64.wrap ((n : Int) * 37) = ((n * 37 : Nat) : Int) := (wrap_id (by constructor <;> omega)).trans (by omega)
   have e16 : ((n : Int)).tmod 16 = ((n % 16 : Nat) : Int) := rfl
   have wn : IntKind.i64.wrap ((n : Int) + 1) = ((n + 1 : Nat) : Int) := (wrap_id (by constructor <;> omega)).trans (by omega)
   refine sk ?_
   refine sq ?_
   refine Exec.block ?_
   refine sq ?_
   apply Exec.regionL te_ok
   ·intro u' Q hQ
    simp only [go_sem, ew, e16, wn]
    repeat refine ob2 ?_
    refine kcall hR.inv te_ok rfl rfl rfl rfl rfl rfl (small_ok 2 n (by omega) (by omega)) ?_
    simp only [go_sem, ew, e16, wn]
    repeat refine ob2 ?_
    refine kcall hR.inv te_ok rfl rfl rfl rfl rfl rfl (tells0 (sm_fit 2 n)) ?_
    simp only [go_sem, ew, e16, wn]
    repeat refine ob2 ?_
    refine kcallG hR.inv te_ok rfl rfl rfl rfl rfl rfl ob1 (fun hq => small_ok 4 (n * 37) (by omega) (by omega)) ?_
    simp only [go_sem, ew, e16, wn]
    repeat refine ob2 ?_
    refine kcallG hR.inv te_ok rfl rfl rfl rfl rfl rfl ob1 (fun hq => tells0 (sm_fit 4 (n * 37))) ?_
    simp only [go_sem, ew, e16, wn]
    repeat refine ob2 ?_
    exact hQ
   refine Exec.cond (t := false) rfl ?_
   simp only [reduceIte, Bool.false_eq_true]
   refine sk ?_
   refine Exec.inBlock ?_
   apply Exec.regionL te_ok
   ·intro u' Q hQ
    simp only [go_sem, ew, e16, wn]
    repeat refine ob2 ?_
    exact hQ
   refine Exec.back (ih0 (n + 1) ?_ ?_) ?_ ?_ ?_ ?_ ?_ ?_ ?_
   ·try simp only
    omega
   ·try simp only
    omega
   ·rfl
   ·rfl
   ·(simp only [go_sem, ew, e16, wn])
   ·(simp only [go_sem, ew, e16, wn])
   ·(simp only [go_sem, ew, e16, wn])
   ·simp only [go_sem, ew, e16, wn]
   ·rfl
  ·refine Exec.exit rfl ?_
   refine sq ?_
   refine sreg te_ok ?_
   refine Exec.block ?_
   apply Exec.loopU [] (X := Int) (fun c => [(2, .d (iv c))]) (fun c => []) (fun c => []) (fun c => (9 - c).toNat) (fun c => -1 ≤ c ∧ c ≤ 9) (-1)
   case h0 =>
    omega
   case hw =>
    simp only [go_sem]
   case body =>
    rintro c hx ih1
    try simp only at hx
    apply Exec.norm
    ·simp only [go_sem]
     rfl
    refine sq ?_
    refine sreg te_ok ?_
    refine Exec.cond_split rfl (fun h2 => ?_) (fun h2 => ?_)
    ·have hc : c < 9 := by simpa using h2
     have wc : IntKind.i64.wrap (c + 1) = c + 1 := wrap_id (by constructor <;> omega)
     refine sk ?_
     refine sq ?_
     refine Exec.block ?_
     refine sq ?_
     apply Exec.regionL te_ok
     ·intro u' Q hQ
      simp only [go_sem, wc]
      repeat refine ob2 ?_
      exact hQ
     refine Exec.block ?_
     apply Exec.loopU [2] (X := Nat) (fun k => [(3, .d (iv k))]) (fun k => []) (fun k => []) (fun k => 5 - k) (fun k => k ≤ 5) 0
     case h0 =>
      omega
     case hw =>
      simp only [go_sem, wc]
     case body =>
      rintro k hx ih2
      try simp only at hx
      apply Exec.norm
      ·simp only [go_sem, wc]
       rfl
      refine sq ?_
      refine sq ?_
      apply Exec.regionL te_ok
      ·intro u' Q hQ
       simp only [go_sem, wc]
       repeat refine ob2 ?_
       exact hQ
      refine Exec.cond_split rfl (fun h3 => ?_) (fun h3 => ?_)
      ·have hk : k < 5 := by simp at h3; omega
       have wk : IntKind.i64.wrap ((k : Int) + 1) = ((k + 1 : Nat) : Int) := (wrap_id (by constructor <;> omega)).trans (by omega)
       have w9 : IntKind.i64.wrap (9 * (k : Int)) = 9 * (k : Int) := wrap_id (by constructor <;> omega)
       have wck : IntKind.i64.wrap (c + 9 * (k : Int)) = c + 9 * (k : Int) := wrap_id (by constructor <;> omega)
       have wm : IntKind.i64.wrap (c + 9 * (k : Int) + 9) = (((c + 9 * (k : Int) + 9).toNat : Nat) : Int) := (wrap_id (by constructor <;> omega)).trans (by omega)
       refine sk ?_
       refine sq ?_
       refine Exec.block ?_
       refine sq ?_
       refine Exec.regStart 3 rfl ?_
       refine Exec.enter (m := 2) rfl rfl rfl rfl rfl rfl Tryz.func23 Tryz.ntmps23 rfl (by as_aux_lemma => kernel_rfl) (Nat.le_of_ble_eq_true rfl) (fun ai0 hai0 hdi0 => ?_)
       refine Exec.ren (swJ 1) ?_
       apply Exec.norm
       ·simp only [go_sem, wc, wk, w9, wck, wm]
        rfl
       refine sq ?_
       apply Exec.regionL te_ok
       ·intro u' Q hQ
        simp only [go_sem, wc, wk, w9, wck, wm]
        repeat refine ob2 ?_
        exact hQ
       refine sq ?_
       apply Exec.regionL te_ok
       ·intro u' Q hQ
        simp only [go_sem, wc, wk, w9, wck, wm]
        repeat refine ob2 ?_
        exact hQ
       refine sq ?_
       apply Exec.regionL te_ok
       ·intro u' Q hQ
        simp only [go_sem, wc, wk, w9, wck, wm]
        repeat refine ob2 ?_
        exact hQ
       refine Exec.leave te_ok Tryz.func23 rfl rfl rfl (.inr ⟨_, rfl⟩) rfl rfl hai0 hdi0 rfl rfl ?_
       refine Exec.ren (swJ 1) ?_
       apply Exec.norm
       ·simp only [go_sem, wc, wk, w9, wck, wm]
        rfl
       apply Exec.regPart 1 2 0 te_ok rfl
       ·intro u' Q hQ
        simp only [go_sem, wc, wk, w9, wck, wm]
        repeat refine ob2 ?_
        exact hQ
       refine Exec.regEnd ?_
       refine sq ?_
       apply Exec.free (st := _) 11 10 [(0, 2), (1, 2), (0, 3), (1, 3), (0, 4), (1, 4), (0, 5), (1, 5), (0, 6), (1, 6)] te_ok (by as_aux_lemma => kernel_rfl) rfl (by as_aux_lemma => kernel_rfl)
       ·intro u' Q hQ
        simp only [go_sem, wc, wk, w9, wck, wm]
        repeat refine ob2 ?_
        refine kfstore te_ok rfl rfl rfl rfl rfl (by simp only [go_sem, wc, wk, w9, wck, wm]; rfl) rfl rfl rfl rfl rfl (Nat.le_of_ble_eq_true rfl) ?_
        simp only [go_sem, wc, wk, w9, wck, wm]
        repeat refine ob2 ?_
        exact hQ
       ·rfl
       refine sq ?_
       apply Exec.regionL te_ok
       ·intro u' Q hQ
        simp only [go_sem, wc, wk, w9, wck, wm]
        repeat refine ob2 ?_
        exact hQ
       refine sq ?_
       apply Exec.regionL te_ok
       ·intro u' Q hQ
        simp only [go_sem, wc, wk, w9, wck, wm]
        repeat refine ob2 ?_
        exact hQ
       refine sq ?_
       refine sq ?_
       apply Exec.regionL te_ok
       ·intro u' Q hQ
        simp only [go_sem, wc, wk, w9, wck, wm]
        repeat refine ob2 ?_
        exact hQ
       refine Exec.cond_split rfl (fun h4 => ?_) (fun h4 => ?_)
       ·apply Exec.regionL te_ok
        ·intro u' Q hQ
         simp only [go_sem, wc, wk, w9, wck, wm]
         repeat refine ob2 ?_
         exact hQ
        refine sq ?_
        apply Exec.free (st := _) 12 11 [(0, 2), (1, 2), (0, 3), (1, 3), (0, 4), (1, 4), (0, 5), (1, 5), (0, 6), (1, 6), (0, 7), (1, 7)] te_ok (by as_aux_lemma => kernel_rfl) rfl (by as_aux_lemma => kernel_rfl)
        ·intro u' Q hQ
         simp only [go_sem, wc, wk, w9, wck, wm, List.getElem_toArray, List.getElem_cons_succ, List.getElem_cons_zero]
         repeat refine ob2 ?_
         refine kfstore te_ok rfl rfl rfl rfl rfl (by simp only [go_sem, wc, wk, w9, wck, wm]; rfl) rfl rfl rfl rfl rfl (Nat.le_of_ble_eq_true rfl) ?_
         simp only [go_sem, wc, wk, w9, wck, wm, List.getElem_toArray, List.getElem_cons_succ, List.getElem_cons_zero]
         repeat refine ob2 ?_
         exact hQ
        ·rfl
        refine sq ?_
        refine sq ?_
        apply Exec.free (st := _) 5 4 [(0, 1)] te_ok (by as_aux_lemma => kernel_rfl) rfl (by as_aux_lemma => kernel_rfl)
        ·intro u' Q hQ
         simp only [go_sem, wc, wk, w9, wck, wm]
         repeat refine ob2 ?_
         refine kfcall hR.inv te_ok rfl rfl rfl rfl rfl rfl (label_x _) ?_
         simp only [go_sem, wc, wk, w9, wck, wm]
         repeat refine ob2 ?_
         refine kfcallV hR.inv te_ok rfl rfl rfl rfl rfl rfl (tells_any (.rows (Nat.le_of_ble_eq_true rfl) ptC_lf fun i hi => match i, hi with | 0, _ => pt_any (a := [97]) (z := [98]) (lab := [120]) (name := [101]) (by decide) (by decide) (by decide) (by decide) zx_fit (LeD.nil 3 _)) (.rows (Nat.le_of_ble_eq_true rfl) (fun _ => rfl) fun i hi => match i, hi with | 0, _ => ⟨⟨3, ⟨2, [101], [107], 0, 0, []⟩, ⟨3, [], [], 1, 5, []⟩⟩, LeDs.refl _, op_any (by decide) (by decide) (by decide), op_any (by decide) (by decide) (by decide)⟩ | 1, _ => ⟨⟨c, ⟨3, [], [], 2, 0, [113, 32, 114]⟩, ⟨3, [], [], 1, 5, []⟩⟩, LeDs.refl _, op_any (by decide) (by decide) (by decide), op_any (by decide) (by decide) (by decide)⟩) (.rows (Nat.le_of_ble_eq_true rfl) (fun _ => rfl) fun i hi => match i, hi with | 0, _ => ⟨⟨1, [97], [], 0, 0, []⟩, LeDs.refl _, op_any (by decide) (by decide) (by decide)⟩ | 1, _ => ⟨⟨2, [101], [107], 0, 0, []⟩, LeDs.refl _, op_any (by decide) (by decide) (by decide)⟩) (lab_fit (by decide))) ?_
         simp only [go_sem, wc, wk, w9, wck, wm]
         repeat refine ob2 ?_
         exact hQ
        ·rfl
        refine Exec.cond (t := false) rfl ?_
        simp only [reduceIte, Bool.false_eq_true]
        refine sk ?_
        refine sq ?_
        apply Exec.regionL te_ok
        ·intro u' Q hQ
         simp only [go_sem, wc, wk, w9, wck, wm]
         repeat refine ob2 ?_
         exact hQ
        refine sq ?_
        apply Exec.free (st := _) 15 14 [(0, 2), (1, 2), (0, 3), (1, 3), (2, 3), (0, 4), (1, 4), (2, 4), (0, 5), (1, 5), (0, 6), (1, 6), (0, 7), (1, 7), (0, 8), (1, 8), (0, 9), (1, 9), (2, 9), (3, 9), (4, 9), (5, 9), (6, 9), (7, 9), (8, 9), (0, 10), (1, 10)] te_ok (by as_aux_lemma => kernel_rfl) rfl (by as_aux_lemma => kernel_rfl)
        ·intro u' Q hQ
         simp only [go_sem, wc, wk, w9, wck, wm, List.getElem_toArray, List.getElem_cons_succ, List.getElem_cons_zero]
         repeat refine ob2 ?_
         refine kfcall hR.inv te_ok rfl rfl rfl rfl rfl rfl (small_ok 2 (c + 9 * (k : Int) + 9).toNat (by omega) (by omega)) ?_
         simp only [go_sem, wc, wk, w9, wck, wm, List.getElem_toArray, List.getElem_cons_succ, List.getElem_cons_zero]
         repeat refine ob2 ?_
         refine kfstore te_ok rfl rfl rfl rfl rfl (by simp only [go_sem, wc, wk, w9, wck, wm]; rfl) rfl rfl rfl rfl rfl (Nat.le_of_ble_eq_true rfl) ?_
         simp only [go_sem, wc, wk, w9, wck, wm, List.getElem_toArray, List.getElem_cons_succ, List.getElem_cons_zero]
         repeat refine ob2 ?_
         exact hQ
        ·rfl
        refine sq ?_
        apply Exec.free (st := _) 5 4 [(0, 1)] te_ok (by as_aux_lemma => kernel_rfl) rfl (by as_aux_lemma => kernel_rfl)
        ·intro u' Q hQ
         simp only [go_sem, wc, wk, w9, wck, wm, List.getElem_toArray, List.getElem_cons_succ, List.getElem_cons_zero]
         repeat refine ob2 ?_
         refine kfcall hR.inv te_ok rfl rfl rfl rfl rfl rfl (of_nil 4) ?_
         simp only [go_sem, wc, wk, w9, wck, wm, List.getElem_toArray, List.getElem_cons_succ, List.getElem_cons_zero]
         repeat refine ob2 ?_
         refine kfcallV hR.inv te_ok rfl rfl rfl rfl rfl rfl (tells_any (.rows (Nat.le_of_ble_eq_true rfl) ptC_lf fun i hi => match i, hi with | 0, _ => pt_any (a := [97]) (z := [98]) (lab := [120]) (name := [101]) (by decide) (by decide) (by decide) (by decide) zx_fit (LeD.nil 3 _) | 1, _ => pt_any (a := [99]) (z := [97]) (lab := []) (name := []) (x := smX 2 (c + 9 * (k : Int) + 9).toNat) (by decide) (by decide) (by decide) (by decide) (sm_fit _ _) (LeD.refl _) | 2, _ => pt_any (a := [98]) (z := [98]) (lab := [121]) (name := []) (by decide) (by decide) (by decide) (by decide) zx_fit (LeD.nil 3 _)) .nil (.rows (Nat.le_of_ble_eq_true rfl) (fun _ => rfl) fun i hi => match i, hi with | 0, _ => ⟨⟨1, [97], [], 0, 0, []⟩, LeDs.refl _, op_any (by decide) (by decide) (by decide)⟩ | 1, _ => ⟨⟨2, [101], [107], 0, 0, []⟩, LeDs.refl _, op_any (by decide) (by decide) (by decide)⟩) (lab_fit (by decide))) ?_
         simp only [go_sem, wc, wk, w9, wck, wm, List.getElem_toArray, List.getElem_cons_succ, List.getElem_cons_zero]
         repeat refine ob2 ?_
         exact hQ
        ·rfl
        refine Exec.cond (t := false) rfl ?_
        simp only [reduceIte, Bool.false_eq_true]
        refine sk ?_
        refine Exec.inBlock ?_
        apply Exec.regionL te_ok
        ·intro u' Q hQ
         simp only [go_sem, wc, wk, w9, wck, wm]
         repeat refine ob2 ?_
         exact hQ
        refine Exec.back (ih2 (k + 1) ?_ ?_) ?_ ?_ ?_ ?_ ?_ ?_ ?_
        ·try simp only
         omega
        ·try simp only
         omega
        ·rfl
        ·rfl
        ·(simp only [go_sem, wc, wk, w9, wck, wm])
        ·(simp only [go_sem, wc, wk, w9, wck, wm])
        ·(simp only [go_sem, wc, wk, w9, wck, wm])
        ·simp only [go_sem, wc, wk, w9, wck, wm]
        ·rfl
       ·refine sk ?_
        refine sq ?_
        apply Exec.free (st := _) 12 11 [(0, 2), (1, 2), (0, 3), (1, 3), (0, 4), (1, 4), (0, 5), (1, 5), (0, 6), (1, 6), (0, 7), (1, 7)] te_ok (by as_aux_lemma => kernel_rfl) rfl (by as_aux_lemma => kernel_rfl)
        ·intro u' Q hQ
         simp only [go_sem, wc, wk, w9, wck, wm, List.getElem_toArray, List.getElem_cons_succ, List.getElem_cons_zero]
         repeat refine ob2 ?_
         refine kfstore te_ok rfl rfl rfl rfl rfl (by simp only [go_sem, wc, wk, w9, wck, wm]; rfl) rfl rfl rfl rfl rfl (Nat.le_of_ble_eq_true rfl) ?_
         simp only [go_sem, wc, wk, w9, wck, wm, List.getElem_toArray, List.getElem_cons_succ, List.getElem_cons_zero]
         repeat refine ob2 ?_
         exact hQ
        ·rfl
        refine sq ?_
        refine sq ?_
        apply Exec.free (st := _) 5 4 [(0, 1)] te_ok (by as_aux_lemma => kernel_rfl) rfl (by as_aux_lemma => kernel_rfl)
        ·intro u' Q hQ
         simp only [go_sem, wc, wk, w9, wck, wm]
         repeat refine ob2 ?_
         refine kfcall hR.inv te_ok rfl rfl rfl rfl rfl rfl (label_x _) ?_
         simp only [go_sem, wc, wk, w9, wck, wm]
         repeat refine ob2 ?_
         refine kfcallV hR.inv te_ok rfl rfl rfl rfl rfl rfl (tells_any (.rows (Nat.le_of_ble_eq_true rfl) ptC_lf fun i hi => match i, hi with | 0, _ => pt_any (a := [97]) (z := [98]) (lab := [120]) (name := [101]) (by decide) (by decide) (by decide) (by decide) zx_fit (LeD.nil 3 _)) (.rows (Nat.le_of_ble_eq_true rfl) (fun _ => rfl) fun i hi => match i, hi with | 0, _ => ⟨⟨3, ⟨2, [101], [107], 0, 0, []⟩, ⟨3, [], [], 1, 5, []⟩⟩, LeDs.refl _, op_any (by decide) (by decide) (by decide), op_any (by decide) (by decide) (by decide)⟩ | 1, _ => ⟨⟨c, ⟨k, [98], [], 0, 0, []⟩, ⟨3, [], [], 1, 5, []⟩⟩, LeDs.refl _, op_any (by decide) (by decide) (by decide), op_any (by decide) (by decide) (by decide)⟩) (.rows (Nat.le_of_ble_eq_true rfl) (fun _ => rfl) fun i hi => match i, hi with | 0, _ => ⟨⟨1, [97], [], 0, 0, []⟩, LeDs.refl _, op_any (by decide) (by decide) (by decide)⟩ | 1, _ => ⟨⟨2, [101], [107], 0, 0, []⟩, LeDs.refl _, op_any (by decide) (by decide) (by decide)⟩) (lab_fit (by decide))) ?_
         simp only [go_sem, wc, wk, w9, wck, wm]
         repeat refine ob2 ?_
         exact hQ
        ·rfl
        refine Exec.cond (t := false) rfl ?_
        simp only [reduceIte, Bool.false_eq_true]
        refine sk ?_
        refine sq ?_
        apply Exec.regionL te_ok
        ·intro u' Q hQ
         simp only [go_sem, wc, wk, w9, wck, wm]
         repeat refine ob2 ?_
         exact hQ
        refine sq ?_
        apply Exec.free (st := _) 15 14 [(0, 2), (1, 2), (0, 3), (1, 3), (2, 3), (0, 4), (1, 4), (2, 4), (0, 5), (1, 5), (0, 6), (1, 6), (0, 7), (1, 7), (0, 8), (1, 8), (0, 9), (1, 9), (2, 9), (3, 9), (4, 9), (5, 9), (6, 9), (7, 9), (8, 9), (0, 10), (1, 10)] te_ok (by as_aux_lemma => kernel_rfl) rfl (by as_aux_lemma => kernel_rfl)
        ·intro u' Q hQ
         simp only [go_sem, wc, wk, w9, wck, wm, List.getElem_toArray, List.getElem_cons_succ, List.getElem_cons_zero]
         repeat refine ob2 ?_
         refine kfcall hR.inv te_ok rfl rfl rfl rfl rfl rfl (small_ok 2 (c + 9 * (k : Int) + 9).toNat (by omega) (by omega)) ?_
         simp only [go_sem, wc, wk, w9, wck, wm, List.getElem_toArray, List.getElem_cons_succ, List.getElem_cons_zero]
         repeat refine ob2 ?_
         refine kfstore te_ok rfl rfl rfl rfl rfl (by simp only [go_sem, wc, wk, w9, wck, wm]; rfl) rfl rfl rfl rfl rfl (Nat.le_of_ble_eq_true rfl) ?_
         simp only [go_sem, wc, wk, w9, wck, wm, List.getElem_toArray, List.getElem_cons_succ, List.getElem_cons_zero]
         repeat refine ob2 ?_
         exact hQ
        ·rfl
        refine sq ?_
        apply Exec.free (st := _) 5 4 [(0, 1)] te_ok (by as_aux_lemma => kernel_rfl) rfl (by as_aux_lemma => kernel_rfl)
        ·intro u' Q hQ
         simp only [go_sem, wc, wk, w9, wck, wm, List.getElem_toArray, List.getElem_cons_succ, List.getElem_cons_zero]
         repeat refine ob2 ?_
         refine kfcall hR.inv te_ok rfl rfl rfl rfl rfl rfl (of_nil 4) ?_
         simp only [go_sem, wc, wk, w9, wck, wm, List.getElem_toArray, List.getElem_cons_succ, List.getElem_cons_zero]
         repeat refine ob2 ?_
         refine kfcallV hR.inv te_ok rfl rfl rfl rfl rfl rfl (tells_any (.rows (Nat.le_of_ble_eq_true rfl) ptC_lf fun i hi => match i, hi with | 0, _ => pt_any (a := [97]) (z := [98]) (lab := [120]) (name := [101]) (by decide) (by decide) (by decide) (by decide) zx_fit (LeD.nil 3 _) | 1, _ => pt_any (a := [99]) (z := [97]) (lab := []) (name := []) (x := smX 2 (c + 9 * (k : Int) + 9).toNat) (by decide) (by decide) (by decide) (by decide) (sm_fit _ _) (LeD.refl _) | 2, _ => pt_any (a := [98]) (z := [98]) (lab := [121]) (name := []) (by decide) (by decide) (by decide) (by decide) zx_fit (LeD.nil 3 _)) .nil (.rows (Nat.le_of_ble_eq_true rfl) (fun _ => rfl) fun i hi => match i, hi with | 0, _ => ⟨⟨1, [97], [], 0, 0, []⟩, LeDs.refl _, op_any (by decide) (by decide) (by decide)⟩ | 1, _ => ⟨⟨2, [101], [107], 0, 0, []⟩, LeDs.refl _, op_any (by decide) (by decide) (by decide)⟩) (lab_fit (by decide))) ?_
         simp only [go_sem, wc, wk, w9, wck, wm, List.getElem_toArray, List.getElem_cons_succ, List.getElem_cons_zero]
         repeat refine ob2 ?_
         exact hQ
        ·rfl
        refine Exec.cond (t := false) rfl ?_
        simp only [reduceIte, Bool.false_eq_true]
        refine sk ?_
        refine Exec.inBlock ?_
        apply Exec.regionL te_ok
        ·intro u' Q hQ
         simp only [go_sem, wc, wk, w9, wck, wm]
         repeat refine ob2 ?_
         exact hQ
        refine Exec.back (ih2 (k + 1) ?_ ?_) ?_ ?_ ?_ ?_ ?_ ?_ ?_
        ·try simp only
         omega
        ·try simp only
         omega
        ·rfl
        ·rfl
        ·(simp only [go_sem, wc, wk, w9, wck, wm])
        ·(simp only [go_sem, wc, wk, w9, wck, wm])
        ·(simp only [go_sem, wc, wk, w9, wck, wm])
        ·simp only [go_sem, wc, wk, w9, wck, wm]
        ·rfl
      ·refine Exec.exit rfl ?_
       refine Exec.inBlock ?_
       apply Exec.regionL te_ok
       ·intro u' Q hQ
        simp only [go_sem, wc]
        repeat refine ob2 ?_
        exact hQ
       refine Exec.back (ih1 (c + 1) ?_ ?_) ?_ ?_ ?_ ?_ ?_ ?_ ?_
       ·try simp only
        omega
       ·try simp only
        omega
       ·rfl
       ·rfl
       ·(simp only [go_sem, wc])
       ·(simp only [go_sem, wc])
       ·(simp only [go_sem, wc])
       ·simp only [go_sem, wc]
       ·rfl
    ·refine Exec.exit rfl ?_
     refine sreg te_ok ?_
     refine sq ?_
     refine sreg te_ok ?_
     refine Exec.block ?_
     apply Exec.loopU [5] (X := Nat) (fun n => [(6, .d (iv n))]) (fun n => []) (fun n => []) (fun n => 24 - n) (fun n => n ≤ 24) 0
     case h0 =>
      omega
     case hw =>
      simp only [go_sem]
     case body =>
      rintro n hx ih3
      try simp only at hx
      apply Exec.norm
      ·simp only [go_sem]
       rfl
      refine sq ?_
      refine sreg te_ok ?_
      refine Exec.cond_split rfl (fun h9 => ?_) (fun h9 => ?_)
      ·have hn : n < 24 := by simp at h9; omega
       have wn : IntKind.i64.wrap ((n : Int) + 1) = ((n + 1 : Nat) : Int) := (wrap_id (by constructor <;> omega)).trans (by omega)
       have wm0 : IntKind.i64.wrap (20 - min (n : Int) 19) = 20 - min (n : Int) 19 := wrap_id (by constructor <;> omega)
       have wm1 : IntKind.i64.wrap ((n : Int) - 19) = (n : Int) - 19 := wrap_id (by constructor <;> omega)
       have wm2 : IntKind.i64.wrap (20 - max ((n : Int) - 19) 0) = 20 - max ((n : Int) - 19) 0 := wrap_id (by constructor <;> omega)
       have e4 : ((n : Int)).tmod 4 = ((n % 4 : Nat) : Int) := rfl
       have hm4 := Nat.mod_lt n (show 0 < 4 by decide)
       have w14 : IntKind.i64.wrap (1 + ((n % 4 : Nat) : Int)) = 1 + ((n % 4 : Nat) : Int) := wrap_id (by constructor <;> omega)
       have wq0 : IntKind.i64.wrap ((0 : Int) + 1) = 1 := by decide
       have wq1 : IntKind.i64.wrap ((1 : Int) + 1) = 2 := by decide
       have wq2 : IntKind.i64.wrap ((2 : Int) + 1) = 3 := by decide
       have wq3 : IntKind.i64.wrap ((3 : Int) + 1) = 4 := by decide
       refine sk ?_
       refine sq ?_
       refine Exec.block ?_
       refine sq ?_
       refine Exec.regStart 3 rfl ?_
       refine Exec.enter (m := 2) rfl rfl rfl rfl rfl rfl Tryz.func23 Tryz.ntmps23 rfl (by as_aux_lemma => kernel_rfl) (Nat.le_of_ble_eq_true rfl) (fun ai1 hai1 hdi1 => ?_)
       refine Exec.ren (swJ 1) ?_
       apply Exec.norm
       ·simp only [go_sem, wn, wm0, wm1, wm2, e4, w14, wq0, wq1, wq2, wq3]
        rfl
       refine sq ?_
       apply Exec.regionL te_ok
       ·intro u' Q hQ
        simp only [go_sem, wn, wm0, wm1, wm2, e4, w14, wq0, wq1, wq2, wq3]
        repeat refine ob2 ?_
        exact hQ
       refine sq ?_
       apply Exec.regionL te_ok
       ·intro u' Q hQ
        simp only [go_sem, wn, wm0, wm1, wm2, e4, w14, wq0, wq1, wq2, wq3]
        repeat refine ob2 ?_
        exact hQ
       refine sq ?_
       apply Exec.regionL te_ok
       ·intro u' Q hQ
        simp only [go_sem, wn, wm0, wm1, wm2, e4, w14, wq0, wq1, wq2, wq3]
        repeat refine ob2 ?_
        exact hQ
       refine Exec.leave te_ok Tryz.func23 rfl rfl rfl (.inr ⟨_, rfl⟩) rfl rfl hai1 hdi1 rfl rfl ?_
       refine Exec.ren (swJ 1) ?_
       apply Exec.norm
       ·simp only [go_sem, wn, wm0, wm1, wm2, e4, w14, wq0, wq1, wq2, wq3]
        rfl
       apply Exec.regPart 1 2 0 te_ok rfl
       ·intro u' Q hQ
        simp only [go_sem, wn, wm0, wm1, wm2, e4, w14, wq0, wq1, wq2, wq3]
        repeat refine ob2 ?_
        exact hQ
       refine Exec.regEnd ?_
       refine sq ?_
       refine sq ?_
       apply Exec.regionL te_ok
       ·intro u' Q hQ
        simp only [go_sem, wn, wm0, wm1, wm2, e4, w14, wq0, wq1, wq2, wq3]
        repeat refine ob2 ?_
        exact hQ
       refine Exec.block ?_
       refine Exec.loop1 ?_
       refine sq ?_
       refine sq ?_
       apply Exec.regionL te_ok
       ·intro u' Q hQ
        simp only [go_sem, wn, wm0, wm1, wm2, e4, w14, wq0, wq1, wq2, wq3]
        repeat refine ob2 ?_
        exact hQ
       refine Exec.cond (t := true) rfl ?_
       simp only [reduceIte, Bool.false_eq_true]
       refine sk ?_
       refine sq ?_
       refine Exec.block ?_
       refine sq ?_
       apply Exec.regionL te_ok
       ·intro u' Q hQ
        simp only [go_sem, wn, wm0, wm1, wm2, e4, w14, wq0, wq1, wq2, wq3]
        repeat refine ob2 ?_
        refine kcall hR.inv te_ok rfl rfl rfl rfl rfl rfl (of_sl 2 none 0 0) ?_
        simp only [go_sem, wn, wm0, wm1, wm2, e4, w14, wq0, wq1, wq2, wq3]
        repeat refine ob2 ?_
        exact hQ
       refine sq ?_
       refine sq ?_
       apply Exec.regionL te_ok
       ·intro u' Q hQ
        simp only [go_sem, wn, wm0, wm1, wm2, e4, w14, wq0, wq1, wq2, wq3]
        repeat refine ob2 ?_
        exact hQ
       refine Exec.block ?_
       refine Exec.ownNilL 9 2 121 30 3 rfl rfl rfl ?_
       apply Exec.norm
       ·simp only [go_sem]
        rfl
       apply Exec.loopU [5, 6, 7, 8, 9] (X := Nat) (fun i0 => [(10, .d (iv i0))]) (fun i0 => [(9, 30, [.d (iv 2), .d (sv []), .own 121])]) (fun i0 => [(121, ⟨30, 3, i0, i0, fun _ => exC (.mk 1 longS [])⟩)]) (fun i0 => 23 - i0) (fun i0 => i0 ≤ 23) 0
       case h0 =>
        omega
       case hw =>
        simp only [go_sem]; simp
       case body =>
        rintro i0 hx0 ih5
        try simp only at hx0
        apply Exec.norm
        ·simp only [go_sem, wn, wm0, wm1, wm2, e4, w14, wq0, wq1, wq2, wq3]
         rfl
        refine sq ?_
        refine sq ?_
        apply Exec.regionL te_ok
        ·intro u' Q hQ
         simp only [go_sem, wn, wm0, wm1, wm2, e4, w14, wq0, wq1, wq2, wq3]
         repeat refine ob2 ?_
         exact hQ
        refine Exec.cond_split rfl (fun h11 => ?_) (fun h11 => ?_)
        ·have hi0 : i0 < 23 := by simp at h11; omega
         have wi0 : IntKind.i64.wrap ((i0 : Int) + 1) = ((i0 + 1 : Nat) : Int) := (wrap_id (by constructor <;> omega)).trans (by omega)
         refine sk ?_
         refine sq ?_
         refine Exec.block ?_
         apply Exec.free (st := _) 9 8 [(0, 2), (1, 2), (0, 3), (1, 3), (0, 4), (1, 4)] te_ok (by as_aux_lemma => kernel_rfl) rfl (by as_aux_lemma => kernel_rfl)
         ·intro u' Q hQ
          simp only [go_sem, wn, wm0, wm1, wm2, e4, w14, wq0, wq1, wq2, wq3, wi0]
          repeat refine ob2 ?_
          refine kfcall hR.inv te_ok rfl rfl rfl rfl rfl rfl (label_x _) ?_
          simp only [go_sem, wn, wm0, wm1, wm2, e4, w14, wq0, wq1, wq2, wq3, wi0]
          repeat refine ob2 ?_
          refine kfstore te_ok rfl rfl rfl rfl rfl (by simp only [go_sem, wn, wm0, wm1, wm2, e4, w14, wq0, wq1, wq2, wq3, wi0]; rfl) rfl rfl rfl rfl rfl (Nat.le_of_ble_eq_true rfl) ?_
          simp only [go_sem, wn, wm0, wm1, wm2, e4, w14, wq0, wq1, wq2, wq3, wi0]
          repeat refine ob2 ?_
          exact hQ
         ·rfl
         refine Exec.inBlock ?_
         apply Exec.regionL te_ok
         ·intro u' Q hQ
          simp only [go_sem, wn, wm0, wm1, wm2, e4, w14, wq0, wq1, wq2, wq3, wi0]
          repeat refine ob2 ?_
          exact hQ
         refine Exec.back (ih5 (i0 + 1) ?_ ?_) ?_ ?_ ?_ ?_ ?_ ?_ ?_
         ·try simp only
          omega
         ·try simp only
          omega
         ·rfl
         ·rfl
         ·(simp only [go_sem, wi0])
         ·(simp only [go_sem, wi0])
         ·simp only [go_sem, wi0]
          exact catR_const _ _
         ·simp only [go_sem, wn, wm0, wm1, wm2, e4, w14, wq0, wq1, wq2, wq3, wi0]
         ·rfl
        ·obtain rfl : i0 = 23 := by simp at h11; omega
         refine Exec.exit rfl ?_
         refine sq ?_
         apply Exec.free (st := _) 11 10 [(0, 2), (1, 2), (0, 3), (1, 3), (2, 3), (0, 4), (1, 4), (2, 4), (0, 5), (1, 5), (2, 5), (0, 6), (1, 6), (0, 7), (1, 7)] te_ok (by as_aux_lemma => kernel_rfl) rfl (by as_aux_lemma => kernel_rfl)
         ·intro u' Q hQ
          simp only [go_sem, wn, wm0, wm1, wm2, e4, w14, wq0, wq1, wq2, wq3, List.getElem_toArray, List.getElem_cons_succ, List.getElem_cons_zero]
          repeat refine ob2 ?_
          refine kfcall hR.inv te_ok rfl rfl rfl rfl rfl rfl (label_x _) ?_
          simp only [go_sem, wn, wm0, wm1, wm2, e4, w14, wq0, wq1, wq2, wq3, List.getElem_toArray, List.getElem_cons_succ, List.getElem_cons_zero]
          repeat refine ob2 ?_
          exact hQ
         ·rfl
         refine sq ?_
         apply Exec.free (st := _) 12 11 [(0, 2), (1, 2), (0, 3), (1, 3), (2, 3), (0, 4), (1, 4), (2, 4), (0, 5), (1, 5), (2, 5), (0, 6), (1, 6), (2, 6), (0, 7), (1, 7), (0, 8), (1, 8)] te_ok (by as_aux_lemma => kernel_rfl) rfl (by as_aux_lemma => kernel_rfl)
         ·intro u' Q hQ
          simp only [go_sem, wn, wm0, wm1, wm2, e4, w14, wq0, wq1, wq2, wq3, List.getElem_toArray, List.getElem_cons_succ, List.getElem_cons_zero]
          repeat refine ob2 ?_
          refine kfcall hR.inv te_ok rfl rfl rfl rfl rfl rfl (label_x _) ?_
          simp only [go_sem, wn, wm0, wm1, wm2, e4, w14, wq0, wq1, wq2, wq3, List.getElem_toArray, List.getElem_cons_succ, List.getElem_cons_zero]
          repeat refine ob2 ?_
          exact hQ
         ·rfl
         refine Exec.freeze 121 rfl ?_
         apply Exec.norm
         ·simp only [go_sem]
          rfl
         apply Exec.free (st := _) 12 11 [(0, 2), (1, 2), (0, 3), (1, 3), (2, 3), (0, 5), (1, 5), (2, 5), (3, 5), (4, 5), (0, 6), (1, 6), (2, 6), (3, 6), (4, 6), (0, 7), (1, 7), (2, 7), (3, 7), (4, 7)] te_ok (by as_aux_lemma => kernel_rfl) rfl (by as_aux_lemma => kernel_rfl)
         ·intro u' Q hQ
          simp only [go_sem, wn, wm0, wm1, wm2, e4, w14, wq0, wq1, wq2, wq3, List.getElem_toArray, List.getElem_cons_succ, List.getElem_cons_zero]
          repeat refine ob2 ?_
          refine kfstore te_ok rfl rfl rfl rfl rfl (by simp only [go_sem, wn, wm0, wm1, wm2, e4, w14, wq0, wq1, wq2, wq3]; rfl) rfl rfl rfl rfl rfl (Nat.le_of_ble_eq_true rfl) ?_
          simp only [go_sem, wn, wm0, wm1, wm2, e4, w14, wq0, wq1, wq2, wq3, List.getElem_toArray, List.getElem_cons_succ, List.getElem_cons_zero]
          repeat refine ob2 ?_
          exact hQ
         ·rfl
         refine Exec.inBlock ?_
         apply Exec.regionL te_ok
         ·intro u' Q hQ
          simp only [go_sem, wn, wm0, wm1, wm2, e4, w14, wq0, wq1, wq2, wq3]
          repeat refine ob2 ?_
          exact hQ
         refine Exec.inLoop ?_
         refine sq ?_
         refine sq ?_
         apply Exec.regionL te_ok
         ·intro u' Q hQ
          simp only [go_sem, wn, wm0, wm1, wm2, e4, w14, wq0, wq1, wq2, wq3]
          repeat refine ob2 ?_
          exact hQ
         refine Exec.cond (t := true) rfl ?_
         simp only [reduceIte, Bool.false_eq_true]
         refine sk ?_
         refine sq ?_
         refine Exec.block ?_
         refine sq ?_
         apply Exec.regionL te_ok
         ·intro u' Q hQ
          simp only [go_sem, wn, wm0, wm1, wm2, e4, w14, wq0, wq1, wq2, wq3]
          repeat refine ob2 ?_
          refine kcall hR.inv te_ok rfl rfl rfl rfl rfl rfl (of_sl 2 none 0 0) ?_
          simp only [go_sem, wn, wm0, wm1, wm2, e4, w14, wq0, wq1, wq2, wq3]
          repeat refine ob2 ?_
          exact hQ
         refine sq ?_
         refine sq ?_
         apply Exec.regionL te_ok
         ·intro u' Q hQ
          simp only [go_sem, wn, wm0, wm1, wm2, e4, w14, wq0, wq1, wq2, wq3]
          repeat refine ob2 ?_
          exact hQ
         refine Exec.block ?_
         refine Exec.ownNilL 9 2 121 30 3 rfl rfl rfl ?_
         apply Exec.norm
         ·simp only [go_sem]
          rfl
         apply Exec.loopU [5, 6, 7, 8, 9] (X := Nat) (fun i1 => [(10, .d (iv i1))]) (fun i1 => [(9, 30, [.d (iv 2), .d (sv []), .own 121])]) (fun i1 => [(121, ⟨30, 3, i1, i1, fun _ => exC (.mk 1 longS [])⟩)]) (fun i1 => 23 - i1) (fun i1 => i1 ≤ 23) 0
         case h0 =>
          omega
         case hw =>
          simp only [go_sem]; simp
         case body =>
          rintro i1 hx1 ih6
          try simp only at hx1
          apply Exec.norm
          ·simp only [go_sem, wn, wm0, wm1, wm2, e4, w14, wq0, wq1, wq2, wq3]
           rfl
          refine sq ?_
          refine sq ?_
          apply Exec.regionL te_ok
          ·intro u' Q hQ
           simp only [go_sem, wn, wm0, wm1, wm2, e4, w14, wq0, wq1, wq2, wq3]
           repeat refine ob2 ?_
           exact hQ
          refine Exec.cond_split rfl (fun h13 => ?_) (fun h13 => ?_)
          ·have hi1 : i1 < 23 := by simp at h13; omega
           have wi1 : IntKind.i64.wrap ((i1 : Int) + 1) = ((i1 + 1 : Nat) : Int) := (wrap_id (by constructor <;> omega)).trans (by omega)
           refine sk ?_
           refine sq ?_
           refine Exec.block ?_
           apply Exec.free (st := _) 9 8 [(0, 2), (1, 2), (0, 3), (1, 3), (0, 4), (1, 4)] te_ok (by as_aux_lemma => kernel_rfl) rfl (by as_aux_lemma => kernel_rfl)
           ·intro u' Q hQ
            simp only [go_sem, wn, wm0, wm1, wm2, e4, w14, wq0, wq1, wq2, wq3, wi1]
            repeat refine ob2 ?_
            refine kfcall hR.inv te_ok rfl rfl rfl rfl rfl rfl (label_x _) ?_
            simp only [go_sem, wn, wm0, wm1, wm2, e4, w14, wq0, wq1, wq2, wq3, wi1]
            repeat refine ob2 ?_
            refine kfstore te_ok rfl rfl rfl rfl rfl (by simp only [go_sem, wn, wm0, wm1, wm2, e4, w14, wq0, wq1, wq2, wq3, wi1]; rfl) rfl rfl rfl rfl rfl (Nat.le_of_ble_eq_true rfl) ?_
            simp only [go_sem, wn, wm0, wm1, wm2, e4, w14, wq0, wq1, wq2, wq3, wi1]
            repeat refine ob2 ?_
            exact hQ
           ·rfl
           refine Exec.inBlock ?_
           apply Exec.regionL te_ok
           ·intro u' Q hQ
            simp only [go_sem, wn, wm0, wm1, wm2, e4, w14, wq0, wq1, wq2, wq3, wi1]
            repeat refine ob2 ?_
            exact hQ
           refine Exec.back (ih6 (i1 + 1) ?_ ?_) ?_ ?_ ?_ ?_ ?_ ?_ ?_
           ·try simp only
            omega
           ·try simp only
            omega
           ·rfl
           ·rfl
           ·(simp only [go_sem, wi1])
           ·(simp only [go_sem, wi1])
           ·simp only [go_sem, wi1]
            exact catR_const _ _
           ·simp only [go_sem, wn, wm0, wm1, wm2, e4, w14, wq0, wq1, wq2, wq3, wi1]
           ·rfl
          ·obtain rfl : i1 = 23 := by simp at h13; omega
           refine Exec.exit rfl ?_
           refine sq ?_
           apply Exec.free (st := _) 11 10 [(0, 2), (1, 2), (0, 3), (1, 3), (2, 3), (0, 4), (1, 4), (2, 4), (0, 5), (1, 5), (2, 5), (0, 6), (1, 6), (0, 7), (1, 7)] te_ok (by as_aux_lemma => kernel_rfl) rfl (by as_aux_lemma => kernel_rfl)
           ·intro u' Q hQ
            simp only [go_sem, wn, wm0, wm1, wm2, e4, w14, wq0, wq1, wq2, wq3, List.getElem_toArray, List.getElem_cons_succ, List.getElem_cons_zero]
            repeat refine ob2 ?_
            refine kfcall hR.inv te_ok rfl rfl rfl rfl rfl rfl (label_x _) ?_
            simp only [go_sem, wn, wm0, wm1, wm2, e4, w14, wq0, wq1, wq2, wq3, List.getElem_toArray, List.getElem_cons_succ, List.getElem_cons_zero]
            repeat refine ob2 ?_
            exact hQ
           ·rfl
           refine sq ?_
           apply Exec.free (st := _) 12 11 [(0, 2), (1, 2), (0, 3), (1, 3), (2, 3), (0, 4), (1, 4), (2, 4), (0, 5), (1, 5), (2, 5), (0, 6), (1, 6), (2, 6), (0, 7), (1, 7), (0, 8), (1, 8)] te_ok (by as_aux_lemma => kernel_rfl) rfl (by as_aux_lemma => kernel_rfl)
           ·intro u' Q hQ
            simp only [go_sem, wn, wm0, wm1, wm2, e4, w14, wq0, wq1, wq2, wq3, List.getElem_toArray, List.getElem_cons_succ, List.getElem_cons_zero]
            repeat refine ob2 ?_
            refine kfcall hR.inv te_ok rfl rfl rfl rfl rfl rfl (label_x _) ?_
            simp only [go_sem, wn, wm0, wm1, wm2, e4, w14, wq0, wq1, wq2, wq3, List.getElem_toArray, List.getElem_cons_succ, List.getElem_cons_zero]
            repeat refine ob2 ?_
            exact hQ
           ·rfl
           refine Exec.freeze 121 rfl ?_
           apply Exec.norm
           ·simp only [go_sem]
            rfl
           apply Exec.free (st := _) 12 11 [(0, 2), (1, 2), (0, 3), (1, 3), (2, 3), (0, 5), (1, 5), (2, 5), (3, 5), (4, 5), (0, 6), (1, 6), (2, 6), (3, 6), (4, 6), (0, 7), (1, 7), (2, 7), (3, 7), (4, 7)] te_ok (by as_aux_lemma => kernel_rfl) rfl (by as_aux_lemma => kernel_rfl)
           ·intro u' Q hQ
            simp only [go_sem, wn, wm0, wm1, wm2, e4, w14, wq0, wq1, wq2, wq3, List.getElem_toArray, List.getElem_cons_succ, List.getElem_cons_zero]
            repeat refine ob2 ?_
            refine kfstore te_ok rfl rfl rfl rfl rfl (by simp only [go_sem, wn, wm0, wm1, wm2, e4, w14, wq0, wq1, wq2, wq3]; rfl) rfl rfl rfl rfl rfl (Nat.le_of_ble_eq_true rfl) ?_
            simp only [go_sem, wn, wm0, wm1, wm2, e4, w14, wq0, wq1, wq2, wq3, List.getElem_toArray, List.getElem_cons_succ, List.getElem_cons_zero]
            repeat refine ob2 ?_
            exact hQ
           ·rfl
           refine Exec.inBlock ?_
           apply Exec.regionL te_ok
           ·intro u' Q hQ
            simp only [go_sem, wn, wm0, wm1, wm2, e4, w14, wq0, wq1, wq2, wq3]
            repeat refine ob2 ?_
            exact hQ
           refine Exec.inLoop ?_
           refine sq ?_
           refine sq ?_
           apply Exec.regionL te_ok
           ·intro u' Q hQ
            simp only [go_sem, wn, wm0, wm1, wm2, e4, w14, wq0, wq1, wq2, wq3]
            repeat refine ob2 ?_
            exact hQ
           refine Exec.cond (t := true) rfl ?_
           simp only [reduceIte, Bool.false_eq_true]
           refine sk ?_
           refine sq ?_
           refine Exec.block ?_
           refine sq ?_
           apply Exec.regionL te_ok
           ·intro u' Q hQ
            simp only [go_sem, wn, wm0, wm1, wm2, e4, w14, wq0, wq1, wq2, wq3]
            repeat refine ob2 ?_
            refine kcall hR.inv te_ok rfl rfl rfl rfl rfl rfl (of_sl 2 none 0 0) ?_
            simp only [go_sem, wn, wm0, wm1, wm2, e4, w14, wq0, wq1, wq2, wq3]
            repeat refine ob2 ?_
            exact hQ
           refine sq ?_
           refine sq ?_
           apply Exec.regionL te_ok
           ·intro u' Q hQ
            simp only [go_sem, wn, wm0, wm1, wm2, e4, w14, wq0, wq1, wq2, wq3]
            repeat refine ob2 ?_
            exact hQ
           refine Exec.block ?_
           refine Exec.ownNilL 9 2 121 30 3 rfl rfl rfl ?_
           apply Exec.norm
           ·simp only [go_sem]
            rfl
           apply Exec.loopU [5, 6, 7, 8, 9] (X := Nat) (fun i2 => [(10, .d (iv i2))]) (fun i2 => [(9, 30, [.d (iv 2), .d (sv []), .own 121])]) (fun i2 => [(121, ⟨30, 3, i2, i2, fun _ => exC (.mk 1 longS [])⟩)]) (fun i2 => 23 - i2) (fun i2 => i2 ≤ 23) 0
           case h0 =>
            omega
           case hw =>
            simp only [go_sem]; simp
           case body =>
            rintro i2 hx2 ih7
            try simp only at hx2
            apply Exec.norm
            ·simp only [go_sem, wn, wm0, wm1, wm2, e4, w14, wq0, wq1, wq2, wq3]
             rfl
            refine sq ?_
            refine sq ?_
            apply Exec.regionL te_ok
            ·intro u' Q hQ
             simp only [go_sem, wn, wm0, wm1, wm2, e4, w14, wq0, wq1, wq2, wq3]
             repeat refine ob2 ?_
             exact hQ
            refine Exec.cond_split rfl (fun h15 => ?_) (fun h15 => ?_)
            ·have hi2 : i2 < 23 := by simp at h15; omega
             have wi2 : IntKind.i64.wrap ((i2 : Int) + 1) = ((i2 + 1 : Nat) : Int) := (wrap_id (by constructor <;> omega)).trans (by omega)
             refine sk ?_
             refine sq ?_
             refine Exec.block ?_
             apply Exec.free (st := _) 9 8 [(0, 2), (1, 2), (0, 3), (1, 3), (0, 4), (1, 4)] te_ok (by as_aux_lemma => kernel_rfl) rfl (by as_aux_lemma => kernel_rfl)
             ·intro u' Q hQ
              simp only [go_sem, wn, wm0, wm1, wm2, e4, w14, wq0, wq1, wq2, wq3, wi2]
              repeat refine ob2 ?_
              refine kfcall hR.inv te_ok rfl rfl rfl rfl rfl rfl (label_x _) ?_
              simp only [go_sem, wn, wm0, wm1, wm2, e4, w14, wq0, wq1, wq2, wq3, wi2]
              repeat refine ob2 ?_
              refine kfstore te_ok rfl rfl rfl rfl rfl (by simp only [go_sem, wn, wm0, wm1, wm2, e4, w14, wq0, wq1, wq2, wq3, wi2]; rfl) rfl rfl rfl rfl rfl (Nat.le_of_ble_eq_true rfl) ?_
              simp only [go_sem, wn, wm0, wm1, wm2, e4, w14, wq0, wq1, wq2, wq3, wi2]
              repeat refine ob2 ?_
              exact hQ
             ·rfl
             refine Exec.inBlock ?_
             apply Exec.regionL te_ok
             ·intro u' Q hQ
              simp only [go_sem, wn, wm0, wm1, wm2, e4, w14, wq0, wq1, wq2, wq3, wi2]
              repeat refine ob2 ?_
              exact hQ
             refine Exec.back (ih7 (i2 + 1) ?_ ?_) ?_ ?_ ?_ ?_ ?_ ?_ ?_
             ·try simp only
              omega
             ·try simp only
              omega
             ·rfl
             ·rfl
             ·(simp only [go_sem, wi2])
             ·(simp only [go_sem, wi2])
             ·simp only [go_sem, wi2]
              exact catR_const _ _
             ·simp only [go_sem, wn, wm0, wm1, wm2, e4, w14, wq0, wq1, wq2, wq3, wi2]
             ·rfl
            ·obtain rfl : i2 = 23 := by simp at h15; omega
             refine Exec.exit rfl ?_
             refine sq ?_
             apply Exec.free (st := _) 11 10 [(0, 2), (1, 2), (0, 3), (1, 3), (2, 3), (0, 4), (1, 4), (2, 4), (0, 5), (1, 5), (2, 5), (0, 6), (1, 6), (0, 7), (1, 7)] te_ok (by as_aux_lemma => kernel_rfl) rfl (by as_aux_lemma => kernel_rfl)
             ·intro u' Q hQ
              simp only [go_sem, wn, wm0, wm1, wm2, e4, w14, wq0, wq1, wq2, wq3, List.getElem_toArray, List.getElem_cons_succ, List.getElem_cons_zero]
              repeat refine ob2 ?_
              refine kfcall hR.inv te_ok rfl rfl rfl rfl rfl rfl (label_x _) ?_
              simp only [go_sem, wn, wm0, wm1, wm2, e4, w14, wq0, wq1, wq2, wq3, List.getElem_toArray, List.getElem_cons_succ, List.getElem_cons_zero]
              repeat refine ob2 ?_
              exact hQ
             ·rfl
             refine sq ?_
             apply Exec.free (st := _) 12 11 [(0, 2), (1, 2), (0, 3), (1, 3), (2, 3), (0, 4), (1, 4), (2, 4), (0, 5), (1, 5), (2, 5), (0, 6), (1, 6), (2, 6), (0, 7), (1, 7), (0, 8), (1, 8)] te_ok (by as_aux_lemma => kernel_rfl) rfl (by as_aux_lemma => kernel_rfl)
             ·intro u' Q hQ
              simp only [go_sem, wn, wm0, wm1, wm2, e4, w14, wq0, wq1, wq2, wq3, List.getElem_toArray, List.getElem_cons_succ, List.getElem_cons_zero]
              repeat refine ob2 ?_
              refine kfcall hR.inv te_ok rfl rfl rfl rfl rfl rfl (label_x _) ?_
              simp only [go_sem, wn, wm0, wm1, wm2, e4, w14, wq0, wq1, wq2, wq3, List.getElem_toArray, List.getElem_cons_succ, List.getElem_cons_zero]
              repeat refine ob2 ?_
              exact hQ
             ·rfl
             refine Exec.freeze 121 rfl ?_
             apply Exec.norm
             ·simp only [go_sem]
              rfl
             apply Exec.free (st := _) 12 11 [(0, 2), (1, 2), (0, 3), (1, 3), (2, 3), (0, 5), (1, 5), (2, 5), (3, 5), (4, 5), (0, 6), (1, 6), (2, 6), (3, 6), (4, 6), (0, 7), (1, 7), (2, 7), (3, 7), (4, 7)] te_ok (by as_aux_lemma => kernel_rfl) rfl (by as_aux_lemma => kernel_rfl)
             ·intro u' Q hQ
              simp only [go_sem, wn, wm0, wm1, wm2, e4, w14, wq0, wq1, wq2, wq3, List.getElem_toArray, List.getElem_cons_succ, List.getElem_cons_zero]
              repeat refine ob2 ?_
              refine kfstore te_ok rfl rfl rfl rfl rfl (by simp only [go_sem, wn, wm0, wm1, wm2, e4, w14, wq0, wq1, wq2, wq3]; rfl) rfl rfl rfl rfl rfl (Nat.le_of_ble_eq_true rfl) ?_
              simp only [go_sem, wn, wm0, wm1, wm2, e4, w14, wq0, wq1, wq2, wq3, List.getElem_toArray, List.getElem_cons_succ, List.getElem_cons_zero]
              repeat refine ob2 ?_
              exact hQ
             ·rfl
             refine Exec.inBlock ?_
             apply Exec.regionL te_ok
             ·intro u' Q hQ
              simp only [go_sem, wn, wm0, wm1, wm2, e4, w14, wq0, wq1, wq2, wq3]
              repeat refine ob2 ?_
              exact hQ
             refine Exec.inLoop ?_
             refine sq ?_
             refine sq ?_
             apply Exec.regionL te_ok
             ·intro u' Q hQ
              simp only [go_sem, wn, wm0, wm1, wm2, e4, w14, wq0, wq1, wq2, wq3]
              repeat refine ob2 ?_
              exact hQ
             refine Exec.cond (t := true) rfl ?_
             simp only [reduceIte, Bool.false_eq_true]
             refine sk ?_
             refine sq ?_
             refine Exec.block ?_
             refine sq ?_
             apply Exec.regionL te_ok
             ·intro u' Q hQ
              simp only [go_sem, wn, wm0, wm1, wm2, e4, w14, wq0, wq1, wq2, wq3]
              repeat refine ob2 ?_
              refine kcall hR.inv te_ok rfl rfl rfl rfl rfl rfl (of_sl 2 none 0 0) ?_
              simp only [go_sem, wn, wm0, wm1, wm2, e4, w14, wq0, wq1, wq2, wq3]
              repeat refine ob2 ?_
              exact hQ
             refine sq ?_
             refine sq ?_
             apply Exec.regionL te_ok
             ·intro u' Q hQ
              simp only [go_sem, wn, wm0, wm1, wm2, e4, w14, wq0, wq1, wq2, wq3]
              repeat refine ob2 ?_
              exact hQ
             refine Exec.block ?_
             refine Exec.ownNilL 9 2 121 30 3 rfl rfl rfl ?_
             apply Exec.norm
             ·simp only [go_sem]
              rfl
             apply Exec.loopU [5, 6, 7, 8, 9] (X := Nat) (fun i3 => [(10, .d (iv i3))]) (fun i3 => [(9, 30, [.d (iv 2), .d (sv []), .own 121])]) (fun i3 => [(121, ⟨30, 3, i3, i3, fun _ => exC (.mk 1 longS [])⟩)]) (fun i3 => 23 - i3) (fun i3 => i3 ≤ 23) 0
             case h0 =>
              omega
             case hw =>
              simp only [go_sem]; simp
             case body =>
              rintro i3 hx3 ih8
              try simp only at hx3
              apply Exec.norm
              ·simp only [go_sem, wn, wm0, wm1, wm2, e4, w14, wq0, wq1, wq2, wq3]
               rfl
              refine sq ?_
              refine sq ?_
              apply Exec.regionL te_ok
              ·intro u' Q hQ
               simp only [go_sem, wn, wm0, wm1, wm2, e4, w14, wq0, wq1, wq2, wq3]
               repeat refine ob2 ?_
               exact hQ
              refine Exec.cond_split rfl (fun h17 => ?_) (fun h17 => ?_)
              ·have hi3 : i3 < 23 := by simp at h17; omega
               have wi3 : IntKind.i64.wrap ((i3 : Int) + 1) = ((i3 + 1 : Nat) : Int) := (wrap_id (by constructor <;> omega)).trans (by omega)
               refine sk ?_
               refine sq ?_
               refine Exec.block ?_
               apply Exec.free (st := _) 9 8 [(0, 2), (1, 2), (0, 3), (1, 3), (0, 4), (1, 4)] te_ok (by as_aux_lemma => kernel_rfl) rfl (by as_aux_lemma => kernel_rfl)
               ·intro u' Q hQ
                simp only [go_sem, wn, wm0, wm1, wm2, e4, w14, wq0, wq1, wq2, wq3, wi3]
                repeat refine ob2 ?_
                refine kfcall hR.inv te_ok rfl rfl rfl rfl rfl rfl (label_x _) ?_
                simp only [go_sem, wn, wm0, wm1, wm2, e4, w14, wq0, wq1, wq2, wq3, wi3]
                repeat refine ob2 ?_
                refine kfstore te_ok rfl rfl rfl rfl rfl (by simp only [go_sem, wn, wm0, wm1, wm2, e4, w14, wq0, wq1, wq2, wq3, wi3]; rfl) rfl rfl rfl rfl rfl (Nat.le_of_ble_eq_true rfl) ?_
                simp only [go_sem, wn, wm0, wm1, wm2, e4, w14, wq0, wq1, wq2, wq3, wi3]
                repeat refine ob2 ?_
                exact hQ
               ·rfl
               refine Exec.inBlock ?_
               apply Exec.regionL te_ok
               ·intro u' Q hQ
                simp only [go_sem, wn, wm0, wm1, wm2, e4, w14, wq0, wq1, wq2, wq3, wi3]
                repeat refine ob2 ?_
                exact hQ
               refine Exec.back (ih8 (i3 + 1) ?_ ?_) ?_ ?_ ?_ ?_ ?_ ?_ ?_
               ·try simp only
                omega
               ·try simp only
                omega
               ·rfl
               ·rfl
               ·(simp only [go_sem, wi3])
               ·(simp only [go_sem, wi3])
               ·simp only [go_sem, wi3]
                exact catR_const _ _
               ·simp only [go_sem, wn, wm0, wm1, wm2, e4, w14, wq0, wq1, wq2, wq3, wi3]
               ·rfl
              ·obtain rfl : i3 = 23 := by simp at h17; omega
               refine Exec.exit rfl ?_
               refine sq ?_
               apply Exec.free (st := _) 11 10 [(0, 2), (1, 2), (0, 3), (1, 3), (2, 3), (0, 4), (1, 4), (2, 4), (0, 5), (1, 5), (2, 5), (0, 6), (1, 6), (0, 7), (1, 7)] te_ok (by as_aux_lemma => kernel_rfl) rfl (by as_aux_lemma => kernel_rfl)
               ·intro u' Q hQ
                simp only [go_sem, wn, wm0, wm1, wm2, e4, w14, wq0, wq1, wq2, wq3, List.getElem_toArray, List.getElem_cons_succ, List.getElem_cons_zero]
                repeat refine ob2 ?_
                refine kfcall hR.inv te_ok rfl rfl rfl rfl rfl rfl (label_x _) ?_
                simp only [go_sem, wn, wm0, wm1, wm2, e4, w14, wq0, wq1, wq2, wq3, List.getElem_toArray, List.getElem_cons_succ, List.getElem_cons_zero]
                repeat refine ob2 ?_
                exact hQ
               ·rfl
               refine sq ?_
               apply Exec.free (st := _) 12 11 [(0, 2), (1, 2), (0, 3), (1, 3), (2, 3), (0, 4), (1, 4), (2, 4), (0, 5), (1, 5), (2, 5), (0, 6), (1, 6), (2, 6), (0, 7), (1, 7), (0, 8), (1, 8)] te_ok (by as_aux_lemma => kernel_rfl) rfl (by as_aux_lemma => kernel_rfl)
               ·intro u' Q hQ
                simp only [go_sem, wn, wm0, wm1, wm2, e4, w14, wq0, wq1, wq2, wq3, List.getElem_toArray, List.getElem_cons_succ, List.getElem_cons_zero]
                repeat refine ob2 ?_
                refine kfcall hR.inv te_ok rfl rfl rfl rfl rfl rfl (label_x _) ?_
                simp only [go_sem, wn, wm0, wm1, wm2, e4, w14, wq0, wq1, wq2, wq3, List.getElem_toArray, List.getElem_cons_succ, List.getElem_cons_zero]
                repeat refine ob2 ?_
                exact hQ
               ·rfl
               refine Exec.freeze 121 rfl ?_
               apply Exec.norm
               ·simp only [go_sem]
                rfl
               apply Exec.free (st := _) 12 11 [(0, 2), (1, 2), (0, 3), (1, 3), (2, 3), (0, 5), (1, 5), (2, 5), (3, 5), (4, 5), (0, 6), (1, 6), (2, 6), (3, 6), (4, 6), (0, 7), (1, 7), (2, 7), (3, 7), (4, 7)] te_ok (by as_aux_lemma => kernel_rfl) rfl (by as_aux_lemma => kernel_rfl)
               ·intro u' Q hQ
                simp only [go_sem, wn, wm0, wm1, wm2, e4, w14, wq0, wq1, wq2, wq3, List.getElem_toArray, List.getElem_cons_succ, List.getElem_cons_zero]
                repeat refine ob2 ?_
                refine kfstore te_ok rfl rfl rfl rfl rfl (by simp only [go_sem, wn, wm0, wm1, wm2, e4, w14, wq0, wq1, wq2, wq3]; rfl) rfl rfl rfl rfl rfl (Nat.le_of_ble_eq_true rfl) ?_
                simp only [go_sem, wn, wm0, wm1, wm2, e4, w14, wq0, wq1, wq2, wq3, List.getElem_toArray, List.getElem_cons_succ, List.getElem_cons_zero]
                repeat refine ob2 ?_
                exact hQ
               ·rfl
               refine Exec.inBlock ?_
               apply Exec.regionL te_ok
               ·intro u' Q hQ
                simp only [go_sem, wn, wm0, wm1, wm2, e4, w14, wq0, wq1, wq2, wq3]
                repeat refine ob2 ?_
                exact hQ
               refine Exec.inLoop ?_
               refine sq ?_
               refine sq ?_
               apply Exec.regionL te_ok
               ·intro u' Q hQ
                simp only [go_sem, wn, wm0, wm1, wm2, e4, w14, wq0, wq1, wq2, wq3]
                repeat refine ob2 ?_
                exact hQ
               refine Exec.cond (t := false) rfl ?_
               simp only [reduceIte, Bool.false_eq_true]
               refine Exec.exit rfl ?_
               refine sq ?_
               apply Exec.regionL te_ok
               ·intro u' Q hQ
                simp only [go_sem, wn, wm0, wm1, wm2, e4, w14, wq0, wq1, wq2, wq3]
                repeat refine ob2 ?_
                exact hQ
               refine sq ?_
               apply Exec.free (st := _) 11 10 [(0, 2), (1, 2), (0, 3), (1, 3), (2, 3), (0, 4), (1, 4), (2, 4), (0, 5), (1, 5), (2, 5), (0, 6), (1, 6)] te_ok (by as_aux_lemma => kernel_rfl) rfl (by as_aux_lemma => kernel_rfl)
               ·intro u' Q hQ
                simp only [go_sem, wn, wm0, wm1, wm2, e4, w14, wq0, wq1, wq2, wq3, List.getElem_toArray, List.getElem_cons_succ, List.getElem_cons_zero]
                repeat refine ob2 ?_
                exact hQ
               ·rfl
               refine sq ?_
               apply Exec.free (st := _) 5 4 [(0, 1)] te_ok (by as_aux_lemma => kernel_rfl) rfl (by as_aux_lemma => kernel_rfl)
               ·intro u' Q hQ
                simp only [go_sem, wn, wm0, wm1, wm2, e4, w14, wq0, wq1, wq2, wq3, List.getElem_toArray, List.getElem_cons_succ, List.getElem_cons_zero]
                repeat refine ob2 ?_
                refine kfcall hR.inv te_ok rfl rfl rfl rfl rfl rfl (label_x _) ?_
                simp only [go_sem, wn, wm0, wm1, wm2, e4, w14, wq0, wq1, wq2, wq3, List.getElem_toArray, List.getElem_cons_succ, List.getElem_cons_zero]
                repeat refine ob2 ?_
                refine kfcallV hR.inv te_ok rfl rfl rfl rfl rfl rfl (tells_any (.rows (Nat.le_of_ble_eq_true rfl) ptC_lf fun i hi => match i, hi with | 0, _ => patK (a := [97]) (z := List.take (1 + ((n % 4 : Nat) : Int)).toNat [97, 97, 97, 97, 97, 97, 97, 97, 97, 97, 97, 97, 97, 97, 97, 97, 97, 97, 97, 97]) (by decide) (take_le _) (kidsR (t0 := List.take (20 - min (n : Int) 19).toNat [97, 97, 97, 97, 97, 97, 97, 97, 97, 97, 97, 97, 97, 97, 97, 97, 97, 97, 97, 97]) (t1 := List.take (20 - max ((n : Int) - 19) 0).toNat [97, 97, 97, 97, 97, 97, 97, 97, 97, 97, 97, 97, 97, 97, 97, 97, 97, 97, 97, 97]) (t := longS) (take_le _) (take_le _) (by decide)) | 1, _ => patK (a := [97]) (z := [97]) (by decide) (by decide) (kidsR (t0 := List.take (20 - min (n : Int) 19).toNat [97, 97, 97, 97, 97, 97, 97, 97, 97, 97, 97, 97, 97, 97, 97, 97, 97, 97, 97, 97]) (t1 := List.take (20 - max ((n : Int) - 19) 0).toNat [97, 97, 97, 97, 97, 97, 97, 97, 97, 97, 97, 97, 97, 97, 97, 97, 97, 97, 97, 97]) (t := longS) (take_le _) (take_le _) (by decide)) | 2, _ => patK (a := [97]) (z := [97]) (by decide) (by decide) (kidsR (t0 := List.take (20 - min (n : Int) 19).toNat [97, 97, 97, 97, 97, 97, 97, 97, 97, 97, 97, 97, 97, 97, 97, 97, 97, 97, 97, 97]) (t1 := List.take (20 - max ((n : Int) - 19) 0).toNat [97, 97, 97, 97, 97, 97, 97, 97, 97, 97, 97, 97, 97, 97, 97, 97, 97, 97, 97, 97]) (t := longS) (take_le _) (take_le _) (by decide)) | 3, _ => patK (a := [97]) (z := [97]) (by decide) (by decide) (kidsR (t0 := List.take (20 - min (n : Int) 19).toNat [97, 97, 97, 97, 97, 97, 97, 97, 97, 97, 97, 97, 97, 97, 97, 97, 97, 97, 97, 97]) (t1 := List.take (20 - max ((n : Int) - 19) 0).toNat [97, 97, 97, 97, 97, 97, 97, 97, 97, 97, 97, 97, 97, 97, 97, 97, 97, 97, 97, 97]) (t := longS) (take_le _) (take_le _) (by decide))) .nil (.rows (Nat.le_of_ble_eq_true rfl) (fun _ => rfl) fun i hi => match i, hi with | 0, _ => ⟨⟨1, [97], [], 0, 0, []⟩, LeDs.refl _, op_any (by decide) (by decide) (by decide)⟩) (lab_fit (by decide))) ?_
                simp only [go_sem, wn, wm0, wm1, wm2, e4, w14, wq0, wq1, wq2, wq3, List.getElem_toArray, List.getElem_cons_succ, List.getElem_cons_zero]
                repeat refine ob2 ?_
                exact hQ
               ·rfl
               refine Exec.cond (t := false) rfl ?_
               simp only [reduceIte, Bool.false_eq_true]
               refine sk ?_
               refine Exec.inBlock ?_
               apply Exec.regionL te_ok
               ·intro u' Q hQ
                simp only [go_sem, wn, wm0, wm1, wm2, e4, w14, wq0, wq1, wq2, wq3]
                repeat refine ob2 ?_
                exact hQ
               refine Exec.back (ih3 (n + 1) ?_ ?_) ?_ ?_ ?_ ?_ ?_ ?_ ?_
               ·try simp only
                omega
               ·try simp only
                omega
               ·rfl
               ·rfl
               ·(simp only [go_sem, wn, wm0, wm1, wm2, e4, w14, wq0, wq1, wq2, wq3])
               ·(simp only [go_sem, wn, wm0, wm1, wm2, e4, w14, wq0, wq1, wq2, wq3])
               ·(simp only [go_sem, wn, wm0, wm1, wm2, e4, w14, wq0, wq1, wq2, wq3])
               ·simp only [go_sem, wn, wm0, wm1, wm2, e4, w14, wq0, wq1, wq2, wq3]
               ·rfl
      ·refine Exec.exit rfl ?_
       refine sq ?_
       apply Exec.regionL te_ok
       ·intro u' Q hQ
        simp only [go_sem]
        repeat refine ob2 ?_
        refine kcall hR.inv te_ok rfl rfl rfl rfl rfl rfl (awake_ok) ?_
        simp only [go_sem]
        repeat refine ob2 ?_
        exact hQ
       refine Exec.rets hR te_ok rfl rfl rfl (LeX.le ?_) (.inr ⟨_, rfl⟩)
       simp only [go_sem]
end Go.Proofs.YtonchjamoblioaaGreatDoor
