/- Steps of a function body on data, and contracts of the functions of the seat, walked. -/
import Derived.Test.YtonchjamoblioaaGreatDoorRDef
set_option linter.unusedSimpArgs false
set_option linter.unusedVariables false
namespace Go.Proofs.YtonchjamoblioaaGreatDoor
open Go.Kin
set_option maxRecDepth 100000
set_option maxHeartbeats 0
attribute [go_sem] unl te_132 te_134 te_137 te_129 rfC RS.n RS.b RS.m
theorem rnext_ok (l : List Tk) (s : RS) (hk : TkOk l) (hn : s.n < l.length) : FnM Laid Tryz.prog 107 134 [tksD l, iv s.n, iv s.b, iv s.m] [.lp 900 0] (.ret (rfC l (s)) (.ag (tkC (nth l s.n)))) := by
 refine FnM_of Tryz.func107 Tryz.ntmps107 rfl (by as_aux_lemma => kernel_rfl) (Nat.le_of_ble_eq_true rfl) (fun R b0 hR => ?_)
 obtain ⟨_, b, cs, T, C⟩ := R
 obtain rfl : _ = Tryz.prog := hR.p
 refine sreg te_ok ?_
 refine sq ?_
 apply Exec.free (st := _) 12 11 [(0, 4), (1, 4), (2, 4), (3, 4), (0, 5), (1, 5), (2, 5), (3, 5), (0, 6), (1, 6), (2, 6), (3, 6), (0, 7), (1, 7), (2, 7), (3, 7)] te_ok (by as_aux_lemma => kernel_rfl) rfl (by as_aux_lemma => kernel_rfl)
 ·intro o Q hQ
  simp only [go_sem]
  repeat refine ob2 ?_
  exact hQ
 ·rfl
 refine Exec.retsMu hR te_ok rfl .nil rfl rfl rfl ?_ (.inr ⟨_, rfl⟩)
 refine ⟨_, _, rfl, ?_⟩
 simp only [go_sem]
theorem rstep_ok (l : List Tk) (s : RS) (hk : TkOk l) (hn : s.n < l.length) : FnM Laid Tryz.prog 111 134 [tksD l, iv s.n, iv s.b, iv s.m] [.lp 900 0] (.ret (rfC l (s.step l)) (.tup [])) := by
 refine FnM_of Tryz.func111 Tryz.ntmps111 rfl (by as_aux_lemma => kernel_rfl) (Nat.le_of_ble_eq_true rfl) (fun R b0 hR => ?_)
 obtain ⟨_, b, cs, T, C⟩ := R
 obtain rfl : _ = Tryz.prog := hR.p
 have hw : IntKind.i64.wrap ((s.n : Int) + 1) = ((s.n + 1 : Nat) : Int) := by have := hk.len; rw [wrap_id (by constructor <;> omega)]; simp
 have hw2 : IntKind.i64.wrap ((l.length : Int) - 1) = (l.length : Int) - 1 := by have := hk.len; rw [wrap_id (by constructor <;> omega)]
 refine sq ?_
 apply Exec.free (st := _) 12 11 [(0, 4), (1, 4), (2, 4), (3, 4), (0, 5), (1, 5), (2, 5), (3, 5), (0, 6), (1, 6), (2, 6), (3, 6), (0, 7), (1, 7), (2, 7), (3, 7), (0, 8), (1, 8), (2, 8), (3, 8), (0, 9), (1, 9), (2, 9), (3, 9)] te_ok (by as_aux_lemma => kernel_rfl) rfl (by as_aux_lemma => kernel_rfl)
 ·intro o Q hQ
  simp only [go_sem, hw, hw2]
  repeat refine ob2 ?_
  exact hQ
 ·rfl
 refine Exec.cond_split rfl (fun h0 => ?_) (fun h0 => ?_)
 ·apply Exec.regionL te_ok
  ·intro o Q hQ
   simp only [go_sem, hw, hw2]
   repeat refine ob2 ?_
   exact hQ
  refine Exec.retsMu hR te_ok rfl .nil rfl rfl rfl ?_ (.inl rfl)
  have h2 : s.n + 1 < l.length := by have := of_decide_eq_true h0; omega
  refine ⟨_, _, rfl, ?_⟩
  simp only [go_sem, RS.step, if_pos h2]
 ·refine sk ?_
  refine Exec.retsMu hR te_ok rfl .nil rfl rfl rfl ?_ (.inl rfl)
  have h2 : ¬ (s.n + 1 < l.length) := by have := of_decide_eq_false h0; omega
  refine ⟨_, _, rfl, ?_⟩
  simp only [go_sem, RS.step, if_neg h2]
theorem rfail_ok (l : List Tk) (s : RS) (hk : TkOk l) (hn : s.n < l.length) : FnM Laid Tryz.prog 154 134 [tksD l, iv s.n, iv s.b, iv s.m] [.lp 900 0] (.ret (rfC l (s.fail l)) (.tup [])) := by
 refine FnM_of Tryz.func154 Tryz.ntmps154 rfl (by as_aux_lemma => kernel_rfl) (Nat.le_of_ble_eq_true rfl) (fun R b0 hR => ?_)
 obtain ⟨_, b, cs, T, C⟩ := R
 obtain rfl : _ = Tryz.prog := hR.p
 refine sreg te_ok ?_
 refine Exec.cond_split rfl (fun h0 => ?_) (fun h0 => ?_)
 ·apply Exec.free (st := _) 16 15 [(0, 1), (0, 2), (0, 3), (0, 4), (0, 5), (1, 5), (2, 5), (3, 5), (4, 5), (0, 6), (1, 6), (2, 6), (3, 6), (4, 6), (0, 7), (1, 7), (2, 7), (3, 7), (4, 7), (0, 8), (1, 8), (2, 8), (3, 8), (4, 8), (0, 9), (0, 10), (0, 11)] te_ok (by as_aux_lemma => kernel_rfl) rfl (by as_aux_lemma => kernel_rfl)
  ·intro o Q hQ
   simp only [go_sem]
   repeat refine ob2 ?_
   exact hQ
  ·rfl
  refine Exec.retsMu hR te_ok rfl .nil rfl rfl rfl ?_ (.inl rfl)
  have h2 : s.b < 0 := of_decide_eq_true h0
  refine ⟨_, _, rfl, ?_⟩
  simp only [go_sem, RS.fail, if_pos h2]
 ·refine sk ?_
  refine Exec.retsMu hR te_ok rfl .nil rfl rfl rfl ?_ (.inl rfl)
  have h2 : ¬ s.b < 0 := of_decide_eq_false h0
  refine ⟨_, _, rfl, ?_⟩
  simp only [go_sem, RS.fail, if_neg h2]
theorem rmuch_ok (l : List Tk) (s : RS) (a : Int) : FnM Laid Tryz.prog 109 134 [tksD l, iv s.n, iv s.b, iv s.m] [.lp 900 0, .d (iv a)] (.ret (rfC l (s.much a)) (.tup [])) := by
 refine FnM_of Tryz.func109 Tryz.ntmps109 rfl (by as_aux_lemma => kernel_rfl) (Nat.le_of_ble_eq_true rfl) (fun R b0 hR => ?_)
 obtain ⟨_, b, cs, T, C⟩ := R
 obtain rfl : _ = Tryz.prog := hR.p
 refine sreg te_ok ?_
 refine Exec.cond_split rfl (fun h0 => ?_) (fun h0 => ?_)
 ·refine Exec.reg te_ok ?_
  refine Exec.retsMu hR te_ok rfl .nil rfl rfl rfl ?_ (.inl rfl)
  refine ⟨_, _, rfl, ?_⟩
  have h2 := h0
  simp only [go_sem, RS.much, if_pos h2]
 ·refine sk ?_
  refine Exec.retsMu hR te_ok rfl .nil rfl rfl rfl ?_ (.inl rfl)
  refine ⟨_, _, rfl, ?_⟩
  have h2 : ¬ ((decide (s.m < 0) || decide (a < s.m)) = true) := by rw [h0]; decide
  simp only [go_sem, RS.much, if_neg h2]
theorem ris_ok (l : List Tk) (s : RS) (w : List UInt8) (hk : TkOk l) (hn : s.n < l.length) : FnM Laid Tryz.prog 110 134 [tksD l, iv s.n, iv s.b, iv s.m] [.lp 900 0, .d (sv w)] (.ret (rfC l (s)) (bv (isR l w s))) := by
 refine FnM_of Tryz.func110 Tryz.ntmps110 rfl (by as_aux_lemma => kernel_rfl) (Nat.le_of_ble_eq_true rfl) (fun R b0 hR => ?_)
 obtain ⟨_, b, cs, T, C⟩ := R
 obtain rfl : _ = Tryz.prog := hR.p
 refine sreg te_ok ?_
 refine sq ?_
 apply Exec.regionL te_ok
 ·intro o Q hQ
  simp only [go_sem]
  repeat refine ob2 ?_
  refine kcallM 900 hR.inv te_ok rfl rfl rfl rfl rfl rfl rfl rfl rfl (rnext_ok l s hk hn) ?_
  simp only [go_sem]
  repeat refine ob2 ?_
  exact hQ
 refine sreg te_ok ?_
 refine Exec.retsMu hR te_ok rfl .nil rfl rfl rfl ?_ (.inr ⟨_, rfl⟩)
 refine ⟨_, _, rfl, ?_⟩
 simp only [go_sem, isR, isP, Bool.and_assoc]
theorem rfree_ok (l : List Tk) (s : RS) (hk : TkOk l) (hn : s.n < l.length) : FnM Laid Tryz.prog 194 134 [tksD l, iv s.n, iv s.b, iv s.m] [.lp 900 0] (.ret (rfC l (s)) (bv (freeR l s))) := by
 refine FnM_of Tryz.func194 Tryz.ntmps194 rfl (by as_aux_lemma => kernel_rfl) (Nat.le_of_ble_eq_true rfl) (fun R b0 hR => ?_)
 obtain ⟨_, b, cs, T, C⟩ := R
 obtain rfl : _ = Tryz.prog := hR.p
 refine sreg te_ok ?_
 refine sq ?_
 apply Exec.regionL te_ok
 ·intro o Q hQ
  simp only [go_sem]
  repeat refine ob2 ?_
  refine kcallM 900 hR.inv te_ok rfl rfl rfl rfl rfl rfl rfl rfl rfl (rnext_ok l s hk hn) ?_
  simp only [go_sem]
  repeat refine ob2 ?_
  exact hQ
 refine sq ?_
 apply Exec.regionL te_ok
 ·intro o Q hQ
  simp only [go_sem]
  repeat refine ob2 ?_
  refine kcallG hR.inv te_ok rfl rfl rfl rfl rfl rfl ob1 (fun hq => r2free_ok _ (hk.tx _ hn)) ?_
  simp only [go_sem]
  repeat refine ob2 ?_
  exact hQ
 refine Exec.retsMu hR te_ok rfl .nil rfl rfl rfl ?_ (.inr ⟨_, rfl⟩)
 refine ⟨_, _, rfl, ?_⟩
 simp only [go_sem, freeR, nameB, Bool.and_assoc]
end Go.Proofs.YtonchjamoblioaaGreatDoor
namespace Go.Proofs.YtonchjamoblioaaGreatDoor
open Go.Kin
set_option maxRecDepth 100000
set_option maxHeartbeats 0
theorem rmust_ok (l : List Tk) (s : RS) (w : List UInt8) (hk : TkOk l) (hn : s.n < l.length) : FnM Laid Tryz.prog 106 134 [tksD l, iv s.n, iv s.b, iv s.m] [.lp 900 0, .d (sv w)] (.ret (rfC l (mustR l w s)) (.tup [])) := by
 refine FnM_of Tryz.func106 Tryz.ntmps106 rfl (by as_aux_lemma => kernel_rfl) (Nat.le_of_ble_eq_true rfl) (fun R b0 hR => ?_)
 obtain ⟨_, b, cs, T, C⟩ := R
 obtain rfl : _ = Tryz.prog := hR.p
 refine sq ?_
 refine sq ?_
 apply Exec.regionL te_ok
 ·intro o Q hQ
  simp only [go_sem]
  repeat refine ob2 ?_
  refine kcallM 900 hR.inv te_ok rfl rfl rfl rfl rfl rfl rfl rfl rfl (ris_ok l _ _ hk (by assumption)) ?_
  simp only [go_sem]
  repeat refine ob2 ?_
  exact hQ
 refine Exec.cond_split rfl (fun h0 => ?_) (fun h0 => ?_)
 ·refine sq ?_
  apply Exec.regionL te_ok
  ·intro o Q hQ
   simp only [go_sem]
   repeat refine ob2 ?_
   refine kcallM 900 hR.inv te_ok rfl rfl rfl rfl rfl rfl rfl rfl rfl (rfail_ok l _ hk (by assumption)) ?_
   simp only [go_sem]
   repeat refine ob2 ?_
   exact hQ
  refine Exec.retsMu hR te_ok rfl .nil rfl rfl rfl ?_ (.inr ⟨_, rfl⟩)
  have h2 : ¬ (isR l w s = true) := by simp at h0; rw [h0]; decide
  refine ⟨_, _, rfl, ?_⟩
  simp only [go_sem, mustR, if_neg h2]
 ·refine sk ?_
  apply Exec.regionL te_ok
  ·intro o Q hQ
   simp only [go_sem]
   repeat refine ob2 ?_
   refine kcallM 900 hR.inv te_ok rfl rfl rfl rfl rfl rfl rfl rfl rfl (rstep_ok l _ hk (by assumption)) ?_
   simp only [go_sem]
   repeat refine ob2 ?_
   exact hQ
  refine Exec.retsMu hR te_ok rfl .nil rfl rfl rfl ?_ (.inl rfl)
  have h2 : isR l w s = true := by simpa using h0
  refine ⟨_, _, rfl, ?_⟩
  simp only [go_sem, mustR, if_pos h2]
theorem rname_ok (l : List Tk) (s : RS) (hk : TkOk l) (hn : s.n < l.length) : FnM Laid Tryz.prog 156 134 [tksD l, iv s.n, iv s.b, iv s.m] [.lp 900 0] (.ret (rfC l (nameS l s)) (sv (nameT l s))) := by
 refine FnM_of Tryz.func156 Tryz.ntmps156 rfl (by as_aux_lemma => kernel_rfl) (Nat.le_of_ble_eq_true rfl) (fun R b0 hR => ?_)
 obtain ⟨_, b, cs, T, C⟩ := R
 obtain rfl : _ = Tryz.prog := hR.p
 have htx := hk.tx _ hn
 refine sreg te_ok ?_
 refine sq ?_
 refine sq ?_
 apply Exec.regionL te_ok
 ·intro o Q hQ
  simp only [go_sem]
  repeat refine ob2 ?_
  refine kcallM 900 hR.inv te_ok rfl rfl rfl rfl rfl rfl rfl rfl rfl (rfree_ok l s hk hn) ?_
  simp only [go_sem]
  repeat refine ob2 ?_
  exact hQ
 refine Exec.cond_split rfl (fun h0 => ?_) (fun h0 => ?_)
 ·refine sq ?_
  apply Exec.regionL te_ok
  ·intro o Q hQ
   simp only [go_sem]
   repeat refine ob2 ?_
   refine kcallM 900 hR.inv te_ok rfl rfl rfl rfl rfl rfl rfl rfl rfl (rfail_ok l _ hk (by assumption)) ?_
   simp only [go_sem]
   repeat refine ob2 ?_
   exact hQ
  refine sreg te_ok ?_
  refine Exec.retsMu hR te_ok rfl .nil rfl rfl rfl ?_ (.inr ⟨_, rfl⟩)
  have h2 : ¬ (freeR l s = true) := by simp at h0; rw [h0]; decide
  refine ⟨_, _, rfl, ?_⟩
  simp only [go_sem, nameS, nameT, if_neg h2]
 ·refine sk ?_
  refine sq ?_
  apply Exec.regionL te_ok
  ·intro o Q hQ
   simp only [go_sem]
   repeat refine ob2 ?_
   refine kcallM 900 hR.inv te_ok rfl rfl rfl rfl rfl rfl rfl rfl rfl (rnext_ok l s hk hn) ?_
   simp only [go_sem]
   repeat refine ob2 ?_
   exact hQ
  refine sq ?_
  apply Exec.regionL te_ok
  ·intro o Q hQ
   simp only [go_sem]
   repeat refine ob2 ?_
   refine kcallM 900 hR.inv te_ok rfl rfl rfl rfl rfl rfl rfl rfl rfl (rstep_ok l _ hk (by assumption)) ?_
   simp only [go_sem]
   repeat refine ob2 ?_
   exact hQ
  refine sreg te_ok ?_
  refine Exec.retsMu hR te_ok rfl .nil rfl rfl rfl ?_ (.inr ⟨_, rfl⟩)
  have h2 : freeR l s = true := by simpa using h0
  refine ⟨_, _, rfl, ?_⟩
  simp only [go_sem, nameS, nameT, if_pos h2]
theorem rvertex_ok (l : List Tk) (s : RS) (hk : TkOk l) (hn : s.n < l.length) : FnM Laid Tryz.prog 155 134 [tksD l, iv s.n, iv s.b, iv s.m] [.lp 900 0] (.ret (rfC l (vertexS l s)) (sv (vertexT l s))) := by
 refine FnM_of Tryz.func155 Tryz.ntmps155 rfl (by as_aux_lemma => kernel_rfl) (Nat.le_of_ble_eq_true rfl) (fun R b0 hR => ?_)
 obtain ⟨_, b, cs, T, C⟩ := R
 obtain rfl : _ = Tryz.prog := hR.p
 refine sreg te_ok ?_
 refine sq ?_
 apply Exec.regionL te_ok
 ·intro o Q hQ
  simp only [go_sem]
  repeat refine ob2 ?_
  refine kcallM 900 hR.inv te_ok rfl rfl rfl rfl rfl rfl rfl rfl rfl (rmust_ok l (s) [40] hk hn) ?_
  simp only [go_sem]
  repeat refine ob2 ?_
  exact hQ
 refine sq ?_
 apply Exec.regionL te_ok
 ·intro o Q hQ
  simp only [go_sem]
  repeat refine ob2 ?_
  refine kcallM 900 hR.inv te_ok rfl rfl rfl rfl rfl rfl rfl rfl rfl (rname_ok l (mustR l [40] s) hk (must_lt hn)) ?_
  simp only [go_sem]
  repeat refine ob2 ?_
  exact hQ
 refine sq ?_
 apply Exec.regionL te_ok
 ·intro o Q hQ
  simp only [go_sem]
  repeat refine ob2 ?_
  refine kcallM 900 hR.inv te_ok rfl rfl rfl rfl rfl rfl rfl rfl rfl (rmust_ok l (nameS l (mustR l [40] s)) [41] hk (nameS_lt (must_lt hn))) ?_
  simp only [go_sem]
  repeat refine ob2 ?_
  exact hQ
 refine sreg te_ok ?_
 refine Exec.retsMu hR te_ok rfl .nil rfl rfl rfl ?_ (.inr ⟨_, rfl⟩)
 refine ⟨_, _, rfl, ?_⟩
 simp only [go_sem, vertexS, vertexT]
theorem rtold_ok (l : List Tk) (s : RS) (hk : TkOk l) (hn : s.n < l.length) : FnM Laid Tryz.prog 113 134 [tksD l, iv s.n, iv s.b, iv s.m] [.lp 900 0] (.ret (rfC l (toldS l s)) (.ag (opC (toldO l s)))) := by
 refine FnM_of Tryz.func113 Tryz.ntmps113 rfl (by as_aux_lemma => kernel_rfl) (Nat.le_of_ble_eq_true rfl) (fun R b0 hR => ?_)
 obtain ⟨_, b, cs, T, C⟩ := R
 obtain rfl : _ = Tryz.prog := hR.p
 have h1 := nameS_lt hn
 refine sreg te_ok ?_
 refine sq ?_
 apply Exec.regionL te_ok
 ·intro o Q hQ
  simp only [go_sem]
  repeat refine ob2 ?_
  refine kcallM 900 hR.inv te_ok rfl rfl rfl rfl rfl rfl rfl rfl rfl (rname_ok l (s) hk hn) ?_
  simp only [go_sem]
  repeat refine ob2 ?_
  exact hQ
 refine sq ?_
 refine sq ?_
 apply Exec.regionL te_ok
 ·intro o Q hQ
  simp only [go_sem]
  repeat refine ob2 ?_
  refine kcallM 900 hR.inv te_ok rfl rfl rfl rfl rfl rfl rfl rfl rfl (ris_ok l (nameS l s) [46] hk h1) ?_
  simp only [go_sem]
  repeat refine ob2 ?_
  exact hQ
 refine Exec.cond_split rfl (fun h0 => ?_) (fun h0 => ?_)
 ·refine sq ?_
  apply Exec.regionL te_ok
  ·intro o Q hQ
   simp only [go_sem]
   repeat refine ob2 ?_
   refine kcallM 900 hR.inv te_ok rfl rfl rfl rfl rfl rfl rfl rfl rfl (rstep_ok l (nameS l s) hk h1) ?_
   simp only [go_sem]
   repeat refine ob2 ?_
   exact hQ
  refine sreg te_ok ?_
  apply Exec.regionL te_ok
  ·intro o Q hQ
   simp only [go_sem]
   repeat refine ob2 ?_
   refine kcallM 900 hR.inv te_ok rfl rfl rfl rfl rfl rfl rfl rfl rfl (rname_ok l ((nameS l s).step l) hk (step_lt h1)) ?_
   simp only [go_sem]
   repeat refine ob2 ?_
   exact hQ
  refine sreg te_ok ?_
  refine Exec.retsMu hR te_ok rfl .nil rfl rfl rfl ?_ (.inr ⟨_, rfl⟩)
  refine ⟨_, _, rfl, ?_⟩
  simp only [go_sem, toldS, toldO, if_pos h0]
 ·refine sk ?_
  refine sreg te_ok ?_
  refine Exec.retsMu hR te_ok rfl .nil rfl rfl rfl ?_ (.inr ⟨_, rfl⟩)
  have h2 : ¬ (isR l [46] (nameS l s) = true) := by rw [h0]; decide
  refine ⟨_, _, rfl, ?_⟩
  simp only [go_sem, toldS, toldO, if_neg h2]
theorem roperand_ok (l : List Tk) (s : RS) (hk : TkOk l) (hn : s.n < l.length) : FnM Laid Tryz.prog 157 134 [tksD l, iv s.n, iv s.b, iv s.m] [.lp 900 0] (.ret (rfC l (opdS l s)) (.ag (opC (opdO l s)))) := by
 refine FnM_of Tryz.func157 Tryz.ntmps157 rfl (by as_aux_lemma => kernel_rfl) (Nat.le_of_ble_eq_true rfl) (fun R b0 hR => ?_)
 obtain ⟨_, b, cs, T, C⟩ := R
 obtain rfl : _ = Tryz.prog := hR.p
 refine sreg te_ok ?_
 refine sq ?_
 apply Exec.regionL te_ok
 ·intro o Q hQ
  simp only [go_sem]
  repeat refine ob2 ?_
  refine kcallM 900 hR.inv te_ok rfl rfl rfl rfl rfl rfl rfl rfl rfl (rnext_ok l s hk hn) ?_
  simp only [go_sem]
  repeat refine ob2 ?_
  exact hQ
 refine sq ?_
 refine sreg te_ok ?_
 refine Exec.cond_split rfl (fun h0 => ?_) (fun h0 => ?_)
 ·have h2 : opdR l s = true := by simpa [opdR, opdB, Bool.and_assoc] using h0
  refine sq ?_
  apply Exec.regionL te_ok
  ·intro o Q hQ
   simp only [go_sem]
   repeat refine ob2 ?_
   refine kcallM 900 hR.inv te_ok rfl rfl rfl rfl rfl rfl rfl rfl rfl (rstep_ok l (s) hk hn) ?_
   simp only [go_sem]
   repeat refine ob2 ?_
   exact hQ
  refine sreg te_ok ?_
  refine Exec.retsMu hR te_ok rfl .nil rfl rfl rfl ?_ (.inr ⟨_, rfl⟩)
  refine ⟨_, _, rfl, ?_⟩
  simp only [go_sem, opdS, opdO, if_pos h2]
 ·have h2 : ¬ (opdR l s = true) := by intro h; rw [show opdR l s = _ from rfl] at h; simp only [opdR, opdB] at h; rw [h] at h0; cases h0
  refine sk ?_
  refine sq ?_
  apply Exec.regionL te_ok
  ·intro o Q hQ
   simp only [go_sem]
   repeat refine ob2 ?_
   refine kcallM 900 hR.inv te_ok rfl rfl rfl rfl rfl rfl rfl rfl rfl (rtold_ok l s hk hn) ?_
   simp only [go_sem]
   repeat refine ob2 ?_
   exact hQ
  refine Exec.retsMu hR te_ok rfl .nil rfl rfl rfl ?_ (.inr ⟨_, rfl⟩)
  refine ⟨_, _, rfl, ?_⟩
  simp only [go_sem, opdS, opdO, if_neg h2]
theorem rnumber_ok (l : List Tk) (s : RS) (hk : TkOk l) (hn : s.n < l.length) : FnM Laid Tryz.prog 114 134 [tksD l, iv s.n, iv s.b, iv s.m] [.lp 900 0] (.ret (rfC l (numS l s)) (iv (numV l s))) := by
 refine FnM_of Tryz.func114 Tryz.ntmps114 rfl (by as_aux_lemma => kernel_rfl) (Nat.le_of_ble_eq_true rfl) (fun R b0 hR => ?_)
 obtain ⟨_, b, cs, T, C⟩ := R
 obtain rfl : _ = Tryz.prog := hR.p
 refine sreg te_ok ?_
 refine sq ?_
 apply Exec.regionL te_ok
 ·intro o Q hQ
  simp only [go_sem]
  repeat refine ob2 ?_
  refine kcallM 900 hR.inv te_ok rfl rfl rfl rfl rfl rfl rfl rfl rfl (rnext_ok l s hk hn) ?_
  simp only [go_sem]
  repeat refine ob2 ?_
  exact hQ
 refine sq ?_
 refine sreg te_ok ?_
 refine Exec.cond_split rfl (fun h0 => ?_) (fun h0 => ?_)
 ·have h2 : numO l s = true := by simpa [numO] using h0
  refine sq ?_
  apply Exec.regionL te_ok
  ·intro o Q hQ
   simp only [go_sem]
   repeat refine ob2 ?_
   refine kcallM 900 hR.inv te_ok rfl rfl rfl rfl rfl rfl rfl rfl rfl (rfail_ok l s hk hn) ?_
   simp only [go_sem]
   repeat refine ob2 ?_
   exact hQ
  refine sreg te_ok ?_
  refine Exec.retsMu hR te_ok rfl .nil rfl rfl rfl ?_ (.inr ⟨_, rfl⟩)
  refine ⟨_, _, rfl, ?_⟩
  simp only [go_sem, numS, numV, if_pos h2]
 ·have h2 : ¬ (numO l s = true) := by intro h; simp only [numO] at h; rw [← bne] at h; rw [h] at h0; cases h0
  refine sk ?_
  refine sq ?_
  refine sreg te_ok ?_
  refine Exec.cond_split rfl (fun h1 => ?_) (fun h1 => ?_)
  ·have h3 : numB (nth l s.n).v.n = true := h1
   apply Exec.regionL te_ok
   ·intro o Q hQ
    simp only [go_sem]
    repeat refine ob2 ?_
    refine kcallM 900 hR.inv te_ok rfl rfl rfl rfl rfl rfl rfl rfl rfl (rmuch_ok l s _) ?_
    simp only [go_sem]
    repeat refine ob2 ?_
    exact hQ
   refine sq ?_
   apply Exec.regionL te_ok
   ·intro o Q hQ
    simp only [go_sem]
    repeat refine ob2 ?_
    refine kcallM 900 hR.inv te_ok rfl rfl rfl rfl rfl rfl rfl rfl rfl (rstep_ok l (s.much (nth l s.n).a) hk hn) ?_
    simp only [go_sem]
    repeat refine ob2 ?_
    exact hQ
   refine sreg te_ok ?_
   refine Exec.retsMu hR te_ok rfl .nil rfl rfl rfl ?_ (.inr ⟨_, rfl⟩)
   refine ⟨_, _, rfl, ?_⟩
   simp only [go_sem, numS, numV, if_neg h2, if_pos h3]
  ·have h3 : ¬ (numB (nth l s.n).v.n = true) := by intro h; simp only [numB] at h; rw [h] at h1; cases h1
   refine sk ?_
   refine sq ?_
   apply Exec.regionL te_ok
   ·intro o Q hQ
    simp only [go_sem]
    repeat refine ob2 ?_
    refine kcallM 900 hR.inv te_ok rfl rfl rfl rfl rfl rfl rfl rfl rfl (rstep_ok l (s) hk hn) ?_
    simp only [go_sem]
    repeat refine ob2 ?_
    exact hQ
   refine sreg te_ok ?_
   refine Exec.retsMu hR te_ok rfl .nil rfl rfl rfl ?_ (.inr ⟨_, rfl⟩)
   refine ⟨_, _, rfl, ?_⟩
   simp only [go_sem, numS, numV, if_neg h2, if_neg h3]
theorem rcond_ok (l : List Tk) (s : RS) (hk : TkOk l) (hn : s.n < l.length) : FnM Laid Tryz.prog 112 134 [tksD l, iv s.n, iv s.b, iv s.m] [.lp 900 0] (.ret (rfC l ((condR l s).1)) (.ag (cdC (condR l s).2))) := by
 refine FnM_of Tryz.func112 Tryz.ntmps112 rfl (by as_aux_lemma => kernel_rfl) (Nat.le_of_ble_eq_true rfl) (fun R b0 hR => ?_)
 obtain ⟨_, b, cs, T, C⟩ := R
 obtain rfl : _ = Tryz.prog := hR.p
 have hs1 := opdS_lt hn
 refine sreg te_ok ?_
 refine sq ?_
 apply Exec.regionL te_ok
 ·intro o Q hQ
  simp only [go_sem]
  repeat refine ob2 ?_
  refine kcallM 900 hR.inv te_ok rfl rfl rfl rfl rfl rfl rfl rfl rfl (roperand_ok l s hk hn) ?_
  simp only [go_sem]
  repeat refine ob2 ?_
  exact hQ
 refine sq ?_
 refine Exec.block ?_
 refine sq ?_
 apply Exec.regionL te_ok
 ·intro o Q hQ
  simp only [go_sem]
  repeat refine ob2 ?_
  refine kcallM 900 hR.inv te_ok rfl rfl rfl rfl rfl rfl rfl rfl rfl (ris_ok l (opdS l s) [61] hk hs1) ?_
  simp only [go_sem]
  repeat refine ob2 ?_
  exact hQ
 refine Exec.cond_split rfl (fun h0 => ?_) (fun h0 => ?_)
 ·refine Exec.reg te_ok ?_
  refine Exec.inBlock ?_
  refine sq ?_
  apply Exec.regionL te_ok
  ·intro o Q hQ
   simp only [go_sem]
   repeat refine ob2 ?_
   refine kcallM 900 hR.inv te_ok rfl rfl rfl rfl rfl rfl rfl rfl rfl (rstep_ok l (opdS l s) hk hs1) ?_
   simp only [go_sem]
   repeat refine ob2 ?_
   exact hQ
  refine sq ?_
  apply Exec.regionL te_ok
  ·intro o Q hQ
   simp only [go_sem]
   repeat refine ob2 ?_
   refine kcallM 900 hR.inv te_ok rfl rfl rfl rfl rfl rfl rfl rfl rfl (roperand_ok l ((opdS l s).step l) hk (step_lt hs1)) ?_
   simp only [go_sem]
   repeat refine ob2 ?_
   exact hQ
  refine sreg te_ok ?_
  refine Exec.retsMu hR te_ok rfl .nil rfl rfl rfl ?_ (.inr ⟨_, rfl⟩)
  refine ⟨_, _, rfl, ?_⟩
  simp only [go_sem, condR, cmpsW, cmpR, if_pos h0]
  try simp
 ·refine sq ?_
  apply Exec.regionL te_ok
  ·intro o Q hQ
   simp only [go_sem]
   repeat refine ob2 ?_
   refine kcallM 900 hR.inv te_ok rfl rfl rfl rfl rfl rfl rfl rfl rfl (ris_ok l (opdS l s) [33, 61] hk hs1) ?_
   simp only [go_sem]
   repeat refine ob2 ?_
   exact hQ
  refine Exec.cond_split rfl (fun h1 => ?_) (fun h1 => ?_)
  ·refine Exec.reg te_ok ?_
   refine Exec.inBlock ?_
   refine sq ?_
   apply Exec.regionL te_ok
   ·intro o Q hQ
    simp only [go_sem]
    repeat refine ob2 ?_
    refine kcallM 900 hR.inv te_ok rfl rfl rfl rfl rfl rfl rfl rfl rfl (rstep_ok l (opdS l s) hk hs1) ?_
    simp only [go_sem]
    repeat refine ob2 ?_
    exact hQ
   refine sq ?_
   apply Exec.regionL te_ok
   ·intro o Q hQ
    simp only [go_sem]
    repeat refine ob2 ?_
    refine kcallM 900 hR.inv te_ok rfl rfl rfl rfl rfl rfl rfl rfl rfl (roperand_ok l ((opdS l s).step l) hk (step_lt hs1)) ?_
    simp only [go_sem]
    repeat refine ob2 ?_
    exact hQ
   refine sreg te_ok ?_
   refine Exec.retsMu hR te_ok rfl .nil rfl rfl rfl ?_ (.inr ⟨_, rfl⟩)
   have hn0 : ¬ (isR l [61] (opdS l s) = true) := by rw [h0]; decide
   refine ⟨_, _, rfl, ?_⟩
   simp only [go_sem, condR, cmpsW, cmpR, if_neg hn0, if_pos h1]
   try simp
  ·refine sq ?_
   apply Exec.regionL te_ok
   ·intro o Q hQ
    simp only [go_sem]
    repeat refine ob2 ?_
    refine kcallM 900 hR.inv te_ok rfl rfl rfl rfl rfl rfl rfl rfl rfl (ris_ok l (opdS l s) [60] hk hs1) ?_
    simp only [go_sem]
    repeat refine ob2 ?_
    exact hQ
   refine Exec.cond_split rfl (fun h2 => ?_) (fun h2 => ?_)
   ·refine Exec.reg te_ok ?_
    refine Exec.inBlock ?_
    refine sq ?_
    apply Exec.regionL te_ok
    ·intro o Q hQ
     simp only [go_sem]
     repeat refine ob2 ?_
     refine kcallM 900 hR.inv te_ok rfl rfl rfl rfl rfl rfl rfl rfl rfl (rstep_ok l (opdS l s) hk hs1) ?_
     simp only [go_sem]
     repeat refine ob2 ?_
     exact hQ
    refine sq ?_
    apply Exec.regionL te_ok
    ·intro o Q hQ
     simp only [go_sem]
     repeat refine ob2 ?_
     refine kcallM 900 hR.inv te_ok rfl rfl rfl rfl rfl rfl rfl rfl rfl (roperand_ok l ((opdS l s).step l) hk (step_lt hs1)) ?_
     simp only [go_sem]
     repeat refine ob2 ?_
     exact hQ
    refine sreg te_ok ?_
    refine Exec.retsMu hR te_ok rfl .nil rfl rfl rfl ?_ (.inr ⟨_, rfl⟩)
    have hn0 : ¬ (isR l [61] (opdS l s) = true) := by rw [h0]; decide
    have hn1 : ¬ (isR l [33, 61] (opdS l s) = true) := by rw [h1]; decide
    refine ⟨_, _, rfl, ?_⟩
    simp only [go_sem, condR, cmpsW, cmpR, if_neg hn0, if_neg hn1, if_pos h2]
    try simp
   ·refine sq ?_
    apply Exec.regionL te_ok
    ·intro o Q hQ
     simp only [go_sem]
     repeat refine ob2 ?_
     refine kcallM 900 hR.inv te_ok rfl rfl rfl rfl rfl rfl rfl rfl rfl (ris_ok l (opdS l s) [60, 61] hk hs1) ?_
     simp only [go_sem]
     repeat refine ob2 ?_
     exact hQ
    refine Exec.cond_split rfl (fun h3 => ?_) (fun h3 => ?_)
    ·refine Exec.reg te_ok ?_
     refine Exec.inBlock ?_
     refine sq ?_
     apply Exec.regionL te_ok
     ·intro o Q hQ
      simp only [go_sem]
      repeat refine ob2 ?_
      refine kcallM 900 hR.inv te_ok rfl rfl rfl rfl rfl rfl rfl rfl rfl (rstep_ok l (opdS l s) hk hs1) ?_
      simp only [go_sem]
      repeat refine ob2 ?_
      exact hQ
     refine sq ?_
     apply Exec.regionL te_ok
     ·intro o Q hQ
      simp only [go_sem]
      repeat refine ob2 ?_
      refine kcallM 900 hR.inv te_ok rfl rfl rfl rfl rfl rfl rfl rfl rfl (roperand_ok l ((opdS l s).step l) hk (step_lt hs1)) ?_
      simp only [go_sem]
      repeat refine ob2 ?_
      exact hQ
     refine sreg te_ok ?_
     refine Exec.retsMu hR te_ok rfl .nil rfl rfl rfl ?_ (.inr ⟨_, rfl⟩)
     have hn0 : ¬ (isR l [61] (opdS l s) = true) := by rw [h0]; decide
     have hn1 : ¬ (isR l [33, 61] (opdS l s) = true) := by rw [h1]; decide
     have hn2 : ¬ (isR l [60] (opdS l s) = true) := by rw [h2]; decide
     refine ⟨_, _, rfl, ?_⟩
     simp only [go_sem, condR, cmpsW, cmpR, if_neg hn0, if_neg hn1, if_neg hn2, if_pos h3]
     try simp
    ·refine sq ?_
     apply Exec.regionL te_ok
     ·intro o Q hQ
      simp only [go_sem]
      repeat refine ob2 ?_
      refine kcallM 900 hR.inv te_ok rfl rfl rfl rfl rfl rfl rfl rfl rfl (ris_ok l (opdS l s) [62] hk hs1) ?_
      simp only [go_sem]
      repeat refine ob2 ?_
      exact hQ
     refine Exec.cond_split rfl (fun h4 => ?_) (fun h4 => ?_)
     ·refine Exec.reg te_ok ?_
      refine Exec.inBlock ?_
      refine sq ?_
      apply Exec.regionL te_ok
      ·intro o Q hQ
       simp only [go_sem]
       repeat refine ob2 ?_
       refine kcallM 900 hR.inv te_ok rfl rfl rfl rfl rfl rfl rfl rfl rfl (rstep_ok l (opdS l s) hk hs1) ?_
       simp only [go_sem]
       repeat refine ob2 ?_
       exact hQ
      refine sq ?_
      apply Exec.regionL te_ok
      ·intro o Q hQ
       simp only [go_sem]
       repeat refine ob2 ?_
       refine kcallM 900 hR.inv te_ok rfl rfl rfl rfl rfl rfl rfl rfl rfl (roperand_ok l ((opdS l s).step l) hk (step_lt hs1)) ?_
       simp only [go_sem]
       repeat refine ob2 ?_
       exact hQ
      refine sreg te_ok ?_
      refine Exec.retsMu hR te_ok rfl .nil rfl rfl rfl ?_ (.inr ⟨_, rfl⟩)
      have hn0 : ¬ (isR l [61] (opdS l s) = true) := by rw [h0]; decide
      have hn1 : ¬ (isR l [33, 61] (opdS l s) = true) := by rw [h1]; decide
      have hn2 : ¬ (isR l [60] (opdS l s) = true) := by rw [h2]; decide
      have hn3 : ¬ (isR l [60, 61] (opdS l s) = true) := by rw [h3]; decide
      refine ⟨_, _, rfl, ?_⟩
      simp only [go_sem, condR, cmpsW, cmpR, if_neg hn0, if_neg hn1, if_neg hn2, if_neg hn3, if_pos h4]
      try simp
     ·refine sq ?_
      apply Exec.regionL te_ok
      ·intro o Q hQ
       simp only [go_sem]
       repeat refine ob2 ?_
       refine kcallM 900 hR.inv te_ok rfl rfl rfl rfl rfl rfl rfl rfl rfl (ris_ok l (opdS l s) [62, 61] hk hs1) ?_
       simp only [go_sem]
       repeat refine ob2 ?_
       exact hQ
      refine Exec.cond_split rfl (fun h5 => ?_) (fun h5 => ?_)
      ·refine Exec.reg te_ok ?_
       refine Exec.inBlock ?_
       refine sq ?_
       apply Exec.regionL te_ok
       ·intro o Q hQ
        simp only [go_sem]
        repeat refine ob2 ?_
        refine kcallM 900 hR.inv te_ok rfl rfl rfl rfl rfl rfl rfl rfl rfl (rstep_ok l (opdS l s) hk hs1) ?_
        simp only [go_sem]
        repeat refine ob2 ?_
        exact hQ
       refine sq ?_
       apply Exec.regionL te_ok
       ·intro o Q hQ
        simp only [go_sem]
        repeat refine ob2 ?_
        refine kcallM 900 hR.inv te_ok rfl rfl rfl rfl rfl rfl rfl rfl rfl (roperand_ok l ((opdS l s).step l) hk (step_lt hs1)) ?_
        simp only [go_sem]
        repeat refine ob2 ?_
        exact hQ
       refine sreg te_ok ?_
       refine Exec.retsMu hR te_ok rfl .nil rfl rfl rfl ?_ (.inr ⟨_, rfl⟩)
       have hn0 : ¬ (isR l [61] (opdS l s) = true) := by rw [h0]; decide
       have hn1 : ¬ (isR l [33, 61] (opdS l s) = true) := by rw [h1]; decide
       have hn2 : ¬ (isR l [60] (opdS l s) = true) := by rw [h2]; decide
       have hn3 : ¬ (isR l [60, 61] (opdS l s) = true) := by rw [h3]; decide
       have hn4 : ¬ (isR l [62] (opdS l s) = true) := by rw [h4]; decide
       refine ⟨_, _, rfl, ?_⟩
       simp only [go_sem, condR, cmpsW, cmpR, if_neg hn0, if_neg hn1, if_neg hn2, if_neg hn3, if_neg hn4, if_pos h5]
       try simp
      ·refine sq ?_
       apply Exec.regionL te_ok
       ·intro o Q hQ
        simp only [go_sem]
        repeat refine ob2 ?_
        refine kcallM 900 hR.inv te_ok rfl rfl rfl rfl rfl rfl rfl rfl rfl (rfail_ok l (opdS l s) hk hs1) ?_
        simp only [go_sem]
        repeat refine ob2 ?_
        exact hQ
       refine sreg te_ok ?_
       refine Exec.retsMu hR te_ok rfl .nil rfl rfl rfl ?_ (.inr ⟨_, rfl⟩)
       have hn0 : ¬ (isR l [61] (opdS l s) = true) := by rw [h0]; decide
       have hn1 : ¬ (isR l [33, 61] (opdS l s) = true) := by rw [h1]; decide
       have hn2 : ¬ (isR l [60] (opdS l s) = true) := by rw [h2]; decide
       have hn3 : ¬ (isR l [60, 61] (opdS l s) = true) := by rw [h3]; decide
       have hn4 : ¬ (isR l [62] (opdS l s) = true) := by rw [h4]; decide
       have hn5 : ¬ (isR l [62, 61] (opdS l s) = true) := by rw [h5]; decide
       refine ⟨_, _, rfl, ?_⟩
       simp only [go_sem, condR, cmpsW, cmpR, if_neg hn0, if_neg hn1, if_neg hn2, if_neg hn3, if_neg hn4, if_neg hn5, opz]
end Go.Proofs.YtonchjamoblioaaGreatDoor
