/- Steps of a function body on data, and contracts of the functions of the seat, walked. -/
import Derived.Test.YtonchjamoblioaaGreatDoorPDef
set_option linter.unusedSimpArgs false
set_option linter.unusedVariables false
set_option linter.unusedSectionVars false
namespace Go.Proofs.YtonchjamoblioaaGreatDoor
open Go.Kin
set_option maxRecDepth 100000
set_option maxHeartbeats 0
attribute [go_sem] te_2 te_3 te_4 te_5 te_9 te_15 te_20 te_62 te_67 te_69 te_99 te_104 te_152 te_155 te_157 te_172 te_173 te_174
attribute [go_sem] tkC tksD rdC PS.n PS.m PS.adv
theorem keq (a b : Int) : (a == b) = decide (a = b) := by rw [Bool.eq_iff_iff]; simp
theorem token_ok (l : List Tk) (n : Nat) (m : Int) (hn : n < l.length) : FnM Laid Tryz.prog 123 157 [tksD l, iv n, iv m] [.lp 900 0] (.ret [tksD l, iv n, iv m] (.ag (tkC (nth l n)))) := by
 refine FnM_of Tryz.func123 Tryz.ntmps123 rfl (by as_aux_lemma => kernel_rfl) (Nat.le_of_ble_eq_true rfl) (fun R b0 hR => ?_)
 obtain ⟨_, b, cs, T, C⟩ := R
 obtain rfl : _ = Tryz.prog := hR.p
 refine sreg te_ok ?_
 refine sq ?_
 apply Exec.draw (st := _) 12 10 [] [] te_ok (by as_aux_lemma => kernel_rfl) (by as_aux_lemma => kernel_rfl) (by as_aux_lemma => kernel_rfl)
 ·intro u' Q hQ
  simp only [go_sem]
  repeat refine ob2 ?_
  exact hQ
 refine Exec.retsMu hR te_ok rfl .nil rfl rfl rfl ?_ (.inr ⟨_, rfl⟩)
 refine ⟨_, _, rfl, ?_⟩
 simp only [go_sem]
theorem is_ok (l : List Tk) (n : Nat) (m : Int) (w : List UInt8) (hn : n < l.length) (hl : l.length ≤ 1099511627776) : FnM Laid Tryz.prog 129 157 [tksD l, iv n, iv m] [.lp 900 0, .d (sv w)] (.ret (rdC l (isS l w ⟨n, m⟩)) (bv (isP l w ⟨n, m⟩))) := by
 refine FnM_of Tryz.func129 Tryz.ntmps129 rfl (by as_aux_lemma => kernel_rfl) (Nat.le_of_ble_eq_true rfl) (fun R b0 hR => ?_)
 obtain ⟨_, b, cs, T, C⟩ := R
 obtain rfl : _ = Tryz.prog := hR.p
 have hw : IntKind.i64.wrap ((n : Int) + 1) = ((n + 1 : Nat) : Int) := by rw [wrap_id (by constructor <;> omega)]; simp
 refine sq ?_
 apply Exec.regionL te_ok
 ·intro u' Q hQ
  simp only [go_sem, hw]
  repeat refine ob2 ?_
  exact hQ
 refine sq ?_
 apply Exec.regionL te_ok
 ·intro u' Q hQ
  simp only [go_sem, hw]
  repeat refine ob2 ?_
  refine kcallM 900 hR.inv te_ok rfl rfl rfl rfl rfl rfl rfl rfl rfl (token_ok _ _ _ (by assumption)) ?_
  simp only [go_sem, hw]
  repeat refine ob2 ?_
  exact hQ
 refine sq ?_
 refine sq ?_
 apply Exec.regionL te_ok
 ·intro u' Q hQ
  simp only [go_sem, hw]
  repeat refine ob2 ?_
  exact hQ
 refine Exec.cond_split rfl (fun h0 => ?_) (fun h0 => ?_)
 ·refine sq ?_
  apply Exec.regionL te_ok
  ·intro u' Q hQ
   simp only [go_sem, hw]
   repeat refine ob2 ?_
   exact hQ
  refine Exec.retsMu hR te_ok rfl .nil rfl rfl rfl ?_ (.inr ⟨_, rfl⟩)
  have hp : isP l w ⟨n, m⟩ = false := by simp [isP] at h0 ⊢; intro h1; rcases h0 with h0 | h0; exact absurd h1 (by omega); exact h0
  refine ⟨_, _, by rw [isS, if_neg (by rw [hp]; decide), hp], ?_⟩
  simp only [go_sem]
 ·refine sk ?_
  refine sq ?_
  apply Exec.regionL te_ok
  ·intro u' Q hQ
   simp only [go_sem, hw]
   repeat refine ob2 ?_
   exact hQ
  refine sq ?_
  apply Exec.regionL te_ok
  ·intro u' Q hQ
   simp only [go_sem, hw]
   repeat refine ob2 ?_
   exact hQ
  refine Exec.retsMu hR te_ok rfl .nil rfl rfl rfl ?_ (.inr ⟨_, rfl⟩)
  have hp : isP l w ⟨n, m⟩ = true := by simp [isP] at h0 ⊢; exact ⟨by omega, h0.2⟩
  refine ⟨_, _, by rw [isS, if_pos hp, hp], ?_⟩
  simp only [go_sem]
theorem fail_ok (l : List Tk) (n : Nat) (m : Int) (hn : n < l.length) : FnM Laid Tryz.prog 124 157 [tksD l, iv n, iv m] [.lp 900 0] (.pan (.ifc 152 (.ag [iv (nth l n).a]))) := by
 refine FnM_of Tryz.func124 Tryz.ntmps124 rfl (by as_aux_lemma => kernel_rfl) (Nat.le_of_ble_eq_true rfl) (fun R b0 hR => ?_)
 obtain ⟨_, b, cs, T, C⟩ := R
 obtain rfl : _ = Tryz.prog := hR.p
 refine Exec.regStart 8 rfl ?_
 apply Exec.regPart 0 7 1 te_ok rfl
 ·intro u' Q hQ
  simp only [go_sem]
  repeat refine ob2 ?_
  refine kcallM 900 hR.inv te_ok rfl rfl rfl rfl rfl rfl rfl rfl rfl (token_ok _ _ _ (by assumption)) ?_
  simp only [go_sem]
  repeat refine ob2 ?_
  exact hQ
 refine Exec.panicOp rfl rfl rfl rfl ?_
 refine ExecP.endM hR .nil ?_
 exact ⟨_, rfl, by simp only [go_sem]⟩
theorem must_ok (l : List Tk) (n : Nat) (m : Int) (w : List UInt8) (hn : n < l.length) (hl : l.length ≤ 1099511627776) : FnM Laid Tryz.prog 125 157 [tksD l, iv n, iv m] [.lp 900 0, .d (sv w)] (outP 152 l (fun _ => .tup []) (mustP l w ⟨n, m⟩)) := by
 refine FnM_of Tryz.func125 Tryz.ntmps125 rfl (by as_aux_lemma => kernel_rfl) (Nat.le_of_ble_eq_true rfl) (fun R b0 hR => ?_)
 obtain ⟨_, b, cs, T, C⟩ := R
 obtain rfl : _ = Tryz.prog := hR.p
 refine sq ?_
 apply Exec.regionL te_ok
 ·intro u' Q hQ
  simp only [go_sem]
  repeat refine ob2 ?_
  refine kcallM 900 hR.inv te_ok rfl rfl rfl rfl rfl rfl rfl rfl rfl (is_ok _ _ _ _ (by assumption) (by assumption)) ?_
  simp only [go_sem]
  repeat refine ob2 ?_
  exact hQ
 refine Exec.cond_split rfl (fun h0 => ?_) (fun h0 => ?_)
 ·have hs : isS l w ⟨n, m⟩ = ⟨n, m⟩ := by rw [isS, if_neg (by simp at h0; rw [h0]; decide)]
  refine Exec.regStart 2 rfl ?_
  apply Exec.regPart 0 1 1 te_ok rfl
  ·intro u' Q hQ
   simp only [go_sem, hs]
   repeat refine ob2 ?_
   exact hQ
  refine Exec.callP 900 hR.inv rfl rfl rfl rfl rfl rfl rfl rfl rfl (fail_ok _ _ _ (by assumption)) ?_
  refine ExecP.endM hR .nil ?_
  refine ⟨_, by rw [mustP, if_neg (by simp at h0; rw [h0]; decide)]; rfl, ?_⟩
  simp only [go_sem]
 ·have hs : isS l w ⟨n, m⟩ = ⟨n + 1, m⟩ := by rw [isS, if_pos (by simpa using h0)]; rfl
  refine sk ?_
  refine Exec.retsMu hR te_ok rfl .nil rfl rfl rfl ?_ (.inl rfl)
  refine ⟨_, _, by rw [mustP, if_pos (by simpa using h0)]; rfl, ?_⟩
  simp only [go_sem, hs]
theorem name_ok (l : List Tk) (n : Nat) (m : Int) (hn : n < l.length) (hl : l.length ≤ 1099511627776) (ht : (nth l n).t.length ≤ 140737488355328) : FnM Laid Tryz.prog 168 157 [tksD l, iv n, iv m] [.lp 900 0] (outP 152 l sv (nameP l ⟨n, m⟩)) := by
 refine FnM_of Tryz.func168 Tryz.ntmps168 rfl (by as_aux_lemma => kernel_rfl) (Nat.le_of_ble_eq_true rfl) (fun R b0 hR => ?_)
 obtain ⟨_, b, cs, T, C⟩ := R
 obtain rfl : _ = Tryz.prog := hR.p
 have hw : IntKind.i64.wrap ((n : Int) + 1) = ((n + 1 : Nat) : Int) := by rw [wrap_id (by constructor <;> omega)]; simp
 refine sq ?_
 apply Exec.regionL te_ok
 ·intro u' Q hQ
  simp only [go_sem, hw]
  repeat refine ob2 ?_
  exact hQ
 refine sq ?_
 apply Exec.regionL te_ok
 ·intro u' Q hQ
  simp only [go_sem, hw]
  repeat refine ob2 ?_
  refine kcallM 900 hR.inv te_ok rfl rfl rfl rfl rfl rfl rfl rfl rfl (token_ok _ _ _ (by assumption)) ?_
  simp only [go_sem, hw]
  repeat refine ob2 ?_
  exact hQ
 refine sq ?_
 refine sq ?_
 apply Exec.regionL te_ok
 ·intro u' Q hQ
  simp only [go_sem, hw]
  repeat refine ob2 ?_
  refine kcallG hR.inv te_ok rfl rfl rfl rfl rfl rfl ob1 (fun hq => free_ok _ (by assumption)) ?_
  simp only [go_sem, hw]
  repeat refine ob2 ?_
  exact hQ
 refine Exec.cond_split rfl (fun h0 => ?_) (fun h0 => ?_)
 ·have hb : nameB l ⟨n, m⟩ = false := by simp [nameB] at h0 ⊢; intro h1; simp_all
  refine Exec.regStart 2 rfl ?_
  apply Exec.regPart 0 1 1 te_ok rfl
  ·intro u' Q hQ
   simp only [go_sem, hw]
   repeat refine ob2 ?_
   exact hQ
  refine Exec.callP 900 hR.inv rfl rfl rfl rfl rfl rfl rfl rfl rfl (fail_ok _ _ _ (by assumption)) ?_
  refine ExecP.endM hR .nil ?_
  refine ⟨_, by rw [nameP, if_neg (by rw [hb]; decide)]; rfl, ?_⟩
  simp only [go_sem]
 ·have hb : nameB l ⟨n, m⟩ = true := by simp [nameB] at h0 ⊢; simp_all
  refine sk ?_
  refine sq ?_
  apply Exec.regionL te_ok
  ·intro u' Q hQ
   simp only [go_sem, hw]
   repeat refine ob2 ?_
   exact hQ
  refine sq ?_
  apply Exec.regionL te_ok
  ·intro u' Q hQ
   simp only [go_sem, hw]
   repeat refine ob2 ?_
   exact hQ
  refine Exec.retsMu hR te_ok rfl .nil rfl rfl rfl ?_ (.inr ⟨_, rfl⟩)
  refine ⟨_, _, by rw [nameP, if_pos hb]; rfl, ?_⟩
  simp only [go_sem]
theorem limit_ok (l : List Tk) (n : Nat) (m : Int) (c : Bool) (a : Int) : FnM Laid Tryz.prog 127 157 [tksD l, iv n, iv m] [.lp 900 0, .d (bv c), .d (iv a)] (.ret (rdC l (limS c a ⟨n, m⟩)) (.tup [])) := by
 refine FnM_of Tryz.func127 Tryz.ntmps127 rfl (by as_aux_lemma => kernel_rfl) (Nat.le_of_ble_eq_true rfl) (fun R b0 hR => ?_)
 obtain ⟨_, b, cs, T, C⟩ := R
 obtain rfl : _ = Tryz.prog := hR.p
 refine sreg te_ok ?_
 apply Exec.join [] rfl
 case hx =>
  intro h0 hK
  refine Exec.reg te_ok ?_
  exact hK
 case hy =>
  intro h0 hK
  refine sk ?_
  exact hK
 case hN => rfl
 case hdf => rfl
 case hF => simp only [go_sem]
 case hP => rfl
 apply Exec.norm
 ·simp only [go_sem]
  rfl
 refine Exec.retsMu hR te_ok rfl .nil rfl rfl rfl ?_ (.inl rfl)
 refine ⟨_, _, rfl, ?_⟩
 simp only [go_sem, limS]
 cases c <;> by_cases g1 : m < 0 <;> by_cases g2 : a < m <;> simp [g1, g2]
end Go.Proofs.YtonchjamoblioaaGreatDoor
