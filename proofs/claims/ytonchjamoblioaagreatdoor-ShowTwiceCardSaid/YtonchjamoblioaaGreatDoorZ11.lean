/- Steps of a function body on data, and contracts of the functions of the seat, walked. -/
import Derived.Test.YtonchjamoblioaaGreatDoorQC
import Derived.Test.YtonchjamoblioaaGreatDoorPS
import Derived.Test.YtonchjamoblioaaGreatDoorZShX
import Derived.Test.YtonchjamoblioaaGreatDoorZ10
set_option linter.unusedSimpArgs false
set_option linter.unusedVariables false
set_option linter.unusedSectionVars false
namespace Go.Proofs.YtonchjamoblioaaGreatDoor
open Go.Kin
set_option maxRecDepth 100000
set_option maxHeartbeats 0
theorem lexAt_tk {s : List UInt8} : ∀ (n a : Nat), s.length - a < n → a ≤ s.length → (lexAt s a).2 = none → (lexAt s a).1 ≠ [] ∧ (lexAt s a).1.length ≤ s.length - a + 1 ∧ (∀ i, i < (lexAt s a).1.length → ((nth (lexAt s a).1 i).k = 5 ↔ i + 1 = (lexAt s a).1.length)) ∧
  ∀ t ∈ (lexAt s a).1, t.t.length ≤ s.length ∧ (a : Int) ≤ t.a ∧ t.a ≤ s.length
 | 0, a, h, _, _ => by omega
 | n + 1, a, hn, ha, h => by
  have hle := nextA_le ha
  have hge : a ≤ nextA s a := by unfold nextA; omega
  by_cases hb : firstB (s.drop (nextA s a)) = true
  ·have htl : (firstT (s.drop (nextA s a))).t.length ≤ s.length := by
    by_cases hk : (firstT (s.drop (nextA s a))).k = 5
    ·rw [first_end.1 hk]; show 0 ≤ _; omega
    ·have := (first_len hb hk).2; simp at this; omega
   have htok : (tokA s a).t.length ≤ s.length ∧ (a : Int) ≤ (tokA s a).a ∧ (tokA s a).a ≤ s.length := ⟨htl, by show (a : Int) ≤ (nextA s a : Nat); omega, by show ((nextA s a : Nat) : Int) ≤ _; omega⟩
   by_cases hk : (firstT (s.drop (nextA s a))).k = 5
   ·rw [lexAt_end ha hb hk]
    refine ⟨by simp, by simp, fun i hi => ?_, fun t ht => ?_⟩
    ·have : i = 0 := by simpa using hi
     subst this
     constructor
     ·intro _; rfl
     ·intro _; exact hk
    ·simp at ht; subst ht; exact htok
   ·have t := thenA_le ha hb
    have hlt := t.2.resolve_left hk
    rw [lexAt_on ha hb hk] at h ⊢
    simp only at h ⊢
    obtain ⟨i1, i2, i3, i4⟩ := lexAt_tk n (thenA s a) (by omega) t.1 h
    refine ⟨by simp, by simp; omega, fun i hi => ?_, fun x hx => ?_⟩
    ·cases i with
     | zero =>
      have : 0 < (lexAt s (thenA s a)).1.length := List.length_pos_iff.2 i1
      constructor
      ·intro h5; exact absurd h5 hk
      ·intro h5; simp at h5; exact absurd h5 i1
     | succ i =>
      have h5 := i3 i (by simpa using hi)
      simp only [List.length_cons]
      have e : nth (tokA s a :: (lexAt s (thenA s a)).1) (i + 1) = nth (lexAt s (thenA s a)).1 i := by simp [nth]
      rw [e, h5]; omega
    ·rcases List.mem_cons.1 hx with rfl | hx
     ·exact htok
     ·have := i4 x hx; omega
  ·have hb' : firstB (s.drop (nextA s a)) = false := by simpa using hb
   rw [lexAt_no ha hb'] at h; cases h
theorem lexT_at {s : List UInt8} (h : lexE s = 0) : s.length ≤ 2000 ∧ (lexAt s 0).2 = none ∧ lexT s = (lexAt s 0).1 ∧ lexA s = 0 := by
 unfold lexE at h
 by_cases hl : 2000 < (s.length : Int)
 ·rw [if_pos hl] at h; cases h
 ·rw [if_neg hl] at h
  unfold lexT lexA
  rw [if_neg hl, if_neg hl]
  have e : lexAll s = lexAt s 0 := rfl
  rw [e] at h ⊢
  cases h2 : (lexAt s 0).2 with
  | none => exact ⟨by omega, rfl, rfl, rfl⟩
  | some a => rw [h2] at h; cases h
theorem lex_tk {s : List UInt8} (h : lexE s = 0) : TkOk (lexT s) ∧ 0 < (lexT s).length ∧ (∀ i, i < (lexT s).length → ((nth (lexT s) i).k = 5 ↔ i + 1 = (lexT s).length)) ∧ ∀ i, i < (lexT s).length → (nth (lexT s) i).t.length ≤ s.length ∧ 0 ≤ (nth (lexT s) i).a ∧ (nth (lexT s) i).a ≤ s.length := by
 obtain ⟨h1, h2, h3, _⟩ := lexT_at h
 obtain ⟨i1, i2, i3, i4⟩ := lexAt_tk (s.length + 1) 0 (by omega) (by omega) h2
 rw [← h3] at i1 i2 i3 i4
 have i5 : ∀ i, i < (lexT s).length → (nth (lexT s) i).t.length ≤ s.length ∧ 0 ≤ (nth (lexT s) i).a ∧ (nth (lexT s) i).a ≤ s.length := fun i hi => by have := i4 _ (nth_mem hi); omega
 exact ⟨⟨by omega, by omega, fun i hi hk => by have h6 : ¬ (i + 1 = (lexT s).length) := fun e => hk ((i3 i hi).2 e); omega, fun i hi => by have := (i5 i hi).1; omega, fun i hi => by have := i5 i hi; omega⟩, List.length_pos_iff.2 i1, i3, i5⟩
/-- a whole text, by a rule -/
def readV {α : Type} (z : α) (rule : List Tk → PS → PR α) (s : List UInt8) : α × Int × Int :=
 if lexE s = 0 then (match rule (lexT s) ⟨0, -1⟩ with
  | .err a => (z, a, 7)
  | .ok s1 x => if (nth (lexT s) s1.n).k = 5 then (if 0 ≤ s1.m then (z, s1.m, 3) else (x, 0, 0)) else (z, (nth (lexT s) s1.n).a, 7))
 else (z, lexA s, lexE s)
section
variable {α : Type} {z : α} {rule : List Tk → PS → PR α} {s : List UInt8}
theorem readV_no (h : lexE s ≠ 0) : readV z rule s = (z, lexA s, lexE s) := if_neg h
theorem readV_err (h : lexE s = 0) {a : Int} (hr : rule (lexT s) ⟨0, -1⟩ = .err a) : readV z rule s = (z, a, 7) := by unfold readV; rw [if_pos h, hr]
theorem readV_end (h : lexE s = 0) {s1 : PS} {x : α} (hr : rule (lexT s) ⟨0, -1⟩ = .ok s1 x) (hk : (nth (lexT s) s1.n).k ≠ 5) : readV z rule s = (z, (nth (lexT s) s1.n).a, 7) := by unfold readV; rw [if_pos h, hr]; simp only; rw [if_neg hk]
theorem readV_long (h : lexE s = 0) {s1 : PS} {x : α} (hr : rule (lexT s) ⟨0, -1⟩ = .ok s1 x) (hk : (nth (lexT s) s1.n).k = 5) (hm : 0 ≤ s1.m) : readV z rule s = (z, s1.m, 3) := by unfold readV; rw [if_pos h, hr]; simp only; rw [if_pos hk, if_pos hm]
theorem readV_ok (h : lexE s = 0) {s1 : PS} {x : α} (hr : rule (lexT s) ⟨0, -1⟩ = .ok s1 x) (hk : (nth (lexT s) s1.n).k = 5) (hm : ¬ 0 ≤ s1.m) : readV z rule s = (x, 0, 0) := by unfold readV; rw [if_pos h, hr]; simp only; rw [if_pos hk, if_neg hm]
end
def qz : Qu := ⟨[], [], [], 0, 0⟩
def xz : Ex := .mk 0 [] []
attribute [go_sem] Qu.p Qu.c Qu.r Qu.range Qu.slide
theorem wholeN_adv {l : List Tk} (hk : TkOk l) {s : PS} (hn : s.n < l.length) : ∀ s1 x, wholeP l s = .ok s1 x → s1.n < l.length := fun s1 x h => (whole_adv hk hn s1 x h).1.2
theorem query_adv {l : List Tk} (hk : TkOk l) {s : PS} (hn : s.n < l.length) : ∀ s1 q, queryP l s = .ok s1 q → s1.n < l.length := by
 intro s1 q h
 obtain ⟨s2, _, h2, h⟩ := bind_ok h
 obtain ⟨s3, _, h3, h⟩ := bind_ok h
 obtain ⟨s4, _, h4, h⟩ := bind_ok h
 obtain ⟨s5, _, h5, h⟩ := bind_ok h
 obtain ⟨s6, _, h6, h⟩ := bind_ok h
 obtain ⟨s7, _, h7, h⟩ := bind_ok h
 obtain ⟨s8, _, h8, h⟩ := bind_ok h
 obtain ⟨s9, _, h9, h⟩ := bind_ok h
 obtain ⟨s0, _, h0, h⟩ := bind_ok h
 cases h
 have many : ∀ {α : Type} {rd : PS → PR α} {w : List UInt8} {mx : Nat}, (∀ s : PS, s.n < l.length → AdvP l s (rd s)) → ∀ (f : Nat) (s : PS) (acc : List α), s.n < l.length → ∀ s1 xs, manyP l rd w mx f s acc = .ok s1 xs → s1.n < l.length := by
  intro α rd w mx hr f
  induction f with
  | zero => intro s acc _ s1 xs h; cases h
  | succ f ih =>
   intro s acc hs s1 xs h
   obtain ⟨t1, x, g1, h⟩ := bind_ok h
   have a1 := hr _ (by rw [limS_n]; exact hs) _ _ g1
   split at h
   ·rename_i hp; exact ih _ _ (is_adv hk a1.2 hp) _ _ h
   ·cases h; exact a1.2
 have a2 := must_adv hk hn _ _ h2
 have a3 := many (fun s hs => pat_adv hk hs) _ _ _ a2.2 _ _ h3
 have a4 : s4.n < l.length := by
  split at h4
  ·rename_i hp; exact many (fun s hs => cd_adv hk hs) _ _ _ (is_adv hk a3 hp) _ _ h4
  ·cases h4; exact a3
 have a5 := must_adv hk a4 _ _ h5
 have a6 := many (fun s hs => told_adv hk hs) _ _ _ a5.2 _ _ h6
 have a7 := must_adv hk a6 _ _ h7
 have a8 := num_adv hk a7.2 _ _ h8
 have a9 := must_adv hk a8.2 _ _ h9
 exact (num_adv hk a9.2 _ _ h0).2
attribute [go_sem] qz xz
theorem readQ_ok (s : List UInt8) (hs : s.length ≤ 140737488351232) : FnOK LaidX Tryz.prog 60 [sv s, .fn 61 []] (.tup [quD (readV qz queryP s).1, iv (readV qz queryP s).2.1, iv (readV qz queryP s).2.2]) := by
 refine FnOK_of laidX_stable Tryz.func60 Tryz.ntmps60 rfl (by as_aux_lemma => kernel_rfl) (Nat.le_of_ble_eq_true rfl) (fun R hR => ?_)
 obtain ⟨_, b, cs, T, C⟩ := R
 obtain rfl : _ = Tryz.prog := hR.p
 refine sreg te_ok ?_
 refine sq ?_
 apply Exec.regionL te_ok
 ·intro u' Q hQ
  simp only [go_sem]
  repeat refine ob2 ?_
  refine kcall hR.inv te_ok rfl rfl rfl rfl rfl rfl (lex_ok s (by omega)) ?_
  simp only [go_sem]
  repeat refine ob2 ?_
  exact hQ
 refine sq ?_
 refine sreg te_ok ?_
 refine Exec.cond_split rfl (fun h0 => ?_) (fun h0 => ?_)
 ·have hE : lexE s ≠ 0 := by simpa using h0
  refine sq ?_
  apply Exec.free (st := _) 7 6 [(0, 1), (0, 2), (1, 2), (1, 3), (2, 3), (2, 4)] te_ok (by as_aux_lemma => kernel_rfl) rfl (by as_aux_lemma => kernel_rfl)
  ·intro u' Q hQ
   simp only [go_sem]
   repeat refine ob2 ?_
   exact hQ
  ·rfl
  refine Exec.rets hR te_ok rfl rfl rfl (LeX.le ?_) (.inr ⟨_, rfl⟩)
  rw [readV_no hE]
  simp only [go_sem]
 ·have hE : lexE s = 0 := by simpa using h0
  obtain ⟨hk, h0n, _, _⟩ := lex_tk hE
  refine sk ?_
  refine sq ?_
  refine Exec.regStart 2 rfl ?_
  apply Exec.regPart 0 1 1 te_ok rfl
  ·intro u' Q hQ
   simp only [go_sem]
   repeat refine ob2 ?_
   exact hQ
  refine Exec.deferOp hR.round rfl rfl rfl rfl rfl rfl rfl (fun ac hac => ?_)
  apply Exec.norm
  ·simp only [go_sem]
   rfl
  refine Exec.regEnd ?_
  refine sreg te_ok ?_
  refine sq ?_
  rcases hq1 : queryP (lexT s) ⟨0, -1⟩ with ⟨⟨n1, m1⟩, x1⟩ | at1
  ·have hn1 : n1 < (lexT s).length := query_adv hk (s := ⟨0, -1⟩) h0n _ _ hq1
   apply Exec.regionL te_ok
   ·intro u' Q hQ
    simp only [go_sem]
    repeat refine ob2 ?_
    refine kcallM 25 hR.inv te_ok rfl rfl rfl rfl rfl rfl rfl rfl rfl ((fOk (pquery_ok (lexT s) 0 (-1) hk h0n) hq1).weak laidX_laid) ?_
    simp only [go_sem]
    repeat refine ob2 ?_
    exact hQ
   refine sq ?_
   refine sq ?_
   apply Exec.regionL te_ok
   ·intro u' Q hQ
    simp only [go_sem]
    repeat refine ob2 ?_
    refine kcallM 25 hR.inv te_ok rfl rfl rfl rfl rfl rfl rfl rfl rfl ((token_ok (lexT s) n1 m1 hn1).weak laidX_laid) ?_
    simp only [go_sem]
    repeat refine ob2 ?_
    exact hQ
   refine Exec.cond_split rfl (fun h1 => ?_) (fun h1 => ?_)
   ·have hk5 : (nth (lexT s) n1).k ≠ 5 := by simpa using h1
    refine Exec.regStart 2 rfl ?_
    apply Exec.regPart 0 1 1 te_ok rfl
    ·intro u' Q hQ
     simp only [go_sem]
     repeat refine ob2 ?_
     exact hQ
    refine Exec.callP 25 hR.inv rfl rfl rfl rfl rfl rfl rfl rfl rfl ((fail_ok (lexT s) n1 m1 hn1).weak laidX_laid) ?_
    refine ExecP.defer rfl hac List.mem_cons_self Tryz.func122 Tryz.ntmps122 rfl (by as_aux_lemma => kernel_rfl) (Nat.le_of_ble_eq_true rfl) (fun ao av k0 v hao haod hav => ?_)
    refine Exec.ren (swJ 1) ?_
    apply Exec.norm
    ·simp only [go_sem]
     rfl
    refine sq ?_
    refine Exec.regStart 2 rfl ?_
    refine Exec.recover rfl rfl rfl (Nat.le_of_ble_eq_true rfl) rfl (List.mem_cons_of_mem _ List.mem_cons_self) rfl hav ?_
    apply Exec.norm
    ·simp only [go_sem]
     rfl
    apply Exec.regPart 1 1 0 te_ok rfl
    ·intro u' Q hQ
     simp only [go_sem]
     repeat refine ob2 ?_
     exact hQ
    refine Exec.regEnd ?_
    refine sreg te_ok ?_
    refine Exec.cond (t := true) rfl ?_
    simp only [reduceIte, Bool.false_eq_true]
    refine sq ?_
    apply Exec.regionL te_ok
    ·intro u' Q hQ
     simp only [go_sem]
     repeat refine ob2 ?_
     refine kassert te_ok rfl rfl rfl rfl rfl (fun m h => by cases h) ?_
     simp only [go_sem]
     repeat refine ob2 ?_
     exact hQ
    refine sq ?_
    refine sreg te_ok ?_
    refine Exec.cond (t := false) rfl ?_
    simp only [reduceIte, Bool.false_eq_true]
    refine sk ?_
    refine sreg te_ok ?_
    apply Exec.free (st := _) 7 6 [(0, 1), (0, 2), (1, 3), (2, 3)] te_ok (by as_aux_lemma => kernel_rfl) rfl (by as_aux_lemma => kernel_rfl)
    ·intro u' Q hQ
     simp only [go_sem]
     repeat refine ob2 ?_
     exact hQ
    ·rfl
    refine Exec.leaveD Tryz.func122 rfl (.inl rfl) rfl rfl hao haod rfl ?_
    refine ExecR.ren (swJ 1) ?_
    apply ExecR.norm
    ·simp only [go_sem]
     rfl
    refine ExecR.done hR te_ok rfl rfl rfl (LeX.le ?_)
    rw [readV_end hE hq1 hk5]
    simp only [go_sem]
   ·have hk5 : (nth (lexT s) n1).k = 5 := by simpa using h1
    refine sk ?_
    refine sq ?_
    refine sreg te_ok ?_
    refine Exec.cond_split rfl (fun h2 => ?_) (fun h2 => ?_)
    ·have hm : 0 ≤ m1 := by simpa using h2
     refine sq ?_
     apply Exec.free (st := _) 9 8 [(0, 1), (0, 2), (0, 3), (0, 4), (1, 5), (2, 5), (3, 5), (4, 5)] te_ok (by as_aux_lemma => kernel_rfl) rfl (by as_aux_lemma => kernel_rfl)
     ·intro u' Q hQ
      simp only [go_sem]
      repeat refine ob2 ?_
      exact hQ
     ·rfl
     refine Exec.retR hR.round (.inr ⟨_, rfl⟩) ?_
     refine ExecR.defer rfl hac List.mem_cons_self Tryz.func122 Tryz.ntmps122 rfl (by as_aux_lemma => kernel_rfl) (Nat.le_of_ble_eq_true rfl) (fun ao k0 hao haod => ?_)
     refine Exec.ren (swJ 1) ?_
     apply Exec.norm
     ·simp only [go_sem]
      rfl
     refine sq ?_
     refine Exec.regStart 2 rfl ?_
     refine Exec.recoverNo rfl rfl rfl (Nat.le_of_ble_eq_true rfl) rfl ?_
     apply Exec.norm
     ·simp only [go_sem]
      rfl
     apply Exec.regPart 1 1 0 te_ok rfl
     ·intro u' Q hQ
      simp only [go_sem]
      repeat refine ob2 ?_
      exact hQ
     refine Exec.regEnd ?_
     refine sreg te_ok ?_
     refine Exec.cond (t := false) rfl ?_
     simp only [reduceIte, Bool.false_eq_true]
     refine sk ?_
     refine Exec.leaveD Tryz.func122 rfl (.inl rfl) rfl rfl hao haod rfl ?_
     refine ExecR.ren (swJ 1) ?_
     apply ExecR.norm
     ·simp only [go_sem]
      rfl
     refine ExecR.done hR te_ok rfl rfl rfl (LeX.le ?_)
     rw [readV_long hE hq1 hk5 hm]
     simp only [go_sem]
    ·have hm : ¬ 0 ≤ m1 := by simpa using h2
     refine sk ?_
     refine sreg te_ok ?_
     refine Exec.retR hR.round (.inr ⟨_, rfl⟩) ?_
     refine ExecR.defer rfl hac List.mem_cons_self Tryz.func122 Tryz.ntmps122 rfl (by as_aux_lemma => kernel_rfl) (Nat.le_of_ble_eq_true rfl) (fun ao k0 hao haod => ?_)
     refine Exec.ren (swJ 1) ?_
     apply Exec.norm
     ·simp only [go_sem]
      rfl
     refine sq ?_
     refine Exec.regStart 2 rfl ?_
     refine Exec.recoverNo rfl rfl rfl (Nat.le_of_ble_eq_true rfl) rfl ?_
     apply Exec.norm
     ·simp only [go_sem]
      rfl
     apply Exec.regPart 1 1 0 te_ok rfl
     ·intro u' Q hQ
      simp only [go_sem]
      repeat refine ob2 ?_
      exact hQ
     refine Exec.regEnd ?_
     refine sreg te_ok ?_
     refine Exec.cond (t := false) rfl ?_
     simp only [reduceIte, Bool.false_eq_true]
     refine sk ?_
     refine Exec.leaveD Tryz.func122 rfl (.inl rfl) rfl rfl hao haod rfl ?_
     refine ExecR.ren (swJ 1) ?_
     apply ExecR.norm
     ·simp only [go_sem]
      rfl
     refine ExecR.done hR te_ok rfl rfl rfl (LeX.le ?_)
     rw [readV_ok hE hq1 hk5 hm]
     simp only [go_sem]
  ·refine Exec.regStart 5 rfl ?_
   apply Exec.regPart 0 2 3 te_ok rfl
   ·intro u' Q hQ
    simp only [go_sem]
    repeat refine ob2 ?_
    exact hQ
   refine Exec.callP 25 hR.inv rfl rfl rfl rfl rfl rfl rfl rfl rfl ((fEr (pquery_ok (lexT s) 0 (-1) hk h0n) hq1).weak laidX_laid) ?_
   refine ExecP.defer rfl hac List.mem_cons_self Tryz.func122 Tryz.ntmps122 rfl (by as_aux_lemma => kernel_rfl) (Nat.le_of_ble_eq_true rfl) (fun ao av k0 v hao haod hav => ?_)
   refine Exec.ren (swJ 1) ?_
   apply Exec.norm
   ·simp only [go_sem]
    rfl
   refine sq ?_
   refine Exec.regStart 2 rfl ?_
   refine Exec.recover rfl rfl rfl (Nat.le_of_ble_eq_true rfl) rfl (List.mem_cons_of_mem _ List.mem_cons_self) rfl hav ?_
   apply Exec.norm
   ·simp only [go_sem]
    rfl
   apply Exec.regPart 1 1 0 te_ok rfl
   ·intro u' Q hQ
    simp only [go_sem]
    repeat refine ob2 ?_
    exact hQ
   refine Exec.regEnd ?_
   refine sreg te_ok ?_
   refine Exec.cond (t := true) rfl ?_
   simp only [reduceIte, Bool.false_eq_true]
   refine sq ?_
   apply Exec.regionL te_ok
   ·intro u' Q hQ
    simp only [go_sem]
    repeat refine ob2 ?_
    refine kassert te_ok rfl rfl rfl rfl rfl (fun m h => by cases h) ?_
    simp only [go_sem]
    repeat refine ob2 ?_
    exact hQ
   refine sq ?_
   refine sreg te_ok ?_
   refine Exec.cond (t := false) rfl ?_
   simp only [reduceIte, Bool.false_eq_true]
   refine sk ?_
   refine sreg te_ok ?_
   apply Exec.free (st := _) 7 6 [(0, 1), (0, 2), (1, 3), (2, 3)] te_ok (by as_aux_lemma => kernel_rfl) rfl (by as_aux_lemma => kernel_rfl)
   ·intro u' Q hQ
    simp only [go_sem]
    repeat refine ob2 ?_
    exact hQ
   ·rfl
   refine Exec.leaveD Tryz.func122 rfl (.inl rfl) rfl rfl hao haod rfl ?_
   refine ExecR.ren (swJ 1) ?_
   apply ExecR.norm
   ·simp only [go_sem]
    rfl
   refine ExecR.done hR te_ok rfl rfl rfl (LeX.le ?_)
   rw [readV_err hE hq1]
   simp only [go_sem]
theorem readX_ok (s : List UInt8) (hs : s.length ≤ 140737488351232) : FnOK LaidX Tryz.prog 66 [sv s, .fn 67 []] (.tup [exD (readV xz wholeP s).1, iv (readV xz wholeP s).2.1, iv (readV xz wholeP s).2.2]) := by
 refine FnOK_of laidX_stable Tryz.func66 Tryz.ntmps66 rfl (by as_aux_lemma => kernel_rfl) (Nat.le_of_ble_eq_true rfl) (fun R hR => ?_)
 obtain ⟨_, b, cs, T, C⟩ := R
 obtain rfl : _ = Tryz.prog := hR.p
 refine sreg te_ok ?_
 refine sq ?_
 apply Exec.regionL te_ok
 ·intro u' Q hQ
  simp only [go_sem]
  repeat refine ob2 ?_
  refine kcall hR.inv te_ok rfl rfl rfl rfl rfl rfl (lex_ok s (by omega)) ?_
  simp only [go_sem]
  repeat refine ob2 ?_
  exact hQ
 refine sq ?_
 refine sreg te_ok ?_
 refine Exec.cond_split rfl (fun h0 => ?_) (fun h0 => ?_)
 ·have hE : lexE s ≠ 0 := by simpa using h0
  refine sq ?_
  apply Exec.free (st := _) 7 6 [(0, 1), (0, 2), (1, 2), (1, 3), (2, 3), (2, 4)] te_ok (by as_aux_lemma => kernel_rfl) rfl (by as_aux_lemma => kernel_rfl)
  ·intro u' Q hQ
   simp only [go_sem]
   repeat refine ob2 ?_
   exact hQ
  ·rfl
  refine Exec.rets hR te_ok rfl rfl rfl (LeX.le ?_) (.inr ⟨_, rfl⟩)
  rw [readV_no hE]
  simp only [go_sem]
  exact ⟨rfl, rfl, by rw [kd_eq]; exact ⟨rfl, rfl⟩⟩
 ·have hE : lexE s = 0 := by simpa using h0
  obtain ⟨hk, h0n, _, _⟩ := lex_tk hE
  refine sk ?_
  refine sq ?_
  refine Exec.regStart 2 rfl ?_
  apply Exec.regPart 0 1 1 te_ok rfl
  ·intro u' Q hQ
   simp only [go_sem]
   repeat refine ob2 ?_
   exact hQ
  refine Exec.deferOp hR.round rfl rfl rfl rfl rfl rfl rfl (fun ac hac => ?_)
  apply Exec.norm
  ·simp only [go_sem]
   rfl
  refine Exec.regEnd ?_
  refine sreg te_ok ?_
  refine sq ?_
  rcases hq1 : wholeP (lexT s) ⟨0, -1⟩ with ⟨⟨n1, m1⟩, x1⟩ | at1
  ·have hn1 : n1 < (lexT s).length := wholeN_adv hk (s := ⟨0, -1⟩) h0n _ _ hq1
   apply Exec.regionL te_ok
   ·intro u' Q hQ
    simp only [go_sem]
    repeat refine ob2 ?_
    refine kcallM 25 hR.inv te_ok rfl rfl rfl rfl rfl rfl rfl rfl rfl ((fOk (pwhole_ok (lexT s) 0 (-1) hk h0n) hq1).weak laidX_laid) ?_
    simp only [go_sem]
    repeat refine ob2 ?_
    exact hQ
   refine sq ?_
   refine sq ?_
   apply Exec.regionL te_ok
   ·intro u' Q hQ
    simp only [go_sem]
    repeat refine ob2 ?_
    refine kcallM 25 hR.inv te_ok rfl rfl rfl rfl rfl rfl rfl rfl rfl ((token_ok (lexT s) n1 m1 hn1).weak laidX_laid) ?_
    simp only [go_sem]
    repeat refine ob2 ?_
    exact hQ
   refine Exec.cond_split rfl (fun h1 => ?_) (fun h1 => ?_)
   ·have hk5 : (nth (lexT s) n1).k ≠ 5 := by simpa using h1
    refine Exec.regStart 2 rfl ?_
    apply Exec.regPart 0 1 1 te_ok rfl
    ·intro u' Q hQ
     simp only [go_sem]
     repeat refine ob2 ?_
     exact hQ
    refine Exec.callP 25 hR.inv rfl rfl rfl rfl rfl rfl rfl rfl rfl ((fail_ok (lexT s) n1 m1 hn1).weak laidX_laid) ?_
    refine ExecP.defer rfl hac List.mem_cons_self Tryz.func133 Tryz.ntmps133 rfl (by as_aux_lemma => kernel_rfl) (Nat.le_of_ble_eq_true rfl) (fun ao av k0 v hao haod hav => ?_)
    refine Exec.ren (swJ 1) ?_
    apply Exec.norm
    ·simp only [go_sem]
     rfl
    refine sq ?_
    refine Exec.regStart 2 rfl ?_
    refine Exec.recover rfl rfl rfl (Nat.le_of_ble_eq_true rfl) rfl (List.mem_cons_of_mem _ List.mem_cons_self) rfl hav ?_
    apply Exec.norm
    ·simp only [go_sem]
     rfl
    apply Exec.regPart 1 1 0 te_ok rfl
    ·intro u' Q hQ
     simp only [go_sem]
     repeat refine ob2 ?_
     exact hQ
    refine Exec.regEnd ?_
    refine sreg te_ok ?_
    refine Exec.cond (t := true) rfl ?_
    simp only [reduceIte, Bool.false_eq_true]
    refine sq ?_
    apply Exec.regionL te_ok
    ·intro u' Q hQ
     simp only [go_sem]
     repeat refine ob2 ?_
     refine kassert te_ok rfl rfl rfl rfl rfl (fun m h => by cases h) ?_
     simp only [go_sem]
     repeat refine ob2 ?_
     exact hQ
    refine sq ?_
    refine sreg te_ok ?_
    refine Exec.cond (t := false) rfl ?_
    simp only [reduceIte, Bool.false_eq_true]
    refine sk ?_
    refine sreg te_ok ?_
    apply Exec.free (st := _) 7 6 [(0, 1), (0, 2), (1, 3), (2, 3)] te_ok (by as_aux_lemma => kernel_rfl) rfl (by as_aux_lemma => kernel_rfl)
    ·intro u' Q hQ
     simp only [go_sem]
     repeat refine ob2 ?_
     exact hQ
    ·rfl
    refine Exec.leaveD Tryz.func133 rfl (.inl rfl) rfl rfl hao haod rfl ?_
    refine ExecR.ren (swJ 1) ?_
    apply ExecR.norm
    ·simp only [go_sem]
     rfl
    refine ExecR.done hR te_ok rfl rfl rfl (LeX.le ?_)
    rw [readV_end hE hq1 hk5]
    simp only [go_sem]
    exact ⟨rfl, rfl, by rw [kd_eq]; exact ⟨rfl, rfl⟩⟩
   ·have hk5 : (nth (lexT s) n1).k = 5 := by simpa using h1
    refine sk ?_
    refine sq ?_
    refine sreg te_ok ?_
    refine Exec.cond_split rfl (fun h2 => ?_) (fun h2 => ?_)
    ·have hm : 0 ≤ m1 := by simpa using h2
     refine sq ?_
     apply Exec.free (st := _) 9 8 [(0, 1), (0, 2), (0, 3), (0, 4), (1, 5), (2, 5), (3, 5), (4, 5)] te_ok (by as_aux_lemma => kernel_rfl) rfl (by as_aux_lemma => kernel_rfl)
     ·intro u' Q hQ
      simp only [go_sem]
      repeat refine ob2 ?_
      exact hQ
     ·rfl
     refine Exec.retR hR.round (.inr ⟨_, rfl⟩) ?_
     refine ExecR.defer rfl hac List.mem_cons_self Tryz.func133 Tryz.ntmps133 rfl (by as_aux_lemma => kernel_rfl) (Nat.le_of_ble_eq_true rfl) (fun ao k0 hao haod => ?_)
     refine Exec.ren (swJ 1) ?_
     apply Exec.norm
     ·simp only [go_sem]
      rfl
     refine sq ?_
     refine Exec.regStart 2 rfl ?_
     refine Exec.recoverNo rfl rfl rfl (Nat.le_of_ble_eq_true rfl) rfl ?_
     apply Exec.norm
     ·simp only [go_sem]
      rfl
     apply Exec.regPart 1 1 0 te_ok rfl
     ·intro u' Q hQ
      simp only [go_sem]
      repeat refine ob2 ?_
      exact hQ
     refine Exec.regEnd ?_
     refine sreg te_ok ?_
     refine Exec.cond (t := false) rfl ?_
     simp only [reduceIte, Bool.false_eq_true]
     refine sk ?_
     refine Exec.leaveD Tryz.func133 rfl (.inl rfl) rfl rfl hao haod rfl ?_
     refine ExecR.ren (swJ 1) ?_
     apply ExecR.norm
     ·simp only [go_sem]
      rfl
     refine ExecR.done hR te_ok rfl rfl rfl (LeX.le ?_)
     rw [readV_long hE hq1 hk5 hm]
     simp only [go_sem]
     exact ⟨rfl, rfl, by rw [kd_eq]; exact ⟨rfl, rfl⟩⟩
    ·have hm : ¬ 0 ≤ m1 := by simpa using h2
     refine sk ?_
     refine sreg te_ok ?_
     refine Exec.retR hR.round (.inr ⟨_, rfl⟩) ?_
     refine ExecR.defer rfl hac List.mem_cons_self Tryz.func133 Tryz.ntmps133 rfl (by as_aux_lemma => kernel_rfl) (Nat.le_of_ble_eq_true rfl) (fun ao k0 hao haod => ?_)
     refine Exec.ren (swJ 1) ?_
     apply Exec.norm
     ·simp only [go_sem]
      rfl
     refine sq ?_
     refine Exec.regStart 2 rfl ?_
     refine Exec.recoverNo rfl rfl rfl (Nat.le_of_ble_eq_true rfl) rfl ?_
     apply Exec.norm
     ·simp only [go_sem]
      rfl
     apply Exec.regPart 1 1 0 te_ok rfl
     ·intro u' Q hQ
      simp only [go_sem]
      repeat refine ob2 ?_
      exact hQ
     refine Exec.regEnd ?_
     refine sreg te_ok ?_
     refine Exec.cond (t := false) rfl ?_
     simp only [reduceIte, Bool.false_eq_true]
     refine sk ?_
     refine Exec.leaveD Tryz.func133 rfl (.inl rfl) rfl rfl hao haod rfl ?_
     refine ExecR.ren (swJ 1) ?_
     apply ExecR.norm
     ·simp only [go_sem]
      rfl
     refine ExecR.done hR te_ok rfl rfl rfl (LeX.le ?_)
     rw [readV_ok hE hq1 hk5 hm]
     simp only [go_sem]
  ·refine Exec.regStart 5 rfl ?_
   apply Exec.regPart 0 2 3 te_ok rfl
   ·intro u' Q hQ
    simp only [go_sem]
    repeat refine ob2 ?_
    exact hQ
   refine Exec.callP 25 hR.inv rfl rfl rfl rfl rfl rfl rfl rfl rfl ((fEr (pwhole_ok (lexT s) 0 (-1) hk h0n) hq1).weak laidX_laid) ?_
   refine ExecP.defer rfl hac List.mem_cons_self Tryz.func133 Tryz.ntmps133 rfl (by as_aux_lemma => kernel_rfl) (Nat.le_of_ble_eq_true rfl) (fun ao av k0 v hao haod hav => ?_)
   refine Exec.ren (swJ 1) ?_
   apply Exec.norm
   ·simp only [go_sem]
    rfl
   refine sq ?_
   refine Exec.regStart 2 rfl ?_
   refine Exec.recover rfl rfl rfl (Nat.le_of_ble_eq_true rfl) rfl (List.mem_cons_of_mem _ List.mem_cons_self) rfl hav ?_
   apply Exec.norm
   ·simp only [go_sem]
    rfl
   apply Exec.regPart 1 1 0 te_ok rfl
   ·intro u' Q hQ
    simp only [go_sem]
    repeat refine ob2 ?_
    exact hQ
   refine Exec.regEnd ?_
   refine sreg te_ok ?_
   refine Exec.cond (t := true) rfl ?_
   simp only [reduceIte, Bool.false_eq_true]
   refine sq ?_
   apply Exec.regionL te_ok
   ·intro u' Q hQ
    simp only [go_sem]
    repeat refine ob2 ?_
    refine kassert te_ok rfl rfl rfl rfl rfl (fun m h => by cases h) ?_
    simp only [go_sem]
    repeat refine ob2 ?_
    exact hQ
   refine sq ?_
   refine sreg te_ok ?_
   refine Exec.cond (t := false) rfl ?_
   simp only [reduceIte, Bool.false_eq_true]
   refine sk ?_
   refine sreg te_ok ?_
   apply Exec.free (st := _) 7 6 [(0, 1), (0, 2), (1, 3), (2, 3)] te_ok (by as_aux_lemma => kernel_rfl) rfl (by as_aux_lemma => kernel_rfl)
   ·intro u' Q hQ
    simp only [go_sem]
    repeat refine ob2 ?_
    exact hQ
   ·rfl
   refine Exec.leaveD Tryz.func133 rfl (.inl rfl) rfl rfl hao haod rfl ?_
   refine ExecR.ren (swJ 1) ?_
   apply ExecR.norm
   ·simp only [go_sem]
    rfl
   refine ExecR.done hR te_ok rfl rfl rfl (LeX.le ?_)
   rw [readV_err hE hq1]
   simp only [go_sem]
   exact ⟨rfl, rfl, by rw [kd_eq]; exact ⟨rfl, rfl⟩⟩
theorem pQuery_ok (s : List UInt8) (hs : s.length ≤ 140737488351232) : FnOK LaidX Tryz.prog 32 [sv s] (.tup [quD (readV qz queryP s).1, iv (readV qz queryP s).2.1, iv (readV qz queryP s).2.2]) := by
 refine FnOK_of laidX_stable Tryz.func32 Tryz.ntmps32 rfl (by as_aux_lemma => kernel_rfl) (Nat.le_of_ble_eq_true rfl) (fun R hR => ?_)
 obtain ⟨_, b, cs, T, C⟩ := R
 obtain rfl : _ = Tryz.prog := hR.p
 refine sreg te_ok ?_
 refine sq ?_
 apply Exec.regionL te_ok
 ·intro u' Q hQ
  simp only [go_sem]
  repeat refine ob2 ?_
  refine kcall hR.inv te_ok rfl rfl rfl rfl rfl rfl (readQ_ok s hs) ?_
  simp only [go_sem]
  repeat refine ob2 ?_
  exact hQ
 refine Exec.rets hR te_ok rfl rfl rfl (LeX.le ?_) (.inr ⟨_, rfl⟩)
 simp only [go_sem]
theorem pExpr_ok (s : List UInt8) (hs : s.length ≤ 140737488351232) : FnOK LaidX Tryz.prog 34 [sv s] (.tup [exD (readV xz wholeP s).1, iv (readV xz wholeP s).2.1, iv (readV xz wholeP s).2.2]) := by
 refine FnOK_of laidX_stable Tryz.func34 Tryz.ntmps34 rfl (by as_aux_lemma => kernel_rfl) (Nat.le_of_ble_eq_true rfl) (fun R hR => ?_)
 obtain ⟨_, b, cs, T, C⟩ := R
 obtain rfl : _ = Tryz.prog := hR.p
 refine sreg te_ok ?_
 refine sq ?_
 apply Exec.regionL te_ok
 ·intro u' Q hQ
  simp only [go_sem]
  repeat refine ob2 ?_
  refine kcall hR.inv te_ok rfl rfl rfl rfl rfl rfl (readX_ok s hs) ?_
  simp only [go_sem]
  repeat refine ob2 ?_
  exact hQ
 refine Exec.rets hR te_ok rfl rfl rfl (LeX.le ?_) (.inr ⟨_, rfl⟩)
 simp only [go_sem]
end Go.Proofs.YtonchjamoblioaaGreatDoor
namespace Go.Proofs.YtonchjamoblioaaGreatDoor
open Go.Kin Go.Lib
/-! ### places of tokens; a text cut ahead of one; a text written anew -/
theorem first_tv {z : List UInt8} (hb : firstB z = true) (hk : (firstT z).k = 2 ∨ (firstT z).k = 3) : rightV (firstT z).v.k (firstT z).v.n (firstT z).v.s = true := by
 have pv : ∀ w, (parseE w == 0) = true → rightV (parseV w).k (parseV w).n (parseV w).s = true := fun w h => by
  have hp : parseB w = true := by
   unfold parseE at h
   cases hb : parseB w with
   | true => rfl
   | false => rw [hb] at h; simp at h
  unfold parseV; rw [if_pos hp]
  unfold parseB at hp; rw [Bool.and_eq_true] at hp; exact hp.1
 unfold firstT firstB at *
 by_cases h0 : z = []
 ·rw [if_pos h0] at hk; simp at hk
 ·rw [if_neg h0] at hb hk ⊢
  by_cases h1 : letterI (z.getD 0 0).toNat = true
  ·rw [if_pos h1] at hk; simp at hk
  ·rw [if_neg h1] at hb hk ⊢
   by_cases h2 : digitI (z.getD 0 0).toNat = true
   ·rw [if_pos h2] at hb ⊢; exact pv _ hb
   ·rw [if_neg h2] at hb hk ⊢
    by_cases h3 : (((z.getD 0 0).toNat : Int) == 45 && decide (0 < (spanN digitI (z.drop 1) : Int))) = true
    ·rw [if_pos h3] at hb ⊢; exact pv _ hb
    ·rw [if_neg h3] at hb hk ⊢
     by_cases h4 : (((z.getD 0 0).toNat : Int) == 34) = true
     ·rw [if_pos h4] at hb hk ⊢
      by_cases h5 : indexByte (z.drop 1) 34 < 0
      ·rw [if_pos h5] at hb; cases hb
      ·rw [if_neg h5] at hb ⊢; exact pv _ hb
     ·rw [if_neg h4] at hk; simp at hk
/-- a token by itself -/
def Alone (t : Tk) : Prop := t.k ≠ 5 ∧ firstB t.t = true ∧ firstT t.t = t.at' 0 ∧ spanN blankI t.t = 0 ∧ 0 < t.t.length
theorem tok_alone {s : List UInt8} {a : Nat} (hb : firstB (s.drop (nextA s a)) = true) (hk : (firstT (s.drop (nextA s a))).k ≠ 5) : Alone (tokA s a) := by
 have h1 := first_text hb hk
 have h2 := first_len hb hk
 have h3 := first_take hb hk (Nat.le_refl _)
 rw [← h1] at h3
 have h4 := first_a (s.drop (nextA s a))
 have hz : spanN blankI (s.drop (nextA s a)) = 0 := by unfold nextA; rw [← List.drop_drop]; exact spanN_zero
 refine ⟨hk, h3.2, ?_, ?_, h2.1⟩
 ·show firstT (firstT _).t = _
  rw [h3.1]
  unfold tokA Tk.at'
  simp only
  cases hf : firstT (s.drop (nextA s a)); rw [hf] at h4; simp at h4; simp [h4]
 ·show spanN blankI (firstT _).t = 0
  rw [h1, spanN_take, hz]; omega
structure LxOk (s : List UInt8) (a : Nat) (l : List Tk) : Prop where
 up : l.Pairwise (fun x y => x.a < y.a)
 ge : ∀ t ∈ l, (a : Int) ≤ t.a ∧ t.a ≤ s.length
 tv : ∀ t ∈ l, (t.k = 2 ∨ t.k = 3) → rightV t.v.k t.v.n t.v.s = true
 al : ∀ t ∈ l, t.k ≠ 5 → Alone t
 en : ∀ t ∈ l, t.k = 5 → t.t = [] ∧ t.v = v0
theorem lexAt_ok {s : List UInt8} : ∀ (n a : Nat), s.length - a < n → a ≤ s.length → LxOk s a (lexAt s a).1
 | 0, a, h, _ => absurd h (by omega)
 | n + 1, a, hn, ha => by
  have hna := nextA_le ha
  have hge : a ≤ nextA s a := by unfold nextA; omega
  have ea : (tokA s a).a = (nextA s a : Nat) := rfl
  cases hb : firstB (s.drop (nextA s a)) with
  | false =>
   rw [lexAt_no ha hb]
   exact ⟨List.Pairwise.nil, fun t h => (by cases h), fun t h => (by cases h), fun t h => (by cases h), fun t h => (by cases h)⟩
  | true =>
   obtain ⟨t1, t2⟩ := thenA_le ha hb
   by_cases hk : (firstT (s.drop (nextA s a))).k = 5
   ·rw [lexAt_end ha hb hk]
    have hz := first_end.1 hk
    have hf : firstT (s.drop (nextA s a)) = ⟨5, [], 0, v0⟩ := by rw [hz]; rfl
    refine ⟨List.pairwise_singleton _ _, fun t h => ?_, fun t h h2 => ?_, fun t h h2 => ?_, fun t h h2 => ?_⟩ <;> simp only [List.mem_singleton] at h <;> subst h
    ·rw [ea]; omega
    ·exfalso; have : (tokA s a).k = 5 := hk; omega
    ·exact absurd hk h2
    ·unfold tokA; rw [hf]; exact ⟨rfl, rfl⟩
   ·rw [lexAt_on ha hb hk]
    have ih := lexAt_ok n (thenA s a) (by have := t2.resolve_left hk; omega) t1
    have hl := (first_len hb hk).1
    have hth : thenA s a = nextA s a + (firstT (s.drop (nextA s a))).t.length := rfl
    refine ⟨List.pairwise_cons.2 ⟨fun t h => by have := (ih.ge t h).1; rw [ea]; omega, ih.up⟩, fun t h => ?_, fun t h h2 => ?_, fun t h h2 => ?_, fun t h h2 => ?_⟩ <;> rcases List.mem_cons.1 h with rfl | h
    ·rw [ea]; omega
    ·have := ih.ge t h; omega
    ·exact first_tv hb h2
    ·exact ih.tv t h h2
    ·exact tok_alone hb hk
    ·exact ih.al t h h2
    ·exact absurd h2 hk
    ·exact ih.en t h h2
theorem pair_nth {l : List Tk} (h : l.Pairwise (fun x y => x.a < y.a)) : ∀ i j, i < j → j < l.length → (nth l i).a < (nth l j).a := by
 intro i j hij hj
 have := List.pairwise_iff_getElem.1 h i j (by omega) hj hij
 have e1 : nth l i = l[i] := nth_of (List.getElem?_eq_getElem (by omega))
 have e2 : nth l j = l[j] := nth_of (List.getElem?_eq_getElem hj)
 rw [e1, e2]; exact this
/-! one step of lexing, of a text that is known -/
theorem lexR_step {f a : Nat} {g R : List UInt8} {t : Tk} (hg : g.all (fun e => blankI e.toNat) = true) (h0 : spanN blankI (t.t ++ R) = 0) (hk : t.k ≠ 5) (h1 : firstT (t.t ++ R) = t.at' 0) (h2 : firstB (t.t ++ R) = true) :
  lexR (f + 1) a (g ++ (t.t ++ R)) = (t.at' (a + g.length : Nat) :: (lexR f (a + g.length + t.t.length) R).1, (lexR f (a + g.length + t.t.length) R).2) := by
 have e1 : spanN blankI (g ++ (t.t ++ R)) = g.length := by rw [spanN_full _ _ hg, h0]; omega
 have e2 : (g ++ (t.t ++ R)).drop g.length = t.t ++ R := List.drop_left
 have e3 : (t.t ++ R).drop t.t.length = R := List.drop_left
 rw [lexR, e1, e2, h1, if_neg (by rw [h2]; decide), if_neg (show ¬ (t.at' 0).k = 5 from hk)]
 simp only [Tk.at', e3]
theorem lexR_last {f a : Nat} {g : List UInt8} (hg : g.all (fun e => blankI e.toNat) = true) : lexR (f + 1) a g = ([⟨5, [], (a + g.length : Nat), v0⟩], none) := by
 have e1 : spanN blankI g = g.length := by have := spanN_full (p := blankI) [] g hg; simpa [spanN] using this
 have e2 : g.drop g.length = [] := List.drop_length
 rw [lexR, e1, e2]; rfl
theorem span_head {t R : List UInt8} (h : spanN blankI t = 0) (h0 : 0 < t.length) : spanN blankI (t ++ R) = 0 := by
 rw [spanN_in _ _ (by omega), h]
/-- tokens, written with a gap between -/
def ffG (g : List UInt8) : List Tk → List UInt8
 | [] => []
 | t :: r => t.t ++ (match r with | [] => [] | _ :: _ => g ++ ffG g r)
def ppG (g : List UInt8) (a : Nat) : List Tk → List Tk
 | [] => []
 | t :: r => t.at' a :: ppG g (a + t.t.length + g.length) r
structure Gap (g : List UInt8) : Prop where
 bl : g.all (fun e => blankI e.toNat) = true
 hd : ∃ d y, g = d :: y
/-- a row whose last token is the end, the others stand by themselves -/
def RowOk : List Tk → Prop
 | [] => False
 | [t] => t.k = 5 ∧ t.t = [] ∧ t.v = v0
 | t :: u :: r => Alone t ∧ RowOk (u :: r)
def gB (g : List UInt8) (b : Bool) : List UInt8 := if b = true then g else []
def sumT : List Tk → Nat
 | [] => 0
 | t :: r => t.t.length + sumT r
theorem lex_sum {s : List UInt8} : ∀ (n a : Nat), s.length - a < n → a ≤ s.length → sumT (lexAt s a).1 + a ≤ s.length
 | 0, a, h, _ => absurd h (by omega)
 | n + 1, a, hn, ha => by
  have hna := nextA_le ha
  have hge : a ≤ nextA s a := by unfold nextA; omega
  cases hb : firstB (s.drop (nextA s a)) with
  | false => rw [lexAt_no ha hb]; simp [sumT]; omega
  | true =>
   obtain ⟨t1, t2⟩ := thenA_le ha hb
   have hth : thenA s a = nextA s a + (tokA s a).t.length := rfl
   by_cases hk : (firstT (s.drop (nextA s a))).k = 5
   ·rw [lexAt_end ha hb hk]; simp only [sumT]; omega
   ·rw [lexAt_on ha hb hk]
    have ih := lex_sum (s := s) n (thenA s a) (by have := t2.resolve_left hk; omega) t1
    simp only [sumT]; omega
theorem row_of {l : List Tk} (hne : l ≠ []) (hk : ∀ i, i < l.length → ((nth l i).k = 5 ↔ i + 1 = l.length)) (al : ∀ t ∈ l, t.k ≠ 5 → Alone t) (en : ∀ t ∈ l, t.k = 5 → t.t = [] ∧ t.v = v0) : RowOk l := by
 induction l with
 | nil => exact absurd rfl hne
 | cons t r ih =>
  cases r with
  | nil =>
   have h5 : t.k = 5 := (hk 0 (by simp)).2 rfl
   exact ⟨h5, en t List.mem_cons_self h5⟩
  | cons u r =>
   have h5 : t.k ≠ 5 := fun h => by have := (hk 0 (by simp)).1 h; simp at this
   refine ⟨al t List.mem_cons_self h5, ih (by simp) (fun i hi => ?_) (fun x hx => al x (List.mem_cons_of_mem _ hx)) (fun x hx => en x (List.mem_cons_of_mem _ hx))⟩
   have := hk (i + 1) (by simpa using hi)
   simp only [List.length_cons] at this ⊢
   exact this.trans ⟨fun h => by omega, fun h => by omega⟩
/-- a text that has tokens -/
structure LxT (s : List UInt8) : Prop where
 len : s.length ≤ 2000
 tk : TkOk (lexT s)
 n0 : 0 < (lexT s).length
 five : ∀ i, i < (lexT s).length → ((nth (lexT s) i).k = 5 ↔ i + 1 = (lexT s).length)
 row : RowOk (lexT s)
 tv : TV (lexT s)
 up : ∀ i j, i < j → j < (lexT s).length → (nth (lexT s) i).a < (nth (lexT s) j).a
 pos : ∀ i, i < (lexT s).length → 0 ≤ (nth (lexT s) i).a ∧ (nth (lexT s) i).a ≤ s.length
 at_ : lexAt s 0 = (lexT s, none)
 few : (lexT s).length ≤ s.length + 1
 sum : sumT (lexT s) ≤ s.length
theorem lxT {s : List UInt8} (h : lexE s = 0) : LxT s := by
 obtain ⟨h1, h2, h3, _⟩ := lexT_at h
 obtain ⟨hk, h0, h5, hp⟩ := lex_tk h
 have ok := lexAt_ok (s := s) (s.length + 1) 0 (by omega) (by omega)
 have hs := lex_sum (s := s) (s.length + 1) 0 (by omega) (by omega)
 have hf := (lexAt_tk (s := s) (s.length + 1) 0 (by omega) (by omega) h2).2.1
 rw [← h3] at ok hs hf
 refine ⟨h1, hk, h0, h5, row_of (List.length_pos_iff.1 h0) h5 ok.al ok.en, fun i hi => ?_, pair_nth ok.up, fun i hi => (hp i hi).2, ?_, by omega, by omega⟩
 ·rcases Nat.lt_or_ge i (lexT s).length with hl | hl
  ·exact ok.tv _ (nth_mem hl) hi
  ·have : nth (lexT s) i = default := by simp [nth, List.getD_eq_getElem?_getD, List.getElem?_eq_none hl]
   rw [this] at hi; exact absurd hi (by decide)
 ·rw [h3]; exact Prod.ext rfl h2
theorem lexT_of {s : List UInt8} {l : List Tk} (hl : s.length ≤ 2000) (h : lexAt s 0 = (l, none)) : lexT s = l ∧ lexE s = 0 := by
 have := lex_some (s := s) (l := l) (by simp; omega) h
 exact ⟨this.1, this.2.2⟩
end Go.Proofs.YtonchjamoblioaaGreatDoor
namespace Go.Proofs.YtonchjamoblioaaGreatDoor
open Go.Kin Go.Lib
/-! ### what is shown, as tokens: lexed, they are these -/
def gG (g : Bool) : List UInt8 := if g = true then [32] else []
def flat : List Pc → List UInt8
 | [] => []
 | p :: r => gG p.1 ++ (p.2.t ++ flat r)
theorem flat_app : ∀ a b : List Pc, flat (a ++ b) = flat a ++ flat b
 | [], _ => rfl
 | p :: a, b => by simp [flat, flat_app a b]
def toksP (a : Nat) : List Pc → List Tk
 | [] => [⟨5, [], a, v0⟩]
 | p :: r => p.2.at' (a + (gG p.1).length : Nat) :: toksP (a + (gG p.1).length + p.2.t.length) r
def Fits (t : Tk) (R : List UInt8) : Prop := t.k ≠ 5 ∧ firstT (t.t ++ R) = t.at' 0 ∧ firstB (t.t ++ R) = true ∧ spanN blankI (t.t ++ R) = 0
def LexOk : List Pc → List UInt8 → Prop
 | [], _ => True
 | p :: r, R => Fits p.2 (flat r ++ R) ∧ LexOk r R
theorem LexOk_app : ∀ (a b : List Pc) (R : List UInt8), LexOk (a ++ b) R ↔ LexOk a (flat b ++ R) ∧ LexOk b R
 | [], _, _ => by simp [LexOk]
 | p :: a, b, R => by simp only [List.cons_append, LexOk, LexOk_app a b R, flat_app, List.append_assoc, and_assoc]
theorem toks_len : ∀ (l : List Pc) (a : Nat), (toksP a l).length = l.length + 1
 | [], _ => rfl
 | p :: r, a => by simp [toksP, toks_len r]
theorem lex_flat : ∀ (l : List Pc) (a f : Nat), LexOk l [] → l.length < f → lexR f a (flat l) = (toksP a l, none)
 | [], a, f, _, hf => by
  obtain ⟨f, rfl⟩ : ∃ q, f = q + 1 := ⟨f - 1, by simp at hf; omega⟩
  have := lexR_last (f := f) (a := a) (g := []) rfl
  exact this
 | p :: r, a, f, h, hf => by
  obtain ⟨f, rfl⟩ : ∃ q, f = q + 1 := ⟨f - 1, by simp at hf; omega⟩
  obtain ⟨⟨h1, h2, h3, h4⟩, hr⟩ := h
  rw [List.append_nil] at h2 h3 h4
  have ih := lex_flat r (a + (gG p.1).length + p.2.t.length) f hr (by simpa using hf)
  have st := lexR_step (f := f) (a := a) (g := gG p.1) (R := flat r) (t := p.2) (by unfold gG; split; rfl; rfl) h4 h1 h2 h3
  rw [ih] at st
  exact st
theorem at_toks : ∀ (l : List Pc) (pre : List Tk) (a : Nat), At (pre ++ toksP a l) pre.length l
 | [], _, _ => trivial
 | p :: r, pre, a => by
  have e : nth (pre ++ toksP a (p :: r)) pre.length = p.2.at' (a + (gG p.1).length : Nat) := nth_of (by rw [List.getElem?_append_right (Nat.le_refl _), Nat.sub_self]; rfl)
  refine ⟨by rw [e]; exact ⟨rfl, rfl, rfl⟩, ?_⟩
  have := at_toks r (pre ++ [p.2.at' (a + (gG p.1).length : Nat)]) (a + (gG p.1).length + p.2.t.length)
  simpa [toksP] using this
theorem last_toks : ∀ (l : List Pc) (a : Nat), (nth (toksP a l) l.length).k = 5
 | [], _ => rfl
 | p :: r, a => last_toks r _
/-! tokens, each before what stands behind it -/
def Soft (R : List UInt8) : Prop := ∀ c r, R = c :: r → signI c.toNat = false
theorem soft_nil : Soft [] := fun c r h => by cases h
theorem soft_cons {c : UInt8} {R : List UInt8} (h : signI c.toNat = false) : Soft (c :: R) := fun d r e => by cases e; exact h
theorem span_soft {p : Int → Bool} (hp : ∀ n, p n = true → signI n = true) {R : List UInt8} (h : Soft R) : ∀ x : List UInt8, spanN p (x ++ R) = spanN p x := by
 cases R with
 | nil => intro x; rw [List.append_nil]
 | cons c r =>
  intro x
  refine spanN_stop ?_ _ x
  cases hc : p c.toNat with
  | false => rfl
  | true => have := hp _ hc; rw [h c r rfl] at this; cases this
theorem span_whole {p : Int → Bool} {w : List UInt8} (h : w.all (fun c => p c.toNat) = true) : spanN p w = w.length := by
 have := spanN_full (p := p) [] w h
 simpa [spanN] using this
theorem letter_noblank {n : Int} (h : letterI n = true) : blankI n = false := by
 unfold letterI at h; simp only [Bool.and_eq_true, decide_eq_true_eq] at h
 unfold blankI; simp; omega
theorem word_fits {w : List UInt8} (hv : vertexB w = true) (hl : letterI (w.getD 0 0).toNat = true) {R : List UInt8} (hR : Soft R) : Fits (wd w) R := by
 have h0 : 0 < w.length := vertex_pos hv
 obtain ⟨c, r, rfl⟩ : ∃ c r, w = c :: r := by cases w with | nil => simp at h0 | cons c r => exact ⟨c, r, rfl⟩
 have hall : (c :: r).all (fun c => signI c.toNat) = true := by unfold vertexB at hv; rw [Bool.and_eq_true] at hv; exact hv.1
 have e1 : wordN (c :: r ++ R) = c :: r := by
  unfold wordN
  rw [span_soft (fun n h => h) hR, span_whole hall]; exact List.take_left
 have hg : (c :: r ++ R).getD 0 0 = c := rfl
 have hl' : letterI c.toNat = true := hl
 refine ⟨by simp [wd], ?_, ?_, ?_⟩
 ·show firstT (c :: r ++ R) = _
  unfold firstT
  rw [if_neg (by simp), hg, if_pos hl', e1]; rfl
 ·show firstB (c :: r ++ R) = _
  unfold firstB
  rw [if_neg (by simp), hg, if_pos hl', e1]; exact hv
 ·show spanN blankI (c :: (r ++ R)) = 0
  simp only [spanN]; rw [if_neg (by rw [letter_noblank hl']; decide)]
theorem free_fits {w : List UInt8} (h : freeB w = true) {R : List UInt8} (hR : Soft R) : Fits (wd w) R := by
 unfold freeB at h; simp only [Bool.and_eq_true] at h
 exact word_fits h.1 h.2.1 hR
/-- signs that begin no other -/
def closedS : List (List UInt8) := [[40], [41], [44], [46], [124], [42], [43], [63], [45, 91], [93, 45, 62], [61, 91], [93, 61, 62]]
theorem closed_only : ∀ w ∈ closedS, w ∈ signsF ∧ ∀ q ∈ signsF, w.isPrefixOf q = true → q = w := by decide
theorem closed_head : ∀ w ∈ closedS, letterI ((w.getD 0 0).toNat : Int) = false ∧ digitI ((w.getD 0 0).toNat : Int) = false ∧ blankI ((w.getD 0 0).toNat : Int) = false ∧ (((w.getD 0 0).toNat : Int) == 34) = false ∧ ((((w.getD 0 0).toNat : Int) == 45) = false ∨ w = [45, 91]) := by decide
theorem closed_best {w : List UInt8} (h : w ∈ closedS) (R : List UInt8) : bestSign (w ++ R) = w := by
 obtain ⟨h1, h2⟩ := closed_only w h
 refine isBest_unique (best_isBest _) (.inr ⟨h1, pre_iff.2 (List.prefix_append _ _), fun q hq hp => ?_⟩)
 have hp := pre_iff.1 hp
 rcases Nat.lt_or_ge w.length q.length with hl | hl
 ·have : w <+: q := List.prefix_of_prefix_length_le (List.prefix_append w R) hp (by omega)
  rw [h2 q hq (List.isPrefixOf_iff_prefix.2 this)]; exact Nat.le_refl _
 ·exact hl
theorem sign_fits {w : List UInt8} (h : w ∈ closedS) (R : List UInt8) : Fits (sg w) R := by
 obtain ⟨a1, a2, a3, a4, a5⟩ := closed_head w h
 have hb := closed_best h R
 have hne : 0 < w.length := signs_ne w (closed_only w h).1
 obtain ⟨c, r, rfl⟩ : ∃ c r, w = c :: r := by cases w with | nil => simp at hne | cons c r => exact ⟨c, r, rfl⟩
 have hg : (c :: r ++ R).getD 0 0 = c := rfl
 simp only [List.getD_cons_zero] at a1 a2 a3 a4 a5
 have h3 : ¬ ((((c.toNat : Int) == 45) && decide (0 < (spanN digitI ((c :: r ++ R).drop 1) : Int))) = true) := by
  rcases a5 with h | h
  ·rw [h]; simp
  ·cases h
   have : spanN digitI (([45, 91] ++ R).drop 1) = 0 := rfl
   rw [this]; simp
 refine ⟨by simp [sg], ?_, ?_, ?_⟩
 ·show firstT (c :: r ++ R) = _
  unfold firstT
  rw [if_neg (by simp), hg, if_neg (by rw [a1]; decide), if_neg (by rw [a2]; decide), if_neg h3, if_neg (by rw [a4]; decide), hb]; rfl
 ·show firstB (c :: r ++ R) = _
  unfold firstB
  rw [if_neg (by simp), hg, if_neg (by rw [a1]; decide), if_neg (by rw [a2]; decide), if_neg h3, if_neg (by rw [a4]; decide), hb]; rfl
 ·show spanN blankI (c :: (r ++ R)) = 0
  simp only [spanN]; rw [if_neg (by rw [a3]; decide)]
/-- signs of a comparison, behind which a blank stands -/
theorem cmp_fits (k : Int) (hk : 1 ≤ k ∧ k ≤ 6) (R : List UInt8) : Fits (sg (opS k)) (32 :: R) := by
 have : k = 1 ∨ k = 2 ∨ k = 3 ∨ k = 4 ∨ k = 5 ∨ k = 6 := by omega
 have key : ∀ w : List UInt8, firstB w = true → firstT w = ⟨4, w, 0, v0⟩ → spanN blankI w = 0 → 0 < w.length → Fits (sg w) (32 :: R) := fun w h1 h2 h3 h4 => by
  have := first_app (x := w) (y := R) (d := 32) (by decide) h1 (by rw [h2]; simp)
  exact ⟨by simp [sg], by show firstT (w ++ 32 :: R) = _; rw [this.1, h2]; rfl, this.2, span_head h3 h4⟩
 rcases this with rfl | rfl | rfl | rfl | rfl | rfl <;> exact key _ (by decide) (by decide) (by decide) (by decide)
end Go.Proofs.YtonchjamoblioaaGreatDoor
namespace Go.Proofs.YtonchjamoblioaaGreatDoor
open Go.Kin
set_option maxRecDepth 100000
set_option maxHeartbeats 0
def accS (b hd sep : List UInt8) (l : List (List UInt8)) (i : Nat) : List UInt8 := b ++ (if i = 0 then [] else hd ++ Lib.join (l.take i) sep)
theorem sumL_le {M c : Nat} : ∀ {l : List (List UInt8)}, (∀ x ∈ l, x.length ≤ M) → sumL c l ≤ (M + c) * l.length
 | [], _ => by simp [sumL]
 | x :: r, h => by
  have h1 := sumL_le (c := c) fun y hy => h y (List.mem_cons_of_mem _ hy)
  have h2 := h x List.mem_cons_self
  simp only [sumL, List.length_cons, Nat.mul_add, Nat.mul_one]; omega
theorem accS_all {b hd sep : List UInt8} {l : List (List UInt8)} {i : Nat} (h : l.length ≤ i) : accS b hd sep l i = b ++ (if i = 0 then [] else hd ++ Lib.join l sep) := by
 unfold accS; rw [List.take_of_length_le h]
/-! #### the text of a query -/
def txP (q : Qu) : List UInt8 := accS [109, 97, 116, 99, 104, 32] [] [44, 32] (q.p.map ptT) q.p.length
def txC (q : Qu) : List UInt8 := accS (txP q) [32, 119, 104, 101, 114, 101, 32] [32, 97, 110, 100, 32] (q.c.map cdT) q.c.length
def txR (q : Qu) : List UInt8 := accS (txC q ++ [32, 114, 101, 116, 117, 114, 110, 32]) [] [44, 32] (q.r.map opT) q.r.length
def quT (q : Qu) : List UInt8 := txR q ++ [32, 114, 97, 110, 103, 101, 32] ++ Lib.itoa q.range ++ [32, 115, 108, 105, 100, 101, 32] ++ Lib.itoa q.slide
noncomputable def quS (q : Qu) : List UInt8 := if quR q = true then (if 2000 < (quT q).length then [] else quT q) else []
noncomputable def quE (q : Qu) : Int := if quR q = true then (if 2000 < (quT q).length then 3 else 0) else 2
structure QuF (q : Qu) : Prop where
 p : ∀ p ∈ q.p, ptR p = true
 c : ∀ c ∈ q.c, cdR c = true
 r : ∀ o ∈ q.r, opR o = true
 lp : 1 ≤ q.p.length ∧ q.p.length ≤ 4
 lc : q.c.length ≤ 6
 lr : 1 ≤ q.r.length ∧ q.r.length ≤ 4
 ra : 1 ≤ q.range ∧ q.range ≤ 1048576
 sl : 1 ≤ q.slide ∧ q.slide ≤ 1048576
theorem qu_f {q : Qu} (h : quR q = true) : QuF q := by
 unfold quR at h
 simp only [Bool.and_eq_true, decide_eq_true_eq, List.all_eq_true] at h
 obtain ⟨h1, h2, h3, h4, h5, h6, h7, h8⟩ := h
 exact ⟨h6, h7, fun o ho => (h8 o ho).2, h1, h2, h3, h4, h5⟩
theorem sum_p {q : Qu} (h : QuF q) : sumL 2 (q.p.map ptT) ≤ 4008 := by
 have h1 := sumL_le (M := 1000) (c := 2) (l := q.p.map ptT) fun x hx => by
  obtain ⟨p, hp, rfl⟩ := List.mem_map.1 hx; exact ptT_len (h.p p hp)
 rw [List.length_map] at h1
 have := h.lp; omega
theorem sum_c {q : Qu} (h : QuF q) : sumL 5 (q.c.map cdT) ≤ 1830 := by
 have h1 := sumL_le (M := 300) (c := 5) (l := q.c.map cdT) fun x hx => by
  obtain ⟨p, hp, rfl⟩ := List.mem_map.1 hx; exact cdT_len (h.c p hp)
 rw [List.length_map] at h1
 have := h.lc; omega
theorem sum_r {q : Qu} (h : QuF q) : sumL 2 (q.r.map opT) ≤ 408 := by
 have h1 := sumL_le (M := 100) (c := 2) (l := q.r.map opT) fun x hx => by
  obtain ⟨p, hp, rfl⟩ := List.mem_map.1 hx; exact opT_len (h.r p hp)
 rw [List.length_map] at h1
 have := h.lr; omega
end Go.Proofs.YtonchjamoblioaaGreatDoor
