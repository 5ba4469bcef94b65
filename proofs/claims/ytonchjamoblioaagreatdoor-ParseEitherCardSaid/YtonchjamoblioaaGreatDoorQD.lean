/- Steps of a function body on data, and contracts of the functions of the seat, walked. -/
import Derived.Test.YtonchjamoblioaaGreatDoorQC
import Derived.Test.YtonchjamoblioaaGreatDoorPS
set_option linter.unusedSimpArgs false
set_option linter.unusedVariables false
set_option linter.unusedSectionVars false
namespace Go.Proofs.YtonchjamoblioaaGreatDoor
open Go.Kin
set_option maxRecDepth 100000
set_option maxHeartbeats 0
theorem lexAt_tk {s : List UInt8} : ∀ (n a : Nat), s.length - a < n → a ≤ s.length → (lexAt s a).2 = none → (lexAt s a).1 ≠ [] ∧ (lexAt s a).1.length ≤ s.length - a + 1 ∧ (∀ i, i < (lexAt s a).1.length → ((nth (lexAt s a).1 i).k = 5 ↔ i + 1 = (lexAt s a).1.length)) ∧
  ∀ t ∈ (lexAt s a).1, t.t.length ≤ s.length ∧ (a : Int) ≤ t.a ∧ t.a ≤ s.length
 | 0, a, h, _, _ => by omega
 | n + 1, a, hn, ha, h => by
  have hle := nextA_le ha
  have hge : a ≤ nextA s a := by unfold nextA; omega
  by_cases hb : firstB (s.drop (nextA s a)) = true
  ·have htl : (firstT (s.drop (nextA s a))).t.length ≤ s.length := by
    by_cases hk : (firstT (s.drop (nextA s a))).k = 5
    ·rw [first_end.1 hk]; show 0 ≤ _; omega
    ·have := (first_len hb hk).2; simp at this; omega
   have htok : (tokA s a).t.length ≤ s.length ∧ (a : Int) ≤ (tokA s a).a ∧ (tokA s a).a ≤ s.length := ⟨htl, by show (a : Int) ≤ (nextA s a : Nat); omega, by show ((nextA s a : Nat) : Int) ≤ _; omega⟩
   by_cases hk : (firstT (s.drop (nextA s a))).k = 5
   ·rw [lexAt_end ha hb hk]
    refine ⟨by simp, by simp, fun i hi => ?_, fun t ht => ?_⟩
    ·have : i = 0 := by simpa using hi
     subst this
     constructor
     ·intro _; rfl
     ·intro _; exact hk
    ·simp at ht; subst ht; exact htok
   ·have t := thenA_le ha hb
    have hlt := t.2.resolve_left hk
    rw [lexAt_on ha hb hk] at h ⊢
    simp only at h ⊢
    obtain ⟨i1, i2, i3, i4⟩ := lexAt_tk n (thenA s a) (by omega) t.1 h
    refine ⟨by simp, by simp; omega, fun i hi => ?_, fun x hx => ?_⟩
    ·cases i with
     | zero =>
      have : 0 < (lexAt s (thenA s a)).1.length := List.length_pos_iff.2 i1
      constructor
      ·intro h5; exact absurd h5 hk
      ·intro h5; simp at h5; exact absurd h5 i1
     | succ i =>
      have h5 := i3 i (by simpa using hi)
      simp only [List.length_cons]
      have e : nth (tokA s a :: (lexAt s (thenA s a)).1) (i + 1) = nth (lexAt s (thenA s a)).1 i := by simp [nth]
      rw [e, h5]; omega
    ·rcases List.mem_cons.1 hx with rfl | hx
     ·exact htok
     ·have := i4 x hx; omega
  ·have hb' : firstB (s.drop (nextA s a)) = false := by simpa using hb
   rw [lexAt_no ha hb'] at h; cases h
theorem lexT_at {s : List UInt8} (h : lexE s = 0) : s.length ≤ 2000 ∧ (lexAt s 0).2 = none ∧ lexT s = (lexAt s 0).1 ∧ lexA s = 0 := by
 unfold lexE at h
 by_cases hl : 2000 < (s.length : Int)
 ·rw [if_pos hl] at h; cases h
 ·rw [if_neg hl] at h
  unfold lexT lexA
  rw [if_neg hl, if_neg hl]
  have e : lexAll s = lexAt s 0 := rfl
  rw [e] at h ⊢
  cases h2 : (lexAt s 0).2 with
  | none => exact ⟨by omega, rfl, rfl, rfl⟩
  | some a => rw [h2] at h; cases h
theorem lex_tk {s : List UInt8} (h : lexE s = 0) : TkOk (lexT s) ∧ 0 < (lexT s).length ∧ (∀ i, i < (lexT s).length → ((nth (lexT s) i).k = 5 ↔ i + 1 = (lexT s).length)) ∧ ∀ i, i < (lexT s).length → (nth (lexT s) i).t.length ≤ s.length ∧ 0 ≤ (nth (lexT s) i).a ∧ (nth (lexT s) i).a ≤ s.length := by
 obtain ⟨h1, h2, h3, _⟩ := lexT_at h
 obtain ⟨i1, i2, i3, i4⟩ := lexAt_tk (s.length + 1) 0 (by omega) (by omega) h2
 rw [← h3] at i1 i2 i3 i4
 have i5 : ∀ i, i < (lexT s).length → (nth (lexT s) i).t.length ≤ s.length ∧ 0 ≤ (nth (lexT s) i).a ∧ (nth (lexT s) i).a ≤ s.length := fun i hi => by have := i4 _ (nth_mem hi); omega
 exact ⟨⟨by omega, by omega, fun i hi hk => by have h6 : ¬ (i + 1 = (lexT s).length) := fun e => hk ((i3 i hi).2 e); omega, fun i hi => by have := (i5 i hi).1; omega, fun i hi => by have := i5 i hi; omega⟩, List.length_pos_iff.2 i1, i3, i5⟩
/-- a whole text, by a rule -/
def readV {α : Type} (z : α) (rule : List Tk → PS → PR α) (s : List UInt8) : α × Int × Int :=
 if lexE s = 0 then (match rule (lexT s) ⟨0, -1⟩ with
  | .err a => (z, a, 7)
  | .ok s1 x => if (nth (lexT s) s1.n).k = 5 then (if 0 ≤ s1.m then (z, s1.m, 3) else (x, 0, 0)) else (z, (nth (lexT s) s1.n).a, 7))
 else (z, lexA s, lexE s)
section
variable {α : Type} {z : α} {rule : List Tk → PS → PR α} {s : List UInt8}
theorem readV_no (h : lexE s ≠ 0) : readV z rule s = (z, lexA s, lexE s) := if_neg h
theorem readV_err (h : lexE s = 0) {a : Int} (hr : rule (lexT s) ⟨0, -1⟩ = .err a) : readV z rule s = (z, a, 7) := by unfold readV; rw [if_pos h, hr]
theorem readV_end (h : lexE s = 0) {s1 : PS} {x : α} (hr : rule (lexT s) ⟨0, -1⟩ = .ok s1 x) (hk : (nth (lexT s) s1.n).k ≠ 5) : readV z rule s = (z, (nth (lexT s) s1.n).a, 7) := by unfold readV; rw [if_pos h, hr]; simp only; rw [if_neg hk]
theorem readV_long (h : lexE s = 0) {s1 : PS} {x : α} (hr : rule (lexT s) ⟨0, -1⟩ = .ok s1 x) (hk : (nth (lexT s) s1.n).k = 5) (hm : 0 ≤ s1.m) : readV z rule s = (z, s1.m, 3) := by unfold readV; rw [if_pos h, hr]; simp only; rw [if_pos hk, if_pos hm]
theorem readV_ok (h : lexE s = 0) {s1 : PS} {x : α} (hr : rule (lexT s) ⟨0, -1⟩ = .ok s1 x) (hk : (nth (lexT s) s1.n).k = 5) (hm : ¬ 0 ≤ s1.m) : readV z rule s = (x, 0, 0) := by unfold readV; rw [if_pos h, hr]; simp only; rw [if_pos hk, if_neg hm]
end
def qz : Qu := ⟨[], [], [], 0, 0⟩
def xz : Ex := .mk 0 [] []
attribute [go_sem] Qu.p Qu.c Qu.r Qu.range Qu.slide
theorem wholeN_adv {l : List Tk} (hk : TkOk l) {s : PS} (hn : s.n < l.length) : ∀ s1 x, wholeP l s = .ok s1 x → s1.n < l.length := fun s1 x h => (whole_adv hk hn s1 x h).1.2
theorem query_adv {l : List Tk} (hk : TkOk l) {s : PS} (hn : s.n < l.length) : ∀ s1 q, queryP l s = .ok s1 q → s1.n < l.length := by
 intro s1 q h
 obtain ⟨s2, _, h2, h⟩ := bind_ok h
 obtain ⟨s3, _, h3, h⟩ := bind_ok h
 obtain ⟨s4, _, h4, h⟩ := bind_ok h
 obtain ⟨s5, _, h5, h⟩ := bind_ok h
 obtain ⟨s6, _, h6, h⟩ := bind_ok h
 obtain ⟨s7, _, h7, h⟩ := bind_ok h
 obtain ⟨s8, _, h8, h⟩ := bind_ok h
 obtain ⟨s9, _, h9, h⟩ := bind_ok h
 obtain ⟨s0, _, h0, h⟩ := bind_ok h
 cases h
 have many : ∀ {α : Type} {rd : PS → PR α} {w : List UInt8} {mx : Nat}, (∀ s : PS, s.n < l.length → AdvP l s (rd s)) → ∀ (f : Nat) (s : PS) (acc : List α), s.n < l.length → ∀ s1 xs, manyP l rd w mx f s acc = .ok s1 xs → s1.n < l.length := by
  intro α rd w mx hr f
  induction f with
  | zero => intro s acc _ s1 xs h; cases h
  | succ f ih =>
   intro s acc hs s1 xs h
   obtain ⟨t1, x, g1, h⟩ := bind_ok h
   have a1 := hr _ (by rw [limS_n]; exact hs) _ _ g1
   split at h
   ·rename_i hp; exact ih _ _ (is_adv hk a1.2 hp) _ _ h
   ·cases h; exact a1.2
 have a2 := must_adv hk hn _ _ h2
 have a3 := many (fun s hs => pat_adv hk hs) _ _ _ a2.2 _ _ h3
 have a4 : s4.n < l.length := by
  split at h4
  ·rename_i hp; exact many (fun s hs => cd_adv hk hs) _ _ _ (is_adv hk a3 hp) _ _ h4
  ·cases h4; exact a3
 have a5 := must_adv hk a4 _ _ h5
 have a6 := many (fun s hs => told_adv hk hs) _ _ _ a5.2 _ _ h6
 have a7 := must_adv hk a6 _ _ h7
 have a8 := num_adv hk a7.2 _ _ h8
 have a9 := must_adv hk a8.2 _ _ h9
 exact (num_adv hk a9.2 _ _ h0).2
attribute [go_sem] qz xz
theorem readQ_ok (s : List UInt8) (hs : s.length ≤ 140737488351232) : FnOK LaidX Tryz.prog 60 [sv s, .fn 61 []] (.tup [quD (readV qz queryP s).1, iv (readV qz queryP s).2.1, iv (readV qz queryP s).2.2]) := by
 refine FnOK_of laidX_stable Tryz.func60 Tryz.ntmps60 rfl (by as_aux_lemma => kernel_rfl) (Nat.le_of_ble_eq_true rfl) (fun R hR => ?_)
 obtain ⟨_, b, cs, T, C⟩ := R
 obtain rfl : _ = Tryz.prog := hR.p
 refine sreg te_ok ?_
 refine sq ?_
 apply Exec.regionL te_ok
 ·intro u' Q hQ
  simp only [go_sem]
  repeat refine ob2 ?_
  refine kcall hR.inv te_ok rfl rfl rfl rfl rfl rfl (lex_ok s (by omega)) ?_
  simp only [go_sem]
  repeat refine ob2 ?_
  exact hQ
 refine sq ?_
 refine sreg te_ok ?_
 refine Exec.cond_split rfl (fun h0 => ?_) (fun h0 => ?_)
 ·have hE : lexE s ≠ 0 := by simpa using h0
  refine sq ?_
  apply Exec.free (st := _) 7 6 [(0, 1), (0, 2), (1, 2), (1, 3), (2, 3), (2, 4)] te_ok (by as_aux_lemma => kernel_rfl) rfl (by as_aux_lemma => kernel_rfl)
  ·intro u' Q hQ
   simp only [go_sem]
   repeat refine ob2 ?_
   exact hQ
  ·rfl
  refine Exec.rets hR te_ok rfl rfl rfl (LeX.le ?_) (.inr ⟨_, rfl⟩)
  rw [readV_no hE]
  simp only [go_sem]
 ·have hE : lexE s = 0 := by simpa using h0
  obtain ⟨hk, h0n, _, _⟩ := lex_tk hE
  refine sk ?_
  refine sq ?_
  refine Exec.regStart 2 rfl ?_
  apply Exec.regPart 0 1 1 te_ok rfl
  ·intro u' Q hQ
   simp only [go_sem]
   repeat refine ob2 ?_
   exact hQ
  refine Exec.deferOp hR.round rfl rfl rfl rfl rfl rfl rfl (fun ac hac => ?_)
  apply Exec.norm
  ·simp only [go_sem]
   rfl
  refine Exec.regEnd ?_
  refine sreg te_ok ?_
  refine sq ?_
  rcases hq1 : queryP (lexT s) ⟨0, -1⟩ with ⟨⟨n1, m1⟩, x1⟩ | at1
  ·have hn1 : n1 < (lexT s).length := query_adv hk (s := ⟨0, -1⟩) h0n _ _ hq1
   apply Exec.regionL te_ok
   ·intro u' Q hQ
    simp only [go_sem]
    repeat refine ob2 ?_
    refine kcallM 25 hR.inv te_ok rfl rfl rfl rfl rfl rfl rfl rfl rfl ((fOk (pquery_ok (lexT s) 0 (-1) hk h0n) hq1).weak laidX_laid) ?_
    simp only [go_sem]
    repeat refine ob2 ?_
    exact hQ
   refine sq ?_
   refine sq ?_
   apply Exec.regionL te_ok
   ·intro u' Q hQ
    simp only [go_sem]
    repeat refine ob2 ?_
    refine kcallM 25 hR.inv te_ok rfl rfl rfl rfl rfl rfl rfl rfl rfl ((token_ok (lexT s) n1 m1 hn1).weak laidX_laid) ?_
    simp only [go_sem]
    repeat refine ob2 ?_
    exact hQ
   refine Exec.cond_split rfl (fun h1 => ?_) (fun h1 => ?_)
   ·have hk5 : (nth (lexT s) n1).k ≠ 5 := by simpa using h1
    refine Exec.regStart 2 rfl ?_
    apply Exec.regPart 0 1 1 te_ok rfl
    ·intro u' Q hQ
     simp only [go_sem]
     repeat refine ob2 ?_
     exact hQ
    refine Exec.callP 25 hR.inv rfl rfl rfl rfl rfl rfl rfl rfl rfl ((fail_ok (lexT s) n1 m1 hn1).weak laidX_laid) ?_
    refine ExecP.defer rfl hac List.mem_cons_self Tryz.func122 Tryz.ntmps122 rfl (by as_aux_lemma => kernel_rfl) (Nat.le_of_ble_eq_true rfl) (fun ao av k0 v hao haod hav => ?_)
    refine Exec.ren (swJ 1) ?_
    apply Exec.norm
    ·simp only [go_sem]
     rfl
    refine sq ?_
    refine Exec.regStart 2 rfl ?_
    refine Exec.recover rfl rfl rfl (Nat.le_of_ble_eq_true rfl) rfl (List.mem_cons_of_mem _ List.mem_cons_self) rfl hav ?_
    apply Exec.norm
    ·simp only [go_sem]
     rfl
    apply Exec.regPart 1 1 0 te_ok rfl
    ·intro u' Q hQ
     simp only [go_sem]
     repeat refine ob2 ?_
     exact hQ
    refine Exec.regEnd ?_
    refine sreg te_ok ?_
    refine Exec.cond (t := true) rfl ?_
    simp only [reduceIte, Bool.false_eq_true]
    refine sq ?_
    apply Exec.regionL te_ok
    ·intro u' Q hQ
     simp only [go_sem]
     repeat refine ob2 ?_
     refine kassert te_ok rfl rfl rfl rfl rfl (fun m h => by cases h) ?_
     simp only [go_sem]
     repeat refine ob2 ?_
     exact hQ
    refine sq ?_
    refine sreg te_ok ?_
    refine Exec.cond (t := false) rfl ?_
    simp only [reduceIte, Bool.false_eq_true]
    refine sk ?_
    refine sreg te_ok ?_
    apply Exec.free (st := _) 7 6 [(0, 1), (0, 2), (1, 3), (2, 3)] te_ok (by as_aux_lemma => kernel_rfl) rfl (by as_aux_lemma => kernel_rfl)
    ·intro u' Q hQ
     simp only [go_sem]
     repeat refine ob2 ?_
     exact hQ
    ·rfl
    refine Exec.leaveD Tryz.func122 rfl (.inl rfl) rfl rfl hao haod rfl ?_
    refine ExecR.ren (swJ 1) ?_
    apply ExecR.norm
    ·simp only [go_sem]
     rfl
    refine ExecR.done hR te_ok rfl rfl rfl (LeX.le ?_)
    rw [readV_end hE hq1 hk5]
    simp only [go_sem]
   ·have hk5 : (nth (lexT s) n1).k = 5 := by simpa using h1
    refine sk ?_
    refine sq ?_
    refine sreg te_ok ?_
    refine Exec.cond_split rfl (fun h2 => ?_) (fun h2 => ?_)
    ·have hm : 0 ≤ m1 := by simpa using h2
     refine sq ?_
     apply Exec.free (st := _) 9 8 [(0, 1), (0, 2), (0, 3), (0, 4), (1, 5), (2, 5), (3, 5), (4, 5)] te_ok (by as_aux_lemma => kernel_rfl) rfl (by as_aux_lemma => kernel_rfl)
     ·intro u' Q hQ
      simp only [go_sem]
      repeat refine ob2 ?_
      exact hQ
     ·rfl
     refine Exec.retR hR.round (.inr ⟨_, rfl⟩) ?_
     refine ExecR.defer rfl hac List.mem_cons_self Tryz.func122 Tryz.ntmps122 rfl (by as_aux_lemma => kernel_rfl) (Nat.le_of_ble_eq_true rfl) (fun ao k0 hao haod => ?_)
     refine Exec.ren (swJ 1) ?_
     apply Exec.norm
     ·simp only [go_sem]
      rfl
     refine sq ?_
     refine Exec.regStart 2 rfl ?_
     refine Exec.recoverNo rfl rfl rfl (Nat.le_of_ble_eq_true rfl) rfl ?_
     apply Exec.norm
     ·simp only [go_sem]
      rfl
     apply Exec.regPart 1 1 0 te_ok rfl
     ·intro u' Q hQ
      simp only [go_sem]
      repeat refine ob2 ?_
      exact hQ
     refine Exec.regEnd ?_
     refine sreg te_ok ?_
     refine Exec.cond (t := false) rfl ?_
     simp only [reduceIte, Bool.false_eq_true]
     refine sk ?_
     refine Exec.leaveD Tryz.func122 rfl (.inl rfl) rfl rfl hao haod rfl ?_
     refine ExecR.ren (swJ 1) ?_
     apply ExecR.norm
     ·simp only [go_sem]
      rfl
     refine ExecR.done hR te_ok rfl rfl rfl (LeX.le ?_)
     rw [readV_long hE hq1 hk5 hm]
     simp only [go_sem]
    ·have hm : ¬ 0 ≤ m1 := by simpa using h2
     refine sk ?_
     refine sreg te_ok ?_
     refine Exec.retR hR.round (.inr ⟨_, rfl⟩) ?_
     refine ExecR.defer rfl hac List.mem_cons_self Tryz.func122 Tryz.ntmps122 rfl (by as_aux_lemma => kernel_rfl) (Nat.le_of_ble_eq_true rfl) (fun ao k0 hao haod => ?_)
     refine Exec.ren (swJ 1) ?_
     apply Exec.norm
     ·simp only [go_sem]
      rfl
     refine sq ?_
     refine Exec.regStart 2 rfl ?_
     refine Exec.recoverNo rfl rfl rfl (Nat.le_of_ble_eq_true rfl) rfl ?_
     apply Exec.norm
     ·simp only [go_sem]
      rfl
     apply Exec.regPart 1 1 0 te_ok rfl
     ·intro u' Q hQ
      simp only [go_sem]
      repeat refine ob2 ?_
      exact hQ
     refine Exec.regEnd ?_
     refine sreg te_ok ?_
     refine Exec.cond (t := false) rfl ?_
     simp only [reduceIte, Bool.false_eq_true]
     refine sk ?_
     refine Exec.leaveD Tryz.func122 rfl (.inl rfl) rfl rfl hao haod rfl ?_
     refine ExecR.ren (swJ 1) ?_
     apply ExecR.norm
     ·simp only [go_sem]
      rfl
     refine ExecR.done hR te_ok rfl rfl rfl (LeX.le ?_)
     rw [readV_ok hE hq1 hk5 hm]
     simp only [go_sem]
  ·refine Exec.regStart 5 rfl ?_
   apply Exec.regPart 0 2 3 te_ok rfl
   ·intro u' Q hQ
    simp only [go_sem]
    repeat refine ob2 ?_
    exact hQ
   refine Exec.callP 25 hR.inv rfl rfl rfl rfl rfl rfl rfl rfl rfl ((fEr (pquery_ok (lexT s) 0 (-1) hk h0n) hq1).weak laidX_laid) ?_
   refine ExecP.defer rfl hac List.mem_cons_self Tryz.func122 Tryz.ntmps122 rfl (by as_aux_lemma => kernel_rfl) (Nat.le_of_ble_eq_true rfl) (fun ao av k0 v hao haod hav => ?_)
   refine Exec.ren (swJ 1) ?_
   apply Exec.norm
   ·simp only [go_sem]
    rfl
   refine sq ?_
   refine Exec.regStart 2 rfl ?_
   refine Exec.recover rfl rfl rfl (Nat.le_of_ble_eq_true rfl) rfl (List.mem_cons_of_mem _ List.mem_cons_self) rfl hav ?_
   apply Exec.norm
   ·simp only [go_sem]
    rfl
   apply Exec.regPart 1 1 0 te_ok rfl
   ·intro u' Q hQ
    simp only [go_sem]
    repeat refine ob2 ?_
    exact hQ
   refine Exec.regEnd ?_
   refine sreg te_ok ?_
   refine Exec.cond (t := true) rfl ?_
   simp only [reduceIte, Bool.false_eq_true]
   refine sq ?_
   apply Exec.regionL te_ok
   ·intro u' Q hQ
    simp only [go_sem]
    repeat refine ob2 ?_
    refine kassert te_ok rfl rfl rfl rfl rfl (fun m h => by cases h) ?_
    simp only [go_sem]
    repeat refine ob2 ?_
    exact hQ
   refine sq ?_
   refine sreg te_ok ?_
   refine Exec.cond (t := false) rfl ?_
   simp only [reduceIte, Bool.false_eq_true]
   refine sk ?_
   refine sreg te_ok ?_
   apply Exec.free (st := _) 7 6 [(0, 1), (0, 2), (1, 3), (2, 3)] te_ok (by as_aux_lemma => kernel_rfl) rfl (by as_aux_lemma => kernel_rfl)
   ·intro u' Q hQ
    simp only [go_sem]
    repeat refine ob2 ?_
    exact hQ
   ·rfl
   refine Exec.leaveD Tryz.func122 rfl (.inl rfl) rfl rfl hao haod rfl ?_
   refine ExecR.ren (swJ 1) ?_
   apply ExecR.norm
   ·simp only [go_sem]
    rfl
   refine ExecR.done hR te_ok rfl rfl rfl (LeX.le ?_)
   rw [readV_err hE hq1]
   simp only [go_sem]
theorem readX_ok (s : List UInt8) (hs : s.length ≤ 140737488351232) : FnOK LaidX Tryz.prog 66 [sv s, .fn 67 []] (.tup [exD (readV xz wholeP s).1, iv (readV xz wholeP s).2.1, iv (readV xz wholeP s).2.2]) := by
 refine FnOK_of laidX_stable Tryz.func66 Tryz.ntmps66 rfl (by as_aux_lemma => kernel_rfl) (Nat.le_of_ble_eq_true rfl) (fun R hR => ?_)
 obtain ⟨_, b, cs, T, C⟩ := R
 obtain rfl : _ = Tryz.prog := hR.p
 refine sreg te_ok ?_
 refine sq ?_
 apply Exec.regionL te_ok
 ·intro u' Q hQ
  simp only [go_sem]
  repeat refine ob2 ?_
  refine kcall hR.inv te_ok rfl rfl rfl rfl rfl rfl (lex_ok s (by omega)) ?_
  simp only [go_sem]
  repeat refine ob2 ?_
  exact hQ
 refine sq ?_
 refine sreg te_ok ?_
 refine Exec.cond_split rfl (fun h0 => ?_) (fun h0 => ?_)
 ·have hE : lexE s ≠ 0 := by simpa using h0
  refine sq ?_
  apply Exec.free (st := _) 7 6 [(0, 1), (0, 2), (1, 2), (1, 3), (2, 3), (2, 4)] te_ok (by as_aux_lemma => kernel_rfl) rfl (by as_aux_lemma => kernel_rfl)
  ·intro u' Q hQ
   simp only [go_sem]
   repeat refine ob2 ?_
   exact hQ
  ·rfl
  refine Exec.rets hR te_ok rfl rfl rfl (LeX.le ?_) (.inr ⟨_, rfl⟩)
  rw [readV_no hE]
  simp only [go_sem]
  exact ⟨rfl, rfl, by rw [kd_eq]; exact ⟨rfl, rfl⟩⟩
 ·have hE : lexE s = 0 := by simpa using h0
  obtain ⟨hk, h0n, _, _⟩ := lex_tk hE
  refine sk ?_
  refine sq ?_
  refine Exec.regStart 2 rfl ?_
  apply Exec.regPart 0 1 1 te_ok rfl
  ·intro u' Q hQ
   simp only [go_sem]
   repeat refine ob2 ?_
   exact hQ
  refine Exec.deferOp hR.round rfl rfl rfl rfl rfl rfl rfl (fun ac hac => ?_)
  apply Exec.norm
  ·simp only [go_sem]
   rfl
  refine Exec.regEnd ?_
  refine sreg te_ok ?_
  refine sq ?_
  rcases hq1 : wholeP (lexT s) ⟨0, -1⟩ with ⟨⟨n1, m1⟩, x1⟩ | at1
  ·have hn1 : n1 < (lexT s).length := wholeN_adv hk (s := ⟨0, -1⟩) h0n _ _ hq1
   apply Exec.regionL te_ok
   ·intro u' Q hQ
    simp only [go_sem]
    repeat refine ob2 ?_
    refine kcallM 25 hR.inv te_ok rfl rfl rfl rfl rfl rfl rfl rfl rfl ((fOk (pwhole_ok (lexT s) 0 (-1) hk h0n) hq1).weak laidX_laid) ?_
    simp only [go_sem]
    repeat refine ob2 ?_
    exact hQ
   refine sq ?_
   refine sq ?_
   apply Exec.regionL te_ok
   ·intro u' Q hQ
    simp only [go_sem]
    repeat refine ob2 ?_
    refine kcallM 25 hR.inv te_ok rfl rfl rfl rfl rfl rfl rfl rfl rfl ((token_ok (lexT s) n1 m1 hn1).weak laidX_laid) ?_
    simp only [go_sem]
    repeat refine ob2 ?_
    exact hQ
   refine Exec.cond_split rfl (fun h1 => ?_) (fun h1 => ?_)
   ·have hk5 : (nth (lexT s) n1).k ≠ 5 := by simpa using h1
    refine Exec.regStart 2 rfl ?_
    apply Exec.regPart 0 1 1 te_ok rfl
    ·intro u' Q hQ
     simp only [go_sem]
     repeat refine ob2 ?_
     exact hQ
    refine Exec.callP 25 hR.inv rfl rfl rfl rfl rfl rfl rfl rfl rfl ((fail_ok (lexT s) n1 m1 hn1).weak laidX_laid) ?_
    refine ExecP.defer rfl hac List.mem_cons_self Tryz.func133 Tryz.ntmps133 rfl (by as_aux_lemma => kernel_rfl) (Nat.le_of_ble_eq_true rfl) (fun ao av k0 v hao haod hav => ?_)
    refine Exec.ren (swJ 1) ?_
    apply Exec.norm
    ·simp only [go_sem]
     rfl
    refine sq ?_
    refine Exec.regStart 2 rfl ?_
    refine Exec.recover rfl rfl rfl (Nat.le_of_ble_eq_true rfl) rfl (List.mem_cons_of_mem _ List.mem_cons_self) rfl hav ?_
    apply Exec.norm
    ·simp only [go_sem]
     rfl
    apply Exec.regPart 1 1 0 te_ok rfl
    ·intro u' Q hQ
     simp only [go_sem]
     repeat refine ob2 ?_
     exact hQ
    refine Exec.regEnd ?_
    refine sreg te_ok ?_
    refine Exec.cond (t := true) rfl ?_
    simp only [reduceIte, Bool.false_eq_true]
    refine sq ?_
    apply Exec.regionL te_ok
    ·intro u' Q hQ
     simp only [go_sem]
     repeat refine ob2 ?_
     refine kassert te_ok rfl rfl rfl rfl rfl (fun m h => by cases h) ?_
     simp only [go_sem]
     repeat refine ob2 ?_
     exact hQ
    refine sq ?_
    refine sreg te_ok ?_
    refine Exec.cond (t := false) rfl ?_
    simp only [reduceIte, Bool.false_eq_true]
    refine sk ?_
    refine sreg te_ok ?_
    apply Exec.free (st := _) 7 6 [(0, 1), (0, 2), (1, 3), (2, 3)] te_ok (by as_aux_lemma => kernel_rfl) rfl (by as_aux_lemma => kernel_rfl)
    ·intro u' Q hQ
     simp only [go_sem]
     repeat refine ob2 ?_
     exact hQ
    ·rfl
    refine Exec.leaveD Tryz.func133 rfl (.inl rfl) rfl rfl hao haod rfl ?_
    refine ExecR.ren (swJ 1) ?_
    apply ExecR.norm
    ·simp only [go_sem]
     rfl
    refine ExecR.done hR te_ok rfl rfl rfl (LeX.le ?_)
    rw [readV_end hE hq1 hk5]
    simp only [go_sem]
    exact ⟨rfl, rfl, by rw [kd_eq]; exact ⟨rfl, rfl⟩⟩
   ·have hk5 : (nth (lexT s) n1).k = 5 := by simpa using h1
    refine sk ?_
    refine sq ?_
    refine sreg te_ok ?_
    refine Exec.cond_split rfl (fun h2 => ?_) (fun h2 => ?_)
    ·have hm : 0 ≤ m1 := by simpa using h2
     refine sq ?_
     apply Exec.free (st := _) 9 8 [(0, 1), (0, 2), (0, 3), (0, 4), (1, 5), (2, 5), (3, 5), (4, 5)] te_ok (by as_aux_lemma => kernel_rfl) rfl (by as_aux_lemma => kernel_rfl)
     ·intro u' Q hQ
      simp only [go_sem]
      repeat refine ob2 ?_
      exact hQ
     ·rfl
     refine Exec.retR hR.round (.inr ⟨_, rfl⟩) ?_
     refine ExecR.defer rfl hac List.mem_cons_self Tryz.func133 Tryz.ntmps133 rfl (by as_aux_lemma => kernel_rfl) (Nat.le_of_ble_eq_true rfl) (fun ao k0 hao haod => ?_)
     refine Exec.ren (swJ 1) ?_
     apply Exec.norm
     ·simp only [go_sem]
      rfl
     refine sq ?_
     refine Exec.regStart 2 rfl ?_
     refine Exec.recoverNo rfl rfl rfl (Nat.le_of_ble_eq_true rfl) rfl ?_
     apply Exec.norm
     ·simp only [go_sem]
      rfl
     apply Exec.regPart 1 1 0 te_ok rfl
     ·intro u' Q hQ
      simp only [go_sem]
      repeat refine ob2 ?_
      exact hQ
     refine Exec.regEnd ?_
     refine sreg te_ok ?_
     refine Exec.cond (t := false) rfl ?_
     simp only [reduceIte, Bool.false_eq_true]
     refine sk ?_
     refine Exec.leaveD Tryz.func133 rfl (.inl rfl) rfl rfl hao haod rfl ?_
     refine ExecR.ren (swJ 1) ?_
     apply ExecR.norm
     ·simp only [go_sem]
      rfl
     refine ExecR.done hR te_ok rfl rfl rfl (LeX.le ?_)
     rw [readV_long hE hq1 hk5 hm]
     simp only [go_sem]
     exact ⟨rfl, rfl, by rw [kd_eq]; exact ⟨rfl, rfl⟩⟩
    ·have hm : ¬ 0 ≤ m1 := by simpa using h2
     refine sk ?_
     refine sreg te_ok ?_
     refine Exec.retR hR.round (.inr ⟨_, rfl⟩) ?_
     refine ExecR.defer rfl hac List.mem_cons_self Tryz.func133 Tryz.ntmps133 rfl (by as_aux_lemma => kernel_rfl) (Nat.le_of_ble_eq_true rfl) (fun ao k0 hao haod => ?_)
     refine Exec.ren (swJ 1) ?_
     apply Exec.norm
     ·simp only [go_sem]
      rfl
     refine sq ?_
     refine Exec.regStart 2 rfl ?_
     refine Exec.recoverNo rfl rfl rfl (Nat.le_of_ble_eq_true rfl) rfl ?_
     apply Exec.norm
     ·simp only [go_sem]
      rfl
     apply Exec.regPart 1 1 0 te_ok rfl
     ·intro u' Q hQ
      simp only [go_sem]
      repeat refine ob2 ?_
      exact hQ
     refine Exec.regEnd ?_
     refine sreg te_ok ?_
     refine Exec.cond (t := false) rfl ?_
     simp only [reduceIte, Bool.false_eq_true]
     refine sk ?_
     refine Exec.leaveD Tryz.func133 rfl (.inl rfl) rfl rfl hao haod rfl ?_
     refine ExecR.ren (swJ 1) ?_
     apply ExecR.norm
     ·simp only [go_sem]
      rfl
     refine ExecR.done hR te_ok rfl rfl rfl (LeX.le ?_)
     rw [readV_ok hE hq1 hk5 hm]
     simp only [go_sem]
  ·refine Exec.regStart 5 rfl ?_
   apply Exec.regPart 0 2 3 te_ok rfl
   ·intro u' Q hQ
    simp only [go_sem]
    repeat refine ob2 ?_
    exact hQ
   refine Exec.callP 25 hR.inv rfl rfl rfl rfl rfl rfl rfl rfl rfl ((fEr (pwhole_ok (lexT s) 0 (-1) hk h0n) hq1).weak laidX_laid) ?_
   refine ExecP.defer rfl hac List.mem_cons_self Tryz.func133 Tryz.ntmps133 rfl (by as_aux_lemma => kernel_rfl) (Nat.le_of_ble_eq_true rfl) (fun ao av k0 v hao haod hav => ?_)
   refine Exec.ren (swJ 1) ?_
   apply Exec.norm
   ·simp only [go_sem]
    rfl
   refine sq ?_
   refine Exec.regStart 2 rfl ?_
   refine Exec.recover rfl rfl rfl (Nat.le_of_ble_eq_true rfl) rfl (List.mem_cons_of_mem _ List.mem_cons_self) rfl hav ?_
   apply Exec.norm
   ·simp only [go_sem]
    rfl
   apply Exec.regPart 1 1 0 te_ok rfl
   ·intro u' Q hQ
    simp only [go_sem]
    repeat refine ob2 ?_
    exact hQ
   refine Exec.regEnd ?_
   refine sreg te_ok ?_
   refine Exec.cond (t := true) rfl ?_
   simp only [reduceIte, Bool.false_eq_true]
   refine sq ?_
   apply Exec.regionL te_ok
   ·intro u' Q hQ
    simp only [go_sem]
    repeat refine ob2 ?_
    refine kassert te_ok rfl rfl rfl rfl rfl (fun m h => by cases h) ?_
    simp only [go_sem]
    repeat refine ob2 ?_
    exact hQ
   refine sq ?_
   refine sreg te_ok ?_
   refine Exec.cond (t := false) rfl ?_
   simp only [reduceIte, Bool.false_eq_true]
   refine sk ?_
   refine sreg te_ok ?_
   apply Exec.free (st := _) 7 6 [(0, 1), (0, 2), (1, 3), (2, 3)] te_ok (by as_aux_lemma => kernel_rfl) rfl (by as_aux_lemma => kernel_rfl)
   ·intro u' Q hQ
    simp only [go_sem]
    repeat refine ob2 ?_
    exact hQ
   ·rfl
   refine Exec.leaveD Tryz.func133 rfl (.inl rfl) rfl rfl hao haod rfl ?_
   refine ExecR.ren (swJ 1) ?_
   apply ExecR.norm
   ·simp only [go_sem]
    rfl
   refine ExecR.done hR te_ok rfl rfl rfl (LeX.le ?_)
   rw [readV_err hE hq1]
   simp only [go_sem]
   exact ⟨rfl, rfl, by rw [kd_eq]; exact ⟨rfl, rfl⟩⟩
theorem pQuery_ok (s : List UInt8) (hs : s.length ≤ 140737488351232) : FnOK LaidX Tryz.prog 32 [sv s] (.tup [quD (readV qz queryP s).1, iv (readV qz queryP s).2.1, iv (readV qz queryP s).2.2]) := by
 refine FnOK_of laidX_stable Tryz.func32 Tryz.ntmps32 rfl (by as_aux_lemma => kernel_rfl) (Nat.le_of_ble_eq_true rfl) (fun R hR => ?_)
 obtain ⟨_, b, cs, T, C⟩ := R
 obtain rfl : _ = Tryz.prog := hR.p
 refine sreg te_ok ?_
 refine sq ?_
 apply Exec.regionL te_ok
 ·intro u' Q hQ
  simp only [go_sem]
  repeat refine ob2 ?_
  refine kcall hR.inv te_ok rfl rfl rfl rfl rfl rfl (readQ_ok s hs) ?_
  simp only [go_sem]
  repeat refine ob2 ?_
  exact hQ
 refine Exec.rets hR te_ok rfl rfl rfl (LeX.le ?_) (.inr ⟨_, rfl⟩)
 simp only [go_sem]
theorem pExpr_ok (s : List UInt8) (hs : s.length ≤ 140737488351232) : FnOK LaidX Tryz.prog 34 [sv s] (.tup [exD (readV xz wholeP s).1, iv (readV xz wholeP s).2.1, iv (readV xz wholeP s).2.2]) := by
 refine FnOK_of laidX_stable Tryz.func34 Tryz.ntmps34 rfl (by as_aux_lemma => kernel_rfl) (Nat.le_of_ble_eq_true rfl) (fun R hR => ?_)
 obtain ⟨_, b, cs, T, C⟩ := R
 obtain rfl : _ = Tryz.prog := hR.p
 refine sreg te_ok ?_
 refine sq ?_
 apply Exec.regionL te_ok
 ·intro u' Q hQ
  simp only [go_sem]
  repeat refine ob2 ?_
  refine kcall hR.inv te_ok rfl rfl rfl rfl rfl rfl (readX_ok s hs) ?_
  simp only [go_sem]
  repeat refine ob2 ?_
  exact hQ
 refine Exec.rets hR te_ok rfl rfl rfl (LeX.le ?_) (.inr ⟨_, rfl⟩)
 simp only [go_sem]
end Go.Proofs.YtonchjamoblioaaGreatDoor
namespace Go.Proofs.YtonchjamoblioaaGreatDoor
open Go.Kin Go.Lib
/-! ### places of tokens; a text cut ahead of one; a text written anew -/
theorem first_tv {z : List UInt8} (hb : firstB z = true) (hk : (firstT z).k = 2 ∨ (firstT z).k = 3) : rightV (firstT z).v.k (firstT z).v.n (firstT z).v.s = true := by
 have pv : ∀ w, (parseE w == 0) = true → rightV (parseV w).k (parseV w).n (parseV w).s = true := fun w h => by
  have hp : parseB w = true := by
   unfold parseE at h
   cases hb : parseB w with
   | true => rfl
   | false => rw [hb] at h; simp at h
  unfold parseV; rw [if_pos hp]
  unfold parseB at hp; rw [Bool.and_eq_true] at hp; exact hp.1
 unfold firstT firstB at *
 by_cases h0 : z = []
 ·rw [if_pos h0] at hk; simp at hk
 ·rw [if_neg h0] at hb hk ⊢
  by_cases h1 : letterI (z.getD 0 0).toNat = true
  ·rw [if_pos h1] at hk; simp at hk
  ·rw [if_neg h1] at hb hk ⊢
   by_cases h2 : digitI (z.getD 0 0).toNat = true
   ·rw [if_pos h2] at hb ⊢; exact pv _ hb
   ·rw [if_neg h2] at hb hk ⊢
    by_cases h3 : (((z.getD 0 0).toNat : Int) == 45 && decide (0 < (spanN digitI (z.drop 1) : Int))) = true
    ·rw [if_pos h3] at hb ⊢; exact pv _ hb
    ·rw [if_neg h3] at hb hk ⊢
     by_cases h4 : (((z.getD 0 0).toNat : Int) == 34) = true
     ·rw [if_pos h4] at hb hk ⊢
      by_cases h5 : indexByte (z.drop 1) 34 < 0
      ·rw [if_pos h5] at hb; cases hb
      ·rw [if_neg h5] at hb ⊢; exact pv _ hb
     ·rw [if_neg h4] at hk; simp at hk
/-- a token by itself -/
def Alone (t : Tk) : Prop := t.k ≠ 5 ∧ firstB t.t = true ∧ firstT t.t = t.at' 0 ∧ spanN blankI t.t = 0 ∧ 0 < t.t.length
theorem tok_alone {s : List UInt8} {a : Nat} (hb : firstB (s.drop (nextA s a)) = true) (hk : (firstT (s.drop (nextA s a))).k ≠ 5) : Alone (tokA s a) := by
 have h1 := first_text hb hk
 have h2 := first_len hb hk
 have h3 := first_take hb hk (Nat.le_refl _)
 rw [← h1] at h3
 have h4 := first_a (s.drop (nextA s a))
 have hz : spanN blankI (s.drop (nextA s a)) = 0 := by unfold nextA; rw [← List.drop_drop]; exact spanN_zero
 refine ⟨hk, h3.2, ?_, ?_, h2.1⟩
 ·show firstT (firstT _).t = _
  rw [h3.1]
  unfold tokA Tk.at'
  simp only
  cases hf : firstT (s.drop (nextA s a)); rw [hf] at h4; simp at h4; simp [h4]
 ·show spanN blankI (firstT _).t = 0
  rw [h1, spanN_take, hz]; omega
structure LxOk (s : List UInt8) (a : Nat) (l : List Tk) : Prop where
 up : l.Pairwise (fun x y => x.a < y.a)
 ge : ∀ t ∈ l, (a : Int) ≤ t.a ∧ t.a ≤ s.length
 tv : ∀ t ∈ l, (t.k = 2 ∨ t.k = 3) → rightV t.v.k t.v.n t.v.s = true
 al : ∀ t ∈ l, t.k ≠ 5 → Alone t
 en : ∀ t ∈ l, t.k = 5 → t.t = [] ∧ t.v = v0
theorem lexAt_ok {s : List UInt8} : ∀ (n a : Nat), s.length - a < n → a ≤ s.length → LxOk s a (lexAt s a).1
 | 0, a, h, _ => absurd h (by omega)
 | n + 1, a, hn, ha => by
  have hna := nextA_le ha
  have hge : a ≤ nextA s a := by unfold nextA; omega
  have ea : (tokA s a).a = (nextA s a : Nat) := rfl
  cases hb : firstB (s.drop (nextA s a)) with
  | false =>
   rw [lexAt_no ha hb]
   exact ⟨List.Pairwise.nil, fun t h => (by cases h), fun t h => (by cases h), fun t h => (by cases h), fun t h => (by cases h)⟩
  | true =>
   obtain ⟨t1, t2⟩ := thenA_le ha hb
   by_cases hk : (firstT (s.drop (nextA s a))).k = 5
   ·rw [lexAt_end ha hb hk]
    have hz := first_end.1 hk
    have hf : firstT (s.drop (nextA s a)) = ⟨5, [], 0, v0⟩ := by rw [hz]; rfl
    refine ⟨List.pairwise_singleton _ _, fun t h => ?_, fun t h h2 => ?_, fun t h h2 => ?_, fun t h h2 => ?_⟩ <;> simp only [List.mem_singleton] at h <;> subst h
    ·rw [ea]; omega
    ·exfalso; have : (tokA s a).k = 5 := hk; omega
    ·exact absurd hk h2
    ·unfold tokA; rw [hf]; exact ⟨rfl, rfl⟩
   ·rw [lexAt_on ha hb hk]
    have ih := lexAt_ok n (thenA s a) (by have := t2.resolve_left hk; omega) t1
    have hl := (first_len hb hk).1
    have hth : thenA s a = nextA s a + (firstT (s.drop (nextA s a))).t.length := rfl
    refine ⟨List.pairwise_cons.2 ⟨fun t h => by have := (ih.ge t h).1; rw [ea]; omega, ih.up⟩, fun t h => ?_, fun t h h2 => ?_, fun t h h2 => ?_, fun t h h2 => ?_⟩ <;> rcases List.mem_cons.1 h with rfl | h
    ·rw [ea]; omega
    ·have := ih.ge t h; omega
    ·exact first_tv hb h2
    ·exact ih.tv t h h2
    ·exact tok_alone hb hk
    ·exact ih.al t h h2
    ·exact absurd h2 hk
    ·exact ih.en t h h2
theorem pair_nth {l : List Tk} (h : l.Pairwise (fun x y => x.a < y.a)) : ∀ i j, i < j → j < l.length → (nth l i).a < (nth l j).a := by
 intro i j hij hj
 have := List.pairwise_iff_getElem.1 h i j (by omega) hj hij
 have e1 : nth l i = l[i] := nth_of (List.getElem?_eq_getElem (by omega))
 have e2 : nth l j = l[j] := nth_of (List.getElem?_eq_getElem hj)
 rw [e1, e2]; exact this
/-- a text cut ahead of a token -/
theorem lexAt_take {s : List UInt8} : ∀ (n a : Nat), s.length - a < n → a ≤ s.length → (lexAt s a).2 = none → ∀ j, j < (lexAt s a).1.length → ∀ A : Nat, (nth (lexAt s a).1 j).a = A → lexAt (s.take A) a = ((lexAt s a).1.take j ++ [⟨5, [], A, v0⟩], none)
 | 0, a, h, _, _ => absurd h (by omega)
 | n + 1, a, hn, ha, e => by
  intro j hj A hA
  have hna := nextA_le ha
  have hn2 : a ≤ nextA s a := by unfold nextA; omega
  have h0 : ∀ B : Nat, nextA s a = B → lexAt (s.take B) a = ([⟨5, [], B, v0⟩], none) := by
   rintro _ rfl
   have hl : (s.take (nextA s a)).length = nextA s a := by rw [List.length_take]; omega
   have e1 := nextA_take (s := s) (a := a) (Nat.le_refl _) hna
   have e2 : (s.take (nextA s a)).drop (nextA s a) = [] := List.drop_eq_nil_of_le (by omega)
   rw [lexAt_end (by omega) (by rw [e1, e2]; rfl) (by rw [e1, e2]; rfl)]
   unfold tokA; rw [e1, e2]; rfl
  cases hb : firstB (s.drop (nextA s a)) with
  | false => rw [lexAt_no ha hb] at e; cases e
  | true =>
   obtain ⟨t1, t2⟩ := thenA_le ha hb
   by_cases hk : (firstT (s.drop (nextA s a))).k = 5
   ·rw [lexAt_end ha hb hk] at hj hA ⊢
    obtain rfl : j = 0 := by simpa using hj
    have : nextA s a = A := by have h9 : ((nextA s a : Nat) : Int) = A := hA; omega
    rw [h0 A this]; rfl
   ·rw [lexAt_on ha hb hk] at e hj hA ⊢
    have hlt := t2.resolve_left hk
    cases j with
    | zero =>
     have : nextA s a = A := by have h9 : ((nextA s a : Nat) : Int) = A := hA; omega
     rw [h0 A this]; rfl
    | succ j =>
     have hj2 : j < (lexAt s (thenA s a)).1.length := by simpa using hj
     have hA2 : (nth (lexAt s (thenA s a)).1 j).a = A := hA
     have ih := lexAt_take n (thenA s a) (by omega) t1 e j hj2 A hA2
     have hok := lexAt_ok (s := s) (s.length + 1) (thenA s a) (by omega) t1
     have hge := hok.ge _ (nth_mem hj2)
     rw [hA2] at hge
     have hAn : thenA s a ≤ A ∧ A ≤ s.length := by omega
     have hA1 : nextA s a + (firstT (s.drop (nextA s a))).t.length ≤ A := hAn.1
     have hl : (s.take A).length = A := by rw [List.length_take]; omega
     have e1 := nextA_take (s := s) (a := a) (A := A) (by omega) (by omega)
     have e2 := first_take hb hk (n := A - nextA s a) (by omega)
     have e3 : (s.take A).drop (nextA (s.take A) a) = (s.drop (nextA s a)).take (A - nextA s a) := by rw [e1, drop_take2]
     have e4 : thenA (s.take A) a = thenA s a := by unfold thenA; rw [e3, e2.1, e1]
     have e5 : tokA (s.take A) a = tokA s a := by unfold tokA; rw [e3, e2.1, e1]
     rw [lexAt_on (by omega) (by rw [e3]; exact e2.2) (by rw [e3, e2.1]; exact hk), e4, e5, ih]
     rfl
/-! one step of lexing, of a text that is known -/
/-- tokens, written with a gap between -/
def ffG (g : List UInt8) : List Tk → List UInt8
 | [] => []
 | t :: r => t.t ++ (match r with | [] => [] | _ :: _ => g ++ ffG g r)
def ppG (g : List UInt8) (a : Nat) : List Tk → List Tk
 | [] => []
 | t :: r => t.at' a :: ppG g (a + t.t.length + g.length) r
structure Gap (g : List UInt8) : Prop where
 bl : g.all (fun e => blankI e.toNat) = true
 hd : ∃ d y, g = d :: y
/-- a row whose last token is the end, the others stand by themselves -/
def RowOk : List Tk → Prop
 | [] => False
 | [t] => t.k = 5 ∧ t.t = [] ∧ t.v = v0
 | t :: u :: r => Alone t ∧ RowOk (u :: r)
def gB (g : List UInt8) (b : Bool) : List UInt8 := if b = true then g else []
def sumT : List Tk → Nat
 | [] => 0
 | t :: r => t.t.length + sumT r
theorem lex_sum {s : List UInt8} : ∀ (n a : Nat), s.length - a < n → a ≤ s.length → sumT (lexAt s a).1 + a ≤ s.length
 | 0, a, h, _ => absurd h (by omega)
 | n + 1, a, hn, ha => by
  have hna := nextA_le ha
  have hge : a ≤ nextA s a := by unfold nextA; omega
  cases hb : firstB (s.drop (nextA s a)) with
  | false => rw [lexAt_no ha hb]; simp [sumT]; omega
  | true =>
   obtain ⟨t1, t2⟩ := thenA_le ha hb
   have hth : thenA s a = nextA s a + (tokA s a).t.length := rfl
   by_cases hk : (firstT (s.drop (nextA s a))).k = 5
   ·rw [lexAt_end ha hb hk]; simp only [sumT]; omega
   ·rw [lexAt_on ha hb hk]
    have ih := lex_sum (s := s) n (thenA s a) (by have := t2.resolve_left hk; omega) t1
    simp only [sumT]; omega
theorem row_of {l : List Tk} (hne : l ≠ []) (hk : ∀ i, i < l.length → ((nth l i).k = 5 ↔ i + 1 = l.length)) (al : ∀ t ∈ l, t.k ≠ 5 → Alone t) (en : ∀ t ∈ l, t.k = 5 → t.t = [] ∧ t.v = v0) : RowOk l := by
 induction l with
 | nil => exact absurd rfl hne
 | cons t r ih =>
  cases r with
  | nil =>
   have h5 : t.k = 5 := (hk 0 (by simp)).2 rfl
   exact ⟨h5, en t List.mem_cons_self h5⟩
  | cons u r =>
   have h5 : t.k ≠ 5 := fun h => by have := (hk 0 (by simp)).1 h; simp at this
   refine ⟨al t List.mem_cons_self h5, ih (by simp) (fun i hi => ?_) (fun x hx => al x (List.mem_cons_of_mem _ hx)) (fun x hx => en x (List.mem_cons_of_mem _ hx))⟩
   have := hk (i + 1) (by simpa using hi)
   simp only [List.length_cons] at this ⊢
   exact this.trans ⟨fun h => by omega, fun h => by omega⟩
/-- a text that has tokens -/
structure LxT (s : List UInt8) : Prop where
 len : s.length ≤ 2000
 tk : TkOk (lexT s)
 n0 : 0 < (lexT s).length
 five : ∀ i, i < (lexT s).length → ((nth (lexT s) i).k = 5 ↔ i + 1 = (lexT s).length)
 row : RowOk (lexT s)
 tv : TV (lexT s)
 up : ∀ i j, i < j → j < (lexT s).length → (nth (lexT s) i).a < (nth (lexT s) j).a
 pos : ∀ i, i < (lexT s).length → 0 ≤ (nth (lexT s) i).a ∧ (nth (lexT s) i).a ≤ s.length
 at_ : lexAt s 0 = (lexT s, none)
 few : (lexT s).length ≤ s.length + 1
 sum : sumT (lexT s) ≤ s.length
theorem lxT {s : List UInt8} (h : lexE s = 0) : LxT s := by
 obtain ⟨h1, h2, h3, _⟩ := lexT_at h
 obtain ⟨hk, h0, h5, hp⟩ := lex_tk h
 have ok := lexAt_ok (s := s) (s.length + 1) 0 (by omega) (by omega)
 have hs := lex_sum (s := s) (s.length + 1) 0 (by omega) (by omega)
 have hf := (lexAt_tk (s := s) (s.length + 1) 0 (by omega) (by omega) h2).2.1
 rw [← h3] at ok hs hf
 refine ⟨h1, hk, h0, h5, row_of (List.length_pos_iff.1 h0) h5 ok.al ok.en, fun i hi => ?_, pair_nth ok.up, fun i hi => (hp i hi).2, ?_, by omega, by omega⟩
 ·rcases Nat.lt_or_ge i (lexT s).length with hl | hl
  ·exact ok.tv _ (nth_mem hl) hi
  ·have : nth (lexT s) i = default := by simp [nth, List.getD_eq_getElem?_getD, List.getElem?_eq_none hl]
   rw [this] at hi; exact absurd hi (by decide)
 ·rw [h3]; exact Prod.ext rfl h2
theorem lexT_of {s : List UInt8} {l : List Tk} (hl : s.length ≤ 2000) (h : lexAt s 0 = (l, none)) : lexT s = l ∧ lexE s = 0 := by
 have := lex_some (s := s) (l := l) (by simp; omega) h
 exact ⟨this.1, this.2.2⟩
/-- cut ahead of a token -/
theorem lex_cutT {s : List UInt8} (h : lexE s = 0) {j : Nat} (hj : j < (lexT s).length) {A : Nat} (hA : (nth (lexT s) j).a = A) : lexE (s.take A) = 0 ∧ Cut (lexT s) (lexT (s.take A)) j := by
 have x := lxT h
 have e := lexAt_take (s := s) (s.length + 1) 0 (by omega) (by omega) (by rw [x.at_]) j (by rw [x.at_]; exact hj) A (by rw [x.at_]; exact hA)
 rw [x.at_] at e
 dsimp only at e
 obtain ⟨e3, e4⟩ := lexT_of (s := s.take A) (by have := x.len; simp; omega) e
 refine ⟨e4, hj, ?_, fun i hi => ?_, ?_, ?_⟩
 ·rw [e3]; simp; omega
 ·rw [e3]
  refine nth_of ?_
  rw [List.getElem?_append_left (by simp; omega), List.getElem?_take, if_pos hi, List.getElem?_eq_getElem (by omega)]
  exact congrArg some (nth_of (List.getElem?_eq_getElem (by omega))).symm
 ·have : nth (lexT (s.take A)) j = ⟨5, [], A, v0⟩ := by
   rw [e3]; refine nth_of ?_
   have e0 : (List.take j (lexT s)).length = j := by rw [List.length_take]; omega
   rw [List.getElem?_append_right (by omega), e0, Nat.sub_self]; rfl
  rw [this, hA]
 ·have : nth (lexT (s.take A)) j = ⟨5, [], A, v0⟩ := by
   rw [e3]; refine nth_of ?_
   have e0 : (List.take j (lexT s)).length = j := by rw [List.length_take]; omega
   rw [List.getElem?_append_right (by omega), e0, Nat.sub_self]; rfl
  rw [this]
end Go.Proofs.YtonchjamoblioaaGreatDoor
namespace Go.Proofs.YtonchjamoblioaaGreatDoor
open Go.Kin Go.Lib
/-! ### what whole texts are read as -/
section
variable {α : Type} {z : α} {rule : List Tk → PS → PR α} {s : List UInt8}
theorem readV_cases (z : α) (h : lexE s = 0) :
  (∃ a, rule (lexT s) ⟨0, -1⟩ = .err a ∧ readV z rule s = (z, a, 7)) ∨
  (∃ s1 x, rule (lexT s) ⟨0, -1⟩ = .ok s1 x ∧ (nth (lexT s) s1.n).k ≠ 5 ∧ readV z rule s = (z, (nth (lexT s) s1.n).a, 7)) ∨
  (∃ s1 x, rule (lexT s) ⟨0, -1⟩ = .ok s1 x ∧ (nth (lexT s) s1.n).k = 5 ∧ 0 ≤ s1.m ∧ readV z rule s = (z, s1.m, 3)) ∨
  (∃ s1 x, rule (lexT s) ⟨0, -1⟩ = .ok s1 x ∧ (nth (lexT s) s1.n).k = 5 ∧ s1.m < 0 ∧ readV z rule s = (x, 0, 0)) := by
 cases hr : rule (lexT s) ⟨0, -1⟩ with
 | err a => exact .inl ⟨a, rfl, readV_err h hr⟩
 | ok s1 x =>
  by_cases hk : (nth (lexT s) s1.n).k = 5
  ·by_cases hm : 0 ≤ s1.m
   ·exact .inr (.inr (.inl ⟨s1, x, rfl, hk, hm, readV_long h hr hk hm⟩))
   ·exact .inr (.inr (.inr ⟨s1, x, rfl, hk, by omega, readV_ok h hr hk hm⟩))
  ·exact .inr (.inl ⟨s1, x, rfl, hk, readV_end h hr hk⟩)
theorem St2.init {l l' : List Tk} (h : 0 < l.length) : St2 l l' ⟨0, -1⟩ ⟨0, -1⟩ := ⟨rfl, h, .inl ⟨by decide, by decide⟩⟩
theorem lexE_cases (hl : s.length ≤ 2000) : lexE s = 0 ∨ (lexE s = 7 ∧ 0 ≤ lexA s ∧ lexA s ≤ s.length) := by
 rcases lexE_or s with ⟨h, _⟩ | ⟨_, h, _⟩ | ⟨_, h, _⟩
 ·omega
 ·exact .inl h
 ·obtain ⟨A, e, hA, _⟩ := lex_cut h
  exact .inr ⟨h, by omega, by omega⟩
theorem Sh.refl (h : LxT s) : Sh (lexT s) (lexT s) := ⟨rfl, fun _ _ => ⟨rfl, rfl, rfl⟩, fun i j a b => ⟨h.up i j a b, h.up i j a b⟩, fun i a => ⟨(h.pos i a).1, (h.pos i a).1⟩⟩
/-- either it is right, or there is an error at a place -/
theorem either_read {G : α → Prop} (hl : s.length ≤ 2000) (hR : ∀ l, TkOk l → Sh l l → 0 < l.length → R2 l l (rule l ⟨0, -1⟩) (rule l ⟨0, -1⟩)) (hG : ∀ l, TkOk l → TV l → ∀ s1 x, rule l ⟨0, -1⟩ = .ok s1 x → s1.m < 0 → G x) :
  ((readV z rule s).2.2 = 0 → (readV z rule s).2.1 = 0 ∧ G (readV z rule s).1) ∧ ((readV z rule s).2.2 ≠ 0 → ((readV z rule s).2.2 = 7 ∨ (readV z rule s).2.2 = 3) ∧ 0 ≤ (readV z rule s).2.1 ∧ (readV z rule s).2.1 ≤ s.length ∧ (readV z rule s).1 = z) := by
 rcases lexE_cases hl with h | ⟨h, h1, h2⟩
 ·have x := lxT h
  have hR := hR _ x.tk (Sh.refl x) x.n0
  rcases readV_cases (rule := rule) z h with ⟨a, e, r⟩ | ⟨s1, y, e, hk, r⟩ | ⟨s1, y, e, hk, hm, r⟩ | ⟨s1, y, e, hk, hm, r⟩ <;> rw [e] at hR <;> rw [r]
  ·obtain ⟨j, hj, h1, _⟩ := hR
   have := x.pos j hj
   exact ⟨fun h => by simp at h, fun _ => ⟨.inl rfl, by simp only; omega, by simp only; omega, rfl⟩⟩
  ·have := x.pos _ hR.1.2.1
   exact ⟨fun h => by simp at h, fun _ => ⟨.inl rfl, by simp only; omega, by simp only; omega, rfl⟩⟩
  ·rcases hR.1.2.2 with ⟨h1, _⟩ | ⟨j, hj, h1, _⟩
   ·omega
   ·have := x.pos j hj
    exact ⟨fun h => by simp at h, fun _ => ⟨.inr rfl, by simp only; omega, by simp only; omega, rfl⟩⟩
  ·exact ⟨fun _ => ⟨rfl, hG _ x.tk x.tv _ _ e hm⟩, fun h => absurd rfl h⟩
 ·have e := readV_no (z := z) (rule := rule) (s := s) (by omega)
  rw [e, h]
  exact ⟨fun h => by simp at h, fun _ => ⟨.inl rfl, h1, h2, rfl⟩⟩
end
theorem query_either {s : List UInt8} (hl : s.length ≤ 2000) : ((readV qz queryP s).2.2 = 0 → (readV qz queryP s).2.1 = 0 ∧ quR (readV qz queryP s).1 = true) ∧ ((readV qz queryP s).2.2 ≠ 0 → ((readV qz queryP s).2.2 = 7 ∨ (readV qz queryP s).2.2 = 3) ∧ 0 ≤ (readV qz queryP s).2.1 ∧ (readV qz queryP s).2.1 ≤ s.length ∧ (readV qz queryP s).1 = qz) :=
 either_read (G := fun q => quR q = true) hl (fun l hk hs h0 => query2 hk hs (St2.init h0)) (fun l hk hv s1 x e hm => (query_k hk hv s1 x e).2 hm)
theorem expr_either {s : List UInt8} (hl : s.length ≤ 2000) : ((readV xz wholeP s).2.2 = 0 → (readV xz wholeP s).2.1 = 0 ∧ exRight (readV xz wholeP s).1 = true) ∧ ((readV xz wholeP s).2.2 ≠ 0 → ((readV xz wholeP s).2.2 = 7 ∨ (readV xz wholeP s).2.2 = 3) ∧ 0 ≤ (readV xz wholeP s).2.1 ∧ (readV xz wholeP s).2.1 ≤ s.length ∧ (readV xz wholeP s).1 = xz) :=
 either_read (G := fun q => exRight q = true) hl (fun l hk hs h0 => whole2 hk hs (St2.init h0)) (fun l hk hv s1 x e hm => (whole_k hk s1 x e).2 hm)
/-- a text that is wrong at a place, cut there, is wrong no earlier -/
theorem query_cut {s : List UInt8} (h : lexE s = 0) (he : (readV qz queryP s).2.2 = 7) (hc : (readV qz queryP (s.take (readV qz queryP s).2.1.toNat)).2.2 = 7) : (readV qz queryP (s.take (readV qz queryP s).2.1.toNat)).2.1 = (readV qz queryP s).2.1 := by
 have x := lxT h
 have hR := query2 x.tk (Sh.refl x) (St2.init (l' := lexT s) x.n0)
 have main : ∀ (j : Nat), j < (lexT s).length → (readV qz queryP s).2.1 = (nth (lexT s) j).a → (queryP (lexT s) ⟨0, -1⟩ = .err (nth (lexT s) j).a ∨ ∃ s1 y, queryP (lexT s) ⟨0, -1⟩ = .ok s1 y ∧ s1.n = j) → (readV qz queryP (s.take (readV qz queryP s).2.1.toNat)).2.1 = (readV qz queryP s).2.1 := by
  intro j hj ha hq
  have hp := x.pos j hj
  obtain ⟨c1, c2⟩ := lex_cutT h hj (A := (readV qz queryP s).2.1.toNat) (by omega)
  have y := lxT c1
  have q3 := query3 c2 y.tk (s := ⟨0, -1⟩) (Nat.zero_le _)
  have q4 := q3.q (Nat.zero_le _)
  generalize s.take (readV qz queryP s).2.1.toNat = t at *
  rw [ha]
  rcases readV_cases (rule := queryP) qz c1 with ⟨a, e, r⟩ | ⟨s1, u, e, hk, r⟩ | ⟨s1, u, e, hk, hm, r⟩ | ⟨s1, u, e, hk, hm, r⟩
  ·rw [r]
   rcases q4 with (h1 | ⟨s2, v, h1, _⟩) | ⟨s2, v, _, h1, h2⟩ | ⟨b, h1, h2⟩
   ·rw [e] at h1; cases h1; rfl
   ·rw [e] at h1; cases h1
   ·rw [e] at h2; cases h2
   ·rw [e] at h2; cases h2
    rcases hq with hq | ⟨s3, v, hq, _⟩
    ·rw [h1] at hq; cases hq; rfl
    ·rw [h1] at hq; cases hq
  ·rcases q4 with (h1 | ⟨s2, v, h1, h2⟩) | ⟨s2, v, h0, h1, h2⟩ | ⟨b, h1, h2⟩
   ·rw [e] at h1; cases h1
   ·rw [e] at h1; cases h1; rw [h2, c2.k] at hk; exact absurd rfl hk
   ·rw [e] at h2; cases h2
    rcases hq with hq | ⟨s3, v, hq, h4⟩
    ·rw [h1] at hq; cases hq
    ·rw [h1] at hq; cases hq; omega
   ·rw [e] at h2; cases h2
  ·rw [r] at hc; simp at hc
  ·rw [r] at hc; simp at hc
 rcases readV_cases (rule := queryP) qz h with ⟨a, e, r⟩ | ⟨s1, u, e, hk, r⟩ | ⟨s1, u, e, hk, hm, r⟩ | ⟨s1, u, e, hk, hm, r⟩
 ·rw [e] at hR
  obtain ⟨j, hj, h1, _⟩ := hR
  exact main j hj (by rw [r]; exact h1) (.inl (by rw [e, h1]))
 ·rw [e] at hR
  exact main s1.n hR.1.2.1 (by rw [r]) (.inr ⟨s1, u, e, rfl⟩)
 ·rw [r] at he; simp at he
 ·rw [r] at he; simp at he
end Go.Proofs.YtonchjamoblioaaGreatDoor
