/- Steps of a function body on data, and contracts of the functions of the seat, walked. -/
import Derived.Test.YtonchjamoblioaaGreatDoorQC
import Derived.Test.YtonchjamoblioaaGreatDoorPS
set_option linter.unusedSimpArgs false
set_option linter.unusedVariables false
set_option linter.unusedSectionVars false
namespace Go.Proofs.YtonchjamoblioaaGreatDoor
open Go.Kin
set_option maxRecDepth 100000
set_option maxHeartbeats 0
theorem lexAt_tk {s : List UInt8} : ∀ (n a : Nat), s.length - a < n → a ≤ s.length → (lexAt s a).2 = none → (lexAt s a).1 ≠ [] ∧ (lexAt s a).1.length ≤ s.length - a + 1 ∧ (∀ i, i < (lexAt s a).1.length → ((nth (lexAt s a).1 i).k = 5 ↔ i + 1 = (lexAt s a).1.length)) ∧
  ∀ t ∈ (lexAt s a).1, t.t.length ≤ s.length ∧ (a : Int) ≤ t.a ∧ t.a ≤ s.length
 | 0, a, h, _, _ => by omega
 | n + 1, a, hn, ha, h => by
  have hle := nextA_le ha
  have hge : a ≤ nextA s a := by unfold nextA; omega
  by_cases hb : firstB (s.drop (nextA s a)) = true
  ·have htl : (firstT (s.drop (nextA s a))).t.length ≤ s.length := by
    by_cases hk : (firstT (s.drop (nextA s a))).k = 5
    ·rw [first_end.1 hk]; show 0 ≤ _; omega
    ·have := (first_len hb hk).2; simp at this; omega
   have htok : (tokA s a).t.length ≤ s.length ∧ (a : Int) ≤ (tokA s a).a ∧ (tokA s a).a ≤ s.length := ⟨htl, by show (a : Int) ≤ (nextA s a : Nat); omega, by show ((nextA s a : Nat) : Int) ≤ _; omega⟩
   by_cases hk : (firstT (s.drop (nextA s a))).k = 5
   ·rw [lexAt_end ha hb hk]
    refine ⟨by simp, by simp, fun i hi => ?_, fun t ht => ?_⟩
    ·have : i = 0 := by simpa using hi
     subst this
     constructor
     ·intro _; rfl
     ·intro _; exact hk
    ·simp at ht; subst ht; exact htok
   ·have t := thenA_le ha hb
    have hlt := t.2.resolve_left hk
    rw [lexAt_on ha hb hk] at h ⊢
    simp only at h ⊢
    obtain ⟨i1, i2, i3, i4⟩ := lexAt_tk n (thenA s a) (by omega) t.1 h
    refine ⟨by simp, by simp; omega, fun i hi => ?_, fun x hx => ?_⟩
    ·cases i with
     | zero =>
      have : 0 < (lexAt s (thenA s a)).1.length := List.length_pos_iff.2 i1
      constructor
      ·intro h5; exact absurd h5 hk
      ·intro h5; simp at h5; exact absurd h5 i1
     | succ i =>
      have h5 := i3 i (by simpa using hi)
      simp only [List.length_cons]
      have e : nth (tokA s a :: (lexAt s (thenA s a)).1) (i + 1) = nth (lexAt s (thenA s a)).1 i := by simp [nth]
      rw [e, h5]; omega
    ·rcases List.mem_cons.1 hx with rfl | hx
     ·exact htok
     ·have := i4 x hx; omega
  ·have hb' : firstB (s.drop (nextA s a)) = false := by simpa using hb
   rw [lexAt_no ha hb'] at h; cases h
theorem lexT_at {s : List UInt8} (h : lexE s = 0) : s.length ≤ 2000 ∧ (lexAt s 0).2 = none ∧ lexT s = (lexAt s 0).1 ∧ lexA s = 0 := by
 unfold lexE at h
 by_cases hl : 2000 < (s.length : Int)
 ·rw [if_pos hl] at h; cases h
 ·rw [if_neg hl] at h
  unfold lexT lexA
  rw [if_neg hl, if_neg hl]
  have e : lexAll s = lexAt s 0 := rfl
  rw [e] at h ⊢
  cases h2 : (lexAt s 0).2 with
  | none => exact ⟨by omega, rfl, rfl, rfl⟩
  | some a => rw [h2] at h; cases h
theorem lex_tk {s : List UInt8} (h : lexE s = 0) : TkOk (lexT s) ∧ 0 < (lexT s).length ∧ (∀ i, i < (lexT s).length → ((nth (lexT s) i).k = 5 ↔ i + 1 = (lexT s).length)) ∧ ∀ i, i < (lexT s).length → (nth (lexT s) i).t.length ≤ s.length ∧ 0 ≤ (nth (lexT s) i).a ∧ (nth (lexT s) i).a ≤ s.length := by
 obtain ⟨h1, h2, h3, _⟩ := lexT_at h
 obtain ⟨i1, i2, i3, i4⟩ := lexAt_tk (s.length + 1) 0 (by omega) (by omega) h2
 rw [← h3] at i1 i2 i3 i4
 have i5 : ∀ i, i < (lexT s).length → (nth (lexT s) i).t.length ≤ s.length ∧ 0 ≤ (nth (lexT s) i).a ∧ (nth (lexT s) i).a ≤ s.length := fun i hi => by have := i4 _ (nth_mem hi); omega
 exact ⟨⟨by omega, by omega, fun i hi hk => by have h6 : ¬ (i + 1 = (lexT s).length) := fun e => hk ((i3 i hi).2 e); omega, fun i hi => by have := (i5 i hi).1; omega, fun i hi => by have := i5 i hi; omega⟩, List.length_pos_iff.2 i1, i3, i5⟩
/-- a whole text, by a rule -/
def readV {α : Type} (z : α) (rule : List Tk → PS → PR α) (s : List UInt8) : α × Int × Int :=
 if lexE s = 0 then (match rule (lexT s) ⟨0, -1⟩ with
  | .err a => (z, a, 7)
  | .ok s1 x => if (nth (lexT s) s1.n).k = 5 then (if 0 ≤ s1.m then (z, s1.m, 3) else (x, 0, 0)) else (z, (nth (lexT s) s1.n).a, 7))
 else (z, lexA s, lexE s)
section
variable {α : Type} {z : α} {rule : List Tk → PS → PR α} {s : List UInt8}
theorem readV_no (h : lexE s ≠ 0) : readV z rule s = (z, lexA s, lexE s) := if_neg h
theorem readV_err (h : lexE s = 0) {a : Int} (hr : rule (lexT s) ⟨0, -1⟩ = .err a) : readV z rule s = (z, a, 7) := by unfold readV; rw [if_pos h, hr]
theorem readV_end (h : lexE s = 0) {s1 : PS} {x : α} (hr : rule (lexT s) ⟨0, -1⟩ = .ok s1 x) (hk : (nth (lexT s) s1.n).k ≠ 5) : readV z rule s = (z, (nth (lexT s) s1.n).a, 7) := by unfold readV; rw [if_pos h, hr]; simp only; rw [if_neg hk]
theorem readV_long (h : lexE s = 0) {s1 : PS} {x : α} (hr : rule (lexT s) ⟨0, -1⟩ = .ok s1 x) (hk : (nth (lexT s) s1.n).k = 5) (hm : 0 ≤ s1.m) : readV z rule s = (z, s1.m, 3) := by unfold readV; rw [if_pos h, hr]; simp only; rw [if_pos hk, if_pos hm]
theorem readV_ok (h : lexE s = 0) {s1 : PS} {x : α} (hr : rule (lexT s) ⟨0, -1⟩ = .ok s1 x) (hk : (nth (lexT s) s1.n).k = 5) (hm : ¬ 0 ≤ s1.m) : readV z rule s = (x, 0, 0) := by unfold readV; rw [if_pos h, hr]; simp only; rw [if_pos hk, if_neg hm]
end
def qz : Qu := ⟨[], [], [], 0, 0⟩
def xz : Ex := .mk 0 [] []
attribute [go_sem] Qu.p Qu.c Qu.r Qu.range Qu.slide
theorem wholeN_adv {l : List Tk} (hk : TkOk l) {s : PS} (hn : s.n < l.length) : ∀ s1 x, wholeP l s = .ok s1 x → s1.n < l.length := fun s1 x h => (whole_adv hk hn s1 x h).1.2
theorem query_adv {l : List Tk} (hk : TkOk l) {s : PS} (hn : s.n < l.length) : ∀ s1 q, queryP l s = .ok s1 q → s1.n < l.length := by
 intro s1 q h
 obtain ⟨s2, _, h2, h⟩ := bind_ok h
 obtain ⟨s3, _, h3, h⟩ := bind_ok h
 obtain ⟨s4, _, h4, h⟩ := bind_ok h
 obtain ⟨s5, _, h5, h⟩ := bind_ok h
 obtain ⟨s6, _, h6, h⟩ := bind_ok h
 obtain ⟨s7, _, h7, h⟩ := bind_ok h
 obtain ⟨s8, _, h8, h⟩ := bind_ok h
 obtain ⟨s9, _, h9, h⟩ := bind_ok h
 obtain ⟨s0, _, h0, h⟩ := bind_ok h
 cases h
 have many : ∀ {α : Type} {rd : PS → PR α} {w : List UInt8} {mx : Nat}, (∀ s : PS, s.n < l.length → AdvP l s (rd s)) → ∀ (f : Nat) (s : PS) (acc : List α), s.n < l.length → ∀ s1 xs, manyP l rd w mx f s acc = .ok s1 xs → s1.n < l.length := by
  intro α rd w mx hr f
  induction f with
  | zero => intro s acc _ s1 xs h; cases h
  | succ f ih =>
   intro s acc hs s1 xs h
   obtain ⟨t1, x, g1, h⟩ := bind_ok h
   have a1 := hr _ (by rw [limS_n]; exact hs) _ _ g1
   split at h
   ·rename_i hp; exact ih _ _ (is_adv hk a1.2 hp) _ _ h
   ·cases h; exact a1.2
 have a2 := must_adv hk hn _ _ h2
 have a3 := many (fun s hs => pat_adv hk hs) _ _ _ a2.2 _ _ h3
 have a4 : s4.n < l.length := by
  split at h4
  ·rename_i hp; exact many (fun s hs => cd_adv hk hs) _ _ _ (is_adv hk a3 hp) _ _ h4
  ·cases h4; exact a3
 have a5 := must_adv hk a4 _ _ h5
 have a6 := many (fun s hs => told_adv hk hs) _ _ _ a5.2 _ _ h6
 have a7 := must_adv hk a6 _ _ h7
 have a8 := num_adv hk a7.2 _ _ h8
 have a9 := must_adv hk a8.2 _ _ h9
 exact (num_adv hk a9.2 _ _ h0).2
attribute [go_sem] qz xz
theorem readQ_ok (s : List UInt8) (hs : s.length ≤ 140737488351232) : FnOK LaidX Tryz.prog 60 [sv s, .fn 61 []] (.tup [quD (readV qz queryP s).1, iv (readV qz queryP s).2.1, iv (readV qz queryP s).2.2]) := by
 refine FnOK_of laidX_stable Tryz.func60 Tryz.ntmps60 rfl (by as_aux_lemma => kernel_rfl) (Nat.le_of_ble_eq_true rfl) (fun R hR => ?_)
 obtain ⟨_, b, cs, T, C⟩ := R
 obtain rfl : _ = Tryz.prog := hR.p
 refine sreg te_ok ?_
 refine sq ?_
 apply Exec.regionL te_ok
 ·intro o Q hQ
  simp only [go_sem]
  repeat refine ob2 ?_
  refine kcall hR.inv te_ok rfl rfl rfl rfl rfl rfl (lex_ok s (by omega)) ?_
  simp only [go_sem]
  repeat refine ob2 ?_
  exact hQ
 refine sq ?_
 refine sreg te_ok ?_
 refine Exec.cond_split rfl (fun h0 => ?_) (fun h0 => ?_)
 ·have hE : lexE s ≠ 0 := by simpa using h0
  refine sq ?_
  apply Exec.free (st := _) 7 6 [(0, 1), (0, 2), (1, 2), (1, 3), (2, 3), (2, 4)] te_ok (by as_aux_lemma => kernel_rfl) rfl (by as_aux_lemma => kernel_rfl)
  ·intro o Q hQ
   simp only [go_sem]
   repeat refine ob2 ?_
   exact hQ
  ·rfl
  refine Exec.rets hR te_ok rfl rfl rfl (LeX.le ?_) (.inr ⟨_, rfl⟩)
  rw [readV_no hE]
  simp only [go_sem]
 ·have hE : lexE s = 0 := by simpa using h0
  obtain ⟨hk, h0n, _, _⟩ := lex_tk hE
  refine sk ?_
  refine sq ?_
  refine Exec.regStart 2 rfl ?_
  apply Exec.regPart 0 1 1 te_ok rfl
  ·intro o Q hQ
   simp only [go_sem]
   repeat refine ob2 ?_
   exact hQ
  refine Exec.deferOp hR.round rfl rfl rfl rfl rfl rfl rfl (fun ac hac => ?_)
  apply Exec.norm
  ·simp only [go_sem]
   rfl
  refine Exec.regEnd ?_
  refine sreg te_ok ?_
  refine sq ?_
  rcases hq1 : queryP (lexT s) ⟨0, -1⟩ with ⟨⟨n1, m1⟩, x1⟩ | at1
  ·have hn1 : n1 < (lexT s).length := query_adv hk (s := ⟨0, -1⟩) h0n _ _ hq1
   apply Exec.regionL te_ok
   ·intro o Q hQ
    simp only [go_sem]
    repeat refine ob2 ?_
    refine kcallM 25 hR.inv te_ok rfl rfl rfl rfl rfl rfl rfl rfl rfl ((fOk (pquery_ok (lexT s) 0 (-1) hk h0n) hq1).weak laidX_laid) ?_
    simp only [go_sem]
    repeat refine ob2 ?_
    exact hQ
   refine sq ?_
   refine sq ?_
   apply Exec.regionL te_ok
   ·intro o Q hQ
    simp only [go_sem]
    repeat refine ob2 ?_
    refine kcallM 25 hR.inv te_ok rfl rfl rfl rfl rfl rfl rfl rfl rfl ((token_ok (lexT s) n1 m1 hn1).weak laidX_laid) ?_
    simp only [go_sem]
    repeat refine ob2 ?_
    exact hQ
   refine Exec.cond_split rfl (fun h1 => ?_) (fun h1 => ?_)
   ·have hk5 : (nth (lexT s) n1).k ≠ 5 := by simpa using h1
    refine Exec.regStart 2 rfl ?_
    apply Exec.regPart 0 1 1 te_ok rfl
    ·intro o Q hQ
     simp only [go_sem]
     repeat refine ob2 ?_
     exact hQ
    refine Exec.callP 25 hR.inv rfl rfl rfl rfl rfl rfl rfl rfl rfl ((fail_ok (lexT s) n1 m1 hn1).weak laidX_laid) ?_
    refine ExecP.defer rfl hac List.mem_cons_self Tryz.func122 Tryz.ntmps122 rfl (by as_aux_lemma => kernel_rfl) (Nat.le_of_ble_eq_true rfl) (fun ao av k0 v hao haod hav => ?_)
    refine Exec.ren (swJ 1) ?_
    apply Exec.norm
    ·simp only [go_sem]
     rfl
    refine sq ?_
    refine Exec.regStart 2 rfl ?_
    refine Exec.recover rfl rfl rfl (Nat.le_of_ble_eq_true rfl) rfl (List.mem_cons_of_mem _ List.mem_cons_self) rfl hav ?_
    apply Exec.norm
    ·simp only [go_sem]
     rfl
    apply Exec.regPart 1 1 0 te_ok rfl
    ·intro o Q hQ
     simp only [go_sem]
     repeat refine ob2 ?_
     exact hQ
    refine Exec.regEnd ?_
    refine sreg te_ok ?_
    refine Exec.cond (t := true) rfl ?_
    simp only [reduceIte, Bool.false_eq_true]
    refine sq ?_
    apply Exec.regionL te_ok
    ·intro o Q hQ
     simp only [go_sem]
     repeat refine ob2 ?_
     refine kassert te_ok rfl rfl rfl rfl rfl (fun m h => by cases h) ?_
     simp only [go_sem]
     repeat refine ob2 ?_
     exact hQ
    refine sq ?_
    refine sreg te_ok ?_
    refine Exec.cond (t := false) rfl ?_
    simp only [reduceIte, Bool.false_eq_true]
    refine sk ?_
    refine sreg te_ok ?_
    apply Exec.free (st := _) 7 6 [(0, 1), (0, 2), (1, 3), (2, 3)] te_ok (by as_aux_lemma => kernel_rfl) rfl (by as_aux_lemma => kernel_rfl)
    ·intro o Q hQ
     simp only [go_sem]
     repeat refine ob2 ?_
     exact hQ
    ·rfl
    refine Exec.leaveD Tryz.func122 rfl (.inl rfl) rfl rfl hao haod rfl ?_
    refine ExecR.ren (swJ 1) ?_
    apply ExecR.norm
    ·simp only [go_sem]
     rfl
    refine ExecR.done hR te_ok rfl rfl rfl (LeX.le ?_)
    rw [readV_end hE hq1 hk5]
    simp only [go_sem]
   ·have hk5 : (nth (lexT s) n1).k = 5 := by simpa using h1
    refine sk ?_
    refine sq ?_
    refine sreg te_ok ?_
    refine Exec.cond_split rfl (fun h2 => ?_) (fun h2 => ?_)
    ·have hm : 0 ≤ m1 := by simpa using h2
     refine sq ?_
     apply Exec.free (st := _) 9 8 [(0, 1), (0, 2), (0, 3), (0, 4), (1, 5), (2, 5), (3, 5), (4, 5)] te_ok (by as_aux_lemma => kernel_rfl) rfl (by as_aux_lemma => kernel_rfl)
     ·intro o Q hQ
      simp only [go_sem]
      repeat refine ob2 ?_
      exact hQ
     ·rfl
     refine Exec.retR hR.round (.inr ⟨_, rfl⟩) ?_
     refine ExecR.defer rfl hac List.mem_cons_self Tryz.func122 Tryz.ntmps122 rfl (by as_aux_lemma => kernel_rfl) (Nat.le_of_ble_eq_true rfl) (fun ao k0 hao haod => ?_)
     refine Exec.ren (swJ 1) ?_
     apply Exec.norm
     ·simp only [go_sem]
      rfl
     refine sq ?_
     refine Exec.regStart 2 rfl ?_
     refine Exec.recoverNo rfl rfl rfl (Nat.le_of_ble_eq_true rfl) rfl ?_
     apply Exec.norm
     ·simp only [go_sem]
      rfl
     apply Exec.regPart 1 1 0 te_ok rfl
     ·intro o Q hQ
      simp only [go_sem]
      repeat refine ob2 ?_
      exact hQ
     refine Exec.regEnd ?_
     refine sreg te_ok ?_
     refine Exec.cond (t := false) rfl ?_
     simp only [reduceIte, Bool.false_eq_true]
     refine sk ?_
     refine Exec.leaveD Tryz.func122 rfl (.inl rfl) rfl rfl hao haod rfl ?_
     refine ExecR.ren (swJ 1) ?_
     apply ExecR.norm
     ·simp only [go_sem]
      rfl
     refine ExecR.done hR te_ok rfl rfl rfl (LeX.le ?_)
     rw [readV_long hE hq1 hk5 hm]
     simp only [go_sem]
    ·have hm : ¬ 0 ≤ m1 := by simpa using h2
     refine sk ?_
     refine sreg te_ok ?_
     refine Exec.retR hR.round (.inr ⟨_, rfl⟩) ?_
     refine ExecR.defer rfl hac List.mem_cons_self Tryz.func122 Tryz.ntmps122 rfl (by as_aux_lemma => kernel_rfl) (Nat.le_of_ble_eq_true rfl) (fun ao k0 hao haod => ?_)
     refine Exec.ren (swJ 1) ?_
     apply Exec.norm
     ·simp only [go_sem]
      rfl
     refine sq ?_
     refine Exec.regStart 2 rfl ?_
     refine Exec.recoverNo rfl rfl rfl (Nat.le_of_ble_eq_true rfl) rfl ?_
     apply Exec.norm
     ·simp only [go_sem]
      rfl
     apply Exec.regPart 1 1 0 te_ok rfl
     ·intro o Q hQ
      simp only [go_sem]
      repeat refine ob2 ?_
      exact hQ
     refine Exec.regEnd ?_
     refine sreg te_ok ?_
     refine Exec.cond (t := false) rfl ?_
     simp only [reduceIte, Bool.false_eq_true]
     refine sk ?_
     refine Exec.leaveD Tryz.func122 rfl (.inl rfl) rfl rfl hao haod rfl ?_
     refine ExecR.ren (swJ 1) ?_
     apply ExecR.norm
     ·simp only [go_sem]
      rfl
     refine ExecR.done hR te_ok rfl rfl rfl (LeX.le ?_)
     rw [readV_ok hE hq1 hk5 hm]
     simp only [go_sem]
  ·refine Exec.regStart 5 rfl ?_
   apply Exec.regPart 0 2 3 te_ok rfl
   ·intro o Q hQ
    simp only [go_sem]
    repeat refine ob2 ?_
    exact hQ
   refine Exec.callP 25 hR.inv rfl rfl rfl rfl rfl rfl rfl rfl rfl ((fEr (pquery_ok (lexT s) 0 (-1) hk h0n) hq1).weak laidX_laid) ?_
   refine ExecP.defer rfl hac List.mem_cons_self Tryz.func122 Tryz.ntmps122 rfl (by as_aux_lemma => kernel_rfl) (Nat.le_of_ble_eq_true rfl) (fun ao av k0 v hao haod hav => ?_)
   refine Exec.ren (swJ 1) ?_
   apply Exec.norm
   ·simp only [go_sem]
    rfl
   refine sq ?_
   refine Exec.regStart 2 rfl ?_
   refine Exec.recover rfl rfl rfl (Nat.le_of_ble_eq_true rfl) rfl (List.mem_cons_of_mem _ List.mem_cons_self) rfl hav ?_
   apply Exec.norm
   ·simp only [go_sem]
    rfl
   apply Exec.regPart 1 1 0 te_ok rfl
   ·intro o Q hQ
    simp only [go_sem]
    repeat refine ob2 ?_
    exact hQ
   refine Exec.regEnd ?_
   refine sreg te_ok ?_
   refine Exec.cond (t := true) rfl ?_
   simp only [reduceIte, Bool.false_eq_true]
   refine sq ?_
   apply Exec.regionL te_ok
   ·intro o Q hQ
    simp only [go_sem]
    repeat refine ob2 ?_
    refine kassert te_ok rfl rfl rfl rfl rfl (fun m h => by cases h) ?_
    simp only [go_sem]
    repeat refine ob2 ?_
    exact hQ
   refine sq ?_
   refine sreg te_ok ?_
   refine Exec.cond (t := false) rfl ?_
   simp only [reduceIte, Bool.false_eq_true]
   refine sk ?_
   refine sreg te_ok ?_
   apply Exec.free (st := _) 7 6 [(0, 1), (0, 2), (1, 3), (2, 3)] te_ok (by as_aux_lemma => kernel_rfl) rfl (by as_aux_lemma => kernel_rfl)
   ·intro o Q hQ
    simp only [go_sem]
    repeat refine ob2 ?_
    exact hQ
   ·rfl
   refine Exec.leaveD Tryz.func122 rfl (.inl rfl) rfl rfl hao haod rfl ?_
   refine ExecR.ren (swJ 1) ?_
   apply ExecR.norm
   ·simp only [go_sem]
    rfl
   refine ExecR.done hR te_ok rfl rfl rfl (LeX.le ?_)
   rw [readV_err hE hq1]
   simp only [go_sem]
theorem readX_ok (s : List UInt8) (hs : s.length ≤ 140737488351232) : FnOK LaidX Tryz.prog 66 [sv s, .fn 67 []] (.tup [exD (readV xz wholeP s).1, iv (readV xz wholeP s).2.1, iv (readV xz wholeP s).2.2]) := by
 refine FnOK_of laidX_stable Tryz.func66 Tryz.ntmps66 rfl (by as_aux_lemma => kernel_rfl) (Nat.le_of_ble_eq_true rfl) (fun R hR => ?_)
 obtain ⟨_, b, cs, T, C⟩ := R
 obtain rfl : _ = Tryz.prog := hR.p
 refine sreg te_ok ?_
 refine sq ?_
 apply Exec.regionL te_ok
 ·intro o Q hQ
  simp only [go_sem]
  repeat refine ob2 ?_
  refine kcall hR.inv te_ok rfl rfl rfl rfl rfl rfl (lex_ok s (by omega)) ?_
  simp only [go_sem]
  repeat refine ob2 ?_
  exact hQ
 refine sq ?_
 refine sreg te_ok ?_
 refine Exec.cond_split rfl (fun h0 => ?_) (fun h0 => ?_)
 ·have hE : lexE s ≠ 0 := by simpa using h0
  refine sq ?_
  apply Exec.free (st := _) 7 6 [(0, 1), (0, 2), (1, 2), (1, 3), (2, 3), (2, 4)] te_ok (by as_aux_lemma => kernel_rfl) rfl (by as_aux_lemma => kernel_rfl)
  ·intro o Q hQ
   simp only [go_sem]
   repeat refine ob2 ?_
   exact hQ
  ·rfl
  refine Exec.rets hR te_ok rfl rfl rfl (LeX.le ?_) (.inr ⟨_, rfl⟩)
  rw [readV_no hE]
  simp only [go_sem]
  exact ⟨rfl, rfl, by rw [kd_eq]; exact ⟨rfl, rfl⟩⟩
 ·have hE : lexE s = 0 := by simpa using h0
  obtain ⟨hk, h0n, _, _⟩ := lex_tk hE
  refine sk ?_
  refine sq ?_
  refine Exec.regStart 2 rfl ?_
  apply Exec.regPart 0 1 1 te_ok rfl
  ·intro o Q hQ
   simp only [go_sem]
   repeat refine ob2 ?_
   exact hQ
  refine Exec.deferOp hR.round rfl rfl rfl rfl rfl rfl rfl (fun ac hac => ?_)
  apply Exec.norm
  ·simp only [go_sem]
   rfl
  refine Exec.regEnd ?_
  refine sreg te_ok ?_
  refine sq ?_
  rcases hq1 : wholeP (lexT s) ⟨0, -1⟩ with ⟨⟨n1, m1⟩, x1⟩ | at1
  ·have hn1 : n1 < (lexT s).length := wholeN_adv hk (s := ⟨0, -1⟩) h0n _ _ hq1
   apply Exec.regionL te_ok
   ·intro o Q hQ
    simp only [go_sem]
    repeat refine ob2 ?_
    refine kcallM 25 hR.inv te_ok rfl rfl rfl rfl rfl rfl rfl rfl rfl ((fOk (pwhole_ok (lexT s) 0 (-1) hk h0n) hq1).weak laidX_laid) ?_
    simp only [go_sem]
    repeat refine ob2 ?_
    exact hQ
   refine sq ?_
   refine sq ?_
   apply Exec.regionL te_ok
   ·intro o Q hQ
    simp only [go_sem]
    repeat refine ob2 ?_
    refine kcallM 25 hR.inv te_ok rfl rfl rfl rfl rfl rfl rfl rfl rfl ((token_ok (lexT s) n1 m1 hn1).weak laidX_laid) ?_
    simp only [go_sem]
    repeat refine ob2 ?_
    exact hQ
   refine Exec.cond_split rfl (fun h1 => ?_) (fun h1 => ?_)
   ·have hk5 : (nth (lexT s) n1).k ≠ 5 := by simpa using h1
    refine Exec.regStart 2 rfl ?_
    apply Exec.regPart 0 1 1 te_ok rfl
    ·intro o Q hQ
     simp only [go_sem]
     repeat refine ob2 ?_
     exact hQ
    refine Exec.callP 25 hR.inv rfl rfl rfl rfl rfl rfl rfl rfl rfl ((fail_ok (lexT s) n1 m1 hn1).weak laidX_laid) ?_
    refine ExecP.defer rfl hac List.mem_cons_self Tryz.func133 Tryz.ntmps133 rfl (by as_aux_lemma => kernel_rfl) (Nat.le_of_ble_eq_true rfl) (fun ao av k0 v hao haod hav => ?_)
    refine Exec.ren (swJ 1) ?_
    apply Exec.norm
    ·simp only [go_sem]
     rfl
    refine sq ?_
    refine Exec.regStart 2 rfl ?_
    refine Exec.recover rfl rfl rfl (Nat.le_of_ble_eq_true rfl) rfl (List.mem_cons_of_mem _ List.mem_cons_self) rfl hav ?_
    apply Exec.norm
    ·simp only [go_sem]
     rfl
    apply Exec.regPart 1 1 0 te_ok rfl
    ·intro o Q hQ
     simp only [go_sem]
     repeat refine ob2 ?_
     exact hQ
    refine Exec.regEnd ?_
    refine sreg te_ok ?_
    refine Exec.cond (t := true) rfl ?_
    simp only [reduceIte, Bool.false_eq_true]
    refine sq ?_
    apply Exec.regionL te_ok
    ·intro o Q hQ
     simp only [go_sem]
     repeat refine ob2 ?_
     refine kassert te_ok rfl rfl rfl rfl rfl (fun m h => by cases h) ?_
     simp only [go_sem]
     repeat refine ob2 ?_
     exact hQ
    refine sq ?_
    refine sreg te_ok ?_
    refine Exec.cond (t := false) rfl ?_
    simp only [reduceIte, Bool.false_eq_true]
    refine sk ?_
    refine sreg te_ok ?_
    apply Exec.free (st := _) 7 6 [(0, 1), (0, 2), (1, 3), (2, 3)] te_ok (by as_aux_lemma => kernel_rfl) rfl (by as_aux_lemma => kernel_rfl)
    ·intro o Q hQ
     simp only [go_sem]
     repeat refine ob2 ?_
     exact hQ
    ·rfl
    refine Exec.leaveD Tryz.func133 rfl (.inl rfl) rfl rfl hao haod rfl ?_
    refine ExecR.ren (swJ 1) ?_
    apply ExecR.norm
    ·simp only [go_sem]
     rfl
    refine ExecR.done hR te_ok rfl rfl rfl (LeX.le ?_)
    rw [readV_end hE hq1 hk5]
    simp only [go_sem]
    exact ⟨rfl, rfl, by rw [kd_eq]; exact ⟨rfl, rfl⟩⟩
   ·have hk5 : (nth (lexT s) n1).k = 5 := by simpa using h1
    refine sk ?_
    refine sq ?_
    refine sreg te_ok ?_
    refine Exec.cond_split rfl (fun h2 => ?_) (fun h2 => ?_)
    ·have hm : 0 ≤ m1 := by simpa using h2
     refine sq ?_
     apply Exec.free (st := _) 9 8 [(0, 1), (0, 2), (0, 3), (0, 4), (1, 5), (2, 5), (3, 5), (4, 5)] te_ok (by as_aux_lemma => kernel_rfl) rfl (by as_aux_lemma => kernel_rfl)
     ·intro o Q hQ
      simp only [go_sem]
      repeat refine ob2 ?_
      exact hQ
     ·rfl
     refine Exec.retR hR.round (.inr ⟨_, rfl⟩) ?_
     refine ExecR.defer rfl hac List.mem_cons_self Tryz.func133 Tryz.ntmps133 rfl (by as_aux_lemma => kernel_rfl) (Nat.le_of_ble_eq_true rfl) (fun ao k0 hao haod => ?_)
     refine Exec.ren (swJ 1) ?_
     apply Exec.norm
     ·simp only [go_sem]
      rfl
     refine sq ?_
     refine Exec.regStart 2 rfl ?_
     refine Exec.recoverNo rfl rfl rfl (Nat.le_of_ble_eq_true rfl) rfl ?_
     apply Exec.norm
     ·simp only [go_sem]
      rfl
     apply Exec.regPart 1 1 0 te_ok rfl
     ·intro o Q hQ
      simp only [go_sem]
      repeat refine ob2 ?_
      exact hQ
     refine Exec.regEnd ?_
     refine sreg te_ok ?_
     refine Exec.cond (t := false) rfl ?_
     simp only [reduceIte, Bool.false_eq_true]
     refine sk ?_
     refine Exec.leaveD Tryz.func133 rfl (.inl rfl) rfl rfl hao haod rfl ?_
     refine ExecR.ren (swJ 1) ?_
     apply ExecR.norm
     ·simp only [go_sem]
      rfl
     refine ExecR.done hR te_ok rfl rfl rfl (LeX.le ?_)
     rw [readV_long hE hq1 hk5 hm]
     simp only [go_sem]
     exact ⟨rfl, rfl, by rw [kd_eq]; exact ⟨rfl, rfl⟩⟩
    ·have hm : ¬ 0 ≤ m1 := by simpa using h2
     refine sk ?_
     refine sreg te_ok ?_
     refine Exec.retR hR.round (.inr ⟨_, rfl⟩) ?_
     refine ExecR.defer rfl hac List.mem_cons_self Tryz.func133 Tryz.ntmps133 rfl (by as_aux_lemma => kernel_rfl) (Nat.le_of_ble_eq_true rfl) (fun ao k0 hao haod => ?_)
     refine Exec.ren (swJ 1) ?_
     apply Exec.norm
     ·simp only [go_sem]
      rfl
     refine sq ?_
     refine Exec.regStart 2 rfl ?_
     refine Exec.recoverNo rfl rfl rfl (Nat.le_of_ble_eq_true rfl) rfl ?_
     apply Exec.norm
     ·simp only [go_sem]
      rfl
     apply Exec.regPart 1 1 0 te_ok rfl
     ·intro o Q hQ
      simp only [go_sem]
      repeat refine ob2 ?_
      exact hQ
     refine Exec.regEnd ?_
     refine sreg te_ok ?_
     refine Exec.cond (t := false) rfl ?_
     simp only [reduceIte, Bool.false_eq_true]
     refine sk ?_
     refine Exec.leaveD Tryz.func133 rfl (.inl rfl) rfl rfl hao haod rfl ?_
     refine ExecR.ren (swJ 1) ?_
     apply ExecR.norm
     ·simp only [go_sem]
      rfl
     refine ExecR.done hR te_ok rfl rfl rfl (LeX.le ?_)
     rw [readV_ok hE hq1 hk5 hm]
     simp only [go_sem]
  ·refine Exec.regStart 5 rfl ?_
   apply Exec.regPart 0 2 3 te_ok rfl
   ·intro o Q hQ
    simp only [go_sem]
    repeat refine ob2 ?_
    exact hQ
   refine Exec.callP 25 hR.inv rfl rfl rfl rfl rfl rfl rfl rfl rfl ((fEr (pwhole_ok (lexT s) 0 (-1) hk h0n) hq1).weak laidX_laid) ?_
   refine ExecP.defer rfl hac List.mem_cons_self Tryz.func133 Tryz.ntmps133 rfl (by as_aux_lemma => kernel_rfl) (Nat.le_of_ble_eq_true rfl) (fun ao av k0 v hao haod hav => ?_)
   refine Exec.ren (swJ 1) ?_
   apply Exec.norm
   ·simp only [go_sem]
    rfl
   refine sq ?_
   refine Exec.regStart 2 rfl ?_
   refine Exec.recover rfl rfl rfl (Nat.le_of_ble_eq_true rfl) rfl (List.mem_cons_of_mem _ List.mem_cons_self) rfl hav ?_
   apply Exec.norm
   ·simp only [go_sem]
    rfl
   apply Exec.regPart 1 1 0 te_ok rfl
   ·intro o Q hQ
    simp only [go_sem]
    repeat refine ob2 ?_
    exact hQ
   refine Exec.regEnd ?_
   refine sreg te_ok ?_
   refine Exec.cond (t := true) rfl ?_
   simp only [reduceIte, Bool.false_eq_true]
   refine sq ?_
   apply Exec.regionL te_ok
   ·intro o Q hQ
    simp only [go_sem]
    repeat refine ob2 ?_
    refine kassert te_ok rfl rfl rfl rfl rfl (fun m h => by cases h) ?_
    simp only [go_sem]
    repeat refine ob2 ?_
    exact hQ
   refine sq ?_
   refine sreg te_ok ?_
   refine Exec.cond (t := false) rfl ?_
   simp only [reduceIte, Bool.false_eq_true]
   refine sk ?_
   refine sreg te_ok ?_
   apply Exec.free (st := _) 7 6 [(0, 1), (0, 2), (1, 3), (2, 3)] te_ok (by as_aux_lemma => kernel_rfl) rfl (by as_aux_lemma => kernel_rfl)
   ·intro o Q hQ
    simp only [go_sem]
    repeat refine ob2 ?_
    exact hQ
   ·rfl
   refine Exec.leaveD Tryz.func133 rfl (.inl rfl) rfl rfl hao haod rfl ?_
   refine ExecR.ren (swJ 1) ?_
   apply ExecR.norm
   ·simp only [go_sem]
    rfl
   refine ExecR.done hR te_ok rfl rfl rfl (LeX.le ?_)
   rw [readV_err hE hq1]
   simp only [go_sem]
   exact ⟨rfl, rfl, by rw [kd_eq]; exact ⟨rfl, rfl⟩⟩
theorem pQuery_ok (s : List UInt8) (hs : s.length ≤ 140737488351232) : FnOK LaidX Tryz.prog 32 [sv s] (.tup [quD (readV qz queryP s).1, iv (readV qz queryP s).2.1, iv (readV qz queryP s).2.2]) := by
 refine FnOK_of laidX_stable Tryz.func32 Tryz.ntmps32 rfl (by as_aux_lemma => kernel_rfl) (Nat.le_of_ble_eq_true rfl) (fun R hR => ?_)
 obtain ⟨_, b, cs, T, C⟩ := R
 obtain rfl : _ = Tryz.prog := hR.p
 refine sreg te_ok ?_
 refine sq ?_
 apply Exec.regionL te_ok
 ·intro o Q hQ
  simp only [go_sem]
  repeat refine ob2 ?_
  refine kcall hR.inv te_ok rfl rfl rfl rfl rfl rfl (readQ_ok s hs) ?_
  simp only [go_sem]
  repeat refine ob2 ?_
  exact hQ
 refine Exec.rets hR te_ok rfl rfl rfl (LeX.le ?_) (.inr ⟨_, rfl⟩)
 simp only [go_sem]
theorem pExpr_ok (s : List UInt8) (hs : s.length ≤ 140737488351232) : FnOK LaidX Tryz.prog 34 [sv s] (.tup [exD (readV xz wholeP s).1, iv (readV xz wholeP s).2.1, iv (readV xz wholeP s).2.2]) := by
 refine FnOK_of laidX_stable Tryz.func34 Tryz.ntmps34 rfl (by as_aux_lemma => kernel_rfl) (Nat.le_of_ble_eq_true rfl) (fun R hR => ?_)
 obtain ⟨_, b, cs, T, C⟩ := R
 obtain rfl : _ = Tryz.prog := hR.p
 refine sreg te_ok ?_
 refine sq ?_
 apply Exec.regionL te_ok
 ·intro o Q hQ
  simp only [go_sem]
  repeat refine ob2 ?_
  refine kcall hR.inv te_ok rfl rfl rfl rfl rfl rfl (readX_ok s hs) ?_
  simp only [go_sem]
  repeat refine ob2 ?_
  exact hQ
 refine Exec.rets hR te_ok rfl rfl rfl (LeX.le ?_) (.inr ⟨_, rfl⟩)
 simp only [go_sem]
end Go.Proofs.YtonchjamoblioaaGreatDoor
namespace Go.Proofs.YtonchjamoblioaaGreatDoor
open Go.Kin Go.Lib
/-! ### places of tokens; a text cut ahead of one; a text written anew -/
theorem first_tv {z : List UInt8} (hb : firstB z = true) (hk : (firstT z).k = 2 ∨ (firstT z).k = 3) : rightV (firstT z).v.k (firstT z).v.n (firstT z).v.s = true := by
 have pv : ∀ w, (parseE w == 0) = true → rightV (parseV w).k (parseV w).n (parseV w).s = true := fun w h => by
  have hp : parseB w = true := by
   unfold parseE at h
   cases hb : parseB w with
   | true => rfl
   | false => rw [hb] at h; simp at h
  unfold parseV; rw [if_pos hp]
  unfold parseB at hp; rw [Bool.and_eq_true] at hp; exact hp.1
 unfold firstT firstB at *
 by_cases h0 : z = []
 ·rw [if_pos h0] at hk; simp at hk
 ·rw [if_neg h0] at hb hk ⊢
  by_cases h1 : letterI (z.getD 0 0).toNat = true
  ·rw [if_pos h1] at hk; simp at hk
  ·rw [if_neg h1] at hb hk ⊢
   by_cases h2 : digitI (z.getD 0 0).toNat = true
   ·rw [if_pos h2] at hb ⊢; exact pv _ hb
   ·rw [if_neg h2] at hb hk ⊢
    by_cases h3 : (((z.getD 0 0).toNat : Int) == 45 && decide (0 < (spanN digitI (z.drop 1) : Int))) = true
    ·rw [if_pos h3] at hb ⊢; exact pv _ hb
    ·rw [if_neg h3] at hb hk ⊢
     by_cases h4 : (((z.getD 0 0).toNat : Int) == 34) = true
     ·rw [if_pos h4] at hb hk ⊢
      by_cases h5 : indexByte (z.drop 1) 34 < 0
      ·rw [if_pos h5] at hb; cases hb
      ·rw [if_neg h5] at hb ⊢; exact pv _ hb
     ·rw [if_neg h4] at hk; simp at hk
/-- a token by itself -/
def Alone (t : Tk) : Prop := t.k ≠ 5 ∧ firstB t.t = true ∧ firstT t.t = t.at' 0 ∧ spanN blankI t.t = 0 ∧ 0 < t.t.length
theorem tok_alone {s : List UInt8} {a : Nat} (hb : firstB (s.drop (nextA s a)) = true) (hk : (firstT (s.drop (nextA s a))).k ≠ 5) : Alone (tokA s a) := by
 have h1 := first_text hb hk
 have h2 := first_len hb hk
 have h3 := first_take hb hk (Nat.le_refl _)
 rw [← h1] at h3
 have h4 := first_a (s.drop (nextA s a))
 have hz : spanN blankI (s.drop (nextA s a)) = 0 := by unfold nextA; rw [← List.drop_drop]; exact spanN_zero
 refine ⟨hk, h3.2, ?_, ?_, h2.1⟩
 ·show firstT (firstT _).t = _
  rw [h3.1]
  unfold tokA Tk.at'
  simp only
  cases hf : firstT (s.drop (nextA s a)); rw [hf] at h4; simp at h4; simp [h4]
 ·show spanN blankI (firstT _).t = 0
  rw [h1, spanN_take, hz]; omega
structure LxOk (s : List UInt8) (a : Nat) (l : List Tk) : Prop where
 up : l.Pairwise (fun x y => x.a < y.a)
 ge : ∀ t ∈ l, (a : Int) ≤ t.a ∧ t.a ≤ s.length
 tv : ∀ t ∈ l, (t.k = 2 ∨ t.k = 3) → rightV t.v.k t.v.n t.v.s = true
 al : ∀ t ∈ l, t.k ≠ 5 → Alone t
 en : ∀ t ∈ l, t.k = 5 → t.t = [] ∧ t.v = v0
theorem lexAt_ok {s : List UInt8} : ∀ (n a : Nat), s.length - a < n → a ≤ s.length → LxOk s a (lexAt s a).1
 | 0, a, h, _ => absurd h (by omega)
 | n + 1, a, hn, ha => by
  have hna := nextA_le ha
  have hge : a ≤ nextA s a := by unfold nextA; omega
  have ea : (tokA s a).a = (nextA s a : Nat) := rfl
  cases hb : firstB (s.drop (nextA s a)) with
  | false =>
   rw [lexAt_no ha hb]
   exact ⟨List.Pairwise.nil, fun t h => (by cases h), fun t h => (by cases h), fun t h => (by cases h), fun t h => (by cases h)⟩
  | true =>
   obtain ⟨t1, t2⟩ := thenA_le ha hb
   by_cases hk : (firstT (s.drop (nextA s a))).k = 5
   ·rw [lexAt_end ha hb hk]
    have hz := first_end.1 hk
    have hf : firstT (s.drop (nextA s a)) = ⟨5, [], 0, v0⟩ := by rw [hz]; rfl
    refine ⟨List.pairwise_singleton _ _, fun t h => ?_, fun t h h2 => ?_, fun t h h2 => ?_, fun t h h2 => ?_⟩ <;> simp only [List.mem_singleton] at h <;> subst h
    ·rw [ea]; omega
    ·exfalso; have : (tokA s a).k = 5 := hk; omega
    ·exact absurd hk h2
    ·unfold tokA; rw [hf]; exact ⟨rfl, rfl⟩
   ·rw [lexAt_on ha hb hk]
    have ih := lexAt_ok n (thenA s a) (by have := t2.resolve_left hk; omega) t1
    have hl := (first_len hb hk).1
    have hth : thenA s a = nextA s a + (firstT (s.drop (nextA s a))).t.length := rfl
    refine ⟨List.pairwise_cons.2 ⟨fun t h => by have := (ih.ge t h).1; rw [ea]; omega, ih.up⟩, fun t h => ?_, fun t h h2 => ?_, fun t h h2 => ?_, fun t h h2 => ?_⟩ <;> rcases List.mem_cons.1 h with rfl | h
    ·rw [ea]; omega
    ·have := ih.ge t h; omega
    ·exact first_tv hb h2
    ·exact ih.tv t h h2
    ·exact tok_alone hb hk
    ·exact ih.al t h h2
    ·exact absurd h2 hk
    ·exact ih.en t h h2
theorem pair_nth {l : List Tk} (h : l.Pairwise (fun x y => x.a < y.a)) : ∀ i j, i < j → j < l.length → (nth l i).a < (nth l j).a := by
 intro i j hij hj
 have := List.pairwise_iff_getElem.1 h i j (by omega) hj hij
 have e1 : nth l i = l[i] := nth_of (List.getElem?_eq_getElem (by omega))
 have e2 : nth l j = l[j] := nth_of (List.getElem?_eq_getElem hj)
 rw [e1, e2]; exact this
/-! one step of lexing, of a text that is known -/
theorem lexR_step {f a : Nat} {g R : List UInt8} {t : Tk} (hg : g.all (fun e => blankI e.toNat) = true) (h0 : spanN blankI (t.t ++ R) = 0) (hk : t.k ≠ 5) (h1 : firstT (t.t ++ R) = t.at' 0) (h2 : firstB (t.t ++ R) = true) :
  lexR (f + 1) a (g ++ (t.t ++ R)) = (t.at' (a + g.length : Nat) :: (lexR f (a + g.length + t.t.length) R).1, (lexR f (a + g.length + t.t.length) R).2) := by
 have e1 : spanN blankI (g ++ (t.t ++ R)) = g.length := by rw [spanN_full _ _ hg, h0]; omega
 have e2 : (g ++ (t.t ++ R)).drop g.length = t.t ++ R := List.drop_left
 have e3 : (t.t ++ R).drop t.t.length = R := List.drop_left
 rw [lexR, e1, e2, h1, if_neg (by rw [h2]; decide), if_neg (show ¬ (t.at' 0).k = 5 from hk)]
 simp only [Tk.at', e3]
theorem lexR_last {f a : Nat} {g : List UInt8} (hg : g.all (fun e => blankI e.toNat) = true) : lexR (f + 1) a g = ([⟨5, [], (a + g.length : Nat), v0⟩], none) := by
 have e1 : spanN blankI g = g.length := by have := spanN_full (p := blankI) [] g hg; simpa [spanN] using this
 have e2 : g.drop g.length = [] := List.drop_length
 rw [lexR, e1, e2]; rfl
theorem span_head {t R : List UInt8} (h : spanN blankI t = 0) (h0 : 0 < t.length) : spanN blankI (t ++ R) = 0 := by
 rw [spanN_in _ _ (by omega), h]
/-- tokens, written with a gap between -/
def ffG (g : List UInt8) : List Tk → List UInt8
 | [] => []
 | t :: r => t.t ++ (match r with | [] => [] | _ :: _ => g ++ ffG g r)
def ppG (g : List UInt8) (a : Nat) : List Tk → List Tk
 | [] => []
 | t :: r => t.at' a :: ppG g (a + t.t.length + g.length) r
structure Gap (g : List UInt8) : Prop where
 bl : g.all (fun e => blankI e.toNat) = true
 hd : ∃ d y, g = d :: y
/-- a row whose last token is the end, the others stand by themselves -/
def RowOk : List Tk → Prop
 | [] => False
 | [t] => t.k = 5 ∧ t.t = [] ∧ t.v = v0
 | t :: u :: r => Alone t ∧ RowOk (u :: r)
def gB (g : List UInt8) (b : Bool) : List UInt8 := if b = true then g else []
theorem lex_ff {g : List UInt8} (hg : Gap g) : ∀ (l : List Tk) (a : Nat) (b : Bool) (f : Nat), RowOk l → l.length ≤ f →
  lexR f a (gB g b ++ ffG g l) = (ppG g (a + (gB g b).length) l, none)
 | [], _, _, _, h, _ => h.elim
 | [t], a, b, f, h, hf => by
  obtain ⟨f, rfl⟩ : ∃ m, f = m + 1 := ⟨f - 1, by simp at hf; omega⟩
  obtain ⟨h1, h2, h3⟩ := h
  have e : t.at' ((a + (gB g b).length : Nat) : Int) = ⟨5, [], (a + (gB g b).length : Nat), v0⟩ := by unfold Tk.at'; rw [h1, h2, h3]
  simp only [ffG, ppG, h2, List.append_nil]
  rw [e]
  exact lexR_last (by unfold gB; split; exact hg.bl; rfl)
 | t :: u :: r, a, b, f, h, hf => by
  obtain ⟨f, rfl⟩ : ∃ m, f = m + 1 := ⟨f - 1, by simp at hf; omega⟩
  obtain ⟨⟨h1, h2, h3, h4, h5⟩, hr⟩ := h
  obtain ⟨d, y, hd⟩ := hg.hd
  have hbl : blankI (d.toNat : Int) = true := by have := hg.bl; rw [hd] at this; simp at this; exact this.1
  have ih := lex_ff hg (u :: r) (a + (gB g b).length + t.t.length) true f hr (by simp at hf ⊢; omega)
  have e1 : ffG g (t :: u :: r) = t.t ++ (gB g true ++ ffG g (u :: r)) := rfl
  have e2 : t.t ++ (gB g true ++ ffG g (u :: r)) = t.t ++ d :: (y ++ ffG g (u :: r)) := by unfold gB; rw [if_pos rfl, hd]; rfl
  have fa := first_app (x := t.t) (y := y ++ ffG g (u :: r)) hbl h2 (by rw [h3]; exact h1)
  rw [← e2, h3] at fa
  have st := lexR_step (f := f) (a := a) (g := gB g b) (R := gB g true ++ ffG g (u :: r)) (t := t) (by unfold gB; split; exact hg.bl; rfl) (span_head h4 h5) h1 fa.1 fa.2
  rw [ih] at st
  rw [e1, st]
  rfl
theorem pp_len (g : List UInt8) : ∀ (l : List Tk) (a : Nat), (ppG g a l).length = l.length
 | [], _ => rfl
 | t :: r, a => by simp [ppG, pp_len g r]
theorem pp_at (g : List UInt8) : ∀ (l : List Tk) (a i : Nat), i < l.length → (nth (ppG g a l) i).k = (nth l i).k ∧ (nth (ppG g a l) i).t = (nth l i).t ∧ (nth (ppG g a l) i).v = (nth l i).v
 | [], _, _, h => by simp at h
 | t :: r, a, 0, h => ⟨rfl, rfl, rfl⟩
 | t :: r, a, i + 1, h => pp_at g r _ i (by simpa using h)
def sumT : List Tk → Nat
 | [] => 0
 | t :: r => t.t.length + sumT r
theorem ff_len (g : List UInt8) : ∀ l : List Tk, (ffG g l).length ≤ sumT l + (l.length - 1) * g.length
 | [] => by simp [ffG]
 | [t] => by simp [ffG, sumT]
 | t :: u :: r => by
  have := ff_len g (u :: r)
  have e1 : (ffG g (t :: u :: r)).length = t.t.length + (g.length + (ffG g (u :: r)).length) := by simp [ffG]
  have e2 : sumT (t :: u :: r) = t.t.length + sumT (u :: r) := rfl
  have e3 : ((t :: u :: r).length - 1) * g.length = ((u :: r).length - 1) * g.length + g.length := by
   simp only [List.length_cons, Nat.add_sub_cancel, Nat.succ_mul]
  omega
theorem lex_sum {s : List UInt8} : ∀ (n a : Nat), s.length - a < n → a ≤ s.length → sumT (lexAt s a).1 + a ≤ s.length
 | 0, a, h, _ => absurd h (by omega)
 | n + 1, a, hn, ha => by
  have hna := nextA_le ha
  have hge : a ≤ nextA s a := by unfold nextA; omega
  cases hb : firstB (s.drop (nextA s a)) with
  | false => rw [lexAt_no ha hb]; simp [sumT]; omega
  | true =>
   obtain ⟨t1, t2⟩ := thenA_le ha hb
   have hth : thenA s a = nextA s a + (tokA s a).t.length := rfl
   by_cases hk : (firstT (s.drop (nextA s a))).k = 5
   ·rw [lexAt_end ha hb hk]; simp only [sumT]; omega
   ·rw [lexAt_on ha hb hk]
    have ih := lex_sum (s := s) n (thenA s a) (by have := t2.resolve_left hk; omega) t1
    simp only [sumT]; omega
theorem row_of {l : List Tk} (hne : l ≠ []) (hk : ∀ i, i < l.length → ((nth l i).k = 5 ↔ i + 1 = l.length)) (al : ∀ t ∈ l, t.k ≠ 5 → Alone t) (en : ∀ t ∈ l, t.k = 5 → t.t = [] ∧ t.v = v0) : RowOk l := by
 induction l with
 | nil => exact absurd rfl hne
 | cons t r ih =>
  cases r with
  | nil =>
   have h5 : t.k = 5 := (hk 0 (by simp)).2 rfl
   exact ⟨h5, en t List.mem_cons_self h5⟩
  | cons u r =>
   have h5 : t.k ≠ 5 := fun h => by have := (hk 0 (by simp)).1 h; simp at this
   refine ⟨al t List.mem_cons_self h5, ih (by simp) (fun i hi => ?_) (fun x hx => al x (List.mem_cons_of_mem _ hx)) (fun x hx => en x (List.mem_cons_of_mem _ hx))⟩
   have := hk (i + 1) (by simpa using hi)
   simp only [List.length_cons] at this ⊢
   exact this.trans ⟨fun h => by omega, fun h => by omega⟩
/-- a text that has tokens -/
structure LxT (s : List UInt8) : Prop where
 len : s.length ≤ 2000
 tk : TkOk (lexT s)
 n0 : 0 < (lexT s).length
 five : ∀ i, i < (lexT s).length → ((nth (lexT s) i).k = 5 ↔ i + 1 = (lexT s).length)
 row : RowOk (lexT s)
 tv : TV (lexT s)
 up : ∀ i j, i < j → j < (lexT s).length → (nth (lexT s) i).a < (nth (lexT s) j).a
 pos : ∀ i, i < (lexT s).length → 0 ≤ (nth (lexT s) i).a ∧ (nth (lexT s) i).a ≤ s.length
 at_ : lexAt s 0 = (lexT s, none)
 few : (lexT s).length ≤ s.length + 1
 sum : sumT (lexT s) ≤ s.length
theorem lxT {s : List UInt8} (h : lexE s = 0) : LxT s := by
 obtain ⟨h1, h2, h3, _⟩ := lexT_at h
 obtain ⟨hk, h0, h5, hp⟩ := lex_tk h
 have ok := lexAt_ok (s := s) (s.length + 1) 0 (by omega) (by omega)
 have hs := lex_sum (s := s) (s.length + 1) 0 (by omega) (by omega)
 have hf := (lexAt_tk (s := s) (s.length + 1) 0 (by omega) (by omega) h2).2.1
 rw [← h3] at ok hs hf
 refine ⟨h1, hk, h0, h5, row_of (List.length_pos_iff.1 h0) h5 ok.al ok.en, fun i hi => ?_, pair_nth ok.up, fun i hi => (hp i hi).2, ?_, by omega, by omega⟩
 ·rcases Nat.lt_or_ge i (lexT s).length with hl | hl
  ·exact ok.tv _ (nth_mem hl) hi
  ·have : nth (lexT s) i = default := by simp [nth, List.getD_eq_getElem?_getD, List.getElem?_eq_none hl]
   rw [this] at hi; exact absurd hi (by decide)
 ·rw [h3]; exact Prod.ext rfl h2
theorem lexT_of {s : List UInt8} {l : List Tk} (hl : s.length ≤ 2000) (h : lexAt s 0 = (l, none)) : lexT s = l ∧ lexE s = 0 := by
 have := lex_some (s := s) (l := l) (by simp; omega) h
 exact ⟨this.1, this.2.2⟩
/-- written anew with gaps -/
theorem lex_anew {s g : List UInt8} (h : lexE s = 0) (hs : s.length ≤ 600) (hg : Gap g) (hgl : g.length ≤ 2) : lexE (ffG g (lexT s)) = 0 ∧ lexT (ffG g (lexT s)) = ppG g 0 (lexT s) ∧ Sh (lexT s) (lexT (ffG g (lexT s))) := by
 have x := lxT h
 have hl := ff_len g (lexT s)
 have hm : ((lexT s).length - 1) * g.length ≤ 600 * 2 := Nat.mul_le_mul (by have := x.few; omega) hgl
 have hlen : (ffG g (lexT s)).length ≤ 2000 := by have := x.sum; omega
 have hfew : (lexT s).length ≤ (ffG g (lexT s)).length + 1 := by
  have : ∀ l : List Tk, RowOk l → l.length ≤ (ffG g l).length + 1 := by
   intro l
   induction l with
   | nil => intro h; exact h.elim
   | cons t r ih =>
    cases r with
    | nil => intro _; simp
    | cons u r =>
     intro h
     have := ih h.2
     have e1 : (ffG g (t :: u :: r)).length = t.t.length + (g.length + (ffG g (u :: r)).length) := by simp [ffG]
     have := h.1.2.2.2.2
     simp only [List.length_cons] at *; omega
  exact this _ x.row
 have e := lex_ff hg (lexT s) 0 false ((ffG g (lexT s)).length + 1) x.row hfew
 have e2 : lexAt (ffG g (lexT s)) 0 = (ppG g 0 (lexT s), none) := e
 obtain ⟨e3, e4⟩ := lexT_of hlen e2
 have y := lxT e4
 refine ⟨e4, e3, ⟨?_, fun i hi => ?_, fun i j hij hj => ⟨x.up i j hij hj, y.up i j hij ?_⟩, fun i hi => ⟨(x.pos i hi).1, (y.pos i ?_).1⟩⟩⟩
 ·rw [e3, pp_len]
 ·rw [e3]; have := pp_at g (lexT s) 0 i hi; exact ⟨this.1.symm, this.2.1.symm, this.2.2.symm⟩
 ·rw [e3, pp_len]; exact hj
 ·rw [e3, pp_len]; exact hi
end Go.Proofs.YtonchjamoblioaaGreatDoor
namespace Go.Proofs.YtonchjamoblioaaGreatDoor
open Go.Kin Go.Lib
/-! ### what whole texts are read as -/
section
variable {α : Type} {z : α} {rule : List Tk → PS → PR α} {s : List UInt8}
theorem readV_cases (z : α) (h : lexE s = 0) :
  (∃ a, rule (lexT s) ⟨0, -1⟩ = .err a ∧ readV z rule s = (z, a, 7)) ∨
  (∃ s1 x, rule (lexT s) ⟨0, -1⟩ = .ok s1 x ∧ (nth (lexT s) s1.n).k ≠ 5 ∧ readV z rule s = (z, (nth (lexT s) s1.n).a, 7)) ∨
  (∃ s1 x, rule (lexT s) ⟨0, -1⟩ = .ok s1 x ∧ (nth (lexT s) s1.n).k = 5 ∧ 0 ≤ s1.m ∧ readV z rule s = (z, s1.m, 3)) ∨
  (∃ s1 x, rule (lexT s) ⟨0, -1⟩ = .ok s1 x ∧ (nth (lexT s) s1.n).k = 5 ∧ s1.m < 0 ∧ readV z rule s = (x, 0, 0)) := by
 cases hr : rule (lexT s) ⟨0, -1⟩ with
 | err a => exact .inl ⟨a, rfl, readV_err h hr⟩
 | ok s1 x =>
  by_cases hk : (nth (lexT s) s1.n).k = 5
  ·by_cases hm : 0 ≤ s1.m
   ·exact .inr (.inr (.inl ⟨s1, x, rfl, hk, hm, readV_long h hr hk hm⟩))
   ·exact .inr (.inr (.inr ⟨s1, x, rfl, hk, by omega, readV_ok h hr hk hm⟩))
  ·exact .inr (.inl ⟨s1, x, rfl, hk, readV_end h hr hk⟩)
theorem St2.init {l l' : List Tk} (h : 0 < l.length) : St2 l l' ⟨0, -1⟩ ⟨0, -1⟩ := ⟨rfl, h, .inl ⟨by decide, by decide⟩⟩
/-- two texts of the same tokens -/
theorem same_read {s' : List UInt8} (h : lexE s = 0) (h' : lexE s' = 0) (hs : Sh (lexT s) (lexT s')) (hR : R2 (lexT s) (lexT s') (rule (lexT s) ⟨0, -1⟩) (rule (lexT s') ⟨0, -1⟩)) :
  (readV z rule s).1 = (readV z rule s').1 ∧ (readV z rule s).2.2 = (readV z rule s').2.2 ∧ ((readV z rule s).2.2 = 0 → (readV z rule s).2.1 = 0 ∧ (readV z rule s').2.1 = 0) ∧
  ((readV z rule s).2.2 ≠ 0 → ∃ j, j < (lexT s).length ∧ (readV z rule s).2.1 = (nth (lexT s) j).a ∧ (readV z rule s').2.1 = (nth (lexT s') j).a) := by
 have key : ∀ s1 x s1' x', rule (lexT s) ⟨0, -1⟩ = .ok s1 x → rule (lexT s') ⟨0, -1⟩ = .ok s1' x' → (St2 (lexT s) (lexT s') s1 s1' ∧ x = x') ∧ (nth (lexT s) s1.n).k = (nth (lexT s') s1'.n).k := fun s1 x s1' x' e e' => by
  rw [e, e'] at hR
  exact ⟨hR, by rw [← hR.1.1]; exact (hs.eq _ hR.1.2.1).1⟩
 rcases readV_cases (rule := rule) z h with ⟨a, e, r⟩ | ⟨s1, x, e, hk, r⟩ | ⟨s1, x, e, hk, hm, r⟩ | ⟨s1, x, e, hk, hm, r⟩ <;>
 rcases readV_cases (rule := rule) z h' with ⟨a', e', r'⟩ | ⟨s1', x', e', hk', r'⟩ | ⟨s1', x', e', hk', hm', r'⟩ | ⟨s1', x', e', hk', hm', r'⟩
 all_goals first
  | (rw [e, e'] at hR; exact hR.elim)
  | skip
 ·rw [r, r']; rw [e, e'] at hR; obtain ⟨j, hj, h1, h2⟩ := hR
  exact ⟨rfl, rfl, fun h => by simp at h, fun _ => ⟨j, hj, h1, h2⟩⟩
 ·rw [r, r']; obtain ⟨⟨hS, _⟩, _⟩ := key _ _ _ _ e e'
  exact ⟨rfl, rfl, fun h => by simp at h, fun _ => ⟨s1.n, hS.2.1, rfl, by simp only; rw [hS.1]⟩⟩
 ·have := (key _ _ _ _ e e').2; omega
 ·have := (key _ _ _ _ e e').2; omega
 ·have := (key _ _ _ _ e e').2; omega
 ·rw [r, r']; obtain ⟨⟨hS, _⟩, _⟩ := key _ _ _ _ e e'
  rcases hS.2.2 with ⟨h1, _⟩ | ⟨j, hj, h1, h2⟩
  ·omega
  ·exact ⟨rfl, rfl, fun h => by simp at h, fun _ => ⟨j, hj, h1, h2⟩⟩
 ·obtain ⟨⟨hS, _⟩, _⟩ := key _ _ _ _ e e'
  rcases hS.2.2 with ⟨h1, _⟩ | ⟨j, hj, h1, h2⟩
  ·omega
  ·have := (hs.pos j hj).2; omega
 ·have := (key _ _ _ _ e e').2; omega
 ·obtain ⟨⟨hS, _⟩, _⟩ := key _ _ _ _ e e'
  rcases hS.2.2 with ⟨_, h1⟩ | ⟨j, hj, h1, h2⟩
  ·omega
  ·have := (hs.pos j hj).1; omega
 ·rw [r, r']; obtain ⟨⟨_, hx⟩, _⟩ := key _ _ _ _ e e'
  exact ⟨hx, rfl, fun _ => ⟨rfl, rfl⟩, fun h => absurd rfl h⟩
theorem lexE_cases (hl : s.length ≤ 2000) : lexE s = 0 ∨ (lexE s = 7 ∧ 0 ≤ lexA s ∧ lexA s ≤ s.length) := by
 rcases lexE_or s with ⟨h, _⟩ | ⟨_, h, _⟩ | ⟨_, h, _⟩
 ·omega
 ·exact .inl h
 ·obtain ⟨A, e, hA, _⟩ := lex_cut h
  exact .inr ⟨h, by omega, by omega⟩
theorem Sh.refl (h : LxT s) : Sh (lexT s) (lexT s) := ⟨rfl, fun _ _ => ⟨rfl, rfl, rfl⟩, fun i j a b => ⟨h.up i j a b, h.up i j a b⟩, fun i a => ⟨(h.pos i a).1, (h.pos i a).1⟩⟩
/-- either it is right, or there is an error at a place -/
theorem either_read {G : α → Prop} (hl : s.length ≤ 2000) (hR : ∀ l, TkOk l → Sh l l → 0 < l.length → R2 l l (rule l ⟨0, -1⟩) (rule l ⟨0, -1⟩)) (hG : ∀ l, TkOk l → TV l → ∀ s1 x, rule l ⟨0, -1⟩ = .ok s1 x → s1.m < 0 → G x) :
  ((readV z rule s).2.2 = 0 → (readV z rule s).2.1 = 0 ∧ G (readV z rule s).1) ∧ ((readV z rule s).2.2 ≠ 0 → ((readV z rule s).2.2 = 7 ∨ (readV z rule s).2.2 = 3) ∧ 0 ≤ (readV z rule s).2.1 ∧ (readV z rule s).2.1 ≤ s.length ∧ (readV z rule s).1 = z) := by
 rcases lexE_cases hl with h | ⟨h, h1, h2⟩
 ·have x := lxT h
  have hR := hR _ x.tk (Sh.refl x) x.n0
  rcases readV_cases (rule := rule) z h with ⟨a, e, r⟩ | ⟨s1, y, e, hk, r⟩ | ⟨s1, y, e, hk, hm, r⟩ | ⟨s1, y, e, hk, hm, r⟩ <;> rw [e] at hR <;> rw [r]
  ·obtain ⟨j, hj, h1, _⟩ := hR
   have := x.pos j hj
   exact ⟨fun h => by simp at h, fun _ => ⟨.inl rfl, by simp only; omega, by simp only; omega, rfl⟩⟩
  ·have := x.pos _ hR.1.2.1
   exact ⟨fun h => by simp at h, fun _ => ⟨.inl rfl, by simp only; omega, by simp only; omega, rfl⟩⟩
  ·rcases hR.1.2.2 with ⟨h1, _⟩ | ⟨j, hj, h1, _⟩
   ·omega
   ·have := x.pos j hj
    exact ⟨fun h => by simp at h, fun _ => ⟨.inr rfl, by simp only; omega, by simp only; omega, rfl⟩⟩
  ·exact ⟨fun _ => ⟨rfl, hG _ x.tk x.tv _ _ e hm⟩, fun h => absurd rfl h⟩
 ·have e := readV_no (z := z) (rule := rule) (s := s) (by omega)
  rw [e, h]
  exact ⟨fun h => by simp at h, fun _ => ⟨.inl rfl, h1, h2, rfl⟩⟩
end
theorem query_either {s : List UInt8} (hl : s.length ≤ 2000) : ((readV qz queryP s).2.2 = 0 → (readV qz queryP s).2.1 = 0 ∧ quR (readV qz queryP s).1 = true) ∧ ((readV qz queryP s).2.2 ≠ 0 → ((readV qz queryP s).2.2 = 7 ∨ (readV qz queryP s).2.2 = 3) ∧ 0 ≤ (readV qz queryP s).2.1 ∧ (readV qz queryP s).2.1 ≤ s.length ∧ (readV qz queryP s).1 = qz) :=
 either_read (G := fun q => quR q = true) hl (fun l hk hs h0 => query2 hk hs (St2.init h0)) (fun l hk hv s1 x e hm => (query_k hk hv s1 x e).2 hm)
theorem query_anew {s g : List UInt8} (h : lexE s = 0) (hs : s.length ≤ 600) (hg : Gap g) (hgl : g.length ≤ 2) :
  (readV qz queryP s).1 = (readV qz queryP (ffG g (lexT s))).1 ∧ (readV qz queryP s).2.2 = (readV qz queryP (ffG g (lexT s))).2.2 ∧ ((readV qz queryP s).2.2 = 0 → (readV qz queryP s).2.1 = 0 ∧ (readV qz queryP (ffG g (lexT s))).2.1 = 0) ∧
  ((readV qz queryP s).2.2 ≠ 0 → ∃ j, j < (lexT s).length ∧ (readV qz queryP s).2.1 = (nth (lexT s) j).a ∧ (readV qz queryP (ffG g (lexT s))).2.1 = (nth (ppG g 0 (lexT s)) j).a) := by
 obtain ⟨h1, h2, h3⟩ := lex_anew h hs hg hgl
 have x := lxT h
 have := same_read (z := qz) (rule := queryP) h h1 h3 (query2 x.tk h3 (St2.init x.n0))
 rw [h2] at this
 exact this
end Go.Proofs.YtonchjamoblioaaGreatDoor
