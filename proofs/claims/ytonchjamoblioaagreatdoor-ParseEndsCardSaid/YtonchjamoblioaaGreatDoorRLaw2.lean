/- Steps of a function body on data, and contracts of the functions of the seat, walked. -/
import Derived.Test.YtonchjamoblioaaGreatDoorZL4
import Derived.Test.YtonchjamoblioaaGreatDoorRDef
import Derived.Test.YtonchjamoblioaaGreatDoorZShX
set_option linter.unusedSimpArgs false
set_option linter.unusedVariables false
namespace Go.Proofs.YtonchjamoblioaaGreatDoor
open Go.Kin
set_option maxRecDepth 100000
set_option maxHeartbeats 0
theorem lexAt_tk {s : List UInt8} : ∀ (n a : Nat), s.length - a < n → a ≤ s.length → (lexAt s a).2 = none → (lexAt s a).1 ≠ [] ∧ (lexAt s a).1.length ≤ s.length - a + 1 ∧ (∀ i, i < (lexAt s a).1.length → ((nth (lexAt s a).1 i).k = 5 ↔ i + 1 = (lexAt s a).1.length)) ∧
  ∀ t ∈ (lexAt s a).1, t.t.length ≤ s.length ∧ (a : Int) ≤ t.a ∧ t.a ≤ s.length
 | 0, a, h, _, _ => by omega
 | n + 1, a, hn, ha, h => by
  have hle := nextA_le ha
  have hge : a ≤ nextA s a := by unfold nextA; omega
  by_cases hb : firstB (s.drop (nextA s a)) = true
  ·have htl : (firstT (s.drop (nextA s a))).t.length ≤ s.length := by
    by_cases hk : (firstT (s.drop (nextA s a))).k = 5
    ·rw [first_end.1 hk]; show 0 ≤ _; omega
    ·have := (first_len hb hk).2; simp at this; omega
   have htok : (tokA s a).t.length ≤ s.length ∧ (a : Int) ≤ (tokA s a).a ∧ (tokA s a).a ≤ s.length := ⟨htl, by show (a : Int) ≤ (nextA s a : Nat); omega, by show ((nextA s a : Nat) : Int) ≤ _; omega⟩
   by_cases hk : (firstT (s.drop (nextA s a))).k = 5
   ·rw [lexAt_end ha hb hk]
    refine ⟨by simp, by simp, fun i hi => ?_, fun t ht => ?_⟩
    ·have : i = 0 := by simpa using hi
     subst this
     constructor
     ·intro _; rfl
     ·intro _; exact hk
    ·simp at ht; subst ht; exact htok
   ·have t := thenA_le ha hb
    have hlt := t.2.resolve_left hk
    rw [lexAt_on ha hb hk] at h ⊢
    simp only at h ⊢
    obtain ⟨i1, i2, i3, i4⟩ := lexAt_tk n (thenA s a) (by omega) t.1 h
    refine ⟨by simp, by simp; omega, fun i hi => ?_, fun x hx => ?_⟩
    ·cases i with
     | zero =>
      have : 0 < (lexAt s (thenA s a)).1.length := List.length_pos_iff.2 i1
      constructor
      ·intro h5; exact absurd h5 hk
      ·intro h5; simp at h5; exact absurd h5 i1
     | succ i =>
      have h5 := i3 i (by simpa using hi)
      simp only [List.length_cons]
      have e : nth (tokA s a :: (lexAt s (thenA s a)).1) (i + 1) = nth (lexAt s (thenA s a)).1 i := by simp [nth]
      rw [e, h5]; omega
    ·rcases List.mem_cons.1 hx with rfl | hx
     ·exact htok
     ·have := i4 x hx; omega
  ·have hb' : firstB (s.drop (nextA s a)) = false := by simpa using hb
   rw [lexAt_no ha hb'] at h; cases h
theorem lexT_at {s : List UInt8} (h : lexE s = 0) : s.length ≤ 2000 ∧ (lexAt s 0).2 = none ∧ lexT s = (lexAt s 0).1 ∧ lexA s = 0 := by
 unfold lexE at h
 by_cases hl : 2000 < (s.length : Int)
 ·rw [if_pos hl] at h; cases h
 ·rw [if_neg hl] at h
  unfold lexT lexA
  rw [if_neg hl, if_neg hl]
  have e : lexAll s = lexAt s 0 := rfl
  rw [e] at h ⊢
  cases h2 : (lexAt s 0).2 with
  | none => exact ⟨by omega, rfl, rfl, rfl⟩
  | some a => rw [h2] at h; cases h
theorem lex_tk {s : List UInt8} (h : lexE s = 0) : TkOk (lexT s) ∧ 0 < (lexT s).length ∧ (∀ i, i < (lexT s).length → ((nth (lexT s) i).k = 5 ↔ i + 1 = (lexT s).length)) ∧ ∀ i, i < (lexT s).length → (nth (lexT s) i).t.length ≤ s.length ∧ 0 ≤ (nth (lexT s) i).a ∧ (nth (lexT s) i).a ≤ s.length := by
 obtain ⟨h1, h2, h3, _⟩ := lexT_at h
 obtain ⟨i1, i2, i3, i4⟩ := lexAt_tk (s.length + 1) 0 (by omega) (by omega) h2
 rw [← h3] at i1 i2 i3 i4
 have i5 : ∀ i, i < (lexT s).length → (nth (lexT s) i).t.length ≤ s.length ∧ 0 ≤ (nth (lexT s) i).a ∧ (nth (lexT s) i).a ≤ s.length := fun i hi => by have := i4 _ (nth_mem hi); omega
 exact ⟨⟨by omega, by omega, fun i hi hk => by have h6 : ¬ (i + 1 = (lexT s).length) := fun e => hk ((i3 i hi).2 e); omega, fun i hi => by have := (i5 i hi).1; omega, fun i hi => by have := i5 i hi; omega⟩, List.length_pos_iff.2 i1, i3, i5⟩
/-- a whole text, by a rule -/
def readV {α : Type} (z : α) (rule : List Tk → PS → PR α) (s : List UInt8) : α × Int × Int :=
 if lexE s = 0 then (match rule (lexT s) ⟨0, -1⟩ with
  | .err a => (z, a, 7)
  | .ok s1 x => if (nth (lexT s) s1.n).k = 5 then (if 0 ≤ s1.m then (z, s1.m, 3) else (x, 0, 0)) else (z, (nth (lexT s) s1.n).a, 7))
 else (z, lexA s, lexE s)
section
variable {α : Type} {z : α} {rule : List Tk → PS → PR α} {s : List UInt8}
theorem readV_no (h : lexE s ≠ 0) : readV z rule s = (z, lexA s, lexE s) := if_neg h
theorem readV_err (h : lexE s = 0) {a : Int} (hr : rule (lexT s) ⟨0, -1⟩ = .err a) : readV z rule s = (z, a, 7) := by unfold readV; rw [if_pos h, hr]
theorem readV_end (h : lexE s = 0) {s1 : PS} {x : α} (hr : rule (lexT s) ⟨0, -1⟩ = .ok s1 x) (hk : (nth (lexT s) s1.n).k ≠ 5) : readV z rule s = (z, (nth (lexT s) s1.n).a, 7) := by unfold readV; rw [if_pos h, hr]; simp only; rw [if_neg hk]
theorem readV_long (h : lexE s = 0) {s1 : PS} {x : α} (hr : rule (lexT s) ⟨0, -1⟩ = .ok s1 x) (hk : (nth (lexT s) s1.n).k = 5) (hm : 0 ≤ s1.m) : readV z rule s = (z, s1.m, 3) := by unfold readV; rw [if_pos h, hr]; simp only; rw [if_pos hk, if_pos hm]
theorem readV_ok (h : lexE s = 0) {s1 : PS} {x : α} (hr : rule (lexT s) ⟨0, -1⟩ = .ok s1 x) (hk : (nth (lexT s) s1.n).k = 5) (hm : ¬ 0 ≤ s1.m) : readV z rule s = (x, 0, 0) := by unfold readV; rw [if_pos h, hr]; simp only; rw [if_pos hk, if_neg hm]
end
def qz : Qu := ⟨[], [], [], 0, 0⟩
def xz : Ex := .mk 0 [] []
attribute [go_sem] Qu.p Qu.c Qu.r Qu.range Qu.slide
theorem wholeN_adv {l : List Tk} (hk : TkOk l) {s : PS} (hn : s.n < l.length) : ∀ s1 x, wholeP l s = .ok s1 x → s1.n < l.length := fun s1 x h => (whole_adv hk hn s1 x h).1.2
theorem query_adv {l : List Tk} (hk : TkOk l) {s : PS} (hn : s.n < l.length) : ∀ s1 q, queryP l s = .ok s1 q → s1.n < l.length := by
 intro s1 q h
 obtain ⟨s2, _, h2, h⟩ := bind_ok h
 obtain ⟨s3, _, h3, h⟩ := bind_ok h
 obtain ⟨s4, _, h4, h⟩ := bind_ok h
 obtain ⟨s5, _, h5, h⟩ := bind_ok h
 obtain ⟨s6, _, h6, h⟩ := bind_ok h
 obtain ⟨s7, _, h7, h⟩ := bind_ok h
 obtain ⟨s8, _, h8, h⟩ := bind_ok h
 obtain ⟨s9, _, h9, h⟩ := bind_ok h
 obtain ⟨s0, _, h0, h⟩ := bind_ok h
 cases h
 have many : ∀ {α : Type} {rd : PS → PR α} {w : List UInt8} {mx : Nat}, (∀ s : PS, s.n < l.length → AdvP l s (rd s)) → ∀ (f : Nat) (s : PS) (acc : List α), s.n < l.length → ∀ s1 xs, manyP l rd w mx f s acc = .ok s1 xs → s1.n < l.length := by
  intro α rd w mx hr f
  induction f with
  | zero => intro s acc _ s1 xs h; cases h
  | succ f ih =>
   intro s acc hs s1 xs h
   obtain ⟨t1, x, g1, h⟩ := bind_ok h
   have a1 := hr _ (by rw [limS_n]; exact hs) _ _ g1
   split at h
   ·rename_i hp; exact ih _ _ (is_adv hk a1.2 hp) _ _ h
   ·cases h; exact a1.2
 have a2 := must_adv hk hn _ _ h2
 have a3 := many (fun s hs => pat_adv hk hs) _ _ _ a2.2 _ _ h3
 have a4 : s4.n < l.length := by
  split at h4
  ·rename_i hp; exact many (fun s hs => cd_adv hk hs) _ _ _ (is_adv hk a3 hp) _ _ h4
  ·cases h4; exact a3
 have a5 := must_adv hk a4 _ _ h5
 have a6 := many (fun s hs => told_adv hk hs) _ _ _ a5.2 _ _ h6
 have a7 := must_adv hk a6 _ _ h7
 have a8 := num_adv hk a7.2 _ _ h8
 have a9 := must_adv hk a8.2 _ _ h9
 exact (num_adv hk a9.2 _ _ h0).2
attribute [go_sem] qz xz
theorem readQ_ok (s : List UInt8) (hs : s.length ≤ 140737488351232) : FnOK LaidX Tryz.prog 60 [sv s, .fn 61 []] (.tup [quD (readV qz queryP s).1, iv (readV qz queryP s).2.1, iv (readV qz queryP s).2.2]) := by
 refine FnOK_of laidX_stable Tryz.func60 Tryz.ntmps60 rfl (by as_aux_lemma => kernel_rfl) (Nat.le_of_ble_eq_true rfl) (fun R hR => ?_)
 obtain ⟨_, b, cs, T, C⟩ := R
 obtain rfl : _ = Tryz.prog := hR.p
 refine sreg te_ok ?_
 refine sq ?_
 apply Exec.regionL te_ok
 ·intro o Q hQ
  simp only [go_sem]
  repeat refine ob2 ?_
  refine kcall hR.inv te_ok rfl rfl rfl rfl rfl rfl (lex_ok s (by omega)) ?_
  simp only [go_sem]
  repeat refine ob2 ?_
  exact hQ
 refine sq ?_
 refine sreg te_ok ?_
 refine Exec.cond_split rfl (fun h0 => ?_) (fun h0 => ?_)
 ·have hE : lexE s ≠ 0 := by simpa using h0
  refine sq ?_
  apply Exec.free (st := _) 7 6 [(0, 1), (0, 2), (1, 2), (1, 3), (2, 3), (2, 4)] te_ok (by as_aux_lemma => kernel_rfl) rfl (by as_aux_lemma => kernel_rfl)
  ·intro o Q hQ
   simp only [go_sem]
   repeat refine ob2 ?_
   exact hQ
  ·rfl
  refine Exec.rets hR te_ok rfl rfl rfl (LeX.le ?_) (.inr ⟨_, rfl⟩)
  rw [readV_no hE]
  simp only [go_sem]
 ·have hE : lexE s = 0 := by simpa using h0
  obtain ⟨hk, h0n, _, _⟩ := lex_tk hE
  refine sk ?_
  refine sq ?_
  refine Exec.regStart 2 rfl ?_
  apply Exec.regPart 0 1 1 te_ok rfl
  ·intro o Q hQ
   simp only [go_sem]
   repeat refine ob2 ?_
   exact hQ
  refine Exec.deferOp hR.round rfl rfl rfl rfl rfl rfl rfl (fun ac hac => ?_)
  apply Exec.norm
  ·simp only [go_sem]
   rfl
  refine Exec.regEnd ?_
  refine sreg te_ok ?_
  refine sq ?_
  rcases hq1 : queryP (lexT s) ⟨0, -1⟩ with ⟨⟨n1, m1⟩, x1⟩ | at1
  ·have hn1 : n1 < (lexT s).length := query_adv hk (s := ⟨0, -1⟩) h0n _ _ hq1
   apply Exec.regionL te_ok
   ·intro o Q hQ
    simp only [go_sem]
    repeat refine ob2 ?_
    refine kcallM 25 hR.inv te_ok rfl rfl rfl rfl rfl rfl rfl rfl rfl ((fOk (pquery_ok (lexT s) 0 (-1) hk h0n) hq1).weak laidX_laid) ?_
    simp only [go_sem]
    repeat refine ob2 ?_
    exact hQ
   refine sq ?_
   refine sq ?_
   apply Exec.regionL te_ok
   ·intro o Q hQ
    simp only [go_sem]
    repeat refine ob2 ?_
    refine kcallM 25 hR.inv te_ok rfl rfl rfl rfl rfl rfl rfl rfl rfl ((token_ok (lexT s) n1 m1 hn1).weak laidX_laid) ?_
    simp only [go_sem]
    repeat refine ob2 ?_
    exact hQ
   refine Exec.cond_split rfl (fun h1 => ?_) (fun h1 => ?_)
   ·have hk5 : (nth (lexT s) n1).k ≠ 5 := by simpa using h1
    refine Exec.regStart 2 rfl ?_
    apply Exec.regPart 0 1 1 te_ok rfl
    ·intro o Q hQ
     simp only [go_sem]
     repeat refine ob2 ?_
     exact hQ
    refine Exec.callP 25 hR.inv rfl rfl rfl rfl rfl rfl rfl rfl rfl ((fail_ok (lexT s) n1 m1 hn1).weak laidX_laid) ?_
    refine ExecP.defer rfl hac List.mem_cons_self Tryz.func122 Tryz.ntmps122 rfl (by as_aux_lemma => kernel_rfl) (Nat.le_of_ble_eq_true rfl) (fun ao av k0 v hao haod hav => ?_)
    refine Exec.ren (swJ 1) ?_
    apply Exec.norm
    ·simp only [go_sem]
     rfl
    refine sq ?_
    refine Exec.regStart 2 rfl ?_
    refine Exec.recover rfl rfl rfl (Nat.le_of_ble_eq_true rfl) rfl (List.mem_cons_of_mem _ List.mem_cons_self) rfl hav ?_
    apply Exec.norm
    ·simp only [go_sem]
     rfl
    apply Exec.regPart 1 1 0 te_ok rfl
    ·intro o Q hQ
     simp only [go_sem]
     repeat refine ob2 ?_
     exact hQ
    refine Exec.regEnd ?_
    refine sreg te_ok ?_
    refine Exec.cond (t := true) rfl ?_
    simp only [reduceIte, Bool.false_eq_true]
    refine sq ?_
    apply Exec.regionL te_ok
    ·intro o Q hQ
     simp only [go_sem]
     repeat refine ob2 ?_
     refine kassert te_ok rfl rfl rfl rfl rfl (fun m h => by cases h) ?_
     simp only [go_sem]
     repeat refine ob2 ?_
     exact hQ
    refine sq ?_
    refine sreg te_ok ?_
    refine Exec.cond (t := false) rfl ?_
    simp only [reduceIte, Bool.false_eq_true]
    refine sk ?_
    refine sreg te_ok ?_
    apply Exec.free (st := _) 7 6 [(0, 1), (0, 2), (1, 3), (2, 3)] te_ok (by as_aux_lemma => kernel_rfl) rfl (by as_aux_lemma => kernel_rfl)
    ·intro o Q hQ
     simp only [go_sem]
     repeat refine ob2 ?_
     exact hQ
    ·rfl
    refine Exec.leaveD Tryz.func122 rfl (.inl rfl) rfl rfl hao haod rfl ?_
    refine ExecR.ren (swJ 1) ?_
    apply ExecR.norm
    ·simp only [go_sem]
     rfl
    refine ExecR.done hR te_ok rfl rfl rfl (LeX.le ?_)
    rw [readV_end hE hq1 hk5]
    simp only [go_sem]
   ·have hk5 : (nth (lexT s) n1).k = 5 := by simpa using h1
    refine sk ?_
    refine sq ?_
    refine sreg te_ok ?_
    refine Exec.cond_split rfl (fun h2 => ?_) (fun h2 => ?_)
    ·have hm : 0 ≤ m1 := by simpa using h2
     refine sq ?_
     apply Exec.free (st := _) 9 8 [(0, 1), (0, 2), (0, 3), (0, 4), (1, 5), (2, 5), (3, 5), (4, 5)] te_ok (by as_aux_lemma => kernel_rfl) rfl (by as_aux_lemma => kernel_rfl)
     ·intro o Q hQ
      simp only [go_sem]
      repeat refine ob2 ?_
      exact hQ
     ·rfl
     refine Exec.retR hR.round (.inr ⟨_, rfl⟩) ?_
     refine ExecR.defer rfl hac List.mem_cons_self Tryz.func122 Tryz.ntmps122 rfl (by as_aux_lemma => kernel_rfl) (Nat.le_of_ble_eq_true rfl) (fun ao k0 hao haod => ?_)
     refine Exec.ren (swJ 1) ?_
     apply Exec.norm
     ·simp only [go_sem]
      rfl
     refine sq ?_
     refine Exec.regStart 2 rfl ?_
     refine Exec.recoverNo rfl rfl rfl (Nat.le_of_ble_eq_true rfl) rfl ?_
     apply Exec.norm
     ·simp only [go_sem]
      rfl
     apply Exec.regPart 1 1 0 te_ok rfl
     ·intro o Q hQ
      simp only [go_sem]
      repeat refine ob2 ?_
      exact hQ
     refine Exec.regEnd ?_
     refine sreg te_ok ?_
     refine Exec.cond (t := false) rfl ?_
     simp only [reduceIte, Bool.false_eq_true]
     refine sk ?_
     refine Exec.leaveD Tryz.func122 rfl (.inl rfl) rfl rfl hao haod rfl ?_
     refine ExecR.ren (swJ 1) ?_
     apply ExecR.norm
     ·simp only [go_sem]
      rfl
     refine ExecR.done hR te_ok rfl rfl rfl (LeX.le ?_)
     rw [readV_long hE hq1 hk5 hm]
     simp only [go_sem]
    ·have hm : ¬ 0 ≤ m1 := by simpa using h2
     refine sk ?_
     refine sreg te_ok ?_
     refine Exec.retR hR.round (.inr ⟨_, rfl⟩) ?_
     refine ExecR.defer rfl hac List.mem_cons_self Tryz.func122 Tryz.ntmps122 rfl (by as_aux_lemma => kernel_rfl) (Nat.le_of_ble_eq_true rfl) (fun ao k0 hao haod => ?_)
     refine Exec.ren (swJ 1) ?_
     apply Exec.norm
     ·simp only [go_sem]
      rfl
     refine sq ?_
     refine Exec.regStart 2 rfl ?_
     refine Exec.recoverNo rfl rfl rfl (Nat.le_of_ble_eq_true rfl) rfl ?_
     apply Exec.norm
     ·simp only [go_sem]
      rfl
     apply Exec.regPart 1 1 0 te_ok rfl
     ·intro o Q hQ
      simp only [go_sem]
      repeat refine ob2 ?_
      exact hQ
     refine Exec.regEnd ?_
     refine sreg te_ok ?_
     refine Exec.cond (t := false) rfl ?_
     simp only [reduceIte, Bool.false_eq_true]
     refine sk ?_
     refine Exec.leaveD Tryz.func122 rfl (.inl rfl) rfl rfl hao haod rfl ?_
     refine ExecR.ren (swJ 1) ?_
     apply ExecR.norm
     ·simp only [go_sem]
      rfl
     refine ExecR.done hR te_ok rfl rfl rfl (LeX.le ?_)
     rw [readV_ok hE hq1 hk5 hm]
     simp only [go_sem]
  ·refine Exec.regStart 5 rfl ?_
   apply Exec.regPart 0 2 3 te_ok rfl
   ·intro o Q hQ
    simp only [go_sem]
    repeat refine ob2 ?_
    exact hQ
   refine Exec.callP 25 hR.inv rfl rfl rfl rfl rfl rfl rfl rfl rfl ((fEr (pquery_ok (lexT s) 0 (-1) hk h0n) hq1).weak laidX_laid) ?_
   refine ExecP.defer rfl hac List.mem_cons_self Tryz.func122 Tryz.ntmps122 rfl (by as_aux_lemma => kernel_rfl) (Nat.le_of_ble_eq_true rfl) (fun ao av k0 v hao haod hav => ?_)
   refine Exec.ren (swJ 1) ?_
   apply Exec.norm
   ·simp only [go_sem]
    rfl
   refine sq ?_
   refine Exec.regStart 2 rfl ?_
   refine Exec.recover rfl rfl rfl (Nat.le_of_ble_eq_true rfl) rfl (List.mem_cons_of_mem _ List.mem_cons_self) rfl hav ?_
   apply Exec.norm
   ·simp only [go_sem]
    rfl
   apply Exec.regPart 1 1 0 te_ok rfl
   ·intro o Q hQ
    simp only [go_sem]
    repeat refine ob2 ?_
    exact hQ
   refine Exec.regEnd ?_
   refine sreg te_ok ?_
   refine Exec.cond (t := true) rfl ?_
   simp only [reduceIte, Bool.false_eq_true]
   refine sq ?_
   apply Exec.regionL te_ok
   ·intro o Q hQ
    simp only [go_sem]
    repeat refine ob2 ?_
    refine kassert te_ok rfl rfl rfl rfl rfl (fun m h => by cases h) ?_
    simp only [go_sem]
    repeat refine ob2 ?_
    exact hQ
   refine sq ?_
   refine sreg te_ok ?_
   refine Exec.cond (t := false) rfl ?_
   simp only [reduceIte, Bool.false_eq_true]
   refine sk ?_
   refine sreg te_ok ?_
   apply Exec.free (st := _) 7 6 [(0, 1), (0, 2), (1, 3), (2, 3)] te_ok (by as_aux_lemma => kernel_rfl) rfl (by as_aux_lemma => kernel_rfl)
   ·intro o Q hQ
    simp only [go_sem]
    repeat refine ob2 ?_
    exact hQ
   ·rfl
   refine Exec.leaveD Tryz.func122 rfl (.inl rfl) rfl rfl hao haod rfl ?_
   refine ExecR.ren (swJ 1) ?_
   apply ExecR.norm
   ·simp only [go_sem]
    rfl
   refine ExecR.done hR te_ok rfl rfl rfl (LeX.le ?_)
   rw [readV_err hE hq1]
   simp only [go_sem]
theorem readX_ok (s : List UInt8) (hs : s.length ≤ 140737488351232) : FnOK LaidX Tryz.prog 66 [sv s, .fn 67 []] (.tup [exD (readV xz wholeP s).1, iv (readV xz wholeP s).2.1, iv (readV xz wholeP s).2.2]) := by
 refine FnOK_of laidX_stable Tryz.func66 Tryz.ntmps66 rfl (by as_aux_lemma => kernel_rfl) (Nat.le_of_ble_eq_true rfl) (fun R hR => ?_)
 obtain ⟨_, b, cs, T, C⟩ := R
 obtain rfl : _ = Tryz.prog := hR.p
 refine sreg te_ok ?_
 refine sq ?_
 apply Exec.regionL te_ok
 ·intro o Q hQ
  simp only [go_sem]
  repeat refine ob2 ?_
  refine kcall hR.inv te_ok rfl rfl rfl rfl rfl rfl (lex_ok s (by omega)) ?_
  simp only [go_sem]
  repeat refine ob2 ?_
  exact hQ
 refine sq ?_
 refine sreg te_ok ?_
 refine Exec.cond_split rfl (fun h0 => ?_) (fun h0 => ?_)
 ·have hE : lexE s ≠ 0 := by simpa using h0
  refine sq ?_
  apply Exec.free (st := _) 7 6 [(0, 1), (0, 2), (1, 2), (1, 3), (2, 3), (2, 4)] te_ok (by as_aux_lemma => kernel_rfl) rfl (by as_aux_lemma => kernel_rfl)
  ·intro o Q hQ
   simp only [go_sem]
   repeat refine ob2 ?_
   exact hQ
  ·rfl
  refine Exec.rets hR te_ok rfl rfl rfl (LeX.le ?_) (.inr ⟨_, rfl⟩)
  rw [readV_no hE]
  simp only [go_sem]
  exact ⟨rfl, rfl, by rw [kd_eq]; exact ⟨rfl, rfl⟩⟩
 ·have hE : lexE s = 0 := by simpa using h0
  obtain ⟨hk, h0n, _, _⟩ := lex_tk hE
  refine sk ?_
  refine sq ?_
  refine Exec.regStart 2 rfl ?_
  apply Exec.regPart 0 1 1 te_ok rfl
  ·intro o Q hQ
   simp only [go_sem]
   repeat refine ob2 ?_
   exact hQ
  refine Exec.deferOp hR.round rfl rfl rfl rfl rfl rfl rfl (fun ac hac => ?_)
  apply Exec.norm
  ·simp only [go_sem]
   rfl
  refine Exec.regEnd ?_
  refine sreg te_ok ?_
  refine sq ?_
  rcases hq1 : wholeP (lexT s) ⟨0, -1⟩ with ⟨⟨n1, m1⟩, x1⟩ | at1
  ·have hn1 : n1 < (lexT s).length := wholeN_adv hk (s := ⟨0, -1⟩) h0n _ _ hq1
   apply Exec.regionL te_ok
   ·intro o Q hQ
    simp only [go_sem]
    repeat refine ob2 ?_
    refine kcallM 25 hR.inv te_ok rfl rfl rfl rfl rfl rfl rfl rfl rfl ((fOk (pwhole_ok (lexT s) 0 (-1) hk h0n) hq1).weak laidX_laid) ?_
    simp only [go_sem]
    repeat refine ob2 ?_
    exact hQ
   refine sq ?_
   refine sq ?_
   apply Exec.regionL te_ok
   ·intro o Q hQ
    simp only [go_sem]
    repeat refine ob2 ?_
    refine kcallM 25 hR.inv te_ok rfl rfl rfl rfl rfl rfl rfl rfl rfl ((token_ok (lexT s) n1 m1 hn1).weak laidX_laid) ?_
    simp only [go_sem]
    repeat refine ob2 ?_
    exact hQ
   refine Exec.cond_split rfl (fun h1 => ?_) (fun h1 => ?_)
   ·have hk5 : (nth (lexT s) n1).k ≠ 5 := by simpa using h1
    refine Exec.regStart 2 rfl ?_
    apply Exec.regPart 0 1 1 te_ok rfl
    ·intro o Q hQ
     simp only [go_sem]
     repeat refine ob2 ?_
     exact hQ
    refine Exec.callP 25 hR.inv rfl rfl rfl rfl rfl rfl rfl rfl rfl ((fail_ok (lexT s) n1 m1 hn1).weak laidX_laid) ?_
    refine ExecP.defer rfl hac List.mem_cons_self Tryz.func133 Tryz.ntmps133 rfl (by as_aux_lemma => kernel_rfl) (Nat.le_of_ble_eq_true rfl) (fun ao av k0 v hao haod hav => ?_)
    refine Exec.ren (swJ 1) ?_
    apply Exec.norm
    ·simp only [go_sem]
     rfl
    refine sq ?_
    refine Exec.regStart 2 rfl ?_
    refine Exec.recover rfl rfl rfl (Nat.le_of_ble_eq_true rfl) rfl (List.mem_cons_of_mem _ List.mem_cons_self) rfl hav ?_
    apply Exec.norm
    ·simp only [go_sem]
     rfl
    apply Exec.regPart 1 1 0 te_ok rfl
    ·intro o Q hQ
     simp only [go_sem]
     repeat refine ob2 ?_
     exact hQ
    refine Exec.regEnd ?_
    refine sreg te_ok ?_
    refine Exec.cond (t := true) rfl ?_
    simp only [reduceIte, Bool.false_eq_true]
    refine sq ?_
    apply Exec.regionL te_ok
    ·intro o Q hQ
     simp only [go_sem]
     repeat refine ob2 ?_
     refine kassert te_ok rfl rfl rfl rfl rfl (fun m h => by cases h) ?_
     simp only [go_sem]
     repeat refine ob2 ?_
     exact hQ
    refine sq ?_
    refine sreg te_ok ?_
    refine Exec.cond (t := false) rfl ?_
    simp only [reduceIte, Bool.false_eq_true]
    refine sk ?_
    refine sreg te_ok ?_
    apply Exec.free (st := _) 7 6 [(0, 1), (0, 2), (1, 3), (2, 3)] te_ok (by as_aux_lemma => kernel_rfl) rfl (by as_aux_lemma => kernel_rfl)
    ·intro o Q hQ
     simp only [go_sem]
     repeat refine ob2 ?_
     exact hQ
    ·rfl
    refine Exec.leaveD Tryz.func133 rfl (.inl rfl) rfl rfl hao haod rfl ?_
    refine ExecR.ren (swJ 1) ?_
    apply ExecR.norm
    ·simp only [go_sem]
     rfl
    refine ExecR.done hR te_ok rfl rfl rfl (LeX.le ?_)
    rw [readV_end hE hq1 hk5]
    simp only [go_sem]
    exact ⟨rfl, rfl, by rw [kd_eq]; exact ⟨rfl, rfl⟩⟩
   ·have hk5 : (nth (lexT s) n1).k = 5 := by simpa using h1
    refine sk ?_
    refine sq ?_
    refine sreg te_ok ?_
    refine Exec.cond_split rfl (fun h2 => ?_) (fun h2 => ?_)
    ·have hm : 0 ≤ m1 := by simpa using h2
     refine sq ?_
     apply Exec.free (st := _) 9 8 [(0, 1), (0, 2), (0, 3), (0, 4), (1, 5), (2, 5), (3, 5), (4, 5)] te_ok (by as_aux_lemma => kernel_rfl) rfl (by as_aux_lemma => kernel_rfl)
     ·intro o Q hQ
      simp only [go_sem]
      repeat refine ob2 ?_
      exact hQ
     ·rfl
     refine Exec.retR hR.round (.inr ⟨_, rfl⟩) ?_
     refine ExecR.defer rfl hac List.mem_cons_self Tryz.func133 Tryz.ntmps133 rfl (by as_aux_lemma => kernel_rfl) (Nat.le_of_ble_eq_true rfl) (fun ao k0 hao haod => ?_)
     refine Exec.ren (swJ 1) ?_
     apply Exec.norm
     ·simp only [go_sem]
      rfl
     refine sq ?_
     refine Exec.regStart 2 rfl ?_
     refine Exec.recoverNo rfl rfl rfl (Nat.le_of_ble_eq_true rfl) rfl ?_
     apply Exec.norm
     ·simp only [go_sem]
      rfl
     apply Exec.regPart 1 1 0 te_ok rfl
     ·intro o Q hQ
      simp only [go_sem]
      repeat refine ob2 ?_
      exact hQ
     refine Exec.regEnd ?_
     refine sreg te_ok ?_
     refine Exec.cond (t := false) rfl ?_
     simp only [reduceIte, Bool.false_eq_true]
     refine sk ?_
     refine Exec.leaveD Tryz.func133 rfl (.inl rfl) rfl rfl hao haod rfl ?_
     refine ExecR.ren (swJ 1) ?_
     apply ExecR.norm
     ·simp only [go_sem]
      rfl
     refine ExecR.done hR te_ok rfl rfl rfl (LeX.le ?_)
     rw [readV_long hE hq1 hk5 hm]
     simp only [go_sem]
     exact ⟨rfl, rfl, by rw [kd_eq]; exact ⟨rfl, rfl⟩⟩
    ·have hm : ¬ 0 ≤ m1 := by simpa using h2
     refine sk ?_
     refine sreg te_ok ?_
     refine Exec.retR hR.round (.inr ⟨_, rfl⟩) ?_
     refine ExecR.defer rfl hac List.mem_cons_self Tryz.func133 Tryz.ntmps133 rfl (by as_aux_lemma => kernel_rfl) (Nat.le_of_ble_eq_true rfl) (fun ao k0 hao haod => ?_)
     refine Exec.ren (swJ 1) ?_
     apply Exec.norm
     ·simp only [go_sem]
      rfl
     refine sq ?_
     refine Exec.regStart 2 rfl ?_
     refine Exec.recoverNo rfl rfl rfl (Nat.le_of_ble_eq_true rfl) rfl ?_
     apply Exec.norm
     ·simp only [go_sem]
      rfl
     apply Exec.regPart 1 1 0 te_ok rfl
     ·intro o Q hQ
      simp only [go_sem]
      repeat refine ob2 ?_
      exact hQ
     refine Exec.regEnd ?_
     refine sreg te_ok ?_
     refine Exec.cond (t := false) rfl ?_
     simp only [reduceIte, Bool.false_eq_true]
     refine sk ?_
     refine Exec.leaveD Tryz.func133 rfl (.inl rfl) rfl rfl hao haod rfl ?_
     refine ExecR.ren (swJ 1) ?_
     apply ExecR.norm
     ·simp only [go_sem]
      rfl
     refine ExecR.done hR te_ok rfl rfl rfl (LeX.le ?_)
     rw [readV_ok hE hq1 hk5 hm]
     simp only [go_sem]
  ·refine Exec.regStart 5 rfl ?_
   apply Exec.regPart 0 2 3 te_ok rfl
   ·intro o Q hQ
    simp only [go_sem]
    repeat refine ob2 ?_
    exact hQ
   refine Exec.callP 25 hR.inv rfl rfl rfl rfl rfl rfl rfl rfl rfl ((fEr (pwhole_ok (lexT s) 0 (-1) hk h0n) hq1).weak laidX_laid) ?_
   refine ExecP.defer rfl hac List.mem_cons_self Tryz.func133 Tryz.ntmps133 rfl (by as_aux_lemma => kernel_rfl) (Nat.le_of_ble_eq_true rfl) (fun ao av k0 v hao haod hav => ?_)
   refine Exec.ren (swJ 1) ?_
   apply Exec.norm
   ·simp only [go_sem]
    rfl
   refine sq ?_
   refine Exec.regStart 2 rfl ?_
   refine Exec.recover rfl rfl rfl (Nat.le_of_ble_eq_true rfl) rfl (List.mem_cons_of_mem _ List.mem_cons_self) rfl hav ?_
   apply Exec.norm
   ·simp only [go_sem]
    rfl
   apply Exec.regPart 1 1 0 te_ok rfl
   ·intro o Q hQ
    simp only [go_sem]
    repeat refine ob2 ?_
    exact hQ
   refine Exec.regEnd ?_
   refine sreg te_ok ?_
   refine Exec.cond (t := true) rfl ?_
   simp only [reduceIte, Bool.false_eq_true]
   refine sq ?_
   apply Exec.regionL te_ok
   ·intro o Q hQ
    simp only [go_sem]
    repeat refine ob2 ?_
    refine kassert te_ok rfl rfl rfl rfl rfl (fun m h => by cases h) ?_
    simp only [go_sem]
    repeat refine ob2 ?_
    exact hQ
   refine sq ?_
   refine sreg te_ok ?_
   refine Exec.cond (t := false) rfl ?_
   simp only [reduceIte, Bool.false_eq_true]
   refine sk ?_
   refine sreg te_ok ?_
   apply Exec.free (st := _) 7 6 [(0, 1), (0, 2), (1, 3), (2, 3)] te_ok (by as_aux_lemma => kernel_rfl) rfl (by as_aux_lemma => kernel_rfl)
   ·intro o Q hQ
    simp only [go_sem]
    repeat refine ob2 ?_
    exact hQ
   ·rfl
   refine Exec.leaveD Tryz.func133 rfl (.inl rfl) rfl rfl hao haod rfl ?_
   refine ExecR.ren (swJ 1) ?_
   apply ExecR.norm
   ·simp only [go_sem]
    rfl
   refine ExecR.done hR te_ok rfl rfl rfl (LeX.le ?_)
   rw [readV_err hE hq1]
   simp only [go_sem]
   exact ⟨rfl, rfl, by rw [kd_eq]; exact ⟨rfl, rfl⟩⟩
theorem pQuery_ok (s : List UInt8) (hs : s.length ≤ 140737488351232) : FnOK LaidX Tryz.prog 32 [sv s] (.tup [quD (readV qz queryP s).1, iv (readV qz queryP s).2.1, iv (readV qz queryP s).2.2]) := by
 refine FnOK_of laidX_stable Tryz.func32 Tryz.ntmps32 rfl (by as_aux_lemma => kernel_rfl) (Nat.le_of_ble_eq_true rfl) (fun R hR => ?_)
 obtain ⟨_, b, cs, T, C⟩ := R
 obtain rfl : _ = Tryz.prog := hR.p
 refine sreg te_ok ?_
 refine sq ?_
 apply Exec.regionL te_ok
 ·intro o Q hQ
  simp only [go_sem]
  repeat refine ob2 ?_
  refine kcall hR.inv te_ok rfl rfl rfl rfl rfl rfl (readQ_ok s hs) ?_
  simp only [go_sem]
  repeat refine ob2 ?_
  exact hQ
 refine Exec.rets hR te_ok rfl rfl rfl (LeX.le ?_) (.inr ⟨_, rfl⟩)
 simp only [go_sem]
theorem pExpr_ok (s : List UInt8) (hs : s.length ≤ 140737488351232) : FnOK LaidX Tryz.prog 34 [sv s] (.tup [exD (readV xz wholeP s).1, iv (readV xz wholeP s).2.1, iv (readV xz wholeP s).2.2]) := by
 refine FnOK_of laidX_stable Tryz.func34 Tryz.ntmps34 rfl (by as_aux_lemma => kernel_rfl) (Nat.le_of_ble_eq_true rfl) (fun R hR => ?_)
 obtain ⟨_, b, cs, T, C⟩ := R
 obtain rfl : _ = Tryz.prog := hR.p
 refine sreg te_ok ?_
 refine sq ?_
 apply Exec.regionL te_ok
 ·intro o Q hQ
  simp only [go_sem]
  repeat refine ob2 ?_
  refine kcall hR.inv te_ok rfl rfl rfl rfl rfl rfl (readX_ok s hs) ?_
  simp only [go_sem]
  repeat refine ob2 ?_
  exact hQ
 refine Exec.rets hR te_ok rfl rfl rfl (LeX.le ?_) (.inr ⟨_, rfl⟩)
 simp only [go_sem]
end Go.Proofs.YtonchjamoblioaaGreatDoor
namespace Go.Proofs.YtonchjamoblioaaGreatDoor
open Go.Kin
/-! ### where a limit is passed, a rule reads the same -/
def MC {α : Type} (a : Int) (rd : PS → PR α) : Prop := ∀ s, rd (limS true a s) = (rd s).bind fun s1 x => .ok (limS true a s1) x
section
variable {l : List Tk} {a : Int}
theorem bind_bind {α β γ : Type} (r : PR α) (f : PS → α → PR β) (g : PS → β → PR γ) : (r.bind f).bind g = r.bind fun s x => (f s x).bind g := by cases r <;> rfl
theorem mc_bind {α β : Type} {rd : PS → PR α} {f : PS → α → PR β} (h : MC a rd) (hf : ∀ x, MC a fun s => f s x) : MC a fun s => (rd s).bind f := fun s => by
 show (rd (limS true a s)).bind f = ((rd s).bind f).bind _
 rw [h s, bind_bind, bind_bind]
 congr 1; funext s1 x
 exact hf x s1
theorem mc_if {α : Type} {c : PS → Bool} {r1 r2 : PS → PR α} (hc : ∀ s, c (limS true a s) = c s) (h1 : MC a r1) (h2 : MC a r2) : MC a fun s => if c s = true then r1 s else r2 s := fun s => by
 show (if c (limS true a s) = true then r1 (limS true a s) else r2 (limS true a s)) = _
 rw [hc s]
 by_cases h : c s = true
 ·rw [if_pos h]; show r1 _ = (if c s = true then r1 s else r2 s).bind _; rw [if_pos h]; exact h1 s
 ·rw [if_neg h]; show r2 _ = (if c s = true then r1 s else r2 s).bind _; rw [if_neg h]; exact h2 s
theorem lim_advS (s : PS) : (limS true a s).adv = limS true a s.adv := by
 unfold limS PS.adv
 by_cases h : (true && (decide (s.m < 0) || decide (a < s.m))) = true
 ·rw [if_pos h, if_pos h]
 ·rw [if_neg h, if_neg h]
theorem mc_ok {α : Type} (x : α) : MC a fun s => .ok s x := fun s => rfl
theorem mc_adv {α : Type} {rd : PS → PR α} (h : MC a rd) : MC a fun s => rd s.adv := fun s => by
 show rd (limS true a s).adv = _
 rw [lim_advS]; exact h s.adv
theorem mc_err {α : Type} : MC a fun s => (.err (nth l s.n).a : PR α) := fun s => by
 show PR.err (nth l (limS true a s).n).a = _
 rw [limS_n]; rfl
theorem isP_lim (w : List UInt8) (s : PS) : isP l w (limS true a s) = isP l w s := by unfold isP; rw [limS_n]
theorem mc_must (w : List UInt8) : MC a (mustP l w) := mc_if (c := fun s => isP l w s) (isP_lim w) (mc_adv (mc_ok ())) mc_err
theorem mc_name : MC a (nameP l) := fun s => by
 unfold nameP nameB
 rw [limS_n, lim_advS]
 split <;> rfl
theorem mc_vertex : MC a (vertexP l) := mc_bind (mc_must _) fun _ => mc_bind mc_name fun x => mc_bind (mc_must _) fun _ => mc_ok x
theorem mc_told : MC a (toldP l) := mc_bind mc_name fun x => mc_if (c := fun s => isP l [46] s) (isP_lim _) (mc_bind (mc_adv mc_name) fun k => mc_ok _) (mc_ok _)
theorem mc_opd : MC a (opdP l) := fun s => by
 unfold opdP opdB
 rw [limS_n, lim_advS]
 split
 ·rfl
 ·exact mc_told s
theorem mc_cmp (o : Opd) : ∀ (r : List (List UInt8)) (i : Nat), MC a fun s => cmpP l o s i r
 | [], i => mc_err
 | w :: r, i => mc_if (c := fun s => isP l w s) (isP_lim _) (mc_bind (mc_adv mc_opd) fun b => mc_ok _) (mc_cmp o r (i + 1))
theorem mc_cd : MC a (cdP l) := mc_bind mc_opd fun o => mc_cmp o _ _
theorem mc_sign : ∀ (f : Nat) (x : Ex), MC a fun s => signP l f s x
 | 0, x => mc_ok x
 | f + 1, x => mc_if (c := fun s => isP l [42] s) (isP_lim _) (mc_adv (mc_sign f _)) (mc_if (c := fun s => isP l [43] s) (isP_lim _) (mc_adv (mc_sign f _)) (mc_if (c := fun s => isP l [63] s) (isP_lim _) (mc_adv (mc_sign f _)) (mc_ok x)))
theorem mc_no {α : Type} (e : Int) : MC a fun _ => (.err e : PR α) := fun s => rfl
theorem mc_sep {rd : PS → PR Ex} {w : List UInt8} (hr : MC a rd) : ∀ (f : Nat) (acc : List Ex), MC a fun s => sepP l rd w f s acc
 | 0, acc => mc_no 0
 | f + 1, acc => mc_bind hr fun x => mc_if (c := fun s => isP l w s) (isP_lim _) (mc_adv (mc_sep hr f _)) (mc_ok _)
theorem mc_join {rd : PS → PR Ex} {w : List UInt8} {k : Int} (hr : MC a rd) : MC a (joinP l rd w k) := mc_bind (mc_sep hr _ _) fun x => mc_ok _
theorem mc_item : ∀ f : Nat, MC a (itemP l f)
 | 0 => mc_no 0
 | f + 1 => mc_if (c := fun s => isP l [40] s) (isP_lim _) (mc_bind (mc_adv (mc_join (mc_join (mc_item f)))) fun x => mc_bind (mc_must _) fun _ => mc_sign _ x) (mc_bind mc_name fun w => mc_sign _ _)
theorem mc_ex : MC a (exP l) := mc_join (mc_join (mc_item _))
theorem lim_lim (b : Bool) {p : Int} (h : 0 ≤ p) (ha : 0 ≤ a) (s : PS) : limS b p (limS true a s) = limS true a (limS b p s) := by
 obtain ⟨n, m⟩ := s
 cases b
 ·rfl
 ·unfold limS
  simp only [Bool.true_and, Bool.or_eq_true, decide_eq_true_eq]
  by_cases h1 : m < 0 ∨ a < m <;> by_cases h2 : m < 0 ∨ p < m <;> by_cases h3 : p < a <;> by_cases h4 : a < p <;> simp only [h1, h2, h3, h4, if_true, if_false, or_true, or_false, true_or, false_or, show ¬ a < 0 by omega, show ¬ p < 0 by omega] <;> first | rfl | (congr 1; omega) | omega
theorem nth_def {α : Type} [Inhabited α] {l : List α} {n : Nat} (h : l.length ≤ n) : nth l n = default := by simp [nth, List.getD_eq_getElem?_getD, List.getElem?_eq_none h]
theorem at_ge (hk : TkOk l) (n : Nat) : 0 ≤ (nth l n).a := by
 by_cases h : n < l.length
 ·exact (hk.a0 n h).1
 ·rw [nth_def (by omega)]; decide
theorem mc_whole (hk : TkOk l) (ha : 0 ≤ a) : MC a (wholeP l) := fun s => by
 unfold wholeP
 rw [mc_ex s, bind_bind, bind_bind]
 congr 1; funext s1 x
 simp only [PR.bind]
 rw [limS_n, lim_lim _ (at_ge hk _) ha]
theorem mc_pat (hk : TkOk l) (ha : 0 ≤ a) : MC a (patP l) := mc_bind mc_vertex fun v => mc_if (c := fun s => isP l [61, 91] s) (isP_lim _) (mc_bind (mc_adv (mc_whole hk ha)) fun x => mc_bind (mc_must _) fun _ => mc_bind mc_vertex fun z => mc_ok _)
 (mc_bind (mc_must _) fun _ => mc_bind mc_name fun lb => mc_if (c := fun s => isP l [97, 115] s) (isP_lim _) (mc_bind (mc_adv mc_name) fun nm => mc_bind (mc_must _) fun _ => mc_bind mc_vertex fun z => mc_ok _) (mc_bind (mc_must _) fun _ => mc_bind mc_vertex fun z => mc_ok _))
theorem mc_lim {α : Type} {rd : PS → PR α} (h : MC a rd) (b : Bool) (s : PS) : rd (limS b a s) = (rd s).bind fun s1 x => .ok (limS b a s1) x := by
 cases b
 ·show rd s = _
  cases rd s <;> rfl
 ·exact h s
/-! ### patterns; how many -/
theorem es_step (hk : TkOk l) {s1 : PS} {b : Int} {w : List UInt8} (hn : s1.n < l.length) (hp : isP l w s1 = true) : RS.step l ⟨s1.n, b, s1.m⟩ = ⟨s1.n + 1, b, s1.m⟩ := by
 have a2 := is_adv hk hn hp
 simp only [RS.step, if_pos a2]
theorem Rel.ok {α : Type} {n : Nat} {m b : Int} {x : α} : Rel ⟨n, b, m⟩ (.ok ⟨n, m⟩ x) (⟨n, b, m⟩, x) := ⟨fun _ => rfl, fun _ => rfl⟩
variable (hk : TkOk l)
include hk
theorem rel_tail {α : Type} {s : RS} {w : List UInt8} (F : List UInt8 → α) (hn : s.n < l.length) : Rel s ((mustP l w ⟨s.n, s.m⟩).bind fun s3 _ => (vertexP l s3).bind fun s4 z => .ok s4 (F z)) (vertexS l (mustR l w s), F (vertexT l (mustR l w s))) :=
 (rel_must hk (w := w) hn).bind (g := fun p => (vertexS l p.1, F (vertexT l p.1))) (fun hb s3 _ h3 => (rel_vertex hk (s := ⟨s3.n, s.b, s3.m⟩) (must_adv hk (s := ⟨s.n, s.m⟩) hn _ _ h3).2).map (F := F)) (fun p hp => vtx_bad hp)
omit hk in
theorem pat_bad {s : RS} (h : 0 ≤ s.b) : (patR l s).1.b = s.b := by
 have h1 := vtx_bad (l := l) h
 have h2 := must_bad (l := l) (w := [45, 91]) (s := vertexS l s) (by omega)
 have h3 := name_bad (l := l) (s := mustR l [45, 91] (vertexS l s)) (by omega)
 have h4 := must_bad (l := l) (w := [93, 45, 62]) (s := nameS l (mustR l [45, 91] (vertexS l s))) (by omega)
 have h5 := vtx_bad (l := l) (s := mustR l [93, 45, 62] (nameS l (mustR l [45, 91] (vertexS l s)))) (by omega)
 unfold patR
 rw [isR_bad (by omega), isR_bad (by omega)]
 show (vertexS l (mustR l [93, 45, 62] (nameS l (mustR l [45, 91] (vertexS l s))))).b = s.b
 omega
/-- the rest of a pattern, behind its first vertex -/
def patT (l : List Tk) (p : RS × List UInt8) : RS × Pt :=
 if isR l [61, 91] p.1 = true then (vertexS l (mustR l [93, 61, 62] (wholeR l (p.1.step l)).1), ⟨p.2, vertexT l (mustR l [93, 61, 62] (wholeR l (p.1.step l)).1), true, [], [], (wholeR l (p.1.step l)).2⟩)
 else if isR l [97, 115] (nameS l (mustR l [45, 91] p.1)) = true then
  (vertexS l (mustR l [93, 45, 62] (nameS l ((nameS l (mustR l [45, 91] p.1)).step l))), ⟨p.2, vertexT l (mustR l [93, 45, 62] (nameS l ((nameS l (mustR l [45, 91] p.1)).step l))), false, nameT l (mustR l [45, 91] p.1), nameT l ((nameS l (mustR l [45, 91] p.1)).step l), .mk 0 [] []⟩)
 else (vertexS l (mustR l [93, 45, 62] (nameS l (mustR l [45, 91] p.1))), ⟨p.2, vertexT l (mustR l [93, 45, 62] (nameS l (mustR l [45, 91] p.1))), false, nameT l (mustR l [45, 91] p.1), [], .mk 0 [] []⟩)
theorem rel_pat {s : RS} (hn : s.n < l.length) : Rel s (patP l ⟨s.n, s.m⟩) (patR l s) := by
 refine (rel_vertex hk hn).bind (g := patT l) (fun hb s1 v h1 => ?_) (fun p hp => ?_)
 ·have a1 := vertex_adv hk (s := ⟨s.n, s.m⟩) hn _ _ h1
  unfold patT
  simp only [isR_good (l := l) (w := [61, 91]) (s := ⟨s1.n, s.b, s1.m⟩) hb]
  by_cases hp : isP l [61, 91] s1 = true
  ·rw [if_pos hp, if_pos hp, es_step hk a1.2 hp]
   have a2 := is_adv hk a1.2 hp
   refine (rel_whole hk (s := ⟨s1.n + 1, s.b, s1.m⟩) a2).bind (g := fun p => (vertexS l (mustR l [93, 61, 62] p.1), (⟨v, vertexT l (mustR l [93, 61, 62] p.1), true, [], [], p.2⟩ : Pt))) (fun hb s2 x h2 => ?_) (fun p hp => ?_)
   ·exact rel_tail hk (s := ⟨s2.n, s.b, s2.m⟩) (fun z => (⟨v, z, true, [], [], x⟩ : Pt)) (wholeN_adv hk (s := ⟨s1.n + 1, s1.m⟩) a2 _ _ h2)
   ·have := must_bad (l := l) (w := [93, 61, 62]) hp
    simp only; rw [vtx_bad (by omega)]; exact this
  ·rw [if_neg hp, if_neg hp]
   refine (rel_must hk (w := [45, 91]) (s := ⟨s1.n, s.b, s1.m⟩) a1.2).bind (g := fun p => if isR l [97, 115] (nameS l p.1) = true then
    (vertexS l (mustR l [93, 45, 62] (nameS l ((nameS l p.1).step l))), (⟨v, vertexT l (mustR l [93, 45, 62] (nameS l ((nameS l p.1).step l))), false, nameT l p.1, nameT l ((nameS l p.1).step l), .mk 0 [] []⟩ : Pt))
    else (vertexS l (mustR l [93, 45, 62] (nameS l p.1)), ⟨v, vertexT l (mustR l [93, 45, 62] (nameS l p.1)), false, nameT l p.1, [], .mk 0 [] []⟩)) (fun hb s2 _ h2 => ?_) (fun p hp => ?_)
   ·have a2 := must_adv hk (s := s1) a1.2 _ _ h2
    refine (rel_name hk (s := ⟨s2.n, s.b, s2.m⟩) a2.2).bind (g := fun p => if isR l [97, 115] p.1 = true then
     (vertexS l (mustR l [93, 45, 62] (nameS l (p.1.step l))), (⟨v, vertexT l (mustR l [93, 45, 62] (nameS l (p.1.step l))), false, p.2, nameT l (p.1.step l), .mk 0 [] []⟩ : Pt))
     else (vertexS l (mustR l [93, 45, 62] p.1), ⟨v, vertexT l (mustR l [93, 45, 62] p.1), false, p.2, [], .mk 0 [] []⟩)) (fun hb s3 lb h3 => ?_) (fun p hp => ?_)
    ·have a3 := name_adv hk (s := s2) a2.2 _ _ h3
     simp only [isR_good (l := l) (w := [97, 115]) (s := ⟨s3.n, s.b, s3.m⟩) hb]
     by_cases hp3 : isP l [97, 115] s3 = true
     ·rw [if_pos hp3, if_pos hp3, es_step hk a3.2 hp3]
      have a4 := is_adv hk a3.2 hp3
      refine (rel_name hk (s := ⟨s3.n + 1, s.b, s3.m⟩) a4).bind (g := fun p => (vertexS l (mustR l [93, 45, 62] p.1), (⟨v, vertexT l (mustR l [93, 45, 62] p.1), false, lb, p.2, .mk 0 [] []⟩ : Pt))) (fun hb s4 nm h4 => ?_) (fun p hp => ?_)
      ·exact rel_tail hk (s := ⟨s4.n, s.b, s4.m⟩) (fun z => (⟨v, z, false, lb, nm, .mk 0 [] []⟩ : Pt)) (name_adv hk (s := ⟨s3.n + 1, s3.m⟩) a4 _ _ h4).2
      ·have := must_bad (l := l) (w := [93, 45, 62]) hp
       simp only; rw [vtx_bad (by omega)]; exact this
     ·rw [if_neg hp3, if_neg hp3]
      exact rel_tail hk (s := ⟨s3.n, s.b, s3.m⟩) (fun z => (⟨v, z, false, lb, [], .mk 0 [] []⟩ : Pt)) a3.2
    ·simp only [isR_bad hp]
     have := must_bad (l := l) (w := [93, 45, 62]) hp
     simp only [Bool.false_eq_true, if_false]; rw [vtx_bad (by omega)]; exact this
   ·have h1 := name_bad (l := l) hp
    simp only [isR_bad (l := l) (w := [97, 115]) (s := nameS l p.1) (by omega)]
    have := must_bad (l := l) (w := [93, 45, 62]) (s := nameS l p.1) (by omega)
    simp only [Bool.false_eq_true, if_false]; rw [vtx_bad (by omega)]; omega
 ·unfold patT
  have h2 := must_bad (l := l) (w := [45, 91]) hp
  have h3 := name_bad (l := l) (s := mustR l [45, 91] p.1) (by omega)
  have h4 := must_bad (l := l) (w := [93, 45, 62]) (s := nameS l (mustR l [45, 91] p.1)) (by omega)
  have h5 := vtx_bad (l := l) (s := mustR l [93, 45, 62] (nameS l (mustR l [45, 91] p.1))) (by omega)
  rw [isR_bad (by omega), isR_bad (by omega)]
  show (vertexS l (mustR l [93, 45, 62] (nameS l (mustR l [45, 91] p.1)))).b = p.1.b
  omega
omit hk in
theorem many_bad {α : Type} {rd : RS → RS × α} {w : List UInt8} {mx : Nat} (hi : ∀ s : RS, 0 ≤ s.b → (rd s).1.b = s.b) {s : RS} (h : 0 ≤ s.b) : ∀ (f : Nat) (acc : List α), (manyR l rd w mx f s acc).1.b = s.b
 | 0, acc => rfl
 | f + 1, acc => by
  have h1 := hi s h
  have h2 : (if acc.length = mx then (rd s).1.much (nth l s.n).a else (rd s).1).b = s.b := by split <;> exact h1
  unfold manyR; rw [isR_bad (by omega)]; exact h2
theorem rel_many {α : Type} {rd : PS → PR α} {it : RS → RS × α} {w : List UInt8} {mx : Nat} (hr : ∀ s : RS, s.n < l.length → Rel s (rd ⟨s.n, s.m⟩) (it s)) (hm : ∀ a, 0 ≤ a → MC a rd) (ha : ∀ s : PS, s.n < l.length → AdvP l s (rd s)) (hb' : ∀ s : RS, 0 ≤ s.b → (it s).1.b = s.b) : ∀ (f : Nat) (s : RS) (acc : List α), s.n < l.length → l.length ≤ s.n + f →
  Rel s (manyP l rd w mx f ⟨s.n, s.m⟩ acc) (manyR l it w mx f s acc)
 | 0, s, acc, hn, hf => by omega
 | f + 1, s, acc, hn, hf => by
  unfold manyP manyR
  rw [mc_lim (hm _ (at_ge hk s.n)), bind_bind]
  refine (hr s hn).bind (g := fun p => if isR l w (if acc.length = mx then p.1.much (nth l s.n).a else p.1) = true then manyR l it w mx f ((if acc.length = mx then p.1.much (nth l s.n).a else p.1).step l) (acc ++ [p.2]) else (if acc.length = mx then p.1.much (nth l s.n).a else p.1, acc ++ [p.2])) (fun hb s1 x h1 => ?_) (fun p hp => ?_)
  ·have a1 := ha ⟨s.n, s.m⟩ hn _ _ h1
   simp only [PR.bind]
   have e : (if acc.length = mx then RS.much (nth l s.n).a ⟨s1.n, s.b, s1.m⟩ else ⟨s1.n, s.b, s1.m⟩) = ⟨(limS (decide (acc.length = mx)) (nth l s.n).a s1).n, s.b, (limS (decide (acc.length = mx)) (nth l s.n).a s1).m⟩ := by
    unfold limS RS.much
    by_cases h : acc.length = mx
    ·rw [if_pos h, decide_eq_true h]; simp only [Bool.true_and]; split <;> rfl
    ·rw [if_neg h, decide_eq_false h]; rfl
   have e2 : (limS (decide (acc.length = mx)) (nth l s.n).a s1).n = s1.n := limS_n _ _ _
   rw [e]
   generalize limS (decide (acc.length = mx)) (nth l s.n).a s1 = s2 at e2 ⊢
   rw [isR_good (l := l) (w := w) (s := ⟨s2.n, s.b, s2.m⟩) hb]
   have a2 : s2.n < l.length := by rw [e2]; exact a1.2
   by_cases hp : isP l w s2 = true
   ·have hp' : isP l w ⟨s2.n, s2.m⟩ = true := hp
    rw [if_pos hp, if_pos hp', es_step hk a2 hp]
    have a3 := is_adv hk a2 hp
    have a4 := a1.1
    simp only at a4
    have h9 := rel_many (w := w) (mx := mx) hr hm ha hb' f ⟨s2.n + 1, s.b, s2.m⟩ (acc ++ [x]) a3 (by simp only; omega)
    exact ⟨fun h => h9.1 h, fun h => by simp only at h; omega⟩
   ·have hp' : ¬ (isP l w ⟨s2.n, s2.m⟩ = true) := hp
    rw [if_neg hp, if_neg hp']; exact ⟨fun _ => rfl, fun h => by simp only at h; omega⟩
  ·have h2 : (if acc.length = mx then p.1.much (nth l s.n).a else p.1).b = p.1.b := by split <;> rfl
   rw [isR_bad (by omega)]; exact h2
end
end Go.Proofs.YtonchjamoblioaaGreatDoor
