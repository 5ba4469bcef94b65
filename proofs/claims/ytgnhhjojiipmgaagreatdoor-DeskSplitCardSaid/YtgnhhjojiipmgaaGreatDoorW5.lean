/- Steps of a function body on data, and contracts of the functions of the seat, walked. -/
import Derived.Test.YtgnhhjojiipmgaaGreatDoorKRes
set_option linter.unusedSimpArgs false
set_option linter.unusedVariables false
set_option linter.unusedSectionVars false
namespace Go.Proofs.YtgnhhjojiipmgaaGreatDoor
open Go.Kin
set_option maxRecDepth 100000
set_option maxHeartbeats 0
theorem two {X Y : Prop} (c : Prop) (h1 : c → Hold Y → X) (h2 : ¬ c → Hold Y → X) (hY : Y) : X := by
  by_cases h : c
  · exact h1 h ⟨hY⟩
  · exact h2 h ⟨hY⟩
theorem and_no {a b : Bool} (h : ¬ (a = true ∧ b = true)) : (a && b) = false := by
  cases a <;> cases b <;> simp_all
theorem sameApp_ok (x y z : List (List UInt8)) (hz : z = x ++ y) (hx : x.length + y.length ≤ 1600) : FnOK LaidW Tryz.prog 8 [strsD z, .sl 1 (x.length + y.length) (x.length + y.length) (catR x.length (fun i => [sv (nth x i)]) fun i => [sv (nth y i)])] (bv true) := by
  subst hz
  have h := sameT_ok (x ++ y) (x ++ y) (by rw [List.length_append]; omega) (by rw [List.length_append]; omega)
  rw [decide_eq_true rfl] at h
  refine h.args ⟨LeD.refl _, ?_, trivial⟩
  have e : strsD (x ++ y) = .sl 1 (x.length + y.length) (x.length + y.length) fun i => [sv (nth (x ++ y) i)] := by simp [strsD]
  rw [e]
  exact LeD.slice (Nat.le_refl _) (Nat.le_refl _) fun i hi => catR_append (fun w => [sv w]) x y i (by rw [List.length_append]; exact hi)
theorem wF_wlen : ∀ (f : Nat) (a : List UInt8) (x : List (List UInt8)), wF f a = some x → ∀ w ∈ x, w.length ≤ a.length
  | 0, a, x, h, w, hw => by cases h; cases hw
  | f + 1, a, x, h, w, hw => by
    have ht := trim_le a
    unfold wF at h
    cases hl : Lib.trimLeftB a 32 with
    | nil => rw [hl] at h; cases h; cases hw
    | cons c r =>
      rw [hl] at h ht
      simp only [List.length_cons] at h ht
      have hc := trim_head hl
      cases hd : wd c r with
      | none => rw [hd] at h; cases h
      | some y =>
        obtain ⟨u, rest⟩ := y
        rw [hd] at h
        simp only at h
        obtain ⟨h1, h2, h3⟩ := wd_rest hc hd
        cases hz : wF f rest with
        | none => rw [hz] at h; cases h
        | some z =>
          rw [hz] at h
          cases h
          rcases List.mem_cons.1 hw with rfl | hw
          · omega
          · have := wF_wlen f rest z hz w hw; omega
theorem wL_wlen (a : List UInt8) : ∀ w ∈ wL a, w.length ≤ a.length := by
  unfold wL
  cases h : wA a with
  | none => intro w hw; cases hw
  | some x => exact wF_wlen _ _ _ h
theorem nth_in {l : List (List UInt8)} {i : Nat} (h : i < l.length) : nth l i ∈ l := by
  have : nth l i = l[i] := by simp [nth, h]
  rw [this]; exact List.getElem_mem h
theorem getD_last {w : List UInt8} (h : w.getLast? = some 34) : w.getD (w.length - 1) 0 = 34 := by
  rw [List.getLast?_eq_getElem?] at h
  rw [List.getD_eq_getElem?_getD, h]; rfl
theorem getD_head {w : List UInt8} (h : w.head? = some 34) : w.getD 0 0 = 34 := by
  cases w with
  | nil => cases h
  | cons c w => cases h; rfl
theorem quo_mid {w : List UInt8} (h : quo w) : decide ((34 : UInt8) ∈ List.take (((w.length - 1 : Nat) : Int) - 1).toNat (List.drop (Int.toNat 1) w)) = false := by
  have e : (((w.length - 1 : Nat) : Int) - 1).toNat = w.length - 2 := by omega
  rw [e]
  exact decide_eq_false h.2.2.2
theorem head_ne {w : List UInt8} (h0 : w ≠ []) (h : (34 : UInt8) ∉ w) : (((w.getD 0 0).toNat : Int) == 34) = false := by
  cases w with
  | nil => exact absurd rfl h0
  | cons c w =>
    rw [beq_eq_false_iff_ne]
    intro e
    have e2 : c.toNat = (34 : UInt8).toNat := by
      have : ((c.toNat : Nat) : Int) = 34 := e
      have e3 : (34 : UInt8).toNat = 34 := rfl
      omega
    exact h (by rw [UInt8.toNat_inj.1 e2]; simp)
theorem ne_beq {w : List UInt8} (h : w ≠ []) : (w == []) = false := by rw [beq_eq_false_iff_ne]; exact h
theorem idx10 (r : List UInt8) : Lib.indexByte r (Int.toNat 10).toUInt8 = if spn 10 r < r.length then (spn 10 r : Int) else -1 := index_spn 10 r
theorem ln_st {s r : List UInt8} {l : List (List UInt8)} (h : lnL s = l ++ lnL r) (hr : 0 < r.length) : lnL s = (l ++ [r.take (spn 10 r)]) ++ lnL (r.drop (spn 10 r + 1)) := by
  rw [h, lnL_on (List.length_pos_iff.1 hr)]; simp
theorem ln_sf {s r : List UInt8} {l : List (List UInt8)} (h : lnL s = l ++ lnL r) (hr : 0 < r.length) (hs : ¬ spn 10 r < r.length) : lnL s = (l ++ [r]) ++ lnL [] := by
  obtain ⟨h1, h2, _⟩ := spn_all hs
  have := ln_st h hr
  rwa [h1, h2] at this
theorem bck_t {s : List UInt8} (h : Lib.hasSuffix s [10] = true) : (Lib.join (lnL s) [10] ++ [10] == s) = true := by
  have := bck_eq s.length s (Nat.le_refl _)
  unfold bck at this
  rw [if_pos h] at this
  rw [this]; simp
theorem bck_f {s : List UInt8} (h : Lib.hasSuffix s [10] = false) : (Lib.join (lnL s) [10] == s) = true := by
  have := bck_eq s.length s (Nat.le_refl _)
  unfold bck at this
  rw [if_neg (by rw [h]; simp)] at this
  rw [this]; simp
theorem ln_or (s : List UInt8) : (decide ((0 : Int) < (s.length : Int)) || (((lnL s).length : Int) == 0)) = true := by
  cases s with
  | nil => rfl
  | cons c r =>
    have : decide ((0 : Int) < ((c :: r).length : Int)) = true := decide_eq_true (by simp only [List.length_cons]; omega)
    rw [this]; rfl
theorem deskSplit_ok (s t : List UInt8) (ha : s.length ≤ 140737488355328) (hb : t.length ≤ 140737488355328) : FnOK LaidW Tryz.prog 4 [sv s, sv t] (bv true) := by
  refine FnOK_of laidW_stable Tryz.func4 Tryz.ntmps4 rfl (by as_aux_lemma => kernel_rfl) (Nat.le_of_ble_eq_true rfl) (fun R hR => ?_)
  obtain ⟨_, b, cs, T, C⟩ := R
  obtain rfl : _ = Tryz.prog := hR.p
  have hwab : IntKind.i64.wrap ((s.length : Int) + (t.length : Int)) = ((s.length + t.length : Nat) : Int) := by rw [wrap_id (by constructor <;> omega)]; simp
  refine Exec.seq ?_
  apply Exec.regionL te_ok
  · intro ops' Q hQ
    simp only [go_sem, hwab]
    repeat refine ob2 ?_
    exact hQ
  refine Exec.seq ?_
  refine Exec.seq ?_
  apply Exec.regionL te_ok
  · intro ops' Q hQ
    simp only [go_sem, hwab]
    repeat refine ob2 ?_
    refine kcall hR.inv te_ok rfl rfl rfl rfl rfl rfl (awake_ok) ?_
    simp only [go_sem, hwab]
    repeat refine ob2 ?_
    exact hQ
  refine Exec.cond (t := false) rfl ?_
  simp only [reduceIte, Bool.false_eq_true]
  refine Exec.skip ?_
  refine Exec.seq ?_
  refine Exec.seq ?_
  apply Exec.regionL te_ok
  · intro ops' Q hQ
    simp only [go_sem, hwab]
    repeat refine ob2 ?_
    exact hQ
  refine Exec.cond_split rfl (fun h1 => ?_) (fun h1 => ?_)
  · skip
    refine Exec.seq ?_
    apply Exec.regionL te_ok
    · intro ops' Q hQ
      simp only [go_sem, hwab]
      repeat refine ob2 ?_
      exact hQ
    refine Exec.rets hR te_ok rfl rfl rfl (LeX.le ?_) (.inr ⟨_, rfl⟩)
    simp only [go_sem]
    all_goals first | exact ln_or s | simp [ln_or s]
  · skip
    have hl : s.length + t.length ≤ 1600 := by have := of_decide_eq_false h1; omega
    have hla := wL_len s
    have hlb := wL_len t
    refine Exec.skip ?_
    refine Exec.seq ?_
    apply Exec.regionL te_ok
    · intro ops' Q hQ
      simp only [go_sem, hwab]
      repeat refine ob2 ?_
      refine kcall hR.inv te_ok rfl rfl rfl rfl rfl rfl (words_ok _ (by first | omega | (simp; omega))) ?_
      simp only [go_sem, hwab]
      repeat refine ob2 ?_
      exact hQ
    refine Exec.seq ?_
    apply Exec.regionL te_ok
    · intro ops' Q hQ
      simp only [go_sem, hwab]
      repeat refine ob2 ?_
      refine kcall hR.inv te_ok rfl rfl rfl rfl rfl rfl (words_ok _ (by first | omega | (simp; omega))) ?_
      simp only [go_sem, hwab]
      repeat refine ob2 ?_
      exact hQ
    refine Exec.seq ?_
    apply Exec.regionL te_ok
    · intro ops' Q hQ
      simp only [go_sem, hwab]
      repeat refine ob2 ?_
      refine kcall hR.inv te_ok rfl rfl rfl rfl rfl rfl (words_ok _ (by first | omega | (simp; omega))) ?_
      simp only [go_sem, hwab]
      repeat refine ob2 ?_
      exact hQ
    refine Exec.seq ?_
    refine Exec.seq ?_
    apply two (wB s = true ∧ wB t = true)
    case h1 =>
      intro hs hK
      obtain ⟨hA, hB⟩ := hs
      obtain ⟨hC, hD⟩ := split_words hA hB
      apply Exec.regionL te_ok
      · intro ops' Q hQ
        simp only [go_sem, hwab, hA, hB, hC]
        repeat refine ob2 ?_
        refine kun te_ok [53] (by simp only [go_sem, hwab, hA, hB, hC]; rfl) ?_
        simp only [go_sem, hwab, hA, hB, hC]
        repeat refine ob2 ?_
        refine kun te_ok [55] (by simp only [go_sem, hwab, hA, hB, hC]; rfl) ?_
        simp only [go_sem, hwab, hA, hB, hC]
        repeat refine ob2 ?_
        refine kun te_ok [51] (by simp only [go_sem, hwab, hA, hB, hC]; rfl) ?_
        simp only [go_sem, hwab, hA, hB, hC]
        repeat refine ob2 ?_
        refine kfreeze 52 rfl (by simp only [go_sem, hwab, hA, hB, hC]; rfl) ?_
        refine kcallG hR.inv te_ok rfl rfl rfl rfl rfl rfl (by simp only [go_sem] <;> (first | assumption | omega | (simp only [Bool.not_eq_true', Bool.or_eq_false_iff, Bool.or_eq_true, Bool.and_eq_true, decide_eq_true_eq, decide_eq_false_iff_not, beq_iff_eq, Bool.not_eq_false']; omega) | (simp; done) | (simp; omega) | (intros; omega) | (simp_all; done) | (simp_all; omega))) (fun hq => sameApp_ok _ _ _ hD (by omega)) ?_
        simp only [go_sem, hwab, hA, hB, hC]
        repeat refine ob2 ?_
        exact hQ
      refine Exec.cond (t := false) rfl ?_
      simp only [reduceIte, Bool.false_eq_true]
      refine Exec.skip ?_
      apply Exec.prune [0, 4, 5, 15, 108]
      case hw => simp only [go_sem, hwab, hA, hB, hC]
      apply Exec.norm
      · try simp only [go_sem, hwab, hA, hB, hC]
        rfl
      exact hK.out
    case h2 =>
      intro hs hK
      have hAB := and_no hs
      apply Exec.regionL te_ok
      · intro ops' Q hQ
        simp only [go_sem, hwab, hAB]
        repeat refine ob2 ?_
        refine kcallG hR.inv te_ok rfl rfl rfl rfl rfl rfl (by simp only [go_sem] <;> (first | assumption | omega | (simp only [Bool.not_eq_true', Bool.or_eq_false_iff, Bool.or_eq_true, Bool.and_eq_true, decide_eq_true_eq, decide_eq_false_iff_not, beq_iff_eq, Bool.not_eq_false']; omega) | (simp; done) | (simp; omega) | (intros; omega) | (simp_all; done) | (simp_all; omega))) (fun hq => (absurd hq (by simp) : FnOK LaidW Tryz.prog 8 _ (bv false))) ?_
        simp only [go_sem, hwab, hAB]
        repeat refine ob2 ?_
        exact hQ
      refine Exec.cond (t := false) rfl ?_
      simp only [reduceIte, Bool.false_eq_true]
      refine Exec.skip ?_
      apply Exec.prune [0, 4, 5, 15, 108]
      case hw => simp only [go_sem, hwab, hAB]
      apply Exec.norm
      · try simp only [go_sem, hwab, hAB]
        rfl
      exact hK.out
    refine Exec.seq ?_
    refine Exec.seq ?_
    apply Exec.regionL te_ok
    · intro ops' Q hQ
      simp only [go_sem, hwab]
      repeat refine ob2 ?_
      exact hQ
    refine Exec.block ?_
    apply Exec.loopU [0, 4, 5, 15, 108] (X := Nat) (fun i => [(11, .d (iv i))]) (fun i => []) (fun i => []) (fun i => (wL s).length - i) (fun i => i ≤ (wL s).length) 0
    case h0 =>
      omega
    case hw =>
      simp only [go_sem, hwab]
    case body =>
      rintro i hx ih0
      try simp only at hx
      apply Exec.norm
      · try simp only [go_sem, hwab]
        rfl
      refine Exec.seq ?_
      refine Exec.seq ?_
      apply Exec.regionL te_ok
      · intro ops' Q hQ
        simp only [go_sem, hwab]
        repeat refine ob2 ?_
        exact hQ
      refine Exec.cond_split rfl (fun h2 => ?_) (fun h2 => ?_)
      · skip
        have hi : i < (wL s).length := by have := of_decide_eq_true h2; omega
        obtain ⟨w, hwe⟩ : ∃ w, nth (wL s) i = w := ⟨_, rfl⟩
        have hwm : w ∈ wL s := hwe ▸ nth_in hi
        obtain ⟨hw0, hww⟩ := wL_words s w hwm
        have hwn := ne_beq hw0
        have hwl := wL_wlen s w hwm
        have hwi : IntKind.i64.wrap ((i : Int) + 1) = ((i + 1 : Nat) : Int) := by rw [wrap_id (by constructor <;> omega)]; simp
        have hw1 : IntKind.i64.wrap ((w.length : Int) - 1) = ((w.length - 1 : Nat) : Int) := by have := List.length_pos_iff.2 hw0; rw [wrap_id (by constructor <;> omega)]; omega
        refine Exec.skip ?_
        refine Exec.seq ?_
        refine Exec.block ?_
        refine Exec.seq ?_
        apply Exec.regionL te_ok
        · intro ops' Q hQ
          simp only [go_sem, hwab, hwi, hwe, hw1, hwn]
          repeat refine ob2 ?_
          exact hQ
        refine Exec.seq ?_
        rcases Classical.em (quo w) with hs14 | hs14
        · skip
          have q0 := hs14
          have q1 : decide ((1 : Int) < (w.length : Int)) = true := decide_eq_true (by have := q0.1; omega)
          have q2 := getD_head q0.2.1
          have q3 := getD_last q0.2.2.1
          have q4 := quo_mid q0
          have q5 : (((34 : UInt8).toNat : Int) == 34) = true := rfl
          apply Exec.regionL te_ok
          · intro ops' Q hQ
            simp only [go_sem, hwab, hwi, hwe, hw1, hwn, q1, q2, q3, q4, q5]
            repeat refine ob2 ?_
            refine kcallG hR.inv te_ok rfl rfl rfl rfl rfl rfl (by simp only [go_sem] <;> (first | assumption | omega | (simp only [Bool.not_eq_true', Bool.or_eq_false_iff, Bool.or_eq_true, Bool.and_eq_true, decide_eq_true_eq, decide_eq_false_iff_not, beq_iff_eq, Bool.not_eq_false']; omega) | (simp; done) | (simp; omega) | (intros; omega) | (simp_all; done) | (simp_all; omega))) (fun hq => contains_ok _ _) ?_
            simp only [go_sem, hwab, hwi, hwe, hw1, hwn, q1, q2, q3, q4, q5]
            repeat refine ob2 ?_
            exact hQ
          refine Exec.seq ?_
          apply Exec.regionL te_ok
          · intro ops' Q hQ
            simp only [go_sem, hwab, hwi, hwe, hw1, hwn, q1, q2, q3, q4, q5]
            repeat refine ob2 ?_
            refine kcallG hR.inv te_ok rfl rfl rfl rfl rfl rfl (by simp only [go_sem] <;> (first | assumption | omega | (simp only [Bool.not_eq_true', Bool.or_eq_false_iff, Bool.or_eq_true, Bool.and_eq_true, decide_eq_true_eq, decide_eq_false_iff_not, beq_iff_eq, Bool.not_eq_false']; omega) | (simp; done) | (simp; omega) | (intros; omega) | (simp_all; done) | (simp_all; omega))) (fun hq => (absurd hq (by simp) : FnOK LaidW Tryz.prog 10 _ (bv false))) ?_
            simp only [go_sem, hwab, hwi, hwe, hw1, hwn, q1, q2, q3, q4, q5]
            repeat refine ob2 ?_
            exact hQ
          refine Exec.cond (t := false) rfl ?_
          simp only [reduceIte, Bool.false_eq_true]
          refine Exec.skip ?_
          refine Exec.inBlock ?_
          apply Exec.regionL te_ok
          · intro ops' Q hQ
            simp only [go_sem, hwab, hwi, hwe, hw1, hwn, q1, q2, q3, q4, q5]
            repeat refine ob2 ?_
            exact hQ
          refine Exec.back (ih0 (i + 1) ?_ ?_) ?_ ?_ ?_ ?_ ?_ ?_ ?_
          · try simp only
            omega
          · try simp only
            omega
          · rfl
          · rfl
          · (simp only [go_sem, hwab, hwi, hwe, hw1, hwn, q1, q2, q3, q4, q5])
          · (simp only [go_sem, hwab, hwi, hwe, hw1, hwn, q1, q2, q3, q4, q5])
          · (simp only [go_sem, hwab, hwi, hwe, hw1, hwn, q1, q2, q3, q4, q5])
          · simp only [go_sem, hwab, hwi, hwe, hw1, hwn, q1, q2, q3, q4, q5]
          · rfl
        · skip
          have hn := hww.resolve_left hs14
          have q2 := head_ne hw0 hn.2
          apply Exec.regionL te_ok
          · intro ops' Q hQ
            simp only [go_sem, hwab, hwi, hwe, hw1, hwn, q2]
            repeat refine ob2 ?_
            refine kcallG hR.inv te_ok rfl rfl rfl rfl rfl rfl (by simp only [go_sem] <;> (first | assumption | omega | (simp only [Bool.not_eq_true', Bool.or_eq_false_iff, Bool.or_eq_true, Bool.and_eq_true, decide_eq_true_eq, decide_eq_false_iff_not, beq_iff_eq, Bool.not_eq_false']; omega) | (simp; done) | (simp; omega) | (intros; omega) | (simp_all; done) | (simp_all; omega))) (fun hq => (absurd hq (by simp) : FnOK LaidW Tryz.prog 9 _ (bv false))) ?_
            simp only [go_sem, hwab, hwi, hwe, hw1, hwn, q2]
            repeat refine ob2 ?_
            exact hQ
          refine Exec.seq ?_
          apply Exec.regionL te_ok
          · intro ops' Q hQ
            simp only [go_sem, hwab, hwi, hwe, hw1, hwn, q2]
            repeat refine ob2 ?_
            refine kcallG hR.inv te_ok rfl rfl rfl rfl rfl rfl (by simp only [go_sem] <;> (first | assumption | omega | (simp only [Bool.not_eq_true', Bool.or_eq_false_iff, Bool.or_eq_true, Bool.and_eq_true, decide_eq_true_eq, decide_eq_false_iff_not, beq_iff_eq, Bool.not_eq_false']; omega) | (simp; done) | (simp; omega) | (intros; omega) | (simp_all; done) | (simp_all; omega))) (fun hq => conAny_ok _ (by omega) hn.1 hn.2) ?_
            simp only [go_sem, hwab, hwi, hwe, hw1, hwn, q2]
            repeat refine ob2 ?_
            exact hQ
          refine Exec.cond (t := false) rfl ?_
          simp only [reduceIte, Bool.false_eq_true]
          refine Exec.skip ?_
          refine Exec.inBlock ?_
          apply Exec.regionL te_ok
          · intro ops' Q hQ
            simp only [go_sem, hwab, hwi, hwe, hw1, hwn, q2]
            repeat refine ob2 ?_
            exact hQ
          refine Exec.back (ih0 (i + 1) ?_ ?_) ?_ ?_ ?_ ?_ ?_ ?_ ?_
          · try simp only
            omega
          · try simp only
            omega
          · rfl
          · rfl
          · (simp only [go_sem, hwab, hwi, hwe, hw1, hwn, q2])
          · (simp only [go_sem, hwab, hwi, hwe, hw1, hwn, q2])
          · (simp only [go_sem, hwab, hwi, hwe, hw1, hwn, q2])
          · simp only [go_sem, hwab, hwi, hwe, hw1, hwn, q2]
          · rfl
      · skip
        refine Exec.exit rfl ?_
        refine Exec.seq ?_
        apply Exec.regionL te_ok
        · intro ops' Q hQ
          simp only [go_sem, hwab]
          repeat refine ob2 ?_
          exact hQ
        refine Exec.seq ?_
        refine Exec.seq ?_
        refine Exec.regStart 2 rfl ?_
        apply Exec.regPart 0 1 1 te_ok rfl
        · intro ops' Q hQ
          simp only [go_sem, hwab]
          repeat refine ob2 ?_
          exact hQ
        refine Exec.enter (m := 0) rfl rfl rfl rfl rfl rfl Tryz.func11 Tryz.ntmps11 rfl (by as_aux_lemma => kernel_rfl) (Nat.le_of_ble_eq_true rfl) (fun ai0 hai0 hdi0 => ?_)
        refine Exec.ren (swJ 5) ?_
        apply Exec.norm
        · try simp only [go_sem, hwab]
          rfl
        refine Exec.seq ?_
        apply Exec.regionL te_ok
        · intro ops' Q hQ
          simp only [go_sem, hwab]
          repeat refine ob2 ?_
          exact hQ
        refine Exec.seq ?_
        apply Exec.regionL te_ok
        · intro ops' Q hQ
          simp only [go_sem, hwab]
          repeat refine ob2 ?_
          exact hQ
        refine Exec.leave te_ok Tryz.func11 rfl rfl rfl (.inr ⟨_, rfl⟩) rfl rfl hai0 hdi0 rfl rfl ?_
        refine Exec.ren (swJ 5) ?_
        apply Exec.norm
        · try simp only [go_sem, hwab]
          rfl
        refine Exec.regEnd ?_
        refine Exec.block ?_
        apply Exec.prune [0, 4, 14, 15, 107, 108]
        case hw => simp only [go_sem, hwab]
        apply Exec.norm
        · try simp only [go_sem, hwab]
          rfl
        refine Exec.range 1 hR.round hR.bfn rfl rfl Tryz.func19 Tryz.ntmps19 rfl (by as_aux_lemma => kernel_rfl) (Nat.le_of_ble_eq_true rfl) (fun a0 l0 r0 lo0 hlo0 hN0 hD0 hfr0 hfl0 => ?_)
        apply Exec.norm
        · try simp only [go_sem, hwab]
          rfl
        refine Exec.seq ?_
        apply Exec.regionL te_ok
        · intro ops' Q hQ
          simp only [go_sem, hwab]
          repeat refine ob2 ?_
          exact hQ
        refine Exec.seq ?_
        refine Exec.regStart 2 rfl ?_
        apply Exec.regPart 0 1 1 te_ok rfl
        · intro ops' Q hQ
          simp only [go_sem, hwab]
          repeat refine ob2 ?_
          exact hQ
        refine Exec.enter (m := 0) rfl rfl rfl rfl rfl rfl Tryz.func20 Tryz.ntmps20 rfl (by as_aux_lemma => kernel_rfl) (Nat.le_of_ble_eq_true rfl) (fun ai1 hai1 hdi1 => ?_)
        refine Exec.ren (swJ 6) ?_
        apply Exec.norm
        · try simp only [go_sem, hwab]
          rfl
        refine Exec.seq ?_
        apply Exec.regionL te_ok
        · intro ops' Q hQ
          simp only [go_sem, hwab]
          repeat refine ob2 ?_
          exact hQ
        refine Exec.seq ?_
        apply Exec.regionL te_ok
        · intro ops' Q hQ
          simp only [go_sem, hwab]
          repeat refine ob2 ?_
          exact hQ
        refine Exec.leave te_ok Tryz.func20 rfl rfl rfl (.inr ⟨_, rfl⟩) rfl rfl hai1 hdi1 rfl rfl ?_
        refine Exec.ren (swJ 6) ?_
        apply Exec.norm
        · try simp only [go_sem, hwab]
          rfl
        refine Exec.regEnd ?_
        refine Exec.block ?_
        refine Exec.range 2 rfl rfl rfl rfl Tryz.func37 Tryz.ntmps37 rfl (by as_aux_lemma => kernel_rfl) (Nat.le_of_ble_eq_true rfl) (fun a1 l1 r1 lo1 hlo1 hN1 hD1 hfr1 hfl1 => ?_)
        apply Exec.norm
        · try simp only [go_sem, hwab]
          rfl
        refine Exec.block ?_
        refine Exec.ownNilL 1014 0 1500 9 1 rfl rfl rfl ?_
        apply Exec.norm
        · try simp only [go_sem]
          rfl
        apply Exec.loopU [0, 1] (X := List UInt8 × List (List UInt8)) (fun ⟨r, l⟩ => []) (fun ⟨r, l⟩ => [(6001, 9, [.d (sv r)]), (1014, 23, [.own 1500])]) (fun ⟨r, l⟩ => [(1500, ⟨9, 1, l.length, l.length, fun j => [sv (nth l j)]⟩)]) (fun ⟨r, l⟩ => r.length) (fun ⟨r, l⟩ => l.length + r.length ≤ s.length ∧ lnL s = l ++ lnL r) (s, [])
        case h0 =>
          exact ⟨by simp, by simp⟩
        case hw =>
          simp only [go_sem]; exact fun i hi => absurd hi (Nat.not_lt_zero i)
        case body =>
          rintro ⟨r, l⟩ hx ih1
          try simp only at hx
          apply Exec.norm
          · try simp only [go_sem, hwab]
            rfl
          refine Exec.seq ?_
          refine Exec.seq ?_
          apply Exec.regionL te_ok
          · intro ops' Q hQ
            simp only [go_sem, hwab]
            repeat refine ob2 ?_
            exact hQ
          refine Exec.cond_split rfl (fun h5 => ?_) (fun h5 => ?_)
          · skip
            have hr0 : 0 < r.length := by have := of_decide_eq_true h5; omega
            have hsp := spn_le 10 r
            refine Exec.skip ?_
            refine Exec.block ?_
            refine Exec.seq ?_
            apply Exec.regionL te_ok
            · intro ops' Q hQ
              simp only [go_sem, hwab]
              repeat refine ob2 ?_
              exact hQ
            refine Exec.seq ?_
            refine Exec.seq ?_
            rcases Classical.em (spn 10 r < r.length) with hs37002 | hs37002
            · skip
              have hs := hs37002
              have hI : Lib.indexByte r (Int.toNat 10).toUInt8 = (spn 10 r : Int) := by rw [idx10, if_pos hs]
              have hge : decide ((0 : Int) ≤ (spn 10 r : Int)) = true := decide_eq_true (by omega)
              have hw1 : IntKind.i64.wrap ((spn 10 r : Int) + 1) = ((spn 10 r + 1 : Nat) : Int) := by rw [wrap_id (by constructor <;> omega)]; simp
              have hrn := rest_n (r := r) (a := spn 10 r + 1) (by omega)
              have htl := trim_line hs
              have hnm : decide ((10 : UInt8) ∈ r.take (spn 10 r)) = false := decide_eq_false (spn_notin 10 r)
              apply Exec.regionL te_ok
              · intro ops' Q hQ
                simp only [go_sem, hwab, hI, hge, hw1, hrn, htl, hnm, Int.toNat_natCast]
                repeat refine ob2 ?_
                refine kcall hR.inv te_ok rfl rfl rfl rfl rfl rfl (indexByte_ok _ _) ?_
                simp only [go_sem, hwab, hI, hge, hw1, hrn, htl, hnm, Int.toNat_natCast]
                repeat refine ob2 ?_
                exact hQ
              refine Exec.seq ?_
              apply Exec.regionL te_ok
              · intro ops' Q hQ
                simp only [go_sem, hwab, hI, hge, hw1, hrn, htl, hnm, Int.toNat_natCast]
                repeat refine ob2 ?_
                exact hQ
              refine Exec.cond (t := true) rfl ?_
              simp only [reduceIte, Bool.false_eq_true]
              apply Exec.draw (st := _) 11 9 [] [] te_ok (by as_aux_lemma => kernel_rfl) (by as_aux_lemma => kernel_rfl) (by as_aux_lemma => kernel_rfl)
              · intro ops' Q hQ
                simp only [go_sem, hwab, hI, hge, hw1, hrn, htl, hnm, Int.toNat_natCast]
                repeat refine ob2 ?_
                exact hQ
              refine Exec.seq ?_
              refine Exec.regStart 4 rfl ?_
              apply Exec.regPart 0 2 2 te_ok rfl
              · intro ops' Q hQ
                simp only [go_sem, hwab, hI, hge, hw1, hrn, htl, hnm, Int.toNat_natCast]
                repeat refine ob2 ?_
                exact hQ
              refine Exec.yield 2 (m := 1) rfl rfl rfl rfl rfl rfl hlo1 rfl hN1 rfl (fun ag0 hag0 hdg0 => ?_)
              apply Exec.norm
              · try simp only [go_sem, hwab, hI, hge, hw1, hrn, htl, hnm, Int.toNat_natCast]
                rfl
              apply Exec.regionL te_ok
              · intro ops' Q hQ
                simp only [go_sem, hwab, hI, hge, hw1, hrn, htl, hnm, Int.toNat_natCast]
                repeat refine ob2 ?_
                exact hQ
              refine Exec.begin rfl hlo1 hfl1 ?_
              apply Exec.norm
              · try simp only [go_sem, hwab, hI, hge, hw1, hrn, htl, hnm, Int.toNat_natCast]
                rfl
              refine Exec.block ?_
              refine Exec.seq ?_
              refine Exec.drawL [[0, 1, 2, 3, 4], [1, 0, 2, 3, 4], [1, 2, 0, 3, 4]] (by as_aux_lemma => kernel_rfl) (by as_aux_lemma => kernel_rfl) ?_
              apply three
              case h1 =>
                intro hK
                refine Exec.opAny te_ok rfl rfl (by simp only [go_sem, hwab, hI, hge, hw1, hrn, htl, hnm, Int.toNat_natCast]; rfl) trivial ?_
                apply Exec.norm
                · try simp only [go_sem, hwab, hI, hge, hw1, hrn, htl, hnm, Int.toNat_natCast]
                  rfl
                refine Exec.opAny te_ok rfl rfl (by simp only [go_sem, hwab, hI, hge, hw1, hrn, htl, hnm, Int.toNat_natCast]; rfl) trivial ?_
                apply Exec.norm
                · try simp only [go_sem, hwab, hI, hge, hw1, hrn, htl, hnm, Int.toNat_natCast]
                  rfl
                refine Exec.callAny hR.inv rfl rfl rfl rfl rfl rfl rfl (trimSuffix_ok _ _ (by first | omega | (simp; omega))) ?_
                apply Exec.norm
                · try simp only [go_sem, hwab, hI, hge, hw1, hrn, htl, hnm, Int.toNat_natCast]
                  rfl
                exact hK.out
              case h2 =>
                intro hK
                refine Exec.opAny te_ok rfl rfl (by simp only [go_sem, hwab, hI, hge, hw1, hrn, htl, hnm, Int.toNat_natCast]; rfl) trivial ?_
                apply Exec.norm
                · try simp only [go_sem, hwab, hI, hge, hw1, hrn, htl, hnm, Int.toNat_natCast]
                  rfl
                refine Exec.opAny te_ok rfl rfl (by simp only [go_sem, hwab, hI, hge, hw1, hrn, htl, hnm, Int.toNat_natCast]; rfl) trivial ?_
                apply Exec.norm
                · try simp only [go_sem, hwab, hI, hge, hw1, hrn, htl, hnm, Int.toNat_natCast]
                  rfl
                refine Exec.callAny hR.inv rfl rfl rfl rfl rfl rfl rfl (trimSuffix_ok _ _ (by first | omega | (simp; omega))) ?_
                apply Exec.norm
                · try simp only [go_sem, hwab, hI, hge, hw1, hrn, htl, hnm, Int.toNat_natCast]
                  rfl
                exact Exec.slotsTo _ (sl_2 (by decide)) hK.out
              case h3 =>
                intro hK
                refine Exec.opAny te_ok rfl rfl (by simp only [go_sem, hwab, hI, hge, hw1, hrn, htl, hnm, Int.toNat_natCast]; rfl) trivial ?_
                apply Exec.norm
                · try simp only [go_sem, hwab, hI, hge, hw1, hrn, htl, hnm, Int.toNat_natCast]
                  rfl
                refine Exec.callAny hR.inv rfl rfl rfl rfl rfl rfl rfl (trimSuffix_ok _ _ (by first | omega | (simp; omega))) ?_
                apply Exec.norm
                · try simp only [go_sem, hwab, hI, hge, hw1, hrn, htl, hnm, Int.toNat_natCast]
                  rfl
                refine Exec.opAny te_ok rfl rfl (by simp only [go_sem, hwab, hI, hge, hw1, hrn, htl, hnm, Int.toNat_natCast]; rfl) trivial ?_
                apply Exec.norm
                · try simp only [go_sem, hwab, hI, hge, hw1, hrn, htl, hnm, Int.toNat_natCast]
                  rfl
                exact Exec.slotsTo _ (sl_3 (by decide) (by decide) (by decide)) hK.out
              refine Exec.pins [(l0, lo0 .ready none), (l1, lo1 .busy none), (r1, .deferred (some [])), (r0, .deferred (some []))] mem_sw ?_
              have hfx := fresh_out (x1 := lo1 .busy none) (z1 := .deferred (some [])) hfl0 hfr1 hfl1
              refine Exec.yieldD 1 (i := 3) (m := 1) rfl rfl rfl rfl rfl rfl hlo0 (.tail _ (.tail _ (.head _))) hN0 rfl (fun ag1 hag1 hdg1 => ?_)
              apply Exec.norm
              · try simp only [go_sem, hwab, hI, hge, hw1, hrn, htl, hnm, Int.toNat_natCast]
                rfl
              apply Exec.regionL te_ok
              · intro ops' Q hQ
                simp only [go_sem, hwab, hI, hge, hw1, hrn, htl, hnm, Int.toNat_natCast]
                repeat refine ob2 ?_
                exact hQ
              refine Exec.begin rfl hlo0 hfx ?_
              apply Exec.norm
              · try simp only [go_sem, hwab, hI, hge, hw1, hrn, htl, hnm, Int.toNat_natCast]
                rfl
              refine Exec.block ?_
              refine Exec.seq ?_
              refine Exec.seq ?_
              apply Exec.regionL te_ok
              · intro ops' Q hQ
                simp only [go_sem, hwab, hI, hge, hw1, hrn, htl, hnm, Int.toNat_natCast]
                repeat refine ob2 ?_
                refine kcall hR.inv te_ok rfl rfl rfl rfl rfl rfl (contains_ok _ _) ?_
                simp only [go_sem, hwab, hI, hge, hw1, hrn, htl, hnm, Int.toNat_natCast]
                repeat refine ob2 ?_
                exact hQ
              refine Exec.cond (t := false) rfl ?_
              simp only [reduceIte, Bool.false_eq_true]
              refine Exec.skip ?_
              apply Exec.regionL te_ok
              · intro ops' Q hQ
                simp only [go_sem, hwab, hI, hge, hw1, hrn, htl, hnm, Int.toNat_natCast]
                repeat refine ob2 ?_
                exact hQ
              refine Exec.inBlock ?_
              refine Exec.roundEnd 1 .fall rfl hlo0 hfx rfl hag1 hdg1 rfl rfl rfl ?_
              apply Exec.norm
              · try simp only [go_sem, hwab, hI, hge, hw1, hrn, htl, hnm, Int.toNat_natCast]
                rfl
              refine Exec.pins [(l1, lo1 .busy none), (r1, .deferred (some [])), (l0, lo0 .ready none), (r0, .deferred (some []))] mem_ws ?_
              apply Exec.norm
              · try simp only [go_sem, hwab, hI, hge, hw1, hrn, htl, hnm, Int.toNat_natCast]
                rfl
              apply Exec.regPart 4 1 0 te_ok rfl
              · intro ops' Q hQ
                simp only [go_sem, hwab, hI, hge, hw1, hrn, htl, hnm, Int.toNat_natCast]
                repeat refine ob2 ?_
                exact hQ
              refine Exec.regEnd ?_
              refine Exec.cond (t := false) rfl ?_
              simp only [reduceIte, Bool.false_eq_true]
              refine Exec.skip ?_
              refine Exec.inBlock ?_
              refine Exec.roundEnd 2 .fall rfl hlo1 hfl1 rfl hag0 hdg0 rfl rfl rfl ?_
              apply Exec.norm
              · try simp only [go_sem, hwab, hI, hge, hw1, hrn, htl, hnm, Int.toNat_natCast]
                rfl
              apply Exec.regPart 3 1 0 te_ok rfl
              · intro ops' Q hQ
                simp only [go_sem, hwab, hI, hge, hw1, hrn, htl, hnm, Int.toNat_natCast]
                repeat refine ob2 ?_
                exact hQ
              refine Exec.regEnd ?_
              refine Exec.cond (t := false) rfl ?_
              simp only [reduceIte, Bool.false_eq_true]
              refine Exec.skip ?_
              refine Exec.inBlock ?_
              refine Exec.back (ih1 (r.drop (spn 10 r + 1), l ++ [r.take (spn 10 r)]) ?_ ?_) ?_ ?_ ?_ ?_ ?_ ?_ ?_
              · try simp only
                first | exact ⟨by simp; omega, ln_st hx.2 hr0⟩ | exact ⟨by simp; omega, ln_sf hx.2 hr0 (by assumption)⟩
              · try simp only
                first | (rw [List.length_drop]; omega) | (simp; omega)
              · rfl
              · rfl
              · (simp only [go_sem])
              · (simp only [go_sem])
              · simp only [go_sem]
                all_goals exact ⟨by simp, .inl (by simp), fun q hq => catR_snoc (fun x => [sv x]) l _ q hq⟩
              · simp only [go_sem, hwab, hI, hge, hw1, hrn, htl, hnm, Int.toNat_natCast]
              · rfl
            · skip
              have hs := hs37002
              have hI : Lib.indexByte r (Int.toNat 10).toUInt8 = -1 := by rw [idx10, if_neg hs]
              have hge : decide ((0 : Int) ≤ -1) = false := rfl
              have htl := trim_last hs
              have hnm : decide ((10 : UInt8) ∈ r) = false := decide_eq_false (spn_all hs).2.2
              apply Exec.regionL te_ok
              · intro ops' Q hQ
                simp only [go_sem, hwab, hI, hge, htl, hnm]
                repeat refine ob2 ?_
                refine kcall hR.inv te_ok rfl rfl rfl rfl rfl rfl (indexByte_ok _ _) ?_
                simp only [go_sem, hwab, hI, hge, htl, hnm]
                repeat refine ob2 ?_
                exact hQ
              refine Exec.seq ?_
              apply Exec.regionL te_ok
              · intro ops' Q hQ
                simp only [go_sem, hwab, hI, hge, htl, hnm]
                repeat refine ob2 ?_
                exact hQ
              refine Exec.cond (t := false) rfl ?_
              simp only [reduceIte, Bool.false_eq_true]
              apply Exec.regionL te_ok
              · intro ops' Q hQ
                simp only [go_sem, hwab, hI, hge, htl, hnm]
                repeat refine ob2 ?_
                exact hQ
              refine Exec.seq ?_
              refine Exec.regStart 4 rfl ?_
              apply Exec.regPart 0 2 2 te_ok rfl
              · intro ops' Q hQ
                simp only [go_sem, hwab, hI, hge, htl, hnm]
                repeat refine ob2 ?_
                exact hQ
              refine Exec.yield 2 (m := 1) rfl rfl rfl rfl rfl rfl hlo1 rfl hN1 rfl (fun ag2 hag2 hdg2 => ?_)
              apply Exec.norm
              · try simp only [go_sem, hwab, hI, hge, htl, hnm]
                rfl
              apply Exec.regionL te_ok
              · intro ops' Q hQ
                simp only [go_sem, hwab, hI, hge, htl, hnm]
                repeat refine ob2 ?_
                exact hQ
              refine Exec.begin rfl hlo1 hfl1 ?_
              apply Exec.norm
              · try simp only [go_sem, hwab, hI, hge, htl, hnm]
                rfl
              refine Exec.block ?_
              refine Exec.seq ?_
              refine Exec.drawL [[0, 1, 2, 3, 4], [1, 0, 2, 3, 4], [1, 2, 0, 3, 4]] (by as_aux_lemma => kernel_rfl) (by as_aux_lemma => kernel_rfl) ?_
              apply three
              case h1 =>
                intro hK
                refine Exec.opAny te_ok rfl rfl (by simp only [go_sem, hwab, hI, hge, htl, hnm]; rfl) trivial ?_
                apply Exec.norm
                · try simp only [go_sem, hwab, hI, hge, htl, hnm]
                  rfl
                refine Exec.opAny te_ok rfl rfl (by simp only [go_sem, hwab, hI, hge, htl, hnm]; rfl) trivial ?_
                apply Exec.norm
                · try simp only [go_sem, hwab, hI, hge, htl, hnm]
                  rfl
                refine Exec.callAny hR.inv rfl rfl rfl rfl rfl rfl rfl (trimSuffix_ok _ _ (by first | omega | (simp; omega))) ?_
                apply Exec.norm
                · try simp only [go_sem, hwab, hI, hge, htl, hnm]
                  rfl
                exact hK.out
              case h2 =>
                intro hK
                refine Exec.opAny te_ok rfl rfl (by simp only [go_sem, hwab, hI, hge, htl, hnm]; rfl) trivial ?_
                apply Exec.norm
                · try simp only [go_sem, hwab, hI, hge, htl, hnm]
                  rfl
                refine Exec.opAny te_ok rfl rfl (by simp only [go_sem, hwab, hI, hge, htl, hnm]; rfl) trivial ?_
                apply Exec.norm
                · try simp only [go_sem, hwab, hI, hge, htl, hnm]
                  rfl
                refine Exec.callAny hR.inv rfl rfl rfl rfl rfl rfl rfl (trimSuffix_ok _ _ (by first | omega | (simp; omega))) ?_
                apply Exec.norm
                · try simp only [go_sem, hwab, hI, hge, htl, hnm]
                  rfl
                exact Exec.slotsTo _ (sl_2 (by decide)) hK.out
              case h3 =>
                intro hK
                refine Exec.opAny te_ok rfl rfl (by simp only [go_sem, hwab, hI, hge, htl, hnm]; rfl) trivial ?_
                apply Exec.norm
                · try simp only [go_sem, hwab, hI, hge, htl, hnm]
                  rfl
                refine Exec.callAny hR.inv rfl rfl rfl rfl rfl rfl rfl (trimSuffix_ok _ _ (by first | omega | (simp; omega))) ?_
                apply Exec.norm
                · try simp only [go_sem, hwab, hI, hge, htl, hnm]
                  rfl
                refine Exec.opAny te_ok rfl rfl (by simp only [go_sem, hwab, hI, hge, htl, hnm]; rfl) trivial ?_
                apply Exec.norm
                · try simp only [go_sem, hwab, hI, hge, htl, hnm]
                  rfl
                exact Exec.slotsTo _ (sl_3 (by decide) (by decide) (by decide)) hK.out
              refine Exec.pins [(l0, lo0 .ready none), (l1, lo1 .busy none), (r1, .deferred (some [])), (r0, .deferred (some []))] mem_sw ?_
              have hfx := fresh_out (x1 := lo1 .busy none) (z1 := .deferred (some [])) hfl0 hfr1 hfl1
              refine Exec.yieldD 1 (i := 3) (m := 1) rfl rfl rfl rfl rfl rfl hlo0 (.tail _ (.tail _ (.head _))) hN0 rfl (fun ag3 hag3 hdg3 => ?_)
              apply Exec.norm
              · try simp only [go_sem, hwab, hI, hge, htl, hnm]
                rfl
              apply Exec.regionL te_ok
              · intro ops' Q hQ
                simp only [go_sem, hwab, hI, hge, htl, hnm]
                repeat refine ob2 ?_
                exact hQ
              refine Exec.begin rfl hlo0 hfx ?_
              apply Exec.norm
              · try simp only [go_sem, hwab, hI, hge, htl, hnm]
                rfl
              refine Exec.block ?_
              refine Exec.seq ?_
              refine Exec.seq ?_
              apply Exec.regionL te_ok
              · intro ops' Q hQ
                simp only [go_sem, hwab, hI, hge, htl, hnm]
                repeat refine ob2 ?_
                refine kcall hR.inv te_ok rfl rfl rfl rfl rfl rfl (contains_ok _ _) ?_
                simp only [go_sem, hwab, hI, hge, htl, hnm]
                repeat refine ob2 ?_
                exact hQ
              refine Exec.cond (t := false) rfl ?_
              simp only [reduceIte, Bool.false_eq_true]
              refine Exec.skip ?_
              apply Exec.regionL te_ok
              · intro ops' Q hQ
                simp only [go_sem, hwab, hI, hge, htl, hnm]
                repeat refine ob2 ?_
                exact hQ
              refine Exec.inBlock ?_
              refine Exec.roundEnd 1 .fall rfl hlo0 hfx rfl hag3 hdg3 rfl rfl rfl ?_
              apply Exec.norm
              · try simp only [go_sem, hwab, hI, hge, htl, hnm]
                rfl
              refine Exec.pins [(l1, lo1 .busy none), (r1, .deferred (some [])), (l0, lo0 .ready none), (r0, .deferred (some []))] mem_ws ?_
              apply Exec.norm
              · try simp only [go_sem, hwab, hI, hge, htl, hnm]
                rfl
              apply Exec.regPart 4 1 0 te_ok rfl
              · intro ops' Q hQ
                simp only [go_sem, hwab, hI, hge, htl, hnm]
                repeat refine ob2 ?_
                exact hQ
              refine Exec.regEnd ?_
              refine Exec.cond (t := false) rfl ?_
              simp only [reduceIte, Bool.false_eq_true]
              refine Exec.skip ?_
              refine Exec.inBlock ?_
              refine Exec.roundEnd 2 .fall rfl hlo1 hfl1 rfl hag2 hdg2 rfl rfl rfl ?_
              apply Exec.norm
              · try simp only [go_sem, hwab, hI, hge, htl, hnm]
                rfl
              apply Exec.regPart 3 1 0 te_ok rfl
              · intro ops' Q hQ
                simp only [go_sem, hwab, hI, hge, htl, hnm]
                repeat refine ob2 ?_
                exact hQ
              refine Exec.regEnd ?_
              refine Exec.cond (t := false) rfl ?_
              simp only [reduceIte, Bool.false_eq_true]
              refine Exec.skip ?_
              refine Exec.inBlock ?_
              refine Exec.back (ih1 ([], l ++ [r]) ?_ ?_) ?_ ?_ ?_ ?_ ?_ ?_ ?_
              · try simp only
                first | exact ⟨by simp; omega, ln_st hx.2 hr0⟩ | exact ⟨by simp; omega, ln_sf hx.2 hr0 (by assumption)⟩
              · try simp only
                first | (rw [List.length_drop]; omega) | (simp; omega)
              · rfl
              · rfl
              · (simp only [go_sem])
              · (simp only [go_sem])
              · simp only [go_sem]
                all_goals exact ⟨by simp, .inl (by simp), fun q hq => catR_snoc (fun x => [sv x]) l _ q hq⟩
              · simp only [go_sem, hwab, hI, hge, htl, hnm]
              · rfl
          · skip
            have hr0 : r = [] := List.eq_nil_of_length_eq_zero (by have := of_decide_eq_false h5; omega)
            have hls : lnL s = l := by rw [hx.2, hr0]; simp [lnL_nil]
            refine Exec.freeze 1500 rfl ?_
            apply Exec.norm
            · try simp only [go_sem]
              rfl
            subst hls
            refine Exec.exit rfl ?_
            refine Exec.rangeEnd 2 (pd := none) Tryz.func37 rfl (.inl rfl) rfl rfl hlo1 hfl1 rfl rfl hN1 hD1 ?_
            apply Exec.norm
            · try simp only [go_sem, hwab]
              rfl
            refine Exec.inBlock ?_
            refine Exec.rangeEnd1 1 (pd := none) Tryz.func19 rfl (.inl rfl) rfl rfl hfr1 hlo0 hfl0 rfl rfl hN0 hD0 ?_
            apply Exec.norm
            · try simp only [go_sem, hwab]
              rfl
            refine Exec.inBlock ?_
            refine Exec.seq ?_
            apply Exec.regionL te_ok
            · intro ops' Q hQ
              simp only [go_sem, hwab]
              repeat refine ob2 ?_
              refine kcall hR.inv te_ok rfl rfl rfl rfl rfl rfl (join_ok _ _ (by have := lnL_len s; omega) (by have := join_le s; omega)) ?_
              simp only [go_sem, hwab]
              repeat refine ob2 ?_
              exact hQ
            refine Exec.seq ?_
            refine Exec.seq ?_
            apply Exec.regionL te_ok
            · intro ops' Q hQ
              simp only [go_sem, hwab]
              repeat refine ob2 ?_
              refine kcall hR.inv te_ok rfl rfl rfl rfl rfl rfl (hasSuffix_ok _ _ (by omega)) ?_
              simp only [go_sem, hwab]
              repeat refine ob2 ?_
              exact hQ
            refine Exec.cond_split rfl (fun h14 => ?_) (fun h14 => ?_)
            · skip
              have hjl := join_le s
              have hbk := bck_t h14
              apply Exec.regionL te_ok
              · intro ops' Q hQ
                simp only [go_sem, hwab, hbk]
                repeat refine ob2 ?_
                exact hQ
              refine Exec.seq ?_
              apply Exec.regionL te_ok
              · intro ops' Q hQ
                simp only [go_sem, hwab, hbk]
                repeat refine ob2 ?_
                exact hQ
              refine Exec.retsM hR te_ok rfl (.cons hfr0 .nil) rfl (LeX.le ?_) (.inr ⟨_, rfl⟩)
              simp only [go_sem]
              all_goals first | exact ln_or s | simp [ln_or s]
            · skip
              have hjl := join_le s
              have hbk := bck_f h14
              refine Exec.skip ?_
              refine Exec.seq ?_
              apply Exec.regionL te_ok
              · intro ops' Q hQ
                simp only [go_sem, hwab, hbk]
                repeat refine ob2 ?_
                exact hQ
              refine Exec.retsM hR te_ok rfl (.cons hfr0 .nil) rfl (LeX.le ?_) (.inr ⟨_, rfl⟩)
              simp only [go_sem]
              all_goals first | exact ln_or s | simp [ln_or s]
end Go.Proofs.YtgnhhjojiipmgaaGreatDoor
