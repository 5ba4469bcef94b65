/- Steps of a function body on data, and contracts of the functions of the seat, walked. -/
import Derived.Test.YtonchjamoblioaaGreatDoorPR6
set_option linter.unusedSimpArgs false
set_option linter.unusedVariables false
namespace Go.Proofs.YtonchjamoblioaaGreatDoor
open Go.Kin
set_option maxRecDepth 100000
set_option maxHeartbeats 0
theorem rQuery_ok (s : List UInt8) (hs : s.length ≤ 140737488351232) : FnOK LaidX Tryz.prog 57 [sv s] (.tup [quD (readR qz queryR s).1, iv (readR qz queryR s).2.1, iv (readR qz queryR s).2.2]) := by
 refine FnOK_of laidX_stable Tryz.func57 Tryz.ntmps57 rfl (by as_aux_lemma => kernel_rfl) (Nat.le_of_ble_eq_true rfl) (fun R hR => ?_)
 obtain ⟨_, b, cs, T, C⟩ := R
 obtain rfl : _ = Tryz.prog := hR.p
 have hnq : ∀ n : Nat, (n : Int) + 1 = ((n + 1 : Nat) : Int) := fun n => by simp
 refine sreg te_ok ?_
 refine sq ?_
 apply Exec.regionL te_ok
 ·intro o Q hQ
  simp only [go_sem]
  repeat refine ob2 ?_
  refine kcall hR.inv te_ok rfl rfl rfl rfl rfl rfl (rlex_ok s (by omega)) ?_
  simp only [go_sem]
  repeat refine ob2 ?_
  exact hQ
 refine sq ?_
 refine sreg te_ok ?_
 refine Exec.cond_split rfl (fun h0 => ?_) (fun h0 => ?_)
 ·have hE : lexE s ≠ 0 := by simpa using h0
  refine sreg te_ok ?_
  refine Exec.rets hR te_ok rfl rfl rfl (LeX.le ?_) (.inr ⟨_, rfl⟩)
  rw [readR_no hE]
  simp only [go_sem]
 ·have hE : lexE s = 0 := by simpa using h0
  obtain ⟨hk, h0n, _, _⟩ := lex_tk hE
  refine sk ?_
  refine sreg te_ok ?_
  refine sreg te_ok ?_
  refine sq ?_
  apply Exec.regionL te_ok
  ·intro o Q hQ
   simp only [go_sem]
   repeat refine ob2 ?_
   refine kcallM 34 hR.inv te_ok rfl rfl rfl rfl rfl rfl rfl rfl rfl ((rmust_ok (lexT s) ({ n := 0, b := -1, m := -1 } : RS) [109, 97, 116, 99, 104] hk h0n).weak laidX_laid) ?_
   simp only [go_sem]
   repeat refine ob2 ?_
   exact hQ
  refine sq ?_
  refine sreg te_ok ?_
  refine Exec.block ?_
  refine Exec.ownNilL 9 0 500 56 8 rfl rfl rfl ?_
  apply Exec.norm
  ·simp only [go_sem]
   rfl
  apply Exec.loopU [2, 8, 9] (X := RS × List Pt × Bool) (fun ⟨qA, accA, mA⟩ => [(10, .d (bv mA))]) (fun ⟨qA, accA, mA⟩ => [(9, 26, [.own 500, .d (.v (.slice none 0 0)), .d (.v (.slice none 0 0)), .d (iv 0), .d (iv 0)]), (34, 134, [.d (tksD (lexT s)), .d (iv qA.n), .d (iv qA.b), .d (iv qA.m)])]) (fun ⟨qA, accA, mA⟩ => [(500, ⟨56, 8, accA.length, accA.length, fun i => ptC (nth accA i)⟩)]) (fun ⟨qA, accA, mA⟩ => 2 * ((lexT s).length - qA.n) + (if mA = true then 1 else 0)) (fun ⟨qA, accA, mA⟩ => ((mustR (lexT s) [109, 97, 116, 99, 104] ({ n := 0, b := -1, m := -1 } : RS)).n ≤ qA.n ∧ qA.n < (lexT s).length ∧ accA.length ≤ qA.n + 1 ∧ (mA = true → accA.length ≤ qA.n)) ∧ qu2 (lexT s) ({ n := 0, b := -1, m := -1 } : RS) = if mA = true then manyR (lexT s) (patR (lexT s)) [44] 4 ((lexT s).length + 1 - accA.length) qA accA else (qA, accA)) ((mustR (lexT s) [109, 97, 116, 99, 104] ({ n := 0, b := -1, m := -1 } : RS)), [], true)
  case h0 =>
   exact ⟨⟨Nat.le_refl _, must_lt h0n, Nat.zero_le _, fun _ => Nat.zero_le _⟩, rfl⟩
  case hw =>
   simp only [go_sem]; exact fun i hi => absurd hi (Nat.not_lt_zero i)
  case body =>
   rintro ⟨qA, accA, mA⟩ hxA ih0
   try simp only at hxA
   have hfew := hk.few
   have hfA : 0 < (lexT s).length + 1 - accA.length := by have := hxA.1; omega
   apply Exec.norm
   ·simp only [go_sem]
    rfl
   refine sq ?_
   refine sreg te_ok ?_
   refine Exec.cond_split rfl (fun h1 => ?_) (fun h1 => ?_)
   ·have hAA := hxA.1.2.2.2 h1
    have hBA := hxA.2
    rw [if_pos h1] at hBA
    have hqA : qA.n < (lexT s).length := hxA.1.2.1
    have hgeA : (mustR (lexT s) [109, 97, 116, 99, 104] ({ n := 0, b := -1, m := -1 } : RS)).n ≤ qA.n := hxA.1.1
    have hstA : qA.n < (lexT s).length := hqA
    have hRA := patR_on 0 qA (Nat.zero_le _) hstA
    have hzpA : (((patR (lexT s) qA).1.much (nth (lexT s) qA.n).a)).n = ((patR (lexT s) qA).1).n := rfl
    have hYA : (((patR (lexT s) qA).1.much (nth (lexT s) qA.n).a)).n < (lexT s).length := hRA.2
    have hm1 : (if mA = true then 1 else 0 : Nat) = 1 := if_pos h1
    refine sk ?_
    refine Exec.block ?_
    refine sq ?_
    apply Exec.regionL te_ok
    ·intro o Q hQ
     simp only [go_sem]
     repeat refine ob2 ?_
     refine kcallM 34 hR.inv te_ok rfl rfl rfl rfl rfl rfl rfl rfl rfl ((rnext_ok (lexT s) qA hk hqA).weak laidX_laid) ?_
     simp only [go_sem]
     repeat refine ob2 ?_
     exact hQ
    refine sq ?_
    apply Exec.regionL te_ok
    ·intro o Q hQ
     simp only [go_sem]
     repeat refine ob2 ?_
     refine kcallM 34 hR.inv te_ok rfl rfl rfl rfl rfl rfl rfl rfl rfl ((rpattern_ok (lexT s) qA hk hqA).weak laidX_laid) ?_
     simp only [go_sem]
     repeat refine ob2 ?_
     exact hQ
    refine sreg te_ok ?_
    refine sq ?_
    refine sreg te_ok ?_
    refine Exec.cond_split rfl (fun h2 => ?_) (fun h2 => ?_)
    ·have hlA : accA.length = 4 := by have h9 := of_decide_eq_true (by simpa using h2 : decide ((accA.length : Int) + 1 = 5) = true); omega
     have hzA := manyR_y (l := lexT s) (it := patR (lexT s)) (w := [44]) (s := qA) hfA hlA
     rw [← hBA] at hzA
     apply Exec.regionL te_ok
     ·intro o Q hQ
      simp only [go_sem]
      repeat refine ob2 ?_
      refine kcallM 34 hR.inv te_ok rfl rfl rfl rfl rfl rfl rfl rfl rfl ((rmuch_ok (lexT s) (patR (lexT s) qA).1 _).weak laidX_laid) ?_
      simp only [go_sem]
      repeat refine ob2 ?_
      exact hQ
     refine sq ?_
     apply Exec.regionL te_ok
     ·intro o Q hQ
      simp only [go_sem]
      repeat refine ob2 ?_
      refine kcallM 34 hR.inv te_ok rfl rfl rfl rfl rfl rfl rfl rfl rfl ((ris_ok (lexT s) ((patR (lexT s) qA).1.much (nth (lexT s) qA.n).a) [44] hk hYA).weak laidX_laid) ?_
      simp only [go_sem]
      repeat refine ob2 ?_
      exact hQ
     refine sreg te_ok ?_
     refine Exec.cond_split rfl (fun h3 => ?_) (fun h3 => ?_)
     ·have hla : (accA ++ [(patR (lexT s) qA).2]).length = accA.length + 1 := by simp
      have hle : (lexT s).length + 1 - accA.length - 1 = (lexT s).length + 1 - (accA ++ [(patR (lexT s) qA).2]).length := by omega
      rw [hle] at hzA
      have hnext : qu2 (lexT s) ({ n := 0, b := -1, m := -1 } : RS) = if isR (lexT s) [44] ((patR (lexT s) qA).1.much (nth (lexT s) qA.n).a) = true then manyR (lexT s) (patR (lexT s)) [44] 4 ((lexT s).length + 1 - (accA ++ [(patR (lexT s) qA).2]).length) ((((patR (lexT s) qA).1.much (nth (lexT s) qA.n).a)).step (lexT s)) (accA ++ [(patR (lexT s) qA).2]) else (((((patR (lexT s) qA).1.much (nth (lexT s) qA.n).a)).step (lexT s)), (accA ++ [(patR (lexT s) qA).2])) := by rw [hzA, if_pos h3, if_pos h3]
      have hsp := isR_step hk hYA h3
      have hne : (((((patR (lexT s) qA).1.much (nth (lexT s) qA.n).a)).step (lexT s))).n < (lexT s).length := step_lt hYA
      have hgn : qA.n + 1 ≤ (((((patR (lexT s) qA).1.much (nth (lexT s) qA.n).a)).step (lexT s))).n := by omega
      have hmo : isR (lexT s) [44] ((patR (lexT s) qA).1.much (nth (lexT s) qA.n).a) = true → (accA ++ [(patR (lexT s) qA).2]).length ≤ (((((patR (lexT s) qA).1.much (nth (lexT s) qA.n).a)).step (lexT s))).n := fun _ => by omega
      have hmu : (if isR (lexT s) [44] ((patR (lexT s) qA).1.much (nth (lexT s) qA.n).a) = true then 1 else 0 : Nat) = 1 := if_pos h3
      apply Exec.regionL te_ok
      ·intro o Q hQ
       simp only [go_sem]
       repeat refine ob2 ?_
       refine kcallM 34 hR.inv te_ok rfl rfl rfl rfl rfl rfl rfl rfl rfl ((rstep_ok (lexT s) ((patR (lexT s) qA).1.much (nth (lexT s) qA.n).a) hk hYA).weak laidX_laid) ?_
       simp only [go_sem]
       repeat refine ob2 ?_
       exact hQ
      refine Exec.inBlock ?_
      refine Exec.back (ih0 ((((patR (lexT s) qA).1.much (nth (lexT s) qA.n).a)).step (lexT s), accA ++ [(patR (lexT s) qA).2], isR (lexT s) [44] ((patR (lexT s) qA).1.much (nth (lexT s) qA.n).a)) ?_ ?_) ?_ ?_ ?_ ?_ ?_ ?_ ?_
      ·try simp only
       exact ⟨⟨by omega, hne, by omega, hmo⟩, hnext⟩
      ·try simp only
       omega
      ·rfl
      ·rfl
      ·(simp only [go_sem])
      ·(simp only [go_sem])
      ·simp only [go_sem]
       exact ⟨by simp, .inl (by simp), fun i hi => catR_snoc ptC accA (patR (lexT s) qA).2 i hi⟩
      ·simp only [go_sem]
      ·rfl
     ·have hla : (accA ++ [(patR (lexT s) qA).2]).length = accA.length + 1 := by simp
      have hle : (lexT s).length + 1 - accA.length - 1 = (lexT s).length + 1 - (accA ++ [(patR (lexT s) qA).2]).length := by omega
      rw [hle] at hzA
      have hmn : ¬ (isR (lexT s) [44] ((patR (lexT s) qA).1.much (nth (lexT s) qA.n).a) = true) := by rw [h3]; decide
      have hnext : qu2 (lexT s) ({ n := 0, b := -1, m := -1 } : RS) = if isR (lexT s) [44] ((patR (lexT s) qA).1.much (nth (lexT s) qA.n).a) = true then manyR (lexT s) (patR (lexT s)) [44] 4 ((lexT s).length + 1 - (accA ++ [(patR (lexT s) qA).2]).length) ((patR (lexT s) qA).1.much (nth (lexT s) qA.n).a) (accA ++ [(patR (lexT s) qA).2]) else (((patR (lexT s) qA).1.much (nth (lexT s) qA.n).a), (accA ++ [(patR (lexT s) qA).2])) := by rw [hzA, if_neg hmn, if_neg hmn]
      have hne : (((patR (lexT s) qA).1.much (nth (lexT s) qA.n).a)).n < (lexT s).length := hYA
      have hgn : qA.n ≤ (((patR (lexT s) qA).1.much (nth (lexT s) qA.n).a)).n := by omega
      have hmo : isR (lexT s) [44] ((patR (lexT s) qA).1.much (nth (lexT s) qA.n).a) = true → (accA ++ [(patR (lexT s) qA).2]).length ≤ (((patR (lexT s) qA).1.much (nth (lexT s) qA.n).a)).n := fun h => absurd h hmn
      have hmu : (if isR (lexT s) [44] ((patR (lexT s) qA).1.much (nth (lexT s) qA.n).a) = true then 1 else 0 : Nat) = 0 := if_neg hmn
      refine sk ?_
      refine Exec.inBlock ?_
      refine Exec.back (ih0 (((patR (lexT s) qA).1.much (nth (lexT s) qA.n).a), accA ++ [(patR (lexT s) qA).2], isR (lexT s) [44] ((patR (lexT s) qA).1.much (nth (lexT s) qA.n).a)) ?_ ?_) ?_ ?_ ?_ ?_ ?_ ?_ ?_
      ·try simp only
       exact ⟨⟨by omega, hne, by omega, hmo⟩, hnext⟩
      ·try simp only
       omega
      ·rfl
      ·rfl
      ·(simp only [go_sem])
      ·(simp only [go_sem])
      ·simp only [go_sem]
       exact ⟨by simp, .inl (by simp), fun i hi => catR_snoc ptC accA (patR (lexT s) qA).2 i hi⟩
      ·simp only [go_sem]
      ·rfl
    ·have hlA : ¬ accA.length = 4 := by have h9 := of_decide_eq_false (by simpa using h2 : decide ((accA.length : Int) + 1 = 5) = false); omega
     have hzA := manyR_n (l := lexT s) (it := patR (lexT s)) (w := [44]) (s := qA) hfA hlA
     rw [← hBA] at hzA
     refine sk ?_
     refine sq ?_
     apply Exec.regionL te_ok
     ·intro o Q hQ
      simp only [go_sem]
      repeat refine ob2 ?_
      refine kcallM 34 hR.inv te_ok rfl rfl rfl rfl rfl rfl rfl rfl rfl ((ris_ok (lexT s) (patR (lexT s) qA).1 [44] hk hRA.2).weak laidX_laid) ?_
      simp only [go_sem]
      repeat refine ob2 ?_
      exact hQ
     refine sreg te_ok ?_
     refine Exec.cond_split rfl (fun h4 => ?_) (fun h4 => ?_)
     ·have hla : (accA ++ [(patR (lexT s) qA).2]).length = accA.length + 1 := by simp
      have hle : (lexT s).length + 1 - accA.length - 1 = (lexT s).length + 1 - (accA ++ [(patR (lexT s) qA).2]).length := by omega
      rw [hle] at hzA
      have hnext : qu2 (lexT s) ({ n := 0, b := -1, m := -1 } : RS) = if isR (lexT s) [44] (patR (lexT s) qA).1 = true then manyR (lexT s) (patR (lexT s)) [44] 4 ((lexT s).length + 1 - (accA ++ [(patR (lexT s) qA).2]).length) (((patR (lexT s) qA).1).step (lexT s)) (accA ++ [(patR (lexT s) qA).2]) else ((((patR (lexT s) qA).1).step (lexT s)), (accA ++ [(patR (lexT s) qA).2])) := by rw [hzA, if_pos h4, if_pos h4]
      have hsp := isR_step hk hRA.2 h4
      have hne : ((((patR (lexT s) qA).1).step (lexT s))).n < (lexT s).length := step_lt hRA.2
      have hgn : qA.n + 1 ≤ ((((patR (lexT s) qA).1).step (lexT s))).n := by omega
      have hmo : isR (lexT s) [44] (patR (lexT s) qA).1 = true → (accA ++ [(patR (lexT s) qA).2]).length ≤ ((((patR (lexT s) qA).1).step (lexT s))).n := fun _ => by omega
      have hmu : (if isR (lexT s) [44] (patR (lexT s) qA).1 = true then 1 else 0 : Nat) = 1 := if_pos h4
      apply Exec.regionL te_ok
      ·intro o Q hQ
       simp only [go_sem]
       repeat refine ob2 ?_
       refine kcallM 34 hR.inv te_ok rfl rfl rfl rfl rfl rfl rfl rfl rfl ((rstep_ok (lexT s) (patR (lexT s) qA).1 hk hRA.2).weak laidX_laid) ?_
       simp only [go_sem]
       repeat refine ob2 ?_
       exact hQ
      refine Exec.inBlock ?_
      refine Exec.back (ih0 (((patR (lexT s) qA).1).step (lexT s), accA ++ [(patR (lexT s) qA).2], isR (lexT s) [44] (patR (lexT s) qA).1) ?_ ?_) ?_ ?_ ?_ ?_ ?_ ?_ ?_
      ·try simp only
       exact ⟨⟨by omega, hne, by omega, hmo⟩, hnext⟩
      ·try simp only
       omega
      ·rfl
      ·rfl
      ·(simp only [go_sem])
      ·(simp only [go_sem])
      ·simp only [go_sem]
       exact ⟨by simp, .inl (by simp), fun i hi => catR_snoc ptC accA (patR (lexT s) qA).2 i hi⟩
      ·simp only [go_sem]
      ·rfl
     ·have hla : (accA ++ [(patR (lexT s) qA).2]).length = accA.length + 1 := by simp
      have hle : (lexT s).length + 1 - accA.length - 1 = (lexT s).length + 1 - (accA ++ [(patR (lexT s) qA).2]).length := by omega
      rw [hle] at hzA
      have hmn : ¬ (isR (lexT s) [44] (patR (lexT s) qA).1 = true) := by rw [h4]; decide
      have hnext : qu2 (lexT s) ({ n := 0, b := -1, m := -1 } : RS) = if isR (lexT s) [44] (patR (lexT s) qA).1 = true then manyR (lexT s) (patR (lexT s)) [44] 4 ((lexT s).length + 1 - (accA ++ [(patR (lexT s) qA).2]).length) (patR (lexT s) qA).1 (accA ++ [(patR (lexT s) qA).2]) else ((patR (lexT s) qA).1, (accA ++ [(patR (lexT s) qA).2])) := by rw [hzA, if_neg hmn, if_neg hmn]
      have hne : ((patR (lexT s) qA).1).n < (lexT s).length := hRA.2
      have hgn : qA.n ≤ ((patR (lexT s) qA).1).n := by omega
      have hmo : isR (lexT s) [44] (patR (lexT s) qA).1 = true → (accA ++ [(patR (lexT s) qA).2]).length ≤ ((patR (lexT s) qA).1).n := fun h => absurd h hmn
      have hmu : (if isR (lexT s) [44] (patR (lexT s) qA).1 = true then 1 else 0 : Nat) = 0 := if_neg hmn
      refine sk ?_
      refine Exec.inBlock ?_
      refine Exec.back (ih0 ((patR (lexT s) qA).1, accA ++ [(patR (lexT s) qA).2], isR (lexT s) [44] (patR (lexT s) qA).1) ?_ ?_) ?_ ?_ ?_ ?_ ?_ ?_ ?_
      ·try simp only
       exact ⟨⟨by omega, hne, by omega, hmo⟩, hnext⟩
      ·try simp only
       omega
      ·rfl
      ·rfl
      ·(simp only [go_sem])
      ·(simp only [go_sem])
      ·simp only [go_sem]
       exact ⟨by simp, .inl (by simp), fun i hi => catR_snoc ptC accA (patR (lexT s) qA).2 i hi⟩
      ·simp only [go_sem]
      ·rfl
   ·have hmA : ¬ (mA = true) := by rw [h1]; decide
    have hEA := hxA.2
    rw [if_neg hmA] at hEA
    have hqA : qA.n < (lexT s).length := hxA.1.2.1
    refine Exec.exit rfl ?_
    refine sq ?_
    refine sq ?_
    refine Exec.freeze 500 rfl ?_
    apply Exec.norm
    ·simp only [go_sem]
     rfl
    apply Exec.regionL te_ok
    ·intro o Q hQ
     simp only [go_sem]
     repeat refine ob2 ?_
     refine kcallM 34 hR.inv te_ok rfl rfl rfl rfl rfl rfl rfl rfl rfl ((ris_ok (lexT s) qA [119, 104, 101, 114, 101] hk hqA).weak laidX_laid) ?_
     simp only [go_sem]
     repeat refine ob2 ?_
     exact hQ
    refine Exec.block ?_
    refine Exec.ownNilL 9 1 501 53 13 rfl rfl rfl ?_
    apply Exec.norm
    ·simp only [go_sem]
     rfl
    apply Exec.loopU [2, 8, 9] (X := RS × List Cd × Bool) (fun ⟨qB, accB, mB⟩ => [(13, .d (bv mB))]) (fun ⟨qB, accB, mB⟩ => [(9, 26, [.d (ptsD accA), .own 501, .d (.v (.slice none 0 0)), .d (iv 0), .d (iv 0)]), (34, 134, [.d (tksD (lexT s)), .d (iv qB.n), .d (iv qB.b), .d (iv qB.m)])]) (fun ⟨qB, accB, mB⟩ => [(501, ⟨53, 13, accB.length, accB.length, fun i => cdC (nth accB i)⟩)]) (fun ⟨qB, accB, mB⟩ => 2 * ((lexT s).length - qB.n) + (if mB = true then 1 else 0)) (fun ⟨qB, accB, mB⟩ => (qA.n ≤ qB.n ∧ qB.n < (lexT s).length ∧ accB.length ≤ qB.n + 1 ∧ (mB = true → accB.length ≤ qB.n ∧ (qB.step (lexT s)).n = qB.n + 1 ∧ qB.n + 1 < (lexT s).length)) ∧ qu3 (lexT s) qA = if mB = true then manyR (lexT s) (condR (lexT s)) [97, 110, 100] 6 ((lexT s).length + 1 - accB.length) ((qB).step (lexT s)) accB else (qB, accB)) (qA, [], isR (lexT s) [119, 104, 101, 114, 101] qA)
    case h0 =>
     exact ⟨⟨Nat.le_refl _, hqA, Nat.zero_le _, fun h => ⟨Nat.zero_le _, isR_step hk hqA h⟩⟩, rfl⟩
    case hw =>
     simp only [go_sem]; exact fun i hi => absurd hi (Nat.not_lt_zero i)
    case body =>
     rintro ⟨qB, accB, mB⟩ hxB ih1
     try simp only at hxB
     have hfew := hk.few
     have hfB : 0 < (lexT s).length + 1 - accB.length := by have := hxB.1; omega
     apply Exec.norm
     ·simp only [go_sem]
      rfl
     refine sq ?_
     refine sreg te_ok ?_
     refine Exec.cond_split rfl (fun h5 => ?_) (fun h5 => ?_)
     ·have hAB := hxB.1.2.2.2 h5
      have hBB := hxB.2
      rw [if_pos h5] at hBB
      have hqB : qB.n < (lexT s).length := hxB.1.2.1
      have hgeB : qA.n ≤ qB.n := hxB.1.1
      have hstB : ((qB).step (lexT s)).n < (lexT s).length := step_lt hqB
      have hRB := condR_on 0 ((qB).step (lexT s)) (Nat.zero_le _) hstB
      have hzpB : (((condR (lexT s) ((qB).step (lexT s))).1.much (nth (lexT s) ((qB).step (lexT s)).n).a)).n = ((condR (lexT s) ((qB).step (lexT s))).1).n := rfl
      have hYB : (((condR (lexT s) ((qB).step (lexT s))).1.much (nth (lexT s) ((qB).step (lexT s)).n).a)).n < (lexT s).length := hRB.2
      have hm1 : (if mB = true then 1 else 0 : Nat) = 1 := if_pos h5
      refine sk ?_
      refine Exec.block ?_
      refine sq ?_
      apply Exec.regionL te_ok
      ·intro o Q hQ
       simp only [go_sem]
       repeat refine ob2 ?_
       refine kcallM 34 hR.inv te_ok rfl rfl rfl rfl rfl rfl rfl rfl rfl ((rstep_ok (lexT s) qB hk hqB).weak laidX_laid) ?_
       simp only [go_sem]
       repeat refine ob2 ?_
       exact hQ
      refine sq ?_
      apply Exec.regionL te_ok
      ·intro o Q hQ
       simp only [go_sem]
       repeat refine ob2 ?_
       refine kcallM 34 hR.inv te_ok rfl rfl rfl rfl rfl rfl rfl rfl rfl ((rnext_ok (lexT s) ((qB).step (lexT s)) hk hstB).weak laidX_laid) ?_
       simp only [go_sem]
       repeat refine ob2 ?_
       exact hQ
      refine sq ?_
      apply Exec.regionL te_ok
      ·intro o Q hQ
       simp only [go_sem]
       repeat refine ob2 ?_
       refine kcallM 34 hR.inv te_ok rfl rfl rfl rfl rfl rfl rfl rfl rfl ((rcond_ok (lexT s) ((qB).step (lexT s)) hk hstB).weak laidX_laid) ?_
       simp only [go_sem]
       repeat refine ob2 ?_
       exact hQ
      refine sreg te_ok ?_
      refine sq ?_
      refine sreg te_ok ?_
      refine Exec.cond_split rfl (fun h6 => ?_) (fun h6 => ?_)
      ·have hlB : accB.length = 6 := by have h9 := of_decide_eq_true (by simpa using h6 : decide ((accB.length : Int) + 1 = 7) = true); omega
       have hzB := manyR_y (l := lexT s) (it := condR (lexT s)) (w := [97, 110, 100]) (s := ((qB).step (lexT s))) hfB hlB
       rw [← hBB] at hzB
       have hla : (accB ++ [(condR (lexT s) ((qB).step (lexT s))).2]).length = accB.length + 1 := by simp
       have hle : (lexT s).length + 1 - accB.length - 1 = (lexT s).length + 1 - (accB ++ [(condR (lexT s) ((qB).step (lexT s))).2]).length := by omega
       rw [hle] at hzB
       have hnext : qu3 (lexT s) qA = if isR (lexT s) [97, 110, 100] ((condR (lexT s) ((qB).step (lexT s))).1.much (nth (lexT s) ((qB).step (lexT s)).n).a) = true then manyR (lexT s) (condR (lexT s)) [97, 110, 100] 6 ((lexT s).length + 1 - (accB ++ [(condR (lexT s) ((qB).step (lexT s))).2]).length) ((((condR (lexT s) ((qB).step (lexT s))).1.much (nth (lexT s) ((qB).step (lexT s)).n).a)).step (lexT s)) (accB ++ [(condR (lexT s) ((qB).step (lexT s))).2]) else (((condR (lexT s) ((qB).step (lexT s))).1.much (nth (lexT s) ((qB).step (lexT s)).n).a), (accB ++ [(condR (lexT s) ((qB).step (lexT s))).2])) := hzB
       have hne : (((condR (lexT s) ((qB).step (lexT s))).1.much (nth (lexT s) ((qB).step (lexT s)).n).a)).n < (lexT s).length := hYB
       have hgn : qB.n + 1 ≤ (((condR (lexT s) ((qB).step (lexT s))).1.much (nth (lexT s) ((qB).step (lexT s)).n).a)).n := by omega
       have hmo : isR (lexT s) [97, 110, 100] ((condR (lexT s) ((qB).step (lexT s))).1.much (nth (lexT s) ((qB).step (lexT s)).n).a) = true → (accB ++ [(condR (lexT s) ((qB).step (lexT s))).2]).length ≤ (((condR (lexT s) ((qB).step (lexT s))).1.much (nth (lexT s) ((qB).step (lexT s)).n).a)).n ∧ ((((condR (lexT s) ((qB).step (lexT s))).1.much (nth (lexT s) ((qB).step (lexT s)).n).a)).step (lexT s)).n = (((condR (lexT s) ((qB).step (lexT s))).1.much (nth (lexT s) ((qB).step (lexT s)).n).a)).n + 1 ∧ (((condR (lexT s) ((qB).step (lexT s))).1.much (nth (lexT s) ((qB).step (lexT s)).n).a)).n + 1 < (lexT s).length := fun h => ⟨by omega, isR_step hk hYB h⟩
       have hmu : (if isR (lexT s) [97, 110, 100] ((condR (lexT s) ((qB).step (lexT s))).1.much (nth (lexT s) ((qB).step (lexT s)).n).a) = true then 1 else 0 : Nat) ≤ 1 := by split <;> omega
       apply Exec.regionL te_ok
       ·intro o Q hQ
        simp only [go_sem]
        repeat refine ob2 ?_
        refine kcallM 34 hR.inv te_ok rfl rfl rfl rfl rfl rfl rfl rfl rfl ((rmuch_ok (lexT s) (condR (lexT s) ((qB).step (lexT s))).1 _).weak laidX_laid) ?_
        simp only [go_sem]
        repeat refine ob2 ?_
        exact hQ
       apply Exec.regionL te_ok
       ·intro o Q hQ
        simp only [go_sem]
        repeat refine ob2 ?_
        refine kcallM 34 hR.inv te_ok rfl rfl rfl rfl rfl rfl rfl rfl rfl ((ris_ok (lexT s) ((condR (lexT s) ((qB).step (lexT s))).1.much (nth (lexT s) ((qB).step (lexT s)).n).a) [97, 110, 100] hk hYB).weak laidX_laid) ?_
        simp only [go_sem]
        repeat refine ob2 ?_
        exact hQ
       refine Exec.inBlock ?_
       refine Exec.back (ih1 (((condR (lexT s) ((qB).step (lexT s))).1.much (nth (lexT s) ((qB).step (lexT s)).n).a), accB ++ [(condR (lexT s) ((qB).step (lexT s))).2], isR (lexT s) [97, 110, 100] ((condR (lexT s) ((qB).step (lexT s))).1.much (nth (lexT s) ((qB).step (lexT s)).n).a)) ?_ ?_) ?_ ?_ ?_ ?_ ?_ ?_ ?_
       ·try simp only
        exact ⟨⟨by omega, hne, by omega, hmo⟩, hnext⟩
       ·try simp only
        omega
       ·rfl
       ·rfl
       ·(simp only [go_sem])
       ·(simp only [go_sem])
       ·simp only [go_sem]
        exact ⟨by simp, .inl (by simp), fun i hi => catR_snoc cdC accB (condR (lexT s) ((qB).step (lexT s))).2 i hi⟩
       ·simp only [go_sem]
       ·rfl
      ·have hlB : ¬ accB.length = 6 := by have h9 := of_decide_eq_false (by simpa using h6 : decide ((accB.length : Int) + 1 = 7) = false); omega
       have hzB := manyR_n (l := lexT s) (it := condR (lexT s)) (w := [97, 110, 100]) (s := ((qB).step (lexT s))) hfB hlB
       rw [← hBB] at hzB
       have hla : (accB ++ [(condR (lexT s) ((qB).step (lexT s))).2]).length = accB.length + 1 := by simp
       have hle : (lexT s).length + 1 - accB.length - 1 = (lexT s).length + 1 - (accB ++ [(condR (lexT s) ((qB).step (lexT s))).2]).length := by omega
       rw [hle] at hzB
       have hnext : qu3 (lexT s) qA = if isR (lexT s) [97, 110, 100] (condR (lexT s) ((qB).step (lexT s))).1 = true then manyR (lexT s) (condR (lexT s)) [97, 110, 100] 6 ((lexT s).length + 1 - (accB ++ [(condR (lexT s) ((qB).step (lexT s))).2]).length) (((condR (lexT s) ((qB).step (lexT s))).1).step (lexT s)) (accB ++ [(condR (lexT s) ((qB).step (lexT s))).2]) else ((condR (lexT s) ((qB).step (lexT s))).1, (accB ++ [(condR (lexT s) ((qB).step (lexT s))).2])) := hzB
       have hne : ((condR (lexT s) ((qB).step (lexT s))).1).n < (lexT s).length := hRB.2
       have hgn : qB.n + 1 ≤ ((condR (lexT s) ((qB).step (lexT s))).1).n := by omega
       have hmo : isR (lexT s) [97, 110, 100] (condR (lexT s) ((qB).step (lexT s))).1 = true → (accB ++ [(condR (lexT s) ((qB).step (lexT s))).2]).length ≤ ((condR (lexT s) ((qB).step (lexT s))).1).n ∧ (((condR (lexT s) ((qB).step (lexT s))).1).step (lexT s)).n = ((condR (lexT s) ((qB).step (lexT s))).1).n + 1 ∧ ((condR (lexT s) ((qB).step (lexT s))).1).n + 1 < (lexT s).length := fun h => ⟨by omega, isR_step hk hRB.2 h⟩
       have hmu : (if isR (lexT s) [97, 110, 100] (condR (lexT s) ((qB).step (lexT s))).1 = true then 1 else 0 : Nat) ≤ 1 := by split <;> omega
       refine sk ?_
       apply Exec.regionL te_ok
       ·intro o Q hQ
        simp only [go_sem]
        repeat refine ob2 ?_
        refine kcallM 34 hR.inv te_ok rfl rfl rfl rfl rfl rfl rfl rfl rfl ((ris_ok (lexT s) (condR (lexT s) ((qB).step (lexT s))).1 [97, 110, 100] hk hRB.2).weak laidX_laid) ?_
        simp only [go_sem]
        repeat refine ob2 ?_
        exact hQ
       refine Exec.inBlock ?_
       refine Exec.back (ih1 ((condR (lexT s) ((qB).step (lexT s))).1, accB ++ [(condR (lexT s) ((qB).step (lexT s))).2], isR (lexT s) [97, 110, 100] (condR (lexT s) ((qB).step (lexT s))).1) ?_ ?_) ?_ ?_ ?_ ?_ ?_ ?_ ?_
       ·try simp only
        exact ⟨⟨by omega, hne, by omega, hmo⟩, hnext⟩
       ·try simp only
        omega
       ·rfl
       ·rfl
       ·(simp only [go_sem])
       ·(simp only [go_sem])
       ·simp only [go_sem]
        exact ⟨by simp, .inl (by simp), fun i hi => catR_snoc cdC accB (condR (lexT s) ((qB).step (lexT s))).2 i hi⟩
       ·simp only [go_sem]
       ·rfl
     ·have hmB : ¬ (mB = true) := by rw [h5]; decide
      have hEB := hxB.2
      rw [if_neg hmB] at hEB
      have hqB : qB.n < (lexT s).length := hxB.1.2.1
      refine Exec.exit rfl ?_
      refine sq ?_
      refine Exec.freeze 501 rfl ?_
      apply Exec.norm
      ·simp only [go_sem]
       rfl
      apply Exec.regionL te_ok
      ·intro o Q hQ
       simp only [go_sem]
       repeat refine ob2 ?_
       refine kcallM 34 hR.inv te_ok rfl rfl rfl rfl rfl rfl rfl rfl rfl ((rmust_ok (lexT s) qB [114, 101, 116, 117, 114, 110] hk hqB).weak laidX_laid) ?_
       simp only [go_sem]
       repeat refine ob2 ?_
       exact hQ
      refine sq ?_
      refine sreg te_ok ?_
      refine Exec.block ?_
      refine Exec.ownNilL 9 2 502 51 6 rfl rfl rfl ?_
      apply Exec.norm
      ·simp only [go_sem]
       rfl
      apply Exec.loopU [2, 8, 9] (X := RS × List Opd × Bool) (fun ⟨qC, accC, mC⟩ => [(16, .d (bv mC))]) (fun ⟨qC, accC, mC⟩ => [(9, 26, [.d (ptsD accA), .d (cdsD accB), .own 502, .d (iv 0), .d (iv 0)]), (34, 134, [.d (tksD (lexT s)), .d (iv qC.n), .d (iv qC.b), .d (iv qC.m)])]) (fun ⟨qC, accC, mC⟩ => [(502, ⟨51, 6, accC.length, accC.length, fun i => opC (nth accC i)⟩)]) (fun ⟨qC, accC, mC⟩ => 2 * ((lexT s).length - qC.n) + (if mC = true then 1 else 0)) (fun ⟨qC, accC, mC⟩ => ((mustR (lexT s) [114, 101, 116, 117, 114, 110] qB).n ≤ qC.n ∧ qC.n < (lexT s).length ∧ accC.length ≤ qC.n + 1 ∧ (mC = true → accC.length ≤ qC.n)) ∧ qu5 (lexT s) (mustR (lexT s) [114, 101, 116, 117, 114, 110] qB) = if mC = true then manyR (lexT s) (toldR (lexT s)) [44] 4 ((lexT s).length + 1 - accC.length) qC accC else (qC, accC)) ((mustR (lexT s) [114, 101, 116, 117, 114, 110] qB), [], true)
      case h0 =>
       exact ⟨⟨Nat.le_refl _, must_lt hqB, Nat.zero_le _, fun _ => Nat.zero_le _⟩, rfl⟩
      case hw =>
       simp only [go_sem]; exact fun i hi => absurd hi (Nat.not_lt_zero i)
      case body =>
       rintro ⟨qC, accC, mC⟩ hxC ih2
       try simp only at hxC
       have hfew := hk.few
       have hfC : 0 < (lexT s).length + 1 - accC.length := by have := hxC.1; omega
       apply Exec.norm
       ·simp only [go_sem]
        rfl
       refine sq ?_
       refine sreg te_ok ?_
       refine Exec.cond_split rfl (fun h7 => ?_) (fun h7 => ?_)
       ·have hAC := hxC.1.2.2.2 h7
        have hBC := hxC.2
        rw [if_pos h7] at hBC
        have hqC : qC.n < (lexT s).length := hxC.1.2.1
        have hgeC : (mustR (lexT s) [114, 101, 116, 117, 114, 110] qB).n ≤ qC.n := hxC.1.1
        have hstC : qC.n < (lexT s).length := hqC
        have hRC := toldR_on 0 qC (Nat.zero_le _) hstC
        have hzpC : (((toldR (lexT s) qC).1.much (nth (lexT s) qC.n).a)).n = ((toldR (lexT s) qC).1).n := rfl
        have hYC : (((toldR (lexT s) qC).1.much (nth (lexT s) qC.n).a)).n < (lexT s).length := hRC.2
        have hm1 : (if mC = true then 1 else 0 : Nat) = 1 := if_pos h7
        refine sk ?_
        refine Exec.block ?_
        refine sq ?_
        apply Exec.regionL te_ok
        ·intro o Q hQ
         simp only [go_sem]
         repeat refine ob2 ?_
         refine kcallM 34 hR.inv te_ok rfl rfl rfl rfl rfl rfl rfl rfl rfl ((rnext_ok (lexT s) qC hk hqC).weak laidX_laid) ?_
         simp only [go_sem]
         repeat refine ob2 ?_
         exact hQ
        refine sq ?_
        apply Exec.regionL te_ok
        ·intro o Q hQ
         simp only [go_sem]
         repeat refine ob2 ?_
         refine kcallM 34 hR.inv te_ok rfl rfl rfl rfl rfl rfl rfl rfl rfl ((rtoldR_ok (lexT s) qC hk hqC).weak laidX_laid) ?_
         simp only [go_sem]
         repeat refine ob2 ?_
         exact hQ
        refine sreg te_ok ?_
        refine sq ?_
        refine sreg te_ok ?_
        refine Exec.cond_split rfl (fun h8 => ?_) (fun h8 => ?_)
        ·have hlC : accC.length = 4 := by have h9 := of_decide_eq_true (by simpa using h8 : decide ((accC.length : Int) + 1 = 5) = true); omega
         have hzC := manyR_y (l := lexT s) (it := toldR (lexT s)) (w := [44]) (s := qC) hfC hlC
         rw [← hBC] at hzC
         apply Exec.regionL te_ok
         ·intro o Q hQ
          simp only [go_sem]
          repeat refine ob2 ?_
          refine kcallM 34 hR.inv te_ok rfl rfl rfl rfl rfl rfl rfl rfl rfl ((rmuch_ok (lexT s) (toldR (lexT s) qC).1 _).weak laidX_laid) ?_
          simp only [go_sem]
          repeat refine ob2 ?_
          exact hQ
         refine sq ?_
         apply Exec.regionL te_ok
         ·intro o Q hQ
          simp only [go_sem]
          repeat refine ob2 ?_
          refine kcallM 34 hR.inv te_ok rfl rfl rfl rfl rfl rfl rfl rfl rfl ((ris_ok (lexT s) ((toldR (lexT s) qC).1.much (nth (lexT s) qC.n).a) [44] hk hYC).weak laidX_laid) ?_
          simp only [go_sem]
          repeat refine ob2 ?_
          exact hQ
         refine sreg te_ok ?_
         refine Exec.cond_split rfl (fun h9 => ?_) (fun h9 => ?_)
         ·have hla : (accC ++ [(toldR (lexT s) qC).2]).length = accC.length + 1 := by simp
          have hle : (lexT s).length + 1 - accC.length - 1 = (lexT s).length + 1 - (accC ++ [(toldR (lexT s) qC).2]).length := by omega
          rw [hle] at hzC
          have hnext : qu5 (lexT s) (mustR (lexT s) [114, 101, 116, 117, 114, 110] qB) = if isR (lexT s) [44] ((toldR (lexT s) qC).1.much (nth (lexT s) qC.n).a) = true then manyR (lexT s) (toldR (lexT s)) [44] 4 ((lexT s).length + 1 - (accC ++ [(toldR (lexT s) qC).2]).length) ((((toldR (lexT s) qC).1.much (nth (lexT s) qC.n).a)).step (lexT s)) (accC ++ [(toldR (lexT s) qC).2]) else (((((toldR (lexT s) qC).1.much (nth (lexT s) qC.n).a)).step (lexT s)), (accC ++ [(toldR (lexT s) qC).2])) := by rw [hzC, if_pos h9, if_pos h9]
          have hsp := isR_step hk hYC h9
          have hne : (((((toldR (lexT s) qC).1.much (nth (lexT s) qC.n).a)).step (lexT s))).n < (lexT s).length := step_lt hYC
          have hgn : qC.n + 1 ≤ (((((toldR (lexT s) qC).1.much (nth (lexT s) qC.n).a)).step (lexT s))).n := by omega
          have hmo : isR (lexT s) [44] ((toldR (lexT s) qC).1.much (nth (lexT s) qC.n).a) = true → (accC ++ [(toldR (lexT s) qC).2]).length ≤ (((((toldR (lexT s) qC).1.much (nth (lexT s) qC.n).a)).step (lexT s))).n := fun _ => by omega
          have hmu : (if isR (lexT s) [44] ((toldR (lexT s) qC).1.much (nth (lexT s) qC.n).a) = true then 1 else 0 : Nat) = 1 := if_pos h9
          apply Exec.regionL te_ok
          ·intro o Q hQ
           simp only [go_sem]
           repeat refine ob2 ?_
           refine kcallM 34 hR.inv te_ok rfl rfl rfl rfl rfl rfl rfl rfl rfl ((rstep_ok (lexT s) ((toldR (lexT s) qC).1.much (nth (lexT s) qC.n).a) hk hYC).weak laidX_laid) ?_
           simp only [go_sem]
           repeat refine ob2 ?_
           exact hQ
          refine Exec.inBlock ?_
          refine Exec.back (ih2 ((((toldR (lexT s) qC).1.much (nth (lexT s) qC.n).a)).step (lexT s), accC ++ [(toldR (lexT s) qC).2], isR (lexT s) [44] ((toldR (lexT s) qC).1.much (nth (lexT s) qC.n).a)) ?_ ?_) ?_ ?_ ?_ ?_ ?_ ?_ ?_
          ·try simp only
           exact ⟨⟨by omega, hne, by omega, hmo⟩, hnext⟩
          ·try simp only
           omega
          ·rfl
          ·rfl
          ·(simp only [go_sem])
          ·(simp only [go_sem])
          ·simp only [go_sem]
           exact ⟨by simp, .inl (by simp), fun i hi => catR_snoc opC accC (toldR (lexT s) qC).2 i hi⟩
          ·simp only [go_sem]
          ·rfl
         ·have hla : (accC ++ [(toldR (lexT s) qC).2]).length = accC.length + 1 := by simp
          have hle : (lexT s).length + 1 - accC.length - 1 = (lexT s).length + 1 - (accC ++ [(toldR (lexT s) qC).2]).length := by omega
          rw [hle] at hzC
          have hmn : ¬ (isR (lexT s) [44] ((toldR (lexT s) qC).1.much (nth (lexT s) qC.n).a) = true) := by rw [h9]; decide
          have hnext : qu5 (lexT s) (mustR (lexT s) [114, 101, 116, 117, 114, 110] qB) = if isR (lexT s) [44] ((toldR (lexT s) qC).1.much (nth (lexT s) qC.n).a) = true then manyR (lexT s) (toldR (lexT s)) [44] 4 ((lexT s).length + 1 - (accC ++ [(toldR (lexT s) qC).2]).length) ((toldR (lexT s) qC).1.much (nth (lexT s) qC.n).a) (accC ++ [(toldR (lexT s) qC).2]) else (((toldR (lexT s) qC).1.much (nth (lexT s) qC.n).a), (accC ++ [(toldR (lexT s) qC).2])) := by rw [hzC, if_neg hmn, if_neg hmn]
          have hne : (((toldR (lexT s) qC).1.much (nth (lexT s) qC.n).a)).n < (lexT s).length := hYC
          have hgn : qC.n ≤ (((toldR (lexT s) qC).1.much (nth (lexT s) qC.n).a)).n := by omega
          have hmo : isR (lexT s) [44] ((toldR (lexT s) qC).1.much (nth (lexT s) qC.n).a) = true → (accC ++ [(toldR (lexT s) qC).2]).length ≤ (((toldR (lexT s) qC).1.much (nth (lexT s) qC.n).a)).n := fun h => absurd h hmn
          have hmu : (if isR (lexT s) [44] ((toldR (lexT s) qC).1.much (nth (lexT s) qC.n).a) = true then 1 else 0 : Nat) = 0 := if_neg hmn
          refine sk ?_
          refine Exec.inBlock ?_
          refine Exec.back (ih2 (((toldR (lexT s) qC).1.much (nth (lexT s) qC.n).a), accC ++ [(toldR (lexT s) qC).2], isR (lexT s) [44] ((toldR (lexT s) qC).1.much (nth (lexT s) qC.n).a)) ?_ ?_) ?_ ?_ ?_ ?_ ?_ ?_ ?_
          ·try simp only
           exact ⟨⟨by omega, hne, by omega, hmo⟩, hnext⟩
          ·try simp only
           omega
          ·rfl
          ·rfl
          ·(simp only [go_sem])
          ·(simp only [go_sem])
          ·simp only [go_sem]
           exact ⟨by simp, .inl (by simp), fun i hi => catR_snoc opC accC (toldR (lexT s) qC).2 i hi⟩
          ·simp only [go_sem]
          ·rfl
        ·have hlC : ¬ accC.length = 4 := by have h9 := of_decide_eq_false (by simpa using h8 : decide ((accC.length : Int) + 1 = 5) = false); omega
         have hzC := manyR_n (l := lexT s) (it := toldR (lexT s)) (w := [44]) (s := qC) hfC hlC
         rw [← hBC] at hzC
         refine sk ?_
         refine sq ?_
         apply Exec.regionL te_ok
         ·intro o Q hQ
          simp only [go_sem]
          repeat refine ob2 ?_
          refine kcallM 34 hR.inv te_ok rfl rfl rfl rfl rfl rfl rfl rfl rfl ((ris_ok (lexT s) (toldR (lexT s) qC).1 [44] hk hRC.2).weak laidX_laid) ?_
          simp only [go_sem]
          repeat refine ob2 ?_
          exact hQ
         refine sreg te_ok ?_
         refine Exec.cond_split rfl (fun h10 => ?_) (fun h10 => ?_)
         ·have hla : (accC ++ [(toldR (lexT s) qC).2]).length = accC.length + 1 := by simp
          have hle : (lexT s).length + 1 - accC.length - 1 = (lexT s).length + 1 - (accC ++ [(toldR (lexT s) qC).2]).length := by omega
          rw [hle] at hzC
          have hnext : qu5 (lexT s) (mustR (lexT s) [114, 101, 116, 117, 114, 110] qB) = if isR (lexT s) [44] (toldR (lexT s) qC).1 = true then manyR (lexT s) (toldR (lexT s)) [44] 4 ((lexT s).length + 1 - (accC ++ [(toldR (lexT s) qC).2]).length) (((toldR (lexT s) qC).1).step (lexT s)) (accC ++ [(toldR (lexT s) qC).2]) else ((((toldR (lexT s) qC).1).step (lexT s)), (accC ++ [(toldR (lexT s) qC).2])) := by rw [hzC, if_pos h10, if_pos h10]
          have hsp := isR_step hk hRC.2 h10
          have hne : ((((toldR (lexT s) qC).1).step (lexT s))).n < (lexT s).length := step_lt hRC.2
          have hgn : qC.n + 1 ≤ ((((toldR (lexT s) qC).1).step (lexT s))).n := by omega
          have hmo : isR (lexT s) [44] (toldR (lexT s) qC).1 = true → (accC ++ [(toldR (lexT s) qC).2]).length ≤ ((((toldR (lexT s) qC).1).step (lexT s))).n := fun _ => by omega
          have hmu : (if isR (lexT s) [44] (toldR (lexT s) qC).1 = true then 1 else 0 : Nat) = 1 := if_pos h10
          apply Exec.regionL te_ok
          ·intro o Q hQ
           simp only [go_sem]
           repeat refine ob2 ?_
           refine kcallM 34 hR.inv te_ok rfl rfl rfl rfl rfl rfl rfl rfl rfl ((rstep_ok (lexT s) (toldR (lexT s) qC).1 hk hRC.2).weak laidX_laid) ?_
           simp only [go_sem]
           repeat refine ob2 ?_
           exact hQ
          refine Exec.inBlock ?_
          refine Exec.back (ih2 (((toldR (lexT s) qC).1).step (lexT s), accC ++ [(toldR (lexT s) qC).2], isR (lexT s) [44] (toldR (lexT s) qC).1) ?_ ?_) ?_ ?_ ?_ ?_ ?_ ?_ ?_
          ·try simp only
           exact ⟨⟨by omega, hne, by omega, hmo⟩, hnext⟩
          ·try simp only
           omega
          ·rfl
          ·rfl
          ·(simp only [go_sem])
          ·(simp only [go_sem])
          ·simp only [go_sem]
           exact ⟨by simp, .inl (by simp), fun i hi => catR_snoc opC accC (toldR (lexT s) qC).2 i hi⟩
          ·simp only [go_sem]
          ·rfl
         ·have hla : (accC ++ [(toldR (lexT s) qC).2]).length = accC.length + 1 := by simp
          have hle : (lexT s).length + 1 - accC.length - 1 = (lexT s).length + 1 - (accC ++ [(toldR (lexT s) qC).2]).length := by omega
          rw [hle] at hzC
          have hmn : ¬ (isR (lexT s) [44] (toldR (lexT s) qC).1 = true) := by rw [h10]; decide
          have hnext : qu5 (lexT s) (mustR (lexT s) [114, 101, 116, 117, 114, 110] qB) = if isR (lexT s) [44] (toldR (lexT s) qC).1 = true then manyR (lexT s) (toldR (lexT s)) [44] 4 ((lexT s).length + 1 - (accC ++ [(toldR (lexT s) qC).2]).length) (toldR (lexT s) qC).1 (accC ++ [(toldR (lexT s) qC).2]) else ((toldR (lexT s) qC).1, (accC ++ [(toldR (lexT s) qC).2])) := by rw [hzC, if_neg hmn, if_neg hmn]
          have hne : ((toldR (lexT s) qC).1).n < (lexT s).length := hRC.2
          have hgn : qC.n ≤ ((toldR (lexT s) qC).1).n := by omega
          have hmo : isR (lexT s) [44] (toldR (lexT s) qC).1 = true → (accC ++ [(toldR (lexT s) qC).2]).length ≤ ((toldR (lexT s) qC).1).n := fun h => absurd h hmn
          have hmu : (if isR (lexT s) [44] (toldR (lexT s) qC).1 = true then 1 else 0 : Nat) = 0 := if_neg hmn
          refine sk ?_
          refine Exec.inBlock ?_
          refine Exec.back (ih2 ((toldR (lexT s) qC).1, accC ++ [(toldR (lexT s) qC).2], isR (lexT s) [44] (toldR (lexT s) qC).1) ?_ ?_) ?_ ?_ ?_ ?_ ?_ ?_ ?_
          ·try simp only
           exact ⟨⟨by omega, hne, by omega, hmo⟩, hnext⟩
          ·try simp only
           omega
          ·rfl
          ·rfl
          ·(simp only [go_sem])
          ·(simp only [go_sem])
          ·simp only [go_sem]
           exact ⟨by simp, .inl (by simp), fun i hi => catR_snoc opC accC (toldR (lexT s) qC).2 i hi⟩
          ·simp only [go_sem]
          ·rfl
       ·have hmC : ¬ (mC = true) := by rw [h7]; decide
        have hEC := hxC.2
        rw [if_neg hmC] at hEC
        have hqC : qC.n < (lexT s).length := hxC.1.2.1
        refine Exec.exit rfl ?_
        refine sq ?_
        refine Exec.freeze 502 rfl ?_
        apply Exec.norm
        ·simp only [go_sem]
         rfl
        apply Exec.regionL te_ok
        ·intro o Q hQ
         simp only [go_sem]
         repeat refine ob2 ?_
         refine kcallM 34 hR.inv te_ok rfl rfl rfl rfl rfl rfl rfl rfl rfl ((rmust_ok (lexT s) qC [114, 97, 110, 103, 101] hk hqC).weak laidX_laid) ?_
         simp only [go_sem]
         repeat refine ob2 ?_
         exact hQ
        refine sq ?_
        apply Exec.regionL te_ok
        ·intro o Q hQ
         simp only [go_sem]
         repeat refine ob2 ?_
         refine kcallM 34 hR.inv te_ok rfl rfl rfl rfl rfl rfl rfl rfl rfl ((rnumber_ok (lexT s) (mustR (lexT s) [114, 97, 110, 103, 101] qC) hk (must_lt hqC)).weak laidX_laid) ?_
         simp only [go_sem]
         repeat refine ob2 ?_
         exact hQ
        refine sq ?_
        apply Exec.regionL te_ok
        ·intro o Q hQ
         simp only [go_sem]
         repeat refine ob2 ?_
         refine kcallM 34 hR.inv te_ok rfl rfl rfl rfl rfl rfl rfl rfl rfl ((rmust_ok (lexT s) (numS (lexT s) (mustR (lexT s) [114, 97, 110, 103, 101] qC)) [115, 108, 105, 100, 101] hk (numS_lt (must_lt hqC))).weak laidX_laid) ?_
         simp only [go_sem]
         repeat refine ob2 ?_
         exact hQ
        refine sq ?_
        apply Exec.regionL te_ok
        ·intro o Q hQ
         simp only [go_sem]
         repeat refine ob2 ?_
         refine kcallM 34 hR.inv te_ok rfl rfl rfl rfl rfl rfl rfl rfl rfl ((rnumber_ok (lexT s) (mustR (lexT s) [115, 108, 105, 100, 101] (numS (lexT s) (mustR (lexT s) [114, 97, 110, 103, 101] qC))) hk (must_lt (numS_lt (must_lt hqC)))).weak laidX_laid) ?_
         simp only [go_sem]
         repeat refine ob2 ?_
         exact hQ
        refine sq ?_
        apply Exec.regionL te_ok
        ·intro o Q hQ
         simp only [go_sem]
         repeat refine ob2 ?_
         refine kcallM 34 hR.inv te_ok rfl rfl rfl rfl rfl rfl rfl rfl rfl ((rend_ok (lexT s) (numS (lexT s) (mustR (lexT s) [115, 108, 105, 100, 101] (numS (lexT s) (mustR (lexT s) [114, 97, 110, 103, 101] qC)))) hk (numS_lt (must_lt (numS_lt (must_lt hqC))))).weak laidX_laid) ?_
         simp only [go_sem]
         repeat refine ob2 ?_
         exact hQ
        refine sq ?_
        apply Exec.regionL te_ok
        ·intro o Q hQ
         simp only [go_sem]
         repeat refine ob2 ?_
         refine kcallM 34 hR.inv te_ok rfl rfl rfl rfl rfl rfl rfl rfl rfl ((rwrong_ok (lexT s) (endR (lexT s) (numS (lexT s) (mustR (lexT s) [115, 108, 105, 100, 101] (numS (lexT s) (mustR (lexT s) [114, 97, 110, 103, 101] qC)))))).weak laidX_laid) ?_
         simp only [go_sem]
         repeat refine ob2 ?_
         exact hQ
        refine sq ?_
        refine sreg te_ok ?_
        refine Exec.cond_split rfl (fun h11 => ?_) (fun h11 => ?_)
        ·have hqr : queryR (lexT s) ({ n := 0, b := -1, m := -1 } : RS) = ((numS (lexT s) (mustR (lexT s) [115, 108, 105, 100, 101] (numS (lexT s) (mustR (lexT s) [114, 97, 110, 103, 101] qC)))), (⟨accA, accB, accC, numV (lexT s) (mustR (lexT s) [114, 97, 110, 103, 101] qC), numV (lexT s) (mustR (lexT s) [115, 108, 105, 100, 101] (numS (lexT s) (mustR (lexT s) [114, 97, 110, 103, 101] qC)))⟩ : Qu)) := by simp only [queryR, hEA, hEB, qu4, hEC, quT, qu6, qu8]
         have hw : wrongE (endR (lexT s) (numS (lexT s) (mustR (lexT s) [115, 108, 105, 100, 101] (numS (lexT s) (mustR (lexT s) [114, 97, 110, 103, 101] qC))))) ≠ 0 := by simpa using h11
         refine sreg te_ok ?_
         refine Exec.rets hR te_ok rfl rfl rfl (LeX.le ?_) (.inr ⟨_, rfl⟩)
         rw [readR_bad hE hqr hw]
         simp only [go_sem]
        ·have hqr : queryR (lexT s) ({ n := 0, b := -1, m := -1 } : RS) = ((numS (lexT s) (mustR (lexT s) [115, 108, 105, 100, 101] (numS (lexT s) (mustR (lexT s) [114, 97, 110, 103, 101] qC)))), (⟨accA, accB, accC, numV (lexT s) (mustR (lexT s) [114, 97, 110, 103, 101] qC), numV (lexT s) (mustR (lexT s) [115, 108, 105, 100, 101] (numS (lexT s) (mustR (lexT s) [114, 97, 110, 103, 101] qC)))⟩ : Qu)) := by simp only [queryR, hEA, hEB, qu4, hEC, quT, qu6, qu8]
         have hw : wrongE (endR (lexT s) (numS (lexT s) (mustR (lexT s) [115, 108, 105, 100, 101] (numS (lexT s) (mustR (lexT s) [114, 97, 110, 103, 101] qC))))) = 0 := by simpa using h11
         refine sk ?_
         refine sreg te_ok ?_
         refine Exec.rets hR te_ok rfl rfl rfl (LeX.le ?_) (.inr ⟨_, rfl⟩)
         rw [readR_ok hE hqr hw]
         simp only [go_sem]
end Go.Proofs.YtonchjamoblioaaGreatDoor
namespace Go.Proofs.YtonchjamoblioaaGreatDoor
open Go.Kin
/-! ### what is read is small; the chapter's examples -/
section
variable {l : List Tk}
theorem many_all {α : Type} (hk : TkOk l) {rd : PS → PR α} {w : List UInt8} {mx : Nat} {G : α → Prop} (hr : ∀ s : PS, s.n < l.length → AdvP l s (rd s)) (hG : ∀ s : PS, s.n < l.length → ∀ s1 x, rd s = .ok s1 x → G x) : ∀ (f : Nat) (s : PS) (acc : List α), s.n < l.length → (∀ x ∈ acc, G x) → ∀ s1 xs, manyP l rd w mx f s acc = .ok s1 xs → (s1.n < l.length ∧ xs.length + s.n ≤ acc.length + s1.n) ∧ ∀ x ∈ xs, G x
 | 0, s, acc, _, _, s1, xs, h => by cases h
 | f + 1, s, acc, hs, ha, s1, xs, h => by
   obtain ⟨t1, x, g1, h⟩ := bind_ok h
   have a1 := hr _ (by rw [limS_n]; exact hs) _ _ g1
   rw [limS_n] at a1
   have a2 := hG _ (by rw [limS_n]; exact hs) _ _ g1
   have a3 : ∀ y ∈ acc ++ [x], G y := fun y hy => by
    rcases List.mem_append.1 hy with h | h
    ·exact ha y h
    ·simp at h; subst h; exact a2
   split at h
   ·rename_i hp
    have := many_all hk hr hG _ _ _ (is_adv hk a1.2 hp) a3 _ _ h
    simp [PS.adv] at this
    exact ⟨⟨this.1.1, by omega⟩, this.2⟩
   ·cases h; exact ⟨⟨a1.2, by simp; omega⟩, a3⟩
theorem pat_small (hk : TkOk l) {s : PS} (hn : s.n < l.length) : ∀ s1 p, patP l s = .ok s1 p → p.e.size ≤ 1000000 := by
 intro s9 x h
 obtain ⟨s1, _, h1, h⟩ := bind_ok h
 have a1 := vertex_adv hk hn _ _ h1
 split at h
 ·rename_i hp
  have a2 := is_adv hk a1.2 hp
  obtain ⟨s2, y, h2, h⟩ := bind_ok h
  have a3 := whole_adv hk (s := s1.adv) a2 _ _ h2
  obtain ⟨s3, _, h3, h⟩ := bind_ok h
  obtain ⟨s4, _, h4, h⟩ := bind_ok h
  cases h
  have := hk.few
  show y.size ≤ _
  omega
 ·obtain ⟨s2, _, h2, h⟩ := bind_ok h
  obtain ⟨s3, _, h3, h⟩ := bind_ok h
  split at h
  ·obtain ⟨s4, _, h4, h⟩ := bind_ok h
   obtain ⟨s5, _, h5, h⟩ := bind_ok h
   obtain ⟨s6, _, h6, h⟩ := bind_ok h
   cases h
   show Ex.size (.mk 0 [] []) ≤ _
   rw [Ex.size_eq]; decide
  ·obtain ⟨s5, _, h5, h⟩ := bind_ok h
   obtain ⟨s6, _, h6, h⟩ := bind_ok h
   cases h
   show Ex.size (.mk 0 [] []) ≤ _
   rw [Ex.size_eq]; decide
structure SmQ (q : Qu) : Prop where
 p : q.p.length ≤ 1000000
 c : q.c.length ≤ 1000000
 r : q.r.length ≤ 1000000
 e : ∀ p ∈ q.p, p.e.size ≤ 1000000
theorem query_small (hk : TkOk l) {s : PS} (hn : s.n < l.length) : ∀ s1 q, queryP l s = .ok s1 q → SmQ q := by
 intro s1 q h
 have few := hk.few
 obtain ⟨s2, _, h2, h⟩ := bind_ok h
 obtain ⟨s3, ps, h3, h⟩ := bind_ok h
 obtain ⟨s4, cs, h4, h⟩ := bind_ok h
 obtain ⟨s5, _, h5, h⟩ := bind_ok h
 obtain ⟨s6, rs, h6, h⟩ := bind_ok h
 obtain ⟨s7, _, h7, h⟩ := bind_ok h
 obtain ⟨s8, _, h8, h⟩ := bind_ok h
 obtain ⟨s9, _, h9, h⟩ := bind_ok h
 obtain ⟨s0, _, h0, h⟩ := bind_ok h
 cases h
 have a2 := must_adv hk hn _ _ h2
 have a3 := many_all hk (G := fun p : Pt => p.e.size ≤ 1000000) (fun s hs => pat_adv hk hs) (fun s hs => pat_small hk hs) _ _ _ a2.2 (fun x hx => by cases hx) _ _ h3
 have a4 : s4.n < l.length ∧ cs.length ≤ 1000000 := by
  split at h4
  ·rename_i hp
   have := many_all hk (G := fun _ : Cd => True) (fun s hs => cd_adv hk hs) (fun _ _ _ _ _ => trivial) _ _ _ (is_adv hk a3.1.1 hp) (fun _ _ => trivial) _ _ h4
   simp at this; omega
  ·cases h4; exact ⟨a3.1.1, by simp⟩
 have a5 := must_adv hk a4.1 _ _ h5
 have a6 := many_all hk (G := fun _ : Opd => True) (fun s hs => told_adv hk hs) (fun _ _ _ _ _ => trivial) _ _ _ a5.2 (fun _ _ => trivial) _ _ h6
 simp at a3 a6
 exact ⟨by simp only; omega, a4.2, by simp only; omega, a3.2⟩
end
theorem readV_small {α : Type} {z : α} {rule : List Tk → PS → PR α} {G : α → Prop} (hz : G z) (h : ∀ l, TkOk l → ∀ s : PS, s.n < l.length → ∀ s1 x, rule l s = .ok s1 x → G x) (s : List UInt8) : G (readV z rule s).1 := by
 unfold readV
 by_cases hl : lexE s = 0
 ·rw [if_pos hl]
  obtain ⟨hk, h0, _, _⟩ := lex_tk hl
  cases hp : rule (lexT s) ⟨0, -1⟩ with
  | err a => exact hz
  | ok s1 x =>
   simp only
   split
   ·split
    ·exact hz
    ·exact h _ hk ⟨0, -1⟩ h0 _ _ hp
   ·exact hz
 ·rw [if_neg hl]; exact hz
theorem readQ_small (s : List UInt8) : SmQ (readV qz queryP s).1 := readV_small ⟨by decide, by decide, by decide, fun p hp => by cases hp⟩ (fun l hk s hn => query_small hk hn) s
theorem readX_small (s : List UInt8) : (readV xz wholeP s).1.size ≤ 1000000 := readV_small (G := fun x : Ex => x.size ≤ 1000000) (by show Ex.size (.mk 0 [] []) ≤ _; rw [Ex.size_eq]; decide) (fun l hk s hn s1 x h => by have := whole_adv hk hn _ _ h; have := hk.few; omega) s
theorem tQuery_ok (s : List UInt8) (hs : s.length ≤ 140737488351232) : FnOK LaidX Tryz.prog 57 [sv s] (.tup [quD (readV qz queryP s).1, iv (readV qz queryP s).2.1, iv (readV qz queryP s).2.2]) := readQ_eq s ▸ rQuery_ok s hs
theorem tExpr_ok (s : List UInt8) (hs : s.length ≤ 140737488351232) : FnOK LaidX Tryz.prog 58 [sv s] (.tup [exD (readV xz wholeP s).1, iv (readV xz wholeP s).2.1, iv (readV xz wholeP s).2.2]) := readX_eq s ▸ rExpr_ok s hs
end Go.Proofs.YtonchjamoblioaaGreatDoor
