/- Steps of a function body on data, and contracts of the functions of the seat, walked. -/
import Derived.Test.YtonchjamoblioaaGreatDoorQE
set_option linter.unusedSimpArgs false
set_option linter.unusedVariables false
set_option linter.unusedSectionVars false
namespace Go.Proofs.YtonchjamoblioaaGreatDoor
open Go.Kin
set_option maxRecDepth 100000
set_option maxHeartbeats 0
attribute [go_sem] te_22 te_23 te_24 te_26 te_98 rdC
theorem pquery_ok (l : List Tk) (n : Nat) (m : Int) (hk : TkOk l) (hn : n < l.length) : FnM Laid Tryz.prog 61 157 [tksD l, iv n, iv m] [.lp 900 0] (outP 152 l quD (queryP l ⟨n, m⟩)) := by
 refine FnM_of Tryz.func61 Tryz.ntmps61 rfl (by as_aux_lemma => kernel_rfl) (Nat.le_of_ble_eq_true rfl) (fun R b0 hR => ?_)
 obtain ⟨_, b, cs, T, C⟩ := R
 obtain rfl : _ = Tryz.prog := hR.p
 refine sreg te_ok ?_
 refine sq ?_
 rcases hqa : mustP l [109, 97, 116, 99, 104] ⟨n, m⟩ with ⟨⟨na, ma⟩, xa⟩ | ata
 ·have haa := must_adv hk (s := ⟨n, m⟩) (by assumption) _ _ hqa
  have hna : na < l.length := haa.2
  apply Exec.regionL te_ok
  ·intro u' Q hQ
   simp only [go_sem]
   repeat refine ob2 ?_
   refine kcallM 900 hR.inv te_ok rfl rfl rfl rfl rfl rfl rfl rfl rfl (fOk (must_ok l n m [109, 97, 116, 99, 104] (by assumption) hk.len) hqa) ?_
   simp only [go_sem]
   repeat refine ob2 ?_
   exact hQ
  refine sq ?_
  refine sq ?_
  refine Exec.regStart 2 rfl ?_
  apply Exec.regPart 0 1 1 te_ok rfl
  ·intro u' Q hQ
   simp only [go_sem]
   repeat refine ob2 ?_
   exact hQ
  refine Exec.enter (m := 0) rfl rfl rfl rfl rfl rfl Tryz.func126 Tryz.ntmps126 rfl (by as_aux_lemma => kernel_rfl) (Nat.le_of_ble_eq_true rfl) (fun ai0 hai0 hdi0 => ?_)
  refine Exec.ren (swJ 5) ?_
  apply Exec.norm
  ·simp only [go_sem]
   rfl
  refine sreg te_ok ?_
  refine sreg te_ok ?_
  refine Exec.leave te_ok Tryz.func126 rfl rfl rfl (.inr ⟨_, rfl⟩) rfl rfl hai0 hdi0 rfl rfl ?_
  refine Exec.ren (swJ 5) ?_
  apply Exec.norm
  ·simp only [go_sem]
   rfl
  refine Exec.regEnd ?_
  refine Exec.block ?_
  refine Exec.range 1 hR.round hR.bfn rfl rfl Tryz.func166 Tryz.ntmps166 rfl (by as_aux_lemma => kernel_rfl) (Nat.le_of_ble_eq_true rfl) (fun a0 l0 r0 lo0 hlo0 hN0 hD0 hfr0 hfl0 => ?_)
  apply Exec.norm
  ·simp only [go_sem]
   rfl
  refine sreg te_ok ?_
  refine Exec.block ?_
  refine Exec.ownNilL 1002 0 1500 56 8 rfl rfl rfl ?_
  apply Exec.norm
  ·simp only [go_sem]
   rfl
  apply Exec.loopU [0, 1, 2] (X := Nat × Int × List Pt) (fun ⟨iA, qA, accA⟩ => [(4, .d (iv accA.length))]) (fun ⟨iA, qA, accA⟩ => [(1002, 26, [.own 1500, .d (.v (.slice none 0 0)), .d (.v (.slice none 0 0)), .d (iv 0), .d (iv 0)]), (1900, 157, [.d (tksD l), .d (iv iA), .d (iv qA)])]) (fun ⟨iA, qA, accA⟩ => [(1500, ⟨56, 8, accA.length, accA.length, fun i => ptC (nth accA i)⟩)]) (fun ⟨iA, qA, accA⟩ => l.length - iA) (fun ⟨iA, qA, accA⟩ => (na ≤ iA ∧ iA < l.length ∧ na + accA.length ≤ iA) ∧ manyP l (patP l) [44] 4 (l.length + 1) ⟨na, ma⟩ [] = manyP l (patP l) [44] 4 (l.length + 1 - accA.length) ⟨iA, qA⟩ accA) (na, ma, [])
  case h0 =>
   exact ⟨⟨Nat.le_refl _, by assumption, by simp⟩, rfl⟩
  case hw =>
   simp only [go_sem]; exact fun i hi => absurd hi (Nat.not_lt_zero i)
  case body =>
   rintro ⟨iA, qA, accA⟩ hxA ih0
   try simp only at hxA
   have hlen := hk.len
   have hfew := hk.few
   have hiA : iA < l.length := hxA.1.2.1
   have hfA : 0 < l.length + 1 - accA.length := by omega
   have hwA := wl accA.length (by omega)
   obtain ⟨pA, hpA⟩ : ∃ p, limS (decide (accA.length = 4)) (nth l iA).a ⟨iA, qA⟩ = ⟨iA, p⟩ := ⟨_, lim_eta _ _ _ _⟩
   have hcA : ((accA.length : Int) == 4) = decide (accA.length = 4) := by rw [keq]; exact decide_eq_decide.2 (by omega)
   apply Exec.norm
   ·simp only [go_sem, hwA, hpA, hcA]
    rfl
   refine sq ?_
   refine sq ?_
   refine Exec.regStart 8 rfl ?_
   apply Exec.regPart 0 2 6 te_ok rfl
   ·intro u' Q hQ
    simp only [go_sem, hwA, hpA, hcA]
    repeat refine ob2 ?_
    exact hQ
   refine Exec.yield 1 (m := 5) rfl rfl rfl rfl rfl rfl hlo0 rfl hN0 rfl (fun ag0 hag0 hdg0 => ?_)
   apply Exec.norm
   ·simp only [go_sem, hwA, hpA, hcA]
    rfl
   apply Exec.regionL te_ok
   ·intro u' Q hQ
    simp only [go_sem, hwA, hpA, hcA]
    repeat refine ob2 ?_
    exact hQ
   refine Exec.begin rfl hlo0 hfl0 ?_
   apply Exec.norm
   ·simp only [go_sem, hwA, hpA, hcA]
    rfl
   refine Exec.block ?_
   refine sq ?_
   apply Exec.free (st := _) 10 9 [(0, 1), (0, 2), (0, 3), (1, 3), (2, 3), (0, 4), (1, 4), (2, 4), (0, 5), (1, 5), (2, 5), (0, 6), (1, 6), (2, 6), (0, 7), (1, 7), (2, 7)] te_ok (by as_aux_lemma => kernel_rfl) rfl (by as_aux_lemma => kernel_rfl)
   ·intro u' Q hQ
    simp only [go_sem, hwA, hpA, hcA]
    repeat refine ob2 ?_
    refine kfcallM 900 hR.inv te_ok rfl rfl rfl rfl rfl rfl rfl rfl rfl (token_ok _ _ _ (by assumption)) ?_
    simp only [go_sem, hwA, hpA, hcA]
    repeat refine ob2 ?_
    refine kfcallM 900 hR.inv te_ok rfl rfl rfl rfl rfl rfl rfl rfl rfl (limit_ok _ _ _ _ _) ?_
    simp only [go_sem, hwA, hpA, hcA]
    repeat refine ob2 ?_
    exact hQ
   ·rfl
   rcases hqA : patP l ⟨iA, pA⟩ with ⟨⟨jA, rA⟩, xA⟩ | atA
   ·have haA := pat_adv hk (s := ⟨iA, pA⟩) hiA _ _ hqA
    simp only at haA
    apply Exec.free (st := _) 9 8 [(0, 2), (1, 2), (0, 3), (1, 3), (0, 4), (1, 4)] te_ok (by as_aux_lemma => kernel_rfl) rfl (by as_aux_lemma => kernel_rfl)
    ·intro u' Q hQ
     simp only [go_sem, hwA, hpA, hcA]
     repeat refine ob2 ?_
     refine kfcallM 900 hR.inv te_ok rfl rfl rfl rfl rfl rfl rfl rfl rfl (fOk (ppat_ok l iA pA hk hiA) hqA) ?_
     simp only [go_sem, hwA, hpA, hcA]
     repeat refine ob2 ?_
     refine kfstore te_ok rfl rfl rfl rfl rfl (by simp only [go_sem, hwA, hpA, hcA]; rfl) rfl rfl rfl rfl rfl (Nat.le_of_ble_eq_true rfl) ?_
     simp only [go_sem, hwA, hpA, hcA]
     repeat refine ob2 ?_
     exact hQ
    ·rfl
    refine Exec.inBlock ?_
    refine Exec.roundEnd 1 .fall rfl hlo0 hfl0 rfl hag0 hdg0 rfl rfl rfl ?_
    apply Exec.norm
    ·simp only [go_sem, hwA, hpA, hcA]
     rfl
    apply Exec.regPart 3 5 0 te_ok rfl
    ·intro u' Q hQ
     simp only [go_sem, hwA, hpA, hcA]
     repeat refine ob2 ?_
     refine kun te_ok [9, 10] (by simp only [go_sem, hwA, hpA, hcA]; rfl) ?_
     simp only [go_sem, hwA, hpA, hcA]
     repeat refine ob2 ?_
     refine kcallM 1900 hR.inv te_ok rfl rfl rfl rfl rfl rfl rfl rfl rfl (is_ok _ _ _ _ (by omega) hk.len) ?_
     simp only [go_sem, hwA, hpA, hcA]
     repeat refine ob2 ?_
     exact hQ
    refine Exec.regEnd ?_
    refine Exec.cond_split rfl (fun h0 => ?_) (fun h0 => ?_)
    ·have hsA : isS l [44] ⟨jA, rA⟩ = ⟨jA + 1, rA⟩ := by rw [isS, if_pos h0]; rfl
     have hnA : jA + 1 < l.length := is_adv hk (s := ⟨jA, rA⟩) haA.2 h0
     have hzA := many_on (rd := patP l) (s := ⟨iA, qA⟩) (mx := 4) (acc := accA) hfA (by rw [hpA]; exact hqA) h0
     refine sk ?_
     refine sq ?_
     refine Exec.block ?_
     refine sk ?_
     refine Exec.inBlock ?_
     apply Exec.regionL te_ok
     ·intro u' Q hQ
      simp only [go_sem, hwA, hpA, hcA, hsA]
      repeat refine ob2 ?_
      exact hQ
     refine Exec.back (ih0 (jA + 1, rA, accA ++ [xA]) ?_ ?_) ?_ ?_ ?_ ?_ ?_ ?_ ?_
     ·try simp only
      exact ⟨⟨by omega, hnA, by simp; omega⟩, by rw [hxA.2, hzA]; congr 1; simp; omega⟩
     ·try simp only
      omega
     ·rfl
     ·rfl
     ·(simp only [go_sem, hwA]; simp)
     ·(simp only [go_sem])
     ·simp only [go_sem]
      exact ⟨by simp, .inl (by simp), fun i hi => catR_snoc ptC accA xA i hi⟩
     ·simp only [go_sem, hwA, hpA, hcA, hsA]
     ·rfl
    ·have hsA : isS l [44] ⟨jA, rA⟩ = ⟨jA, rA⟩ := by rw [isS, if_neg (by rw [h0]; decide)]
     have hAA : manyP l (patP l) [44] 4 (l.length + 1) ⟨na, ma⟩ [] = .ok ⟨jA, rA⟩ (accA ++ [xA]) := hxA.2.trans (many_end hfA (by rw [hpA]; exact hqA) h0)
     have hjA : jA < l.length := haA.2
     refine Exec.exit rfl ?_
     refine Exec.rangeEnd 1 (pd := none) Tryz.func166 rfl (.inl rfl) rfl rfl hlo0 hfl0 rfl rfl hN0 hD0 ?_
     apply Exec.norm
     ·simp only [go_sem, hwA, hpA, hcA, hsA]
      rfl
     refine Exec.inBlock ?_
     refine sq ?_
     refine sq ?_
     refine Exec.rowTo 500 ⟨56, 8, (accA ++ [xA]).length, (accA ++ [xA]).length, fun i => ptC (nth (accA ++ [xA]) i)⟩ rfl ⟨rfl, rfl, by simp, .inl (by simp), fun i hi => catR_snoc ptC accA xA i hi⟩ ?_
     apply Exec.norm
     ·simp only [go_sem]
      rfl
     refine Exec.freeze 500 rfl ?_
     apply Exec.norm
     ·simp only [go_sem]
      rfl
     apply Exec.regionL te_ok
     ·intro u' Q hQ
      simp only [go_sem, hwA, hpA, hcA, hsA]
      repeat refine ob2 ?_
      refine kcallM 900 hR.inv te_ok rfl rfl rfl rfl rfl rfl rfl rfl rfl (is_ok _ _ _ _ (by assumption) hk.len) ?_
      simp only [go_sem, hwA, hpA, hcA, hsA]
      repeat refine ob2 ?_
      exact hQ
     refine Exec.cond_split rfl (fun h1 => ?_) (fun h1 => ?_)
     ·have hsh1 : isS l [119, 104, 101, 114, 101] ⟨jA, rA⟩ = ⟨jA + 1, rA⟩ := by rw [isS, if_pos h1]; rfl
      have hnh1 : jA + 1 < l.length := is_adv hk (s := ⟨jA, rA⟩) (by assumption) h1
      refine sq ?_
      refine Exec.regStart 2 rfl ?_
      apply Exec.regPart 0 1 1 te_ok rfl
      ·intro u' Q hQ
       simp only [go_sem, hwA, hpA, hcA, hsA, hsh1]
       repeat refine ob2 ?_
       exact hQ
      refine Exec.enter (m := 0) rfl rfl rfl rfl rfl rfl Tryz.func126 Tryz.ntmps126 rfl (by as_aux_lemma => kernel_rfl) (Nat.le_of_ble_eq_true rfl) (fun ai1 hai1 hdi1 => ?_)
      refine Exec.ren (swJ 6) ?_
      apply Exec.norm
      ·simp only [go_sem, hwA, hpA, hcA, hsA, hsh1]
       rfl
      refine sq ?_
      apply Exec.regionL te_ok
      ·intro u' Q hQ
       simp only [go_sem, hwA, hpA, hcA, hsA, hsh1]
       repeat refine ob2 ?_
       exact hQ
      refine sq ?_
      apply Exec.regionL te_ok
      ·intro u' Q hQ
       simp only [go_sem, hwA, hpA, hcA, hsA, hsh1]
       repeat refine ob2 ?_
       exact hQ
      refine Exec.leave te_ok Tryz.func126 rfl rfl rfl (.inr ⟨_, rfl⟩) rfl rfl hai1 hdi1 rfl rfl ?_
      refine Exec.ren (swJ 6) ?_
      apply Exec.norm
      ·simp only [go_sem, hwA, hpA, hcA, hsA, hsh1]
       rfl
      refine Exec.regEnd ?_
      refine Exec.block ?_
      refine Exec.range 1 hR.round hR.bfn rfl rfl Tryz.func166 Tryz.ntmps166 rfl (by as_aux_lemma => kernel_rfl) (Nat.le_of_ble_eq_true rfl) (fun a1 l1 r1 lo1 hlo1 hN1 hD1 hfr1 hfl1 => ?_)
      apply Exec.norm
      ·simp only [go_sem, hwA, hpA, hcA, hsA, hsh1]
       rfl
      refine sq ?_
      apply Exec.regionL te_ok
      ·intro u' Q hQ
       simp only [go_sem, hwA, hpA, hcA, hsA, hsh1]
       repeat refine ob2 ?_
       exact hQ
      refine Exec.block ?_
      refine Exec.ownNilL 1002 1 1501 53 13 rfl rfl rfl ?_
      apply Exec.norm
      ·simp only [go_sem]
       rfl
      apply Exec.loopU [0, 1, 2] (X := Nat × Int × List Cd) (fun ⟨iB, qB, accB⟩ => [(4, .d (iv accB.length))]) (fun ⟨iB, qB, accB⟩ => [(1002, 26, [.d (ptsD (accA ++ [xA])), .own 1501, .d (.v (.slice none 0 0)), .d (iv 0), .d (iv 0)]), (1900, 157, [.d (tksD l), .d (iv iB), .d (iv qB)])]) (fun ⟨iB, qB, accB⟩ => [(1501, ⟨53, 13, accB.length, accB.length, fun i => cdC (nth accB i)⟩)]) (fun ⟨iB, qB, accB⟩ => l.length - iB) (fun ⟨iB, qB, accB⟩ => ((jA + 1) ≤ iB ∧ iB < l.length ∧ (jA + 1) + accB.length ≤ iB) ∧ manyP l (cdP l) [97, 110, 100] 6 (l.length + 1) ⟨(jA + 1), rA⟩ [] = manyP l (cdP l) [97, 110, 100] 6 (l.length + 1 - accB.length) ⟨iB, qB⟩ accB) ((jA + 1), rA, [])
      case h0 =>
       exact ⟨⟨Nat.le_refl _, by assumption, by simp⟩, rfl⟩
      case hw =>
       simp only [go_sem]; exact fun i hi => absurd hi (Nat.not_lt_zero i)
      case body =>
       rintro ⟨iB, qB, accB⟩ hxB ih1
       try simp only at hxB
       have hlen := hk.len
       have hfew := hk.few
       have hiB : iB < l.length := hxB.1.2.1
       have hfB : 0 < l.length + 1 - accB.length := by omega
       have hwB := wl accB.length (by omega)
       obtain ⟨pB, hpB⟩ : ∃ p, limS (decide (accB.length = 6)) (nth l iB).a ⟨iB, qB⟩ = ⟨iB, p⟩ := ⟨_, lim_eta _ _ _ _⟩
       have hcB : ((accB.length : Int) == 6) = decide (accB.length = 6) := by rw [keq]; exact decide_eq_decide.2 (by omega)
       apply Exec.norm
       ·simp only [go_sem, hwA, hpA, hcA, hsA, hsh1, hwB, hpB, hcB]
        rfl
       refine sq ?_
       refine sq ?_
       refine Exec.regStart 8 rfl ?_
       apply Exec.regPart 0 2 6 te_ok rfl
       ·intro u' Q hQ
        simp only [go_sem, hwA, hpA, hcA, hsA, hsh1, hwB, hpB, hcB]
        repeat refine ob2 ?_
        exact hQ
       refine Exec.yield 1 (m := 5) rfl rfl rfl rfl rfl rfl hlo1 rfl hN1 rfl (fun ag1 hag1 hdg1 => ?_)
       apply Exec.norm
       ·simp only [go_sem, hwA, hpA, hcA, hsA, hsh1, hwB, hpB, hcB]
        rfl
       apply Exec.regionL te_ok
       ·intro u' Q hQ
        simp only [go_sem, hwA, hpA, hcA, hsA, hsh1, hwB, hpB, hcB]
        repeat refine ob2 ?_
        exact hQ
       refine Exec.begin rfl hlo1 hfl1 ?_
       apply Exec.norm
       ·simp only [go_sem, hwA, hpA, hcA, hsA, hsh1, hwB, hpB, hcB]
        rfl
       refine Exec.block ?_
       refine sq ?_
       apply Exec.free (st := _) 10 9 [(0, 1), (0, 2), (0, 3), (1, 3), (2, 3), (0, 4), (1, 4), (2, 4), (0, 5), (1, 5), (2, 5), (0, 6), (1, 6), (2, 6), (0, 7), (1, 7), (2, 7)] te_ok (by as_aux_lemma => kernel_rfl) rfl (by as_aux_lemma => kernel_rfl)
       ·intro u' Q hQ
        simp only [go_sem, hwA, hpA, hcA, hsA, hsh1, hwB, hpB, hcB]
        repeat refine ob2 ?_
        refine kfcallM 900 hR.inv te_ok rfl rfl rfl rfl rfl rfl rfl rfl rfl (token_ok _ _ _ (by assumption)) ?_
        simp only [go_sem, hwA, hpA, hcA, hsA, hsh1, hwB, hpB, hcB]
        repeat refine ob2 ?_
        refine kfcallM 900 hR.inv te_ok rfl rfl rfl rfl rfl rfl rfl rfl rfl (limit_ok _ _ _ _ _) ?_
        simp only [go_sem, hwA, hpA, hcA, hsA, hsh1, hwB, hpB, hcB]
        repeat refine ob2 ?_
        exact hQ
       ·rfl
       rcases hqB : cdP l ⟨iB, pB⟩ with ⟨⟨jB, rB⟩, xB⟩ | atB
       ·have haB := cd_adv hk (s := ⟨iB, pB⟩) hiB _ _ hqB
        simp only at haB
        apply Exec.free (st := _) 9 8 [(0, 2), (1, 2), (0, 3), (1, 3), (0, 4), (1, 4)] te_ok (by as_aux_lemma => kernel_rfl) rfl (by as_aux_lemma => kernel_rfl)
        ·intro u' Q hQ
         simp only [go_sem, hwA, hpA, hcA, hsA, hsh1, hwB, hpB, hcB]
         repeat refine ob2 ?_
         refine kfcallM 900 hR.inv te_ok rfl rfl rfl rfl rfl rfl rfl rfl rfl (fOk (pcond_ok l iB pB hk hiB) hqB) ?_
         simp only [go_sem, hwA, hpA, hcA, hsA, hsh1, hwB, hpB, hcB]
         repeat refine ob2 ?_
         refine kfstore te_ok rfl rfl rfl rfl rfl (by simp only [go_sem, hwA, hpA, hcA, hsA, hsh1, hwB, hpB, hcB]; rfl) rfl rfl rfl rfl rfl (Nat.le_of_ble_eq_true rfl) ?_
         simp only [go_sem, hwA, hpA, hcA, hsA, hsh1, hwB, hpB, hcB]
         repeat refine ob2 ?_
         exact hQ
        ·rfl
        refine Exec.inBlock ?_
        refine Exec.roundEnd 1 .fall rfl hlo1 hfl1 rfl hag1 hdg1 rfl rfl rfl ?_
        apply Exec.norm
        ·simp only [go_sem, hwA, hpA, hcA, hsA, hsh1, hwB, hpB, hcB]
         rfl
        apply Exec.regPart 3 5 0 te_ok rfl
        ·intro u' Q hQ
         simp only [go_sem, hwA, hpA, hcA, hsA, hsh1, hwB, hpB, hcB]
         repeat refine ob2 ?_
         refine kun te_ok [9, 10] (by simp only [go_sem, hwA, hpA, hcA, hsA, hsh1, hwB, hpB, hcB]; rfl) ?_
         simp only [go_sem, hwA, hpA, hcA, hsA, hsh1, hwB, hpB, hcB]
         repeat refine ob2 ?_
         refine kcallM 1900 hR.inv te_ok rfl rfl rfl rfl rfl rfl rfl rfl rfl (is_ok _ _ _ _ (by omega) hk.len) ?_
         simp only [go_sem, hwA, hpA, hcA, hsA, hsh1, hwB, hpB, hcB]
         repeat refine ob2 ?_
         exact hQ
        refine Exec.regEnd ?_
        refine Exec.cond_split rfl (fun h2 => ?_) (fun h2 => ?_)
        ·have hsB : isS l [97, 110, 100] ⟨jB, rB⟩ = ⟨jB + 1, rB⟩ := by rw [isS, if_pos h2]; rfl
         have hnB : jB + 1 < l.length := is_adv hk (s := ⟨jB, rB⟩) haB.2 h2
         have hzB := many_on (rd := cdP l) (s := ⟨iB, qB⟩) (mx := 6) (acc := accB) hfB (by rw [hpB]; exact hqB) h2
         refine sk ?_
         refine sq ?_
         refine Exec.block ?_
         refine sk ?_
         refine Exec.inBlock ?_
         apply Exec.regionL te_ok
         ·intro u' Q hQ
          simp only [go_sem, hwA, hpA, hcA, hsA, hsh1, hwB, hpB, hcB, hsB]
          repeat refine ob2 ?_
          exact hQ
         refine Exec.back (ih1 (jB + 1, rB, accB ++ [xB]) ?_ ?_) ?_ ?_ ?_ ?_ ?_ ?_ ?_
         ·try simp only
          exact ⟨⟨by omega, hnB, by simp; omega⟩, by rw [hxB.2, hzB]; congr 1; simp; omega⟩
         ·try simp only
          omega
         ·rfl
         ·rfl
         ·(simp only [go_sem, hwB]; simp)
         ·(simp only [go_sem])
         ·simp only [go_sem]
          exact ⟨by simp, .inl (by simp), fun i hi => catR_snoc cdC accB xB i hi⟩
         ·simp only [go_sem, hwA, hpA, hcA, hsA, hsh1, hwB, hpB, hcB, hsB]
         ·rfl
        ·have hsB : isS l [97, 110, 100] ⟨jB, rB⟩ = ⟨jB, rB⟩ := by rw [isS, if_neg (by rw [h2]; decide)]
         have hAB : manyP l (cdP l) [97, 110, 100] 6 (l.length + 1) ⟨(jA + 1), rA⟩ [] = .ok ⟨jB, rB⟩ (accB ++ [xB]) := hxB.2.trans (many_end hfB (by rw [hpB]; exact hqB) h2)
         have hjB : jB < l.length := haB.2
         refine Exec.exit rfl ?_
         refine Exec.rangeEnd 1 (pd := none) Tryz.func166 rfl (.inl rfl) rfl rfl hlo1 hfl1 rfl rfl hN1 hD1 ?_
         apply Exec.norm
         ·simp only [go_sem, hwA, hpA, hcA, hsA, hsh1, hwB, hpB, hcB, hsB]
          rfl
         refine Exec.inBlock ?_
         refine sq ?_
         refine Exec.rowTo 501 ⟨53, 13, (accB ++ [xB]).length, (accB ++ [xB]).length, fun i => cdC (nth (accB ++ [xB]) i)⟩ rfl ⟨rfl, rfl, by simp, .inl (by simp), fun i hi => catR_snoc cdC accB xB i hi⟩ ?_
         apply Exec.norm
         ·simp only [go_sem]
          rfl
         refine Exec.freeze 501 rfl ?_
         apply Exec.norm
         ·simp only [go_sem]
          rfl
         rcases hqrC : mustP l [114, 101, 116, 117, 114, 110] ⟨jB, rB⟩ with ⟨⟨nrC, mrC⟩, xrC⟩ | atrC
         ·have harC := must_adv hk (s := ⟨jB, rB⟩) (by assumption) _ _ hqrC
          have hnrC : nrC < l.length := harC.2
          apply Exec.regionL te_ok
          ·intro u' Q hQ
           simp only [go_sem, hwA, hpA, hcA, hsA, hsh1, hwB, hpB, hcB, hsB]
           repeat refine ob2 ?_
           refine kcallM 900 hR.inv te_ok rfl rfl rfl rfl rfl rfl rfl rfl rfl (fOk (must_ok l jB rB [114, 101, 116, 117, 114, 110] (by assumption) hk.len) hqrC) ?_
           simp only [go_sem, hwA, hpA, hcA, hsA, hsh1, hwB, hpB, hcB, hsB]
           repeat refine ob2 ?_
           exact hQ
          refine sq ?_
          refine sq ?_
          refine Exec.regStart 2 rfl ?_
          apply Exec.regPart 0 1 1 te_ok rfl
          ·intro u' Q hQ
           simp only [go_sem, hwA, hpA, hcA, hsA, hsh1, hwB, hpB, hcB, hsB]
           repeat refine ob2 ?_
           exact hQ
          refine Exec.enter (m := 0) rfl rfl rfl rfl rfl rfl Tryz.func126 Tryz.ntmps126 rfl (by as_aux_lemma => kernel_rfl) (Nat.le_of_ble_eq_true rfl) (fun ai2 hai2 hdi2 => ?_)
          refine Exec.ren (swJ 7) ?_
          apply Exec.norm
          ·simp only [go_sem, hwA, hpA, hcA, hsA, hsh1, hwB, hpB, hcB, hsB]
           rfl
          refine sq ?_
          apply Exec.regionL te_ok
          ·intro u' Q hQ
           simp only [go_sem, hwA, hpA, hcA, hsA, hsh1, hwB, hpB, hcB, hsB]
           repeat refine ob2 ?_
           exact hQ
          refine sq ?_
          apply Exec.regionL te_ok
          ·intro u' Q hQ
           simp only [go_sem, hwA, hpA, hcA, hsA, hsh1, hwB, hpB, hcB, hsB]
           repeat refine ob2 ?_
           exact hQ
          refine Exec.leave te_ok Tryz.func126 rfl rfl rfl (.inr ⟨_, rfl⟩) rfl rfl hai2 hdi2 rfl rfl ?_
          refine Exec.ren (swJ 7) ?_
          apply Exec.norm
          ·simp only [go_sem, hwA, hpA, hcA, hsA, hsh1, hwB, hpB, hcB, hsB]
           rfl
          refine Exec.regEnd ?_
          refine Exec.block ?_
          refine Exec.range 1 hR.round hR.bfn rfl rfl Tryz.func166 Tryz.ntmps166 rfl (by as_aux_lemma => kernel_rfl) (Nat.le_of_ble_eq_true rfl) (fun a2 l2 r2 lo2 hlo2 hN2 hD2 hfr2 hfl2 => ?_)
          apply Exec.norm
          ·simp only [go_sem, hwA, hpA, hcA, hsA, hsh1, hwB, hpB, hcB, hsB]
           rfl
          refine sq ?_
          apply Exec.regionL te_ok
          ·intro u' Q hQ
           simp only [go_sem, hwA, hpA, hcA, hsA, hsh1, hwB, hpB, hcB, hsB]
           repeat refine ob2 ?_
           exact hQ
          refine Exec.block ?_
          refine Exec.ownNilL 1002 2 1502 51 6 rfl rfl rfl ?_
          apply Exec.norm
          ·simp only [go_sem]
           rfl
          apply Exec.loopU [0, 1, 2] (X := Nat × Int × List Opd) (fun ⟨iC, qC, accC⟩ => [(4, .d (iv accC.length))]) (fun ⟨iC, qC, accC⟩ => [(1002, 26, [.d (ptsD (accA ++ [xA])), .d (cdsD (accB ++ [xB])), .own 1502, .d (iv 0), .d (iv 0)]), (1900, 157, [.d (tksD l), .d (iv iC), .d (iv qC)])]) (fun ⟨iC, qC, accC⟩ => [(1502, ⟨51, 6, accC.length, accC.length, fun i => opC (nth accC i)⟩)]) (fun ⟨iC, qC, accC⟩ => l.length - iC) (fun ⟨iC, qC, accC⟩ => (nrC ≤ iC ∧ iC < l.length ∧ nrC + accC.length ≤ iC) ∧ manyP l (toldP l) [44] 4 (l.length + 1) ⟨nrC, mrC⟩ [] = manyP l (toldP l) [44] 4 (l.length + 1 - accC.length) ⟨iC, qC⟩ accC) (nrC, mrC, [])
          case h0 =>
           exact ⟨⟨Nat.le_refl _, by assumption, by simp⟩, rfl⟩
          case hw =>
           simp only [go_sem]; exact fun i hi => absurd hi (Nat.not_lt_zero i)
          case body =>
           rintro ⟨iC, qC, accC⟩ hxC ih2
           try simp only at hxC
           have hlen := hk.len
           have hfew := hk.few
           have hiC : iC < l.length := hxC.1.2.1
           have hfC : 0 < l.length + 1 - accC.length := by omega
           have hwC := wl accC.length (by omega)
           obtain ⟨pC, hpC⟩ : ∃ p, limS (decide (accC.length = 4)) (nth l iC).a ⟨iC, qC⟩ = ⟨iC, p⟩ := ⟨_, lim_eta _ _ _ _⟩
           have hcC : ((accC.length : Int) == 4) = decide (accC.length = 4) := by rw [keq]; exact decide_eq_decide.2 (by omega)
           apply Exec.norm
           ·simp only [go_sem, hwA, hpA, hcA, hsA, hsh1, hwB, hpB, hcB, hsB, hwC, hpC, hcC]
            rfl
           refine sq ?_
           refine sq ?_
           refine Exec.regStart 8 rfl ?_
           apply Exec.regPart 0 2 6 te_ok rfl
           ·intro u' Q hQ
            simp only [go_sem, hwA, hpA, hcA, hsA, hsh1, hwB, hpB, hcB, hsB, hwC, hpC, hcC]
            repeat refine ob2 ?_
            exact hQ
           refine Exec.yield 1 (m := 5) rfl rfl rfl rfl rfl rfl hlo2 rfl hN2 rfl (fun ag2 hag2 hdg2 => ?_)
           apply Exec.norm
           ·simp only [go_sem, hwA, hpA, hcA, hsA, hsh1, hwB, hpB, hcB, hsB, hwC, hpC, hcC]
            rfl
           apply Exec.regionL te_ok
           ·intro u' Q hQ
            simp only [go_sem, hwA, hpA, hcA, hsA, hsh1, hwB, hpB, hcB, hsB, hwC, hpC, hcC]
            repeat refine ob2 ?_
            exact hQ
           refine Exec.begin rfl hlo2 hfl2 ?_
           apply Exec.norm
           ·simp only [go_sem, hwA, hpA, hcA, hsA, hsh1, hwB, hpB, hcB, hsB, hwC, hpC, hcC]
            rfl
           refine Exec.block ?_
           refine sq ?_
           apply Exec.free (st := _) 10 9 [(0, 1), (0, 2), (0, 3), (1, 3), (2, 3), (0, 4), (1, 4), (2, 4), (0, 5), (1, 5), (2, 5), (0, 6), (1, 6), (2, 6), (0, 7), (1, 7), (2, 7)] te_ok (by as_aux_lemma => kernel_rfl) rfl (by as_aux_lemma => kernel_rfl)
           ·intro u' Q hQ
            simp only [go_sem, hwA, hpA, hcA, hsA, hsh1, hwB, hpB, hcB, hsB, hwC, hpC, hcC]
            repeat refine ob2 ?_
            refine kfcallM 900 hR.inv te_ok rfl rfl rfl rfl rfl rfl rfl rfl rfl (token_ok _ _ _ (by assumption)) ?_
            simp only [go_sem, hwA, hpA, hcA, hsA, hsh1, hwB, hpB, hcB, hsB, hwC, hpC, hcC]
            repeat refine ob2 ?_
            refine kfcallM 900 hR.inv te_ok rfl rfl rfl rfl rfl rfl rfl rfl rfl (limit_ok _ _ _ _ _) ?_
            simp only [go_sem, hwA, hpA, hcA, hsA, hsh1, hwB, hpB, hcB, hsB, hwC, hpC, hcC]
            repeat refine ob2 ?_
            exact hQ
           ·rfl
           rcases hqC : toldP l ⟨iC, pC⟩ with ⟨⟨jC, rC⟩, xC⟩ | atC
           ·have haC := told_adv hk (s := ⟨iC, pC⟩) hiC _ _ hqC
            simp only at haC
            apply Exec.free (st := _) 9 8 [(0, 2), (1, 2), (0, 3), (1, 3), (0, 4), (1, 4)] te_ok (by as_aux_lemma => kernel_rfl) rfl (by as_aux_lemma => kernel_rfl)
            ·intro u' Q hQ
             simp only [go_sem, hwA, hpA, hcA, hsA, hsh1, hwB, hpB, hcB, hsB, hwC, hpC, hcC]
             repeat refine ob2 ?_
             refine kfcallM 900 hR.inv te_ok rfl rfl rfl rfl rfl rfl rfl rfl rfl (fOk (ptold_ok l iC pC hk hiC) hqC) ?_
             simp only [go_sem, hwA, hpA, hcA, hsA, hsh1, hwB, hpB, hcB, hsB, hwC, hpC, hcC]
             repeat refine ob2 ?_
             refine kfstore te_ok rfl rfl rfl rfl rfl (by simp only [go_sem, hwA, hpA, hcA, hsA, hsh1, hwB, hpB, hcB, hsB, hwC, hpC, hcC]; rfl) rfl rfl rfl rfl rfl (Nat.le_of_ble_eq_true rfl) ?_
             simp only [go_sem, hwA, hpA, hcA, hsA, hsh1, hwB, hpB, hcB, hsB, hwC, hpC, hcC]
             repeat refine ob2 ?_
             exact hQ
            ·rfl
            refine Exec.inBlock ?_
            refine Exec.roundEnd 1 .fall rfl hlo2 hfl2 rfl hag2 hdg2 rfl rfl rfl ?_
            apply Exec.norm
            ·simp only [go_sem, hwA, hpA, hcA, hsA, hsh1, hwB, hpB, hcB, hsB, hwC, hpC, hcC]
             rfl
            apply Exec.regPart 3 5 0 te_ok rfl
            ·intro u' Q hQ
             simp only [go_sem, hwA, hpA, hcA, hsA, hsh1, hwB, hpB, hcB, hsB, hwC, hpC, hcC]
             repeat refine ob2 ?_
             refine kun te_ok [9, 10] (by simp only [go_sem, hwA, hpA, hcA, hsA, hsh1, hwB, hpB, hcB, hsB, hwC, hpC, hcC]; rfl) ?_
             simp only [go_sem, hwA, hpA, hcA, hsA, hsh1, hwB, hpB, hcB, hsB, hwC, hpC, hcC]
             repeat refine ob2 ?_
             refine kcallM 1900 hR.inv te_ok rfl rfl rfl rfl rfl rfl rfl rfl rfl (is_ok _ _ _ _ (by omega) hk.len) ?_
             simp only [go_sem, hwA, hpA, hcA, hsA, hsh1, hwB, hpB, hcB, hsB, hwC, hpC, hcC]
             repeat refine ob2 ?_
             exact hQ
            refine Exec.regEnd ?_
            refine Exec.cond_split rfl (fun h3 => ?_) (fun h3 => ?_)
            ·have hsC : isS l [44] ⟨jC, rC⟩ = ⟨jC + 1, rC⟩ := by rw [isS, if_pos h3]; rfl
             have hnC : jC + 1 < l.length := is_adv hk (s := ⟨jC, rC⟩) haC.2 h3
             have hzC := many_on (rd := toldP l) (s := ⟨iC, qC⟩) (mx := 4) (acc := accC) hfC (by rw [hpC]; exact hqC) h3
             refine sk ?_
             refine sq ?_
             refine Exec.block ?_
             refine sk ?_
             refine Exec.inBlock ?_
             apply Exec.regionL te_ok
             ·intro u' Q hQ
              simp only [go_sem, hwA, hpA, hcA, hsA, hsh1, hwB, hpB, hcB, hsB, hwC, hpC, hcC, hsC]
              repeat refine ob2 ?_
              exact hQ
             refine Exec.back (ih2 (jC + 1, rC, accC ++ [xC]) ?_ ?_) ?_ ?_ ?_ ?_ ?_ ?_ ?_
             ·try simp only
              exact ⟨⟨by omega, hnC, by simp; omega⟩, by rw [hxC.2, hzC]; congr 1; simp; omega⟩
             ·try simp only
              omega
             ·rfl
             ·rfl
             ·(simp only [go_sem, hwC]; simp)
             ·(simp only [go_sem])
             ·simp only [go_sem]
              exact ⟨by simp, .inl (by simp), fun i hi => catR_snoc opC accC xC i hi⟩
             ·simp only [go_sem, hwA, hpA, hcA, hsA, hsh1, hwB, hpB, hcB, hsB, hwC, hpC, hcC, hsC]
             ·rfl
            ·have hsC : isS l [44] ⟨jC, rC⟩ = ⟨jC, rC⟩ := by rw [isS, if_neg (by rw [h3]; decide)]
             have hAC : manyP l (toldP l) [44] 4 (l.length + 1) ⟨nrC, mrC⟩ [] = .ok ⟨jC, rC⟩ (accC ++ [xC]) := hxC.2.trans (many_end hfC (by rw [hpC]; exact hqC) h3)
             have hjC : jC < l.length := haC.2
             refine Exec.exit rfl ?_
             refine Exec.rangeEnd 1 (pd := none) Tryz.func166 rfl (.inl rfl) rfl rfl hlo2 hfl2 rfl rfl hN2 hD2 ?_
             apply Exec.norm
             ·simp only [go_sem, hwA, hpA, hcA, hsA, hsh1, hwB, hpB, hcB, hsB, hwC, hpC, hcC, hsC]
              rfl
             refine Exec.inBlock ?_
             refine sq ?_
             refine Exec.rowTo 502 ⟨51, 6, (accC ++ [xC]).length, (accC ++ [xC]).length, fun i => opC (nth (accC ++ [xC]) i)⟩ rfl ⟨rfl, rfl, by simp, .inl (by simp), fun i hi => catR_snoc opC accC xC i hi⟩ ?_
             apply Exec.norm
             ·simp only [go_sem]
              rfl
             refine Exec.freeze 502 rfl ?_
             apply Exec.norm
             ·simp only [go_sem]
              rfl
             rcases hqgC : mustP l [114, 97, 110, 103, 101] ⟨jC, rC⟩ with ⟨⟨ngC, mgC⟩, xgC⟩ | atgC
             ·have hagC := must_adv hk (s := ⟨jC, rC⟩) (by assumption) _ _ hqgC
              have hngC : ngC < l.length := hagC.2
              apply Exec.regionL te_ok
              ·intro u' Q hQ
               simp only [go_sem, hwA, hpA, hcA, hsA, hsh1, hwB, hpB, hcB, hsB, hwC, hpC, hcC, hsC]
               repeat refine ob2 ?_
               refine kcallM 900 hR.inv te_ok rfl rfl rfl rfl rfl rfl rfl rfl rfl (fOk (must_ok l jC rC [114, 97, 110, 103, 101] (by assumption) hk.len) hqgC) ?_
               simp only [go_sem, hwA, hpA, hcA, hsA, hsh1, hwB, hpB, hcB, hsB, hwC, hpC, hcC, hsC]
               repeat refine ob2 ?_
               exact hQ
              refine sq ?_
              rcases hqhC : numP l ⟨ngC, mgC⟩ with ⟨⟨nhC, mhC⟩, xhC⟩ | athC
              ·have hahC := num_adv hk (s := ⟨ngC, mgC⟩) (by assumption) _ _ hqhC
               have hnhC : nhC < l.length := hahC.2
               apply Exec.regionL te_ok
               ·intro u' Q hQ
                simp only [go_sem, hwA, hpA, hcA, hsA, hsh1, hwB, hpB, hcB, hsB, hwC, hpC, hcC, hsC]
                repeat refine ob2 ?_
                refine kcallM 900 hR.inv te_ok rfl rfl rfl rfl rfl rfl rfl rfl rfl (fOk (pnumber_ok l ngC mgC hk (by assumption)) hqhC) ?_
                simp only [go_sem, hwA, hpA, hcA, hsA, hsh1, hwB, hpB, hcB, hsB, hwC, hpC, hcC, hsC]
                repeat refine ob2 ?_
                exact hQ
               refine sq ?_
               rcases hqsC : mustP l [115, 108, 105, 100, 101] ⟨nhC, mhC⟩ with ⟨⟨nsC, msC⟩, xsC⟩ | atsC
               ·have hasC := must_adv hk (s := ⟨nhC, mhC⟩) (by assumption) _ _ hqsC
                have hnsC : nsC < l.length := hasC.2
                apply Exec.regionL te_ok
                ·intro u' Q hQ
                 simp only [go_sem, hwA, hpA, hcA, hsA, hsh1, hwB, hpB, hcB, hsB, hwC, hpC, hcC, hsC]
                 repeat refine ob2 ?_
                 refine kcallM 900 hR.inv te_ok rfl rfl rfl rfl rfl rfl rfl rfl rfl (fOk (must_ok l nhC mhC [115, 108, 105, 100, 101] (by assumption) hk.len) hqsC) ?_
                 simp only [go_sem, hwA, hpA, hcA, hsA, hsh1, hwB, hpB, hcB, hsB, hwC, hpC, hcC, hsC]
                 repeat refine ob2 ?_
                 exact hQ
                refine sq ?_
                rcases hqtC : numP l ⟨nsC, msC⟩ with ⟨⟨ntC, mtC⟩, xtC⟩ | attC
                ·have hatC := num_adv hk (s := ⟨nsC, msC⟩) (by assumption) _ _ hqtC
                 have hntC : ntC < l.length := hatC.2
                 apply Exec.regionL te_ok
                 ·intro u' Q hQ
                  simp only [go_sem, hwA, hpA, hcA, hsA, hsh1, hwB, hpB, hcB, hsB, hwC, hpC, hcC, hsC]
                  repeat refine ob2 ?_
                  refine kcallM 900 hR.inv te_ok rfl rfl rfl rfl rfl rfl rfl rfl rfl (fOk (pnumber_ok l nsC msC hk (by assumption)) hqtC) ?_
                  simp only [go_sem, hwA, hpA, hcA, hsA, hsh1, hwB, hpB, hcB, hsB, hwC, hpC, hcC, hsC]
                  repeat refine ob2 ?_
                  exact hQ
                 refine sq ?_
                 apply Exec.regionL te_ok
                 ·intro u' Q hQ
                  simp only [go_sem, hwA, hpA, hcA, hsA, hsh1, hwB, hpB, hcB, hsB, hwC, hpC, hcC, hsC]
                  repeat refine ob2 ?_
                  exact hQ
                 refine Exec.retsMu hR te_ok rfl (.cons hfr2 (.cons hfr1 (.cons hfr0 .nil))) rfl rfl rfl ?_ (.inr ⟨_, rfl⟩)
                 refine ⟨_, _, outP_ok (s := ⟨ntC, mtC⟩) (x := ⟨accA ++ [xA], accB ++ [xB], accC ++ [xC], xhC, xtC⟩) (by simp only [queryP, PR.bind, hqa, hAA, h1, if_true, PS.adv, hAB, hqrC, hAC, hqgC, hqhC, hqsC, hqtC]), ?_⟩
                 simp only [go_sem]
                ·refine Exec.regStart 4 rfl ?_
                 apply Exec.regPart 0 1 3 te_ok rfl
                 ·intro u' Q hQ
                  simp only [go_sem, hwA, hpA, hcA, hsA, hsh1, hwB, hpB, hcB, hsB, hwC, hpC, hcC, hsC]
                  repeat refine ob2 ?_
                  exact hQ
                 refine Exec.callP 900 hR.inv rfl rfl rfl rfl rfl rfl rfl rfl rfl (fEr (pnumber_ok l nsC msC hk (by assumption)) hqtC) ?_
                 refine ExecP.endM hR (.cons hfr2 (.cons hfr1 (.cons hfr0 .nil))) ?_
                 exact ⟨_, outP_err (a := attC) (by simp only [queryP, PR.bind, hqa, hAA, h1, if_true, PS.adv, hAB, hqrC, hAC, hqgC, hqhC, hqsC, hqtC]), by simp only [go_sem]⟩
               ·refine Exec.regStart 2 rfl ?_
                apply Exec.regPart 0 1 1 te_ok rfl
                ·intro u' Q hQ
                 simp only [go_sem, hwA, hpA, hcA, hsA, hsh1, hwB, hpB, hcB, hsB, hwC, hpC, hcC, hsC]
                 repeat refine ob2 ?_
                 exact hQ
                refine Exec.callP 900 hR.inv rfl rfl rfl rfl rfl rfl rfl rfl rfl (fEr (must_ok l nhC mhC [115, 108, 105, 100, 101] (by assumption) hk.len) hqsC) ?_
                refine ExecP.endM hR (.cons hfr2 (.cons hfr1 (.cons hfr0 .nil))) ?_
                exact ⟨_, outP_err (a := atsC) (by simp only [queryP, PR.bind, hqa, hAA, h1, if_true, PS.adv, hAB, hqrC, hAC, hqgC, hqhC, hqsC]), by simp only [go_sem]⟩
              ·refine Exec.regStart 4 rfl ?_
               apply Exec.regPart 0 1 3 te_ok rfl
               ·intro u' Q hQ
                simp only [go_sem, hwA, hpA, hcA, hsA, hsh1, hwB, hpB, hcB, hsB, hwC, hpC, hcC, hsC]
                repeat refine ob2 ?_
                exact hQ
               refine Exec.callP 900 hR.inv rfl rfl rfl rfl rfl rfl rfl rfl rfl (fEr (pnumber_ok l ngC mgC hk (by assumption)) hqhC) ?_
               refine ExecP.endM hR (.cons hfr2 (.cons hfr1 (.cons hfr0 .nil))) ?_
               exact ⟨_, outP_err (a := athC) (by simp only [queryP, PR.bind, hqa, hAA, h1, if_true, PS.adv, hAB, hqrC, hAC, hqgC, hqhC]), by simp only [go_sem]⟩
             ·refine Exec.regStart 2 rfl ?_
              apply Exec.regPart 0 1 1 te_ok rfl
              ·intro u' Q hQ
               simp only [go_sem, hwA, hpA, hcA, hsA, hsh1, hwB, hpB, hcB, hsB, hwC, hpC, hcC, hsC]
               repeat refine ob2 ?_
               exact hQ
              refine Exec.callP 900 hR.inv rfl rfl rfl rfl rfl rfl rfl rfl rfl (fEr (must_ok l jC rC [114, 97, 110, 103, 101] (by assumption) hk.len) hqgC) ?_
              refine ExecP.endM hR (.cons hfr2 (.cons hfr1 (.cons hfr0 .nil))) ?_
              exact ⟨_, outP_err (a := atgC) (by simp only [queryP, PR.bind, hqa, hAA, h1, if_true, PS.adv, hAB, hqrC, hAC, hqgC]), by simp only [go_sem]⟩
           ·apply Exec.freeE (st := _) 9 3 [0, 1, 2] [(0, 2), (1, 2)] [0, 1] te_ok (by as_aux_lemma => kernel_rfl) rfl (by as_aux_lemma => kernel_rfl) (by as_aux_lemma => kernel_rfl)
            ·intro u' Q hQ
             simp only [go_sem, hwA, hpA, hcA, hsA, hsh1, hwB, hpB, hcB, hsB, hwC, hpC, hcC]
             repeat refine ob2 ?_
             exact hQ
            ·rfl
            ·rfl
            apply EndsT.norm
            ·simp only [go_sem, hwA, hpA, hcA, hsA, hsh1, hwB, hpB, hcB, hsB, hwC, hpC, hcC]
             rfl
            refine EndsT.callP 900 hR.inv rfl rfl rfl rfl rfl rfl rfl rfl rfl (fEr (ptold_ok l iC pC hk hiC) hqC) ?_
            refine ExecP.popC Tryz.func61 rfl rfl hag2 hdg2 ?_
            refine ExecP.ren (swJ 1) ?_
            refine ExecP.popR Tryz.func166 rfl rfl rfl hN2 hD2 ?_
            refine ExecP.ren (swJ 1) ?_
            refine ExecP.endM hR (.cons hfr2 (.cons hfr1 (.cons hfr0 .nil))) ?_
            have hAC : manyP l (toldP l) [44] 4 (l.length + 1) ⟨nrC, mrC⟩ [] = .err atC := hxC.2.trans (many_err hfC (by rw [hpC]; exact hqC))
            exact ⟨_, outP_err (a := atC) (by simp only [queryP, PR.bind, hqa, hAA, h1, if_true, PS.adv, hAB, hqrC, hAC]), by simp only [go_sem]⟩
         ·refine Exec.regStart 2 rfl ?_
          apply Exec.regPart 0 1 1 te_ok rfl
          ·intro u' Q hQ
           simp only [go_sem, hwA, hpA, hcA, hsA, hsh1, hwB, hpB, hcB, hsB]
           repeat refine ob2 ?_
           exact hQ
          refine Exec.callP 900 hR.inv rfl rfl rfl rfl rfl rfl rfl rfl rfl (fEr (must_ok l jB rB [114, 101, 116, 117, 114, 110] (by assumption) hk.len) hqrC) ?_
          refine ExecP.endM hR (.cons hfr1 (.cons hfr0 .nil)) ?_
          exact ⟨_, outP_err (a := atrC) (by simp only [queryP, PR.bind, hqa, hAA, h1, if_true, PS.adv, hAB, hqrC]), by simp only [go_sem]⟩
       ·apply Exec.freeE (st := _) 9 3 [0, 1, 2] [(0, 2), (1, 2)] [0, 1] te_ok (by as_aux_lemma => kernel_rfl) rfl (by as_aux_lemma => kernel_rfl) (by as_aux_lemma => kernel_rfl)
        ·intro u' Q hQ
         simp only [go_sem, hwA, hpA, hcA, hsA, hsh1, hwB, hpB, hcB]
         repeat refine ob2 ?_
         exact hQ
        ·rfl
        ·rfl
        apply EndsT.norm
        ·simp only [go_sem, hwA, hpA, hcA, hsA, hsh1, hwB, hpB, hcB]
         rfl
        refine EndsT.callP 900 hR.inv rfl rfl rfl rfl rfl rfl rfl rfl rfl (fEr (pcond_ok l iB pB hk hiB) hqB) ?_
        refine ExecP.popC Tryz.func61 rfl rfl hag1 hdg1 ?_
        refine ExecP.ren (swJ 1) ?_
        refine ExecP.popR Tryz.func166 rfl rfl rfl hN1 hD1 ?_
        refine ExecP.ren (swJ 1) ?_
        refine ExecP.endM hR (.cons hfr1 (.cons hfr0 .nil)) ?_
        have hAB : manyP l (cdP l) [97, 110, 100] 6 (l.length + 1) ⟨(jA + 1), rA⟩ [] = .err atB := hxB.2.trans (many_err hfB (by rw [hpB]; exact hqB))
        exact ⟨_, outP_err (a := atB) (by simp only [queryP, PR.bind, hqa, hAA, h1, if_true, PS.adv, hAB]), by simp only [go_sem]⟩
     ·have hsh1 : isS l [119, 104, 101, 114, 101] ⟨jA, rA⟩ = ⟨jA, rA⟩ := by rw [isS, if_neg (by rw [h1]; decide)]
      have hbh1 : ¬ (isP l [119, 104, 101, 114, 101] ⟨jA, rA⟩ = true) := by rw [h1]; decide
      refine sk ?_
      refine sq ?_
      rcases hqrD : mustP l [114, 101, 116, 117, 114, 110] ⟨jA, rA⟩ with ⟨⟨nrD, mrD⟩, xrD⟩ | atrD
      ·have harD := must_adv hk (s := ⟨jA, rA⟩) (by assumption) _ _ hqrD
       have hnrD : nrD < l.length := harD.2
       apply Exec.regionL te_ok
       ·intro u' Q hQ
        simp only [go_sem, hwA, hpA, hcA, hsA, hsh1]
        repeat refine ob2 ?_
        refine kcallM 900 hR.inv te_ok rfl rfl rfl rfl rfl rfl rfl rfl rfl (fOk (must_ok l jA rA [114, 101, 116, 117, 114, 110] (by assumption) hk.len) hqrD) ?_
        simp only [go_sem, hwA, hpA, hcA, hsA, hsh1]
        repeat refine ob2 ?_
        exact hQ
       refine sq ?_
       refine sq ?_
       refine Exec.regStart 2 rfl ?_
       apply Exec.regPart 0 1 1 te_ok rfl
       ·intro u' Q hQ
        simp only [go_sem, hwA, hpA, hcA, hsA, hsh1]
        repeat refine ob2 ?_
        exact hQ
       refine Exec.enter (m := 0) rfl rfl rfl rfl rfl rfl Tryz.func126 Tryz.ntmps126 rfl (by as_aux_lemma => kernel_rfl) (Nat.le_of_ble_eq_true rfl) (fun ai3 hai3 hdi3 => ?_)
       refine Exec.ren (swJ 7) ?_
       apply Exec.norm
       ·simp only [go_sem, hwA, hpA, hcA, hsA, hsh1]
        rfl
       refine sq ?_
       apply Exec.regionL te_ok
       ·intro u' Q hQ
        simp only [go_sem, hwA, hpA, hcA, hsA, hsh1]
        repeat refine ob2 ?_
        exact hQ
       refine sq ?_
       apply Exec.regionL te_ok
       ·intro u' Q hQ
        simp only [go_sem, hwA, hpA, hcA, hsA, hsh1]
        repeat refine ob2 ?_
        exact hQ
       refine Exec.leave te_ok Tryz.func126 rfl rfl rfl (.inr ⟨_, rfl⟩) rfl rfl hai3 hdi3 rfl rfl ?_
       refine Exec.ren (swJ 7) ?_
       apply Exec.norm
       ·simp only [go_sem, hwA, hpA, hcA, hsA, hsh1]
        rfl
       refine Exec.regEnd ?_
       refine Exec.block ?_
       refine Exec.range 1 hR.round hR.bfn rfl rfl Tryz.func166 Tryz.ntmps166 rfl (by as_aux_lemma => kernel_rfl) (Nat.le_of_ble_eq_true rfl) (fun a3 l3 r3 lo3 hlo3 hN3 hD3 hfr3 hfl3 => ?_)
       apply Exec.norm
       ·simp only [go_sem, hwA, hpA, hcA, hsA, hsh1]
        rfl
       refine sq ?_
       apply Exec.regionL te_ok
       ·intro u' Q hQ
        simp only [go_sem, hwA, hpA, hcA, hsA, hsh1]
        repeat refine ob2 ?_
        exact hQ
       refine Exec.block ?_
       refine Exec.ownNilL 1002 2 1502 51 6 rfl rfl rfl ?_
       apply Exec.norm
       ·simp only [go_sem]
        rfl
       apply Exec.loopU [0, 1, 2] (X := Nat × Int × List Opd) (fun ⟨iD, qD, accD⟩ => [(4, .d (iv accD.length))]) (fun ⟨iD, qD, accD⟩ => [(1002, 26, [.d (ptsD (accA ++ [xA])), .d (.v (.slice none 0 0)), .own 1502, .d (iv 0), .d (iv 0)]), (1900, 157, [.d (tksD l), .d (iv iD), .d (iv qD)])]) (fun ⟨iD, qD, accD⟩ => [(1502, ⟨51, 6, accD.length, accD.length, fun i => opC (nth accD i)⟩)]) (fun ⟨iD, qD, accD⟩ => l.length - iD) (fun ⟨iD, qD, accD⟩ => (nrD ≤ iD ∧ iD < l.length ∧ nrD + accD.length ≤ iD) ∧ manyP l (toldP l) [44] 4 (l.length + 1) ⟨nrD, mrD⟩ [] = manyP l (toldP l) [44] 4 (l.length + 1 - accD.length) ⟨iD, qD⟩ accD) (nrD, mrD, [])
       case h0 =>
        exact ⟨⟨Nat.le_refl _, by assumption, by simp⟩, rfl⟩
       case hw =>
        simp only [go_sem]; exact fun i hi => absurd hi (Nat.not_lt_zero i)
       case body =>
        rintro ⟨iD, qD, accD⟩ hxD ih3
        try simp only at hxD
        have hlen := hk.len
        have hfew := hk.few
        have hiD : iD < l.length := hxD.1.2.1
        have hfD : 0 < l.length + 1 - accD.length := by omega
        have hwD := wl accD.length (by omega)
        obtain ⟨pD, hpD⟩ : ∃ p, limS (decide (accD.length = 4)) (nth l iD).a ⟨iD, qD⟩ = ⟨iD, p⟩ := ⟨_, lim_eta _ _ _ _⟩
        have hcD : ((accD.length : Int) == 4) = decide (accD.length = 4) := by rw [keq]; exact decide_eq_decide.2 (by omega)
        apply Exec.norm
        ·simp only [go_sem, hwA, hpA, hcA, hsA, hsh1, hwD, hpD, hcD]
         rfl
        refine sq ?_
        refine sq ?_
        refine Exec.regStart 8 rfl ?_
        apply Exec.regPart 0 2 6 te_ok rfl
        ·intro u' Q hQ
         simp only [go_sem, hwA, hpA, hcA, hsA, hsh1, hwD, hpD, hcD]
         repeat refine ob2 ?_
         exact hQ
        refine Exec.yield 1 (m := 5) rfl rfl rfl rfl rfl rfl hlo3 rfl hN3 rfl (fun ag3 hag3 hdg3 => ?_)
        apply Exec.norm
        ·simp only [go_sem, hwA, hpA, hcA, hsA, hsh1, hwD, hpD, hcD]
         rfl
        apply Exec.regionL te_ok
        ·intro u' Q hQ
         simp only [go_sem, hwA, hpA, hcA, hsA, hsh1, hwD, hpD, hcD]
         repeat refine ob2 ?_
         exact hQ
        refine Exec.begin rfl hlo3 hfl3 ?_
        apply Exec.norm
        ·simp only [go_sem, hwA, hpA, hcA, hsA, hsh1, hwD, hpD, hcD]
         rfl
        refine Exec.block ?_
        refine sq ?_
        apply Exec.free (st := _) 10 9 [(0, 1), (0, 2), (0, 3), (1, 3), (2, 3), (0, 4), (1, 4), (2, 4), (0, 5), (1, 5), (2, 5), (0, 6), (1, 6), (2, 6), (0, 7), (1, 7), (2, 7)] te_ok (by as_aux_lemma => kernel_rfl) rfl (by as_aux_lemma => kernel_rfl)
        ·intro u' Q hQ
         simp only [go_sem, hwA, hpA, hcA, hsA, hsh1, hwD, hpD, hcD]
         repeat refine ob2 ?_
         refine kfcallM 900 hR.inv te_ok rfl rfl rfl rfl rfl rfl rfl rfl rfl (token_ok _ _ _ (by assumption)) ?_
         simp only [go_sem, hwA, hpA, hcA, hsA, hsh1, hwD, hpD, hcD]
         repeat refine ob2 ?_
         refine kfcallM 900 hR.inv te_ok rfl rfl rfl rfl rfl rfl rfl rfl rfl (limit_ok _ _ _ _ _) ?_
         simp only [go_sem, hwA, hpA, hcA, hsA, hsh1, hwD, hpD, hcD]
         repeat refine ob2 ?_
         exact hQ
        ·rfl
        rcases hqD : toldP l ⟨iD, pD⟩ with ⟨⟨jD, rD⟩, xD⟩ | atD
        ·have haD := told_adv hk (s := ⟨iD, pD⟩) hiD _ _ hqD
         simp only at haD
         apply Exec.free (st := _) 9 8 [(0, 2), (1, 2), (0, 3), (1, 3), (0, 4), (1, 4)] te_ok (by as_aux_lemma => kernel_rfl) rfl (by as_aux_lemma => kernel_rfl)
         ·intro u' Q hQ
          simp only [go_sem, hwA, hpA, hcA, hsA, hsh1, hwD, hpD, hcD]
          repeat refine ob2 ?_
          refine kfcallM 900 hR.inv te_ok rfl rfl rfl rfl rfl rfl rfl rfl rfl (fOk (ptold_ok l iD pD hk hiD) hqD) ?_
          simp only [go_sem, hwA, hpA, hcA, hsA, hsh1, hwD, hpD, hcD]
          repeat refine ob2 ?_
          refine kfstore te_ok rfl rfl rfl rfl rfl (by simp only [go_sem, hwA, hpA, hcA, hsA, hsh1, hwD, hpD, hcD]; rfl) rfl rfl rfl rfl rfl (Nat.le_of_ble_eq_true rfl) ?_
          simp only [go_sem, hwA, hpA, hcA, hsA, hsh1, hwD, hpD, hcD]
          repeat refine ob2 ?_
          exact hQ
         ·rfl
         refine Exec.inBlock ?_
         refine Exec.roundEnd 1 .fall rfl hlo3 hfl3 rfl hag3 hdg3 rfl rfl rfl ?_
         apply Exec.norm
         ·simp only [go_sem, hwA, hpA, hcA, hsA, hsh1, hwD, hpD, hcD]
          rfl
         apply Exec.regPart 3 5 0 te_ok rfl
         ·intro u' Q hQ
          simp only [go_sem, hwA, hpA, hcA, hsA, hsh1, hwD, hpD, hcD]
          repeat refine ob2 ?_
          refine kun te_ok [9, 10] (by simp only [go_sem, hwA, hpA, hcA, hsA, hsh1, hwD, hpD, hcD]; rfl) ?_
          simp only [go_sem, hwA, hpA, hcA, hsA, hsh1, hwD, hpD, hcD]
          repeat refine ob2 ?_
          refine kcallM 1900 hR.inv te_ok rfl rfl rfl rfl rfl rfl rfl rfl rfl (is_ok _ _ _ _ (by omega) hk.len) ?_
          simp only [go_sem, hwA, hpA, hcA, hsA, hsh1, hwD, hpD, hcD]
          repeat refine ob2 ?_
          exact hQ
         refine Exec.regEnd ?_
         refine Exec.cond_split rfl (fun h4 => ?_) (fun h4 => ?_)
         ·have hsD : isS l [44] ⟨jD, rD⟩ = ⟨jD + 1, rD⟩ := by rw [isS, if_pos h4]; rfl
          have hnD : jD + 1 < l.length := is_adv hk (s := ⟨jD, rD⟩) haD.2 h4
          have hzD := many_on (rd := toldP l) (s := ⟨iD, qD⟩) (mx := 4) (acc := accD) hfD (by rw [hpD]; exact hqD) h4
          refine sk ?_
          refine sq ?_
          refine Exec.block ?_
          refine sk ?_
          refine Exec.inBlock ?_
          apply Exec.regionL te_ok
          ·intro u' Q hQ
           simp only [go_sem, hwA, hpA, hcA, hsA, hsh1, hwD, hpD, hcD, hsD]
           repeat refine ob2 ?_
           exact hQ
          refine Exec.back (ih3 (jD + 1, rD, accD ++ [xD]) ?_ ?_) ?_ ?_ ?_ ?_ ?_ ?_ ?_
          ·try simp only
           exact ⟨⟨by omega, hnD, by simp; omega⟩, by rw [hxD.2, hzD]; congr 1; simp; omega⟩
          ·try simp only
           omega
          ·rfl
          ·rfl
          ·(simp only [go_sem, hwD]; simp)
          ·(simp only [go_sem])
          ·simp only [go_sem]
           exact ⟨by simp, .inl (by simp), fun i hi => catR_snoc opC accD xD i hi⟩
          ·simp only [go_sem, hwA, hpA, hcA, hsA, hsh1, hwD, hpD, hcD, hsD]
          ·rfl
         ·have hsD : isS l [44] ⟨jD, rD⟩ = ⟨jD, rD⟩ := by rw [isS, if_neg (by rw [h4]; decide)]
          have hAD : manyP l (toldP l) [44] 4 (l.length + 1) ⟨nrD, mrD⟩ [] = .ok ⟨jD, rD⟩ (accD ++ [xD]) := hxD.2.trans (many_end hfD (by rw [hpD]; exact hqD) h4)
          have hjD : jD < l.length := haD.2
          refine Exec.exit rfl ?_
          refine Exec.rangeEnd 1 (pd := none) Tryz.func166 rfl (.inl rfl) rfl rfl hlo3 hfl3 rfl rfl hN3 hD3 ?_
          apply Exec.norm
          ·simp only [go_sem, hwA, hpA, hcA, hsA, hsh1, hwD, hpD, hcD, hsD]
           rfl
          refine Exec.inBlock ?_
          refine sq ?_
          refine Exec.rowTo 502 ⟨51, 6, (accD ++ [xD]).length, (accD ++ [xD]).length, fun i => opC (nth (accD ++ [xD]) i)⟩ rfl ⟨rfl, rfl, by simp, .inl (by simp), fun i hi => catR_snoc opC accD xD i hi⟩ ?_
          apply Exec.norm
          ·simp only [go_sem]
           rfl
          refine Exec.freeze 502 rfl ?_
          apply Exec.norm
          ·simp only [go_sem]
           rfl
          rcases hqgD : mustP l [114, 97, 110, 103, 101] ⟨jD, rD⟩ with ⟨⟨ngD, mgD⟩, xgD⟩ | atgD
          ·have hagD := must_adv hk (s := ⟨jD, rD⟩) (by assumption) _ _ hqgD
           have hngD : ngD < l.length := hagD.2
           apply Exec.regionL te_ok
           ·intro u' Q hQ
            simp only [go_sem, hwA, hpA, hcA, hsA, hsh1, hwD, hpD, hcD, hsD]
            repeat refine ob2 ?_
            refine kcallM 900 hR.inv te_ok rfl rfl rfl rfl rfl rfl rfl rfl rfl (fOk (must_ok l jD rD [114, 97, 110, 103, 101] (by assumption) hk.len) hqgD) ?_
            simp only [go_sem, hwA, hpA, hcA, hsA, hsh1, hwD, hpD, hcD, hsD]
            repeat refine ob2 ?_
            exact hQ
           refine sq ?_
           rcases hqhD : numP l ⟨ngD, mgD⟩ with ⟨⟨nhD, mhD⟩, xhD⟩ | athD
           ·have hahD := num_adv hk (s := ⟨ngD, mgD⟩) (by assumption) _ _ hqhD
            have hnhD : nhD < l.length := hahD.2
            apply Exec.regionL te_ok
            ·intro u' Q hQ
             simp only [go_sem, hwA, hpA, hcA, hsA, hsh1, hwD, hpD, hcD, hsD]
             repeat refine ob2 ?_
             refine kcallM 900 hR.inv te_ok rfl rfl rfl rfl rfl rfl rfl rfl rfl (fOk (pnumber_ok l ngD mgD hk (by assumption)) hqhD) ?_
             simp only [go_sem, hwA, hpA, hcA, hsA, hsh1, hwD, hpD, hcD, hsD]
             repeat refine ob2 ?_
             exact hQ
            refine sq ?_
            rcases hqsD : mustP l [115, 108, 105, 100, 101] ⟨nhD, mhD⟩ with ⟨⟨nsD, msD⟩, xsD⟩ | atsD
            ·have hasD := must_adv hk (s := ⟨nhD, mhD⟩) (by assumption) _ _ hqsD
             have hnsD : nsD < l.length := hasD.2
             apply Exec.regionL te_ok
             ·intro u' Q hQ
              simp only [go_sem, hwA, hpA, hcA, hsA, hsh1, hwD, hpD, hcD, hsD]
              repeat refine ob2 ?_
              refine kcallM 900 hR.inv te_ok rfl rfl rfl rfl rfl rfl rfl rfl rfl (fOk (must_ok l nhD mhD [115, 108, 105, 100, 101] (by assumption) hk.len) hqsD) ?_
              simp only [go_sem, hwA, hpA, hcA, hsA, hsh1, hwD, hpD, hcD, hsD]
              repeat refine ob2 ?_
              exact hQ
             refine sq ?_
             rcases hqtD : numP l ⟨nsD, msD⟩ with ⟨⟨ntD, mtD⟩, xtD⟩ | attD
             ·have hatD := num_adv hk (s := ⟨nsD, msD⟩) (by assumption) _ _ hqtD
              have hntD : ntD < l.length := hatD.2
              apply Exec.regionL te_ok
              ·intro u' Q hQ
               simp only [go_sem, hwA, hpA, hcA, hsA, hsh1, hwD, hpD, hcD, hsD]
               repeat refine ob2 ?_
               refine kcallM 900 hR.inv te_ok rfl rfl rfl rfl rfl rfl rfl rfl rfl (fOk (pnumber_ok l nsD msD hk (by assumption)) hqtD) ?_
               simp only [go_sem, hwA, hpA, hcA, hsA, hsh1, hwD, hpD, hcD, hsD]
               repeat refine ob2 ?_
               exact hQ
              refine sq ?_
              apply Exec.regionL te_ok
              ·intro u' Q hQ
               simp only [go_sem, hwA, hpA, hcA, hsA, hsh1, hwD, hpD, hcD, hsD]
               repeat refine ob2 ?_
               exact hQ
              refine Exec.retsMu hR te_ok rfl (.cons hfr3 (.cons hfr0 .nil)) rfl rfl rfl ?_ (.inr ⟨_, rfl⟩)
              refine ⟨_, _, outP_ok (s := ⟨ntD, mtD⟩) (x := ⟨accA ++ [xA], [], accD ++ [xD], xhD, xtD⟩) (by simp only [queryP, PR.bind, hqa, hAA, h1, Bool.false_eq_true, if_false, hqrD, hAD, hqgD, hqhD, hqsD, hqtD]), ?_⟩
              simp only [go_sem]
             ·refine Exec.regStart 4 rfl ?_
              apply Exec.regPart 0 1 3 te_ok rfl
              ·intro u' Q hQ
               simp only [go_sem, hwA, hpA, hcA, hsA, hsh1, hwD, hpD, hcD, hsD]
               repeat refine ob2 ?_
               exact hQ
              refine Exec.callP 900 hR.inv rfl rfl rfl rfl rfl rfl rfl rfl rfl (fEr (pnumber_ok l nsD msD hk (by assumption)) hqtD) ?_
              refine ExecP.endM hR (.cons hfr3 (.cons hfr0 .nil)) ?_
              exact ⟨_, outP_err (a := attD) (by simp only [queryP, PR.bind, hqa, hAA, h1, Bool.false_eq_true, if_false, hqrD, hAD, hqgD, hqhD, hqsD, hqtD]), by simp only [go_sem]⟩
            ·refine Exec.regStart 2 rfl ?_
             apply Exec.regPart 0 1 1 te_ok rfl
             ·intro u' Q hQ
              simp only [go_sem, hwA, hpA, hcA, hsA, hsh1, hwD, hpD, hcD, hsD]
              repeat refine ob2 ?_
              exact hQ
             refine Exec.callP 900 hR.inv rfl rfl rfl rfl rfl rfl rfl rfl rfl (fEr (must_ok l nhD mhD [115, 108, 105, 100, 101] (by assumption) hk.len) hqsD) ?_
             refine ExecP.endM hR (.cons hfr3 (.cons hfr0 .nil)) ?_
             exact ⟨_, outP_err (a := atsD) (by simp only [queryP, PR.bind, hqa, hAA, h1, Bool.false_eq_true, if_false, hqrD, hAD, hqgD, hqhD, hqsD]), by simp only [go_sem]⟩
           ·refine Exec.regStart 4 rfl ?_
            apply Exec.regPart 0 1 3 te_ok rfl
            ·intro u' Q hQ
             simp only [go_sem, hwA, hpA, hcA, hsA, hsh1, hwD, hpD, hcD, hsD]
             repeat refine ob2 ?_
             exact hQ
            refine Exec.callP 900 hR.inv rfl rfl rfl rfl rfl rfl rfl rfl rfl (fEr (pnumber_ok l ngD mgD hk (by assumption)) hqhD) ?_
            refine ExecP.endM hR (.cons hfr3 (.cons hfr0 .nil)) ?_
            exact ⟨_, outP_err (a := athD) (by simp only [queryP, PR.bind, hqa, hAA, h1, Bool.false_eq_true, if_false, hqrD, hAD, hqgD, hqhD]), by simp only [go_sem]⟩
          ·refine Exec.regStart 2 rfl ?_
           apply Exec.regPart 0 1 1 te_ok rfl
           ·intro u' Q hQ
            simp only [go_sem, hwA, hpA, hcA, hsA, hsh1, hwD, hpD, hcD, hsD]
            repeat refine ob2 ?_
            exact hQ
           refine Exec.callP 900 hR.inv rfl rfl rfl rfl rfl rfl rfl rfl rfl (fEr (must_ok l jD rD [114, 97, 110, 103, 101] (by assumption) hk.len) hqgD) ?_
           refine ExecP.endM hR (.cons hfr3 (.cons hfr0 .nil)) ?_
           exact ⟨_, outP_err (a := atgD) (by simp only [queryP, PR.bind, hqa, hAA, h1, Bool.false_eq_true, if_false, hqrD, hAD, hqgD]), by simp only [go_sem]⟩
        ·apply Exec.freeE (st := _) 9 3 [0, 1, 2] [(0, 2), (1, 2)] [0, 1] te_ok (by as_aux_lemma => kernel_rfl) rfl (by as_aux_lemma => kernel_rfl) (by as_aux_lemma => kernel_rfl)
         ·intro u' Q hQ
          simp only [go_sem, hwA, hpA, hcA, hsA, hsh1, hwD, hpD, hcD]
          repeat refine ob2 ?_
          exact hQ
         ·rfl
         ·rfl
         apply EndsT.norm
         ·simp only [go_sem, hwA, hpA, hcA, hsA, hsh1, hwD, hpD, hcD]
          rfl
         refine EndsT.callP 900 hR.inv rfl rfl rfl rfl rfl rfl rfl rfl rfl (fEr (ptold_ok l iD pD hk hiD) hqD) ?_
         refine ExecP.popC Tryz.func61 rfl rfl hag3 hdg3 ?_
         refine ExecP.ren (swJ 1) ?_
         refine ExecP.popR Tryz.func166 rfl rfl rfl hN3 hD3 ?_
         refine ExecP.ren (swJ 1) ?_
         refine ExecP.endM hR (.cons hfr3 (.cons hfr0 .nil)) ?_
         have hAD : manyP l (toldP l) [44] 4 (l.length + 1) ⟨nrD, mrD⟩ [] = .err atD := hxD.2.trans (many_err hfD (by rw [hpD]; exact hqD))
         exact ⟨_, outP_err (a := atD) (by simp only [queryP, PR.bind, hqa, hAA, h1, Bool.false_eq_true, if_false, hqrD, hAD]), by simp only [go_sem]⟩
      ·refine Exec.regStart 2 rfl ?_
       apply Exec.regPart 0 1 1 te_ok rfl
       ·intro u' Q hQ
        simp only [go_sem, hwA, hpA, hcA, hsA, hsh1]
        repeat refine ob2 ?_
        exact hQ
       refine Exec.callP 900 hR.inv rfl rfl rfl rfl rfl rfl rfl rfl rfl (fEr (must_ok l jA rA [114, 101, 116, 117, 114, 110] (by assumption) hk.len) hqrD) ?_
       refine ExecP.endM hR (.cons hfr0 .nil) ?_
       exact ⟨_, outP_err (a := atrD) (by simp only [queryP, PR.bind, hqa, hAA, h1, Bool.false_eq_true, if_false, hqrD]), by simp only [go_sem]⟩
   ·apply Exec.freeE (st := _) 9 3 [0, 1, 2] [(0, 2), (1, 2)] [0, 1] te_ok (by as_aux_lemma => kernel_rfl) rfl (by as_aux_lemma => kernel_rfl) (by as_aux_lemma => kernel_rfl)
    ·intro u' Q hQ
     simp only [go_sem, hwA, hpA, hcA]
     repeat refine ob2 ?_
     exact hQ
    ·rfl
    ·rfl
    apply EndsT.norm
    ·simp only [go_sem, hwA, hpA, hcA]
     rfl
    refine EndsT.callP 900 hR.inv rfl rfl rfl rfl rfl rfl rfl rfl rfl (fEr (ppat_ok l iA pA hk hiA) hqA) ?_
    refine ExecP.popC Tryz.func61 rfl rfl hag0 hdg0 ?_
    refine ExecP.ren (swJ 1) ?_
    refine ExecP.popR Tryz.func166 rfl rfl rfl hN0 hD0 ?_
    refine ExecP.ren (swJ 1) ?_
    refine ExecP.endM hR (.cons hfr0 .nil) ?_
    have hAA : manyP l (patP l) [44] 4 (l.length + 1) ⟨na, ma⟩ [] = .err atA := hxA.2.trans (many_err hfA (by rw [hpA]; exact hqA))
    exact ⟨_, outP_err (a := atA) (by simp only [queryP, PR.bind, hqa, hAA]), by simp only [go_sem]⟩
 ·refine Exec.regStart 2 rfl ?_
  apply Exec.regPart 0 1 1 te_ok rfl
  ·intro u' Q hQ
   simp only [go_sem]
   repeat refine ob2 ?_
   exact hQ
  refine Exec.callP 900 hR.inv rfl rfl rfl rfl rfl rfl rfl rfl rfl (fEr (must_ok l n m [109, 97, 116, 99, 104] (by assumption) hk.len) hqa) ?_
  refine ExecP.endM hR .nil ?_
  exact ⟨_, outP_err (a := ata) (by simp only [queryP, PR.bind, hqa]), by simp only [go_sem]⟩
end Go.Proofs.YtonchjamoblioaaGreatDoor
