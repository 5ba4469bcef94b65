/- Steps of a function body on data, and contracts of the functions of the seat, walked. -/
import Derived.Test.YtonchjamoblioaaGreatDoorZ11
import Derived.Test.YtonchjamoblioaaGreatDoorKOb
import Derived.Test.YtonchjamoblioaaGreatDoorKPan
import Derived.Test.YtonchjamoblioaaGreatDoorKFrz
set_option linter.unusedSimpArgs false
set_option linter.unusedVariables false
set_option linter.unusedSectionVars false
namespace Go.Proofs.YtonchjamoblioaaGreatDoor
open Go.Kin
set_option maxRecDepth 100000
set_option maxHeartbeats 0
def pc1 (q : Qu) : List UInt8 := [109, 97, 116, 99, 104, 32] ++ Lib.join (q.p.map ptT) [44, 32]
def pc2 (q : Qu) : List UInt8 := if 0 < q.c.length then [32, 119, 104, 101, 114, 101, 32] ++ Lib.join (q.c.map cdT) [32, 97, 110, 100, 32] else []
def pc3 (q : Qu) : List UInt8 := [32, 114, 101, 116, 117, 114, 110, 32] ++ Lib.join (q.r.map opT) [44, 32]
def pc4 (q : Qu) : List UInt8 := [32, 114, 97, 110, 103, 101, 32] ++ Lib.itoa q.range ++ [32, 115, 108, 105, 100, 101, 32] ++ Lib.itoa q.slide
def pcs (q : Qu) : List (List UInt8) := [pc1 q, pc2 q, pc3 q, pc4 q]
def acT (q : Qu) (i : Nat) : List UInt8 := ((pcs q).take i).flatten
theorem acT_s (q : Qu) {i : Nat} (h : i < 4) : acT q (i + 1) = acT q i ++ nth (pcs q) i := by
 unfold acT; rw [take_succ_nth (show i < (pcs q).length from h)]; simp
theorem quT_pcs {q : Qu} (h : QuF q) : acT q 4 = quT q := by
 have h1 : txP q = pc1 q := by
  unfold txP pc1; rw [accS_all (by simp), if_neg (by have := h.lp; omega)]; simp
 have h2 : txC q = pc1 q ++ pc2 q := by
  unfold txC pc2; rw [accS_all (by simp), h1]
  by_cases hc : q.c.length = 0
  ·rw [if_pos hc, if_neg (by omega)]
  ·rw [if_neg hc, if_pos (by omega)]
 have h3 : txR q = pc1 q ++ pc2 q ++ pc3 q := by
  unfold txR pc3; rw [accS_all (by simp), if_neg (by have := h.lr; omega), h2]; simp
 unfold quT acT pcs
 rw [h3]; simp [pc4]
theorem acT_le (q : Qu) {i : Nat} (h : i ≤ 4) : (acT q i).length ≤ (acT q 4).length := by
 have e : acT q 4 = acT q i ++ ((pcs q).drop i).flatten := by
  unfold acT
  rw [← List.flatten_append, List.take_append_drop]
  rfl
 rw [e, List.length_append]; omega
theorem pc_len {q : Qu} (h : QuF q) : (pc1 q).length ≤ 5000 ∧ (pc2 q).length ≤ 5000 ∧ (pc3 q).length ≤ 5000 ∧ (pc4 q).length ≤ 100 := by
 have s1 := sum_p h
 have s2 := sum_c h
 have s3 := sum_r h
 have j1 := join_len (q.p.map ptT) [44, 32]
 have j2 := join_len (q.c.map cdT) [32, 97, 110, 100, 32]
 have j3 := join_len (q.r.map opT) [44, 32]
 have i1 := Lib.itoa_length_le q.range (by have := h.ra; omega) (by have := h.ra; omega)
 have i2 := Lib.itoa_length_le q.slide (by have := h.sl; omega) (by have := h.sl; omega)
 have e2 : ([44, 32] : List UInt8).length = 2 := rfl
 have e5 : ([32, 97, 110, 100, 32] : List UInt8).length = 5 := rfl
 rw [e2] at j1 j3; rw [e5] at j2
 refine ⟨by unfold pc1; simp; omega, ?_, by unfold pc3; simp; omega, by unfold pc4; simp; omega⟩
 unfold pc2; split <;> simp <;> omega
theorem ix4 (q : Qu) {i : Nat} (h : i < 4) : ([D.v (.string (mkS (pc1 q))), D.v (.string (mkS (pc2 q))), D.v (.string (mkS (pc3 q))), D.v (.string (mkS (pc4 q)))] : List D)[i]? = some (D.v (.string (mkS (nth (pcs q) i)))) := by
 rcases (show i = 0 ∨ i = 1 ∨ i = 2 ∨ i = 3 by omega) with rfl | rfl | rfl | rfl <;> rfl
theorem nth_pc {q : Qu} (h : QuF q) {i : Nat} (hi : i < 4) : (nth (pcs q) i).length ≤ 5000 := by
 have := pc_len h
 rcases (show i = 0 ∨ i = 1 ∨ i = 2 ∨ i = 3 by omega) with rfl | rfl | rfl | rfl
 ·exact this.1
 ·exact this.2.1
 ·exact this.2.2.1
 ·exact Nat.le_trans this.2.2.2 (by omega)
theorem pieces_ok (q : Qu) : FnOK Laid Tryz.prog 42 [quD q] (.fn 83 [.ptr [ptsD q.p, cdsD q.c, opsD q.r, iv q.range, iv q.slide]]) := by
 refine FnOK_of laid_stable Tryz.func42 Tryz.ntmps42 rfl (by as_aux_lemma => kernel_rfl) (Nat.le_of_ble_eq_true rfl) (fun R hR => ?_)
 obtain ⟨_, b, cs, T, C⟩ := R
 obtain rfl : _ = Tryz.prog := hR.p
 refine sreg te_ok ?_
 refine sq ?_
 refine Exec.freezeB 1 rfl rfl rfl ?_
 apply Exec.norm
 ·simp only [go_sem]
  rfl
 refine Exec.reg te_ok ?_
 refine Exec.rets hR te_ok rfl rfl rfl (LeX.le ?_) (.inr ⟨_, rfl⟩)
 simp only [go_sem]
theorem xquery_ok (q : Qu) (hfq : FitQ q) : FnOK Laid Tryz.prog 16 [quD q] (.tup [sv (quS q), iv (quE q)]) := by
 refine FnOK_of laid_stable Tryz.func16 Tryz.ntmps16 rfl (by as_aux_lemma => kernel_rfl) (Nat.le_of_ble_eq_true rfl) (fun R hR => ?_)
 obtain ⟨_, b, cs, T, C⟩ := R
 obtain rfl : _ = Tryz.prog := hR.p
 refine sreg te_ok ?_
 refine Exec.scope ?_
 refine sq ?_
 refine sq ?_
 apply Exec.regionL te_ok
 ·intro u' Q hQ
  simp only [go_sem]
  repeat refine ob2 ?_
  refine kcall hR.inv te_ok rfl rfl rfl rfl rfl rfl (xtree_ok q hfq) ?_
  simp only [go_sem]
  repeat refine ob2 ?_
  exact hQ
 refine Exec.cond_split rfl (fun h0 => ?_) (fun h0 => ?_)
 ·refine sreg te_ok ?_
  refine Exec.rets hR te_ok rfl rfl rfl (LeX.le ?_) (.inr ⟨_, rfl⟩)
  simp only [go_sem]
  have : quR q = false := by simpa using h0
  simp [quS, quE, this]
 ·have hr : quR q = true := by simpa using h0
  have hf := qu_f hr
  have fl1 := hf.lp
  have fl2 := hf.lc
  have fl3 := hf.lr
  have fi1 := hf.ra
  have fi2 := hf.sl
  have il1 := Lib.itoa_length_le q.range (by omega) (by omega)
  have il2 := Lib.itoa_length_le q.slide (by omega) (by omega)
  have s1 := sum_p hf
  have s2 := sum_c hf
  have s3 := sum_r hf
  have j1 : (Lib.join (q.p.map ptT) [44, 32]).length ≤ _ := join_len (q.p.map ptT) [44, 32]
  have j2 : (Lib.join (q.c.map cdT) [32, 97, 110, 100, 32]).length ≤ _ := join_len (q.c.map cdT) [32, 97, 110, 100, 32]
  have j3 : (Lib.join (q.r.map opT) [44, 32]).length ≤ _ := join_len (q.r.map opT) [44, 32]
  rw [show ([44, 32] : List UInt8).length = 2 from rfl] at j1 j3
  rw [show ([32, 97, 110, 100, 32] : List UInt8).length = 5 from rfl] at j2
  refine sk ?_
  refine sreg te_ok ?_
  refine sq ?_
  refine Exec.label ?_
  refine sq ?_
  refine sq ?_
  apply Exec.regionL te_ok
  ·intro u' Q hQ
   simp only [go_sem]
   repeat refine ob2 ?_
   refine kcall hR.inv te_ok rfl rfl rfl rfl rfl rfl (pieces_ok q) ?_
   simp only [go_sem]
   repeat refine ob2 ?_
   exact hQ
  refine Exec.block ?_
  refine Exec.range 1 hR.round hR.bfn rfl rfl Tryz.func83 Tryz.ntmps83 rfl (by as_aux_lemma => kernel_rfl) (Nat.le_of_ble_eq_true rfl) (fun a0 l0 r0 lo0 hlo0 hN0 hD0 hfr0 hfl0 => ?_)
  apply Exec.norm
  ·simp only [go_sem]
   rfl
  refine sreg te_ok ?_
  refine sq ?_
  refine sreg te_ok ?_
  refine Exec.cond_split rfl (fun h1 => ?_) (fun h1 => ?_)
  ·apply Exec.regionL te_ok
   ·intro u' Q hQ
    simp only [go_sem]
    repeat refine ob2 ?_
    refine kcall hR.inv te_ok rfl rfl rfl rfl rfl rfl (joinedC_ok q.c [32, 97, 110, 100, 32] cdT (by omega) (by omega) (fun c hc => xcondT_ok c (hfq.ca c hc) (hf.c c hc))) ?_
    simp only [go_sem]
    repeat refine ob2 ?_
    exact hQ
   refine sq ?_
   apply Exec.draw (st := _) 11 10 [] [] te_ok (by as_aux_lemma => kernel_rfl) (by as_aux_lemma => kernel_rfl) (by as_aux_lemma => kernel_rfl)
   ·intro u' Q hQ
    simp only [go_sem]
    repeat refine ob2 ?_
    refine kdcall hR.inv te_ok rfl rfl rfl rfl rfl rfl (itoa_ok q.range (by constructor <;> omega)) ?_
    simp only [go_sem]
    repeat refine ob2 ?_
    refine kdcall hR.inv te_ok rfl rfl rfl rfl rfl rfl (itoa_ok q.slide (by constructor <;> omega)) ?_
    simp only [go_sem]
    repeat refine ob2 ?_
    exact hQ
   refine sq ?_
   apply Exec.draw (st := _) 14 12 [5] [] te_ok (by as_aux_lemma => kernel_rfl) (by as_aux_lemma => kernel_rfl) (by as_aux_lemma => kernel_rfl)
   ·intro u' Q hQ
    simp only [go_sem]
    repeat refine ob2 ?_
    refine kdcall hR.inv te_ok rfl rfl rfl rfl rfl rfl (joinedP_ok q.p [44, 32] ptT (by omega) (by omega) (fun p hp => xptT_ok p (hf.p p hp))) ?_
    simp only [go_sem]
    repeat refine ob2 ?_
    refine kdcall hR.inv te_ok rfl rfl rfl rfl rfl rfl (joinedO_ok q.r [44, 32] opT (by omega) (by omega) (fun o ho => xopT_ok o (hfq.ra o ho))) ?_
    simp only [go_sem]
    repeat refine ob2 ?_
    exact hQ
   refine sreg te_ok ?_
   refine Exec.block ?_
   apply Exec.loopU [0, 36] (X := Nat) (fun i => [(37, .d (iv i))]) (fun i => [(1004, 9, [.d (sv (acT q i))])]) (fun i => []) (fun i => 4 - i) (fun i => i ≤ 4 ∧ (acT q i).length ≤ 2000) 0
   case h0 =>
    exact ⟨by omega, by simp [acT]⟩
   case hw =>
    simp only [go_sem]; rfl
   case body =>
    rintro i hx ih0
    try simp only at hx
    apply Exec.norm
    ·simp only [go_sem]
     rfl
    refine sreg te_ok ?_
    refine sq ?_
    refine Exec.cond_split rfl (fun h2 => ?_) (fun h2 => ?_)
    ·have hi : i < 4 := by have := of_decide_eq_true h2; omega
     have hix : ([D.v (.string (mkS (109 :: 97 :: 116 :: 99 :: 104 :: 32 :: Lib.join (List.map ptT q.p) [44, 32]))), D.v (.string (mkS (32 :: 119 :: 104 :: 101 :: 114 :: 101 :: 32 :: Lib.join (List.map cdT q.c) [32, 97, 110, 100, 32]))), D.v (.string (mkS (32 :: 114 :: 101 :: 116 :: 117 :: 114 :: 110 :: 32 :: Lib.join (List.map opT q.r) [44, 32]))), D.v (.string (mkS (32 :: 114 :: 97 :: 110 :: 103 :: 101 :: 32 :: (Lib.itoa q.range ++ [32, 115, 108, 105, 100, 101, 32] ++ Lib.itoa q.slide))))] : List D)[i]? = some (D.v (.string (mkS (nth (pcs q) i)))) := by have hx4 := ix4 q hi; unfold pc2 at hx4; rw [if_pos (by have := of_decide_eq_true h1; omega)] at hx4; exact hx4
     have has : acT q i ++ nth (pcs q) i = acT q (i + 1) := (acT_s q hi).symm
     have hnl := nth_pc hf hi
     have w2 : IntKind.i64.wrap ((i : Int) + 1) = ((i + 1 : Nat) : Int) := by rw [wrap_id (by omega)]; omega
     refine sk ?_
     refine sq ?_
     refine Exec.block ?_
     refine sq ?_
     apply Exec.regionL te_ok
     ·intro u' Q hQ
      simp only [go_sem, hix, has, w2, Int.toNat_natCast]
      repeat refine ob2 ?_
      exact hQ
     refine sq ?_
     refine Exec.regStart 4 rfl ?_
     apply Exec.regPart 0 2 2 te_ok rfl
     ·intro u' Q hQ
      simp only [go_sem, hix, has, w2, Int.toNat_natCast]
      repeat refine ob2 ?_
      exact hQ
     refine Exec.yield 1 (m := 1) rfl rfl rfl rfl rfl rfl hlo0 rfl hN0 rfl (fun ag0 hag0 hdg0 => ?_)
     apply Exec.norm
     ·simp only [go_sem, hix, has, w2, Int.toNat_natCast]
      rfl
     apply Exec.regionL te_ok
     ·intro u' Q hQ
      simp only [go_sem, hix, has, w2, Int.toNat_natCast]
      repeat refine ob2 ?_
      exact hQ
     refine Exec.begin rfl hlo0 hfl0 ?_
     apply Exec.norm
     ·simp only [go_sem, hix, has, w2, Int.toNat_natCast]
      rfl
     refine Exec.block ?_
     refine sq ?_
     refine sq ?_
     apply Exec.regionL te_ok
     ·intro u' Q hQ
      simp only [go_sem, hix, has, w2, Int.toNat_natCast]
      repeat refine ob2 ?_
      exact hQ
     refine sq ?_
     apply Exec.regionL te_ok
     ·intro u' Q hQ
      simp only [go_sem, hix, has, w2, Int.toNat_natCast]
      repeat refine ob2 ?_
      exact hQ
     refine Exec.cond_split rfl (fun h3 => ?_) (fun h3 => ?_)
     ·refine Exec.exit rfl ?_
      refine Exec.roundEnd 1 .fall rfl hlo0 hfl0 rfl hag0 hdg0 rfl rfl rfl ?_
      apply Exec.norm
      ·simp only [go_sem, hix, has, w2, Int.toNat_natCast]
       rfl
      apply Exec.regPart 3 1 0 te_ok rfl
      ·intro u' Q hQ
       simp only [go_sem, hix, has, w2, Int.toNat_natCast]
       repeat refine ob2 ?_
       exact hQ
      refine Exec.regEnd ?_
      refine Exec.cond (t := false) rfl ?_
      simp only [reduceIte, Bool.false_eq_true]
      refine sk ?_
      refine Exec.inBlock ?_
      apply Exec.regionL te_ok
      ·intro u' Q hQ
       simp only [go_sem, hix, has, w2, Int.toNat_natCast]
       repeat refine ob2 ?_
       exact hQ
      refine Exec.back (ih0 (i + 1) ?_ ?_) ?_ ?_ ?_ ?_ ?_ ?_ ?_
      ·try simp only
       exact ⟨by omega, by have := of_decide_eq_true h3; omega⟩
      ·try simp only
       omega
      ·rfl
      ·rfl
      ·(simp only [go_sem, hix, has, w2, Int.toNat_natCast])
      ·(simp only [go_sem, hix, has, w2, Int.toNat_natCast])
      ·(simp only [go_sem, hix, has, w2, Int.toNat_natCast])
      ·simp only [go_sem, hix, has, w2, Int.toNat_natCast]
      ·rfl
     ·refine sk ?_
      refine sq ?_
      apply Exec.regionL te_ok
      ·intro u' Q hQ
       simp only [go_sem, hix, has, w2, Int.toNat_natCast]
       repeat refine ob2 ?_
       exact hQ
      refine Exec.roundEnd 1 .ret rfl hlo0 hfl0 rfl hag0 hdg0 rfl rfl rfl ?_
      apply Exec.norm
      ·simp only [go_sem, hix, has, w2, Int.toNat_natCast]
       rfl
      apply Exec.regPart 3 1 0 te_ok rfl
      ·intro u' Q hQ
       simp only [go_sem, hix, has, w2, Int.toNat_natCast]
       repeat refine ob2 ?_
       exact hQ
      refine Exec.regEnd ?_
      refine Exec.cond (t := true) rfl ?_
      simp only [reduceIte, Bool.false_eq_true]
      refine Exec.rangeEnd 1 (pd := (some .ret)) Tryz.func83 rfl (.inr ⟨_, rfl⟩) rfl rfl hlo0 hfl0 rfl rfl hN0 hD0 ?_
      apply Exec.norm
      ·simp only [go_sem, hix, has, w2, Int.toNat_natCast]
       rfl
      refine Exec.retsM hR te_ok rfl (.cons hfr0 .nil) rfl (LeX.le ?_) (.inr ⟨_, rfl⟩)
      simp only [go_sem]
      have hq3 : 2000 < (quT q).length := by have e1 := of_decide_eq_false h3; have e2 := acT_le q (i := i + 1) (by omega); rw [quT_pcs hf] at e2; omega
      simp [quS, quE, hr, hq3]
    ·refine Exec.exit rfl ?_
     refine Exec.rangeEnd 1 (pd := none) Tryz.func83 rfl (.inl rfl) rfl rfl hlo0 hfl0 rfl rfl hN0 hD0 ?_
     apply Exec.norm
     ·simp only [go_sem]
      rfl
     refine Exec.inBlock ?_
     refine sreg te_ok ?_
     refine Exec.retsM hR te_ok rfl (.cons hfr0 .nil) rfl (LeX.le ?_) (.inr ⟨_, rfl⟩)
     simp only [go_sem]
     obtain rfl : i = 4 := by have := of_decide_eq_false h2; omega
     have e3 := hx.2
     rw [quT_pcs hf] at e3 ⊢
     have hq3 : ¬ 2000 < (quT q).length := by omega
     simp [quS, quE, hr, hq3]
  ·refine sk ?_
   refine sq ?_
   apply Exec.draw (st := _) 11 10 [] [] te_ok (by as_aux_lemma => kernel_rfl) (by as_aux_lemma => kernel_rfl) (by as_aux_lemma => kernel_rfl)
   ·intro u' Q hQ
    simp only [go_sem]
    repeat refine ob2 ?_
    refine kdcall hR.inv te_ok rfl rfl rfl rfl rfl rfl (itoa_ok q.range (by constructor <;> omega)) ?_
    simp only [go_sem]
    repeat refine ob2 ?_
    refine kdcall hR.inv te_ok rfl rfl rfl rfl rfl rfl (itoa_ok q.slide (by constructor <;> omega)) ?_
    simp only [go_sem]
    repeat refine ob2 ?_
    exact hQ
   refine sq ?_
   apply Exec.draw (st := _) 14 12 [5] [] te_ok (by as_aux_lemma => kernel_rfl) (by as_aux_lemma => kernel_rfl) (by as_aux_lemma => kernel_rfl)
   ·intro u' Q hQ
    simp only [go_sem]
    repeat refine ob2 ?_
    refine kdcall hR.inv te_ok rfl rfl rfl rfl rfl rfl (joinedP_ok q.p [44, 32] ptT (by omega) (by omega) (fun p hp => xptT_ok p (hf.p p hp))) ?_
    simp only [go_sem]
    repeat refine ob2 ?_
    refine kdcall hR.inv te_ok rfl rfl rfl rfl rfl rfl (joinedO_ok q.r [44, 32] opT (by omega) (by omega) (fun o ho => xopT_ok o (hfq.ra o ho))) ?_
    simp only [go_sem]
    repeat refine ob2 ?_
    exact hQ
   refine sreg te_ok ?_
   refine Exec.block ?_
   apply Exec.loopU [0, 36] (X := Nat) (fun i => [(37, .d (iv i))]) (fun i => [(1004, 9, [.d (sv (acT q i))])]) (fun i => []) (fun i => 4 - i) (fun i => i ≤ 4 ∧ (acT q i).length ≤ 2000) 0
   case h0 =>
    exact ⟨by omega, by simp [acT]⟩
   case hw =>
    simp only [go_sem]; rfl
   case body =>
    rintro i hx ih1
    try simp only at hx
    apply Exec.norm
    ·simp only [go_sem]
     rfl
    refine sreg te_ok ?_
    refine sq ?_
    refine Exec.cond_split rfl (fun h6 => ?_) (fun h6 => ?_)
    ·have hi : i < 4 := by have := of_decide_eq_true h6; omega
     have hix : ([D.v (.string (mkS (109 :: 97 :: 116 :: 99 :: 104 :: 32 :: Lib.join (List.map ptT q.p) [44, 32]))), D.v (.string (mkS [])), D.v (.string (mkS (32 :: 114 :: 101 :: 116 :: 117 :: 114 :: 110 :: 32 :: Lib.join (List.map opT q.r) [44, 32]))), D.v (.string (mkS (32 :: 114 :: 97 :: 110 :: 103 :: 101 :: 32 :: (Lib.itoa q.range ++ [32, 115, 108, 105, 100, 101, 32] ++ Lib.itoa q.slide))))] : List D)[i]? = some (D.v (.string (mkS (nth (pcs q) i)))) := by have hx4 := ix4 q hi; unfold pc2 at hx4; rw [if_neg (by have := of_decide_eq_false h1; omega)] at hx4; exact hx4
     have has : acT q i ++ nth (pcs q) i = acT q (i + 1) := (acT_s q hi).symm
     have hnl := nth_pc hf hi
     have w2 : IntKind.i64.wrap ((i : Int) + 1) = ((i + 1 : Nat) : Int) := by rw [wrap_id (by omega)]; omega
     refine sk ?_
     refine sq ?_
     refine Exec.block ?_
     refine sq ?_
     apply Exec.regionL te_ok
     ·intro u' Q hQ
      simp only [go_sem, hix, has, w2, Int.toNat_natCast]
      repeat refine ob2 ?_
      exact hQ
     refine sq ?_
     refine Exec.regStart 4 rfl ?_
     apply Exec.regPart 0 2 2 te_ok rfl
     ·intro u' Q hQ
      simp only [go_sem, hix, has, w2, Int.toNat_natCast]
      repeat refine ob2 ?_
      exact hQ
     refine Exec.yield 1 (m := 1) rfl rfl rfl rfl rfl rfl hlo0 rfl hN0 rfl (fun ag1 hag1 hdg1 => ?_)
     apply Exec.norm
     ·simp only [go_sem, hix, has, w2, Int.toNat_natCast]
      rfl
     apply Exec.regionL te_ok
     ·intro u' Q hQ
      simp only [go_sem, hix, has, w2, Int.toNat_natCast]
      repeat refine ob2 ?_
      exact hQ
     refine Exec.begin rfl hlo0 hfl0 ?_
     apply Exec.norm
     ·simp only [go_sem, hix, has, w2, Int.toNat_natCast]
      rfl
     refine Exec.block ?_
     refine sq ?_
     refine sq ?_
     apply Exec.regionL te_ok
     ·intro u' Q hQ
      simp only [go_sem, hix, has, w2, Int.toNat_natCast]
      repeat refine ob2 ?_
      exact hQ
     refine sq ?_
     apply Exec.regionL te_ok
     ·intro u' Q hQ
      simp only [go_sem, hix, has, w2, Int.toNat_natCast]
      repeat refine ob2 ?_
      exact hQ
     refine Exec.cond_split rfl (fun h7 => ?_) (fun h7 => ?_)
     ·refine Exec.exit rfl ?_
      refine Exec.roundEnd 1 .fall rfl hlo0 hfl0 rfl hag1 hdg1 rfl rfl rfl ?_
      apply Exec.norm
      ·simp only [go_sem, hix, has, w2, Int.toNat_natCast]
       rfl
      apply Exec.regPart 3 1 0 te_ok rfl
      ·intro u' Q hQ
       simp only [go_sem, hix, has, w2, Int.toNat_natCast]
       repeat refine ob2 ?_
       exact hQ
      refine Exec.regEnd ?_
      refine Exec.cond (t := false) rfl ?_
      simp only [reduceIte, Bool.false_eq_true]
      refine sk ?_
      refine Exec.inBlock ?_
      apply Exec.regionL te_ok
      ·intro u' Q hQ
       simp only [go_sem, hix, has, w2, Int.toNat_natCast]
       repeat refine ob2 ?_
       exact hQ
      refine Exec.back (ih1 (i + 1) ?_ ?_) ?_ ?_ ?_ ?_ ?_ ?_ ?_
      ·try simp only
       exact ⟨by omega, by have := of_decide_eq_true h7; omega⟩
      ·try simp only
       omega
      ·rfl
      ·rfl
      ·(simp only [go_sem, hix, has, w2, Int.toNat_natCast])
      ·(simp only [go_sem, hix, has, w2, Int.toNat_natCast])
      ·(simp only [go_sem, hix, has, w2, Int.toNat_natCast])
      ·simp only [go_sem, hix, has, w2, Int.toNat_natCast]
      ·rfl
     ·refine sk ?_
      refine sq ?_
      apply Exec.regionL te_ok
      ·intro u' Q hQ
       simp only [go_sem, hix, has, w2, Int.toNat_natCast]
       repeat refine ob2 ?_
       exact hQ
      refine Exec.roundEnd 1 .ret rfl hlo0 hfl0 rfl hag1 hdg1 rfl rfl rfl ?_
      apply Exec.norm
      ·simp only [go_sem, hix, has, w2, Int.toNat_natCast]
       rfl
      apply Exec.regPart 3 1 0 te_ok rfl
      ·intro u' Q hQ
       simp only [go_sem, hix, has, w2, Int.toNat_natCast]
       repeat refine ob2 ?_
       exact hQ
      refine Exec.regEnd ?_
      refine Exec.cond (t := true) rfl ?_
      simp only [reduceIte, Bool.false_eq_true]
      refine Exec.rangeEnd 1 (pd := (some .ret)) Tryz.func83 rfl (.inr ⟨_, rfl⟩) rfl rfl hlo0 hfl0 rfl rfl hN0 hD0 ?_
      apply Exec.norm
      ·simp only [go_sem, hix, has, w2, Int.toNat_natCast]
       rfl
      refine Exec.retsM hR te_ok rfl (.cons hfr0 .nil) rfl (LeX.le ?_) (.inr ⟨_, rfl⟩)
      simp only [go_sem]
      have hq3 : 2000 < (quT q).length := by have e1 := of_decide_eq_false h7; have e2 := acT_le q (i := i + 1) (by omega); rw [quT_pcs hf] at e2; omega
      simp [quS, quE, hr, hq3]
    ·refine Exec.exit rfl ?_
     refine Exec.rangeEnd 1 (pd := none) Tryz.func83 rfl (.inl rfl) rfl rfl hlo0 hfl0 rfl rfl hN0 hD0 ?_
     apply Exec.norm
     ·simp only [go_sem]
      rfl
     refine Exec.inBlock ?_
     refine sreg te_ok ?_
     refine Exec.retsM hR te_ok rfl (.cons hfr0 .nil) rfl (LeX.le ?_) (.inr ⟨_, rfl⟩)
     simp only [go_sem]
     obtain rfl : i = 4 := by have := of_decide_eq_false h6; omega
     have e3 := hx.2
     rw [quT_pcs hf] at e3 ⊢
     have hq3 : ¬ 2000 < (quT q).length := by omega
     simp [quS, quE, hr, hq3]
end Go.Proofs.YtonchjamoblioaaGreatDoor
namespace Go.Proofs.YtonchjamoblioaaGreatDoor
open Go.Kin
set_option maxRecDepth 100000
set_option maxHeartbeats 0
def exS (x : Ex) : List UInt8 := if exRight x = true then exT x else []
def exE (x : Ex) : Int := if exRight x = true then 0 else 2
theorem right_ok2 {x : Ex} (h : exRight x = true) : exOk x = true ∧ x.size ≤ 24 := by
 unfold exRight at h; simp only [Bool.and_eq_true, decide_eq_true_eq] at h; exact ⟨h.2, h.1⟩
theorem xexpr_ok (x : Ex) (hfx : FitX x) : FnOK Laid Tryz.prog 18 [exD x] (.tup [sv (exS x), iv (exE x)]) := by
 refine FnOK_of laid_stable Tryz.func18 Tryz.ntmps18 rfl (by as_aux_lemma => kernel_rfl) (Nat.le_of_ble_eq_true rfl) (fun R hR => ?_)
 obtain ⟨_, b, cs, T, C⟩ := R
 obtain rfl : _ = Tryz.prog := hR.p
 refine sreg te_ok ?_
 refine sq ?_
 refine sq ?_
 apply Exec.regionL te_ok
 ·intro u' Q hQ
  simp only [go_sem]
  repeat refine ob2 ?_
  refine kcall hR.inv te_ok rfl rfl rfl rfl rfl rfl (xright_ok x hfx) ?_
  simp only [go_sem]
  repeat refine ob2 ?_
  exact hQ
 refine Exec.cond_split rfl (fun h0 => ?_) (fun h0 => ?_)
 ·refine sreg te_ok ?_
  refine Exec.rets hR te_ok rfl rfl rfl (LeX.le ?_) (.inr ⟨_, rfl⟩)
  simp only [go_sem]
  have : exRight x = false := by simpa using h0
  simp [exS, exE, this]
 ·have hr := right_ok2 (by simpa using h0 : exRight x = true)
  refine sk ?_
  refine sq ?_
  apply Exec.regionL te_ok
  ·intro u' Q hQ
   simp only [go_sem]
   repeat refine ob2 ?_
   refine kcall hR.inv te_ok rfl rfl rfl rfl rfl rfl (shown_ok' x hr.1 (by omega)) ?_
   simp only [go_sem]
   repeat refine ob2 ?_
   exact hQ
  refine Exec.rets hR te_ok rfl rfl rfl (LeX.le ?_) (.inr ⟨_, rfl⟩)
  simp only [go_sem]
  have : exRight x = true := by simpa using h0
  simp [exS, exE, this]
theorem rexprT_ok (x : Ex) (hfx : FitX x) (hx0 : x.size ≤ 1000000) : FnOK Laid Tryz.prog 19 [exD x] (.tup [sv (exS x), iv (exE x)]) := by
 refine FnOK_of laid_stable Tryz.func19 Tryz.ntmps19 rfl (by as_aux_lemma => kernel_rfl) (Nat.le_of_ble_eq_true rfl) (fun R hR => ?_)
 obtain ⟨_, b, cs, T, C⟩ := R
 obtain rfl : _ = Tryz.prog := hR.p
 refine sreg te_ok ?_
 refine sq ?_
 refine sq ?_
 apply Exec.regionL te_ok
 ·intro u' Q hQ
  simp only [go_sem]
  repeat refine ob2 ?_
  refine kcall hR.inv te_ok rfl rfl rfl rfl rfl rfl (r7right_ok x hfx hx0) ?_
  simp only [go_sem]
  repeat refine ob2 ?_
  exact hQ
 refine Exec.cond_split rfl (fun h0 => ?_) (fun h0 => ?_)
 ·refine sreg te_ok ?_
  refine Exec.rets hR te_ok rfl rfl rfl (LeX.le ?_) (.inr ⟨_, rfl⟩)
  simp only [go_sem]
  have : exRight x = false := by simpa using h0
  simp [exS, exE, this]
 ·have hr := right_ok2 (by simpa using h0 : exRight x = true)
  refine sk ?_
  refine sq ?_
  apply Exec.regionL te_ok
  ·intro u' Q hQ
   simp only [go_sem]
   repeat refine ob2 ?_
   refine kcall hR.inv te_ok rfl rfl rfl rfl rfl rfl (rexpr_ok' x hr.1 (by omega)) ?_
   simp only [go_sem]
   repeat refine ob2 ?_
   exact hQ
  refine Exec.rets hR te_ok rfl rfl rfl (LeX.le ?_) (.inr ⟨_, rfl⟩)
  simp only [go_sem]
  have : exRight x = true := by simpa using h0
  simp [exS, exE, this]
theorem label_ok (s : List UInt8) : FnOK Laid Tryz.prog 24 [sv s] (.ag [iv 1, sv s, .v (.slice none 0 0)]) := by
 refine FnOK_of laid_stable Tryz.func24 Tryz.ntmps24 rfl (by as_aux_lemma => kernel_rfl) (Nat.le_of_ble_eq_true rfl) (fun R hR => ?_)
 obtain ⟨_, b, cs, T, C⟩ := R
 obtain rfl : _ = Tryz.prog := hR.p
 refine sreg te_ok ?_
 refine sreg te_ok ?_
 refine Exec.rets hR te_ok rfl rfl rfl (LeX.le ?_) (.inr ⟨_, rfl⟩)
 simp only [go_sem]
theorem of_ok (k : Int) (n : Nat) (r : Nat → List D) : FnOK Laid Tryz.prog 25 [iv k, .sl 3 n n r] (.ag [iv k, sv [], .sl 3 n n r]) := by
 refine FnOK_of laid_stable Tryz.func25 Tryz.ntmps25 rfl (by as_aux_lemma => kernel_rfl) (Nat.le_of_ble_eq_true rfl) (fun R hR => ?_)
 obtain ⟨_, b, cs, T, C⟩ := R
 obtain rfl : _ = Tryz.prog := hR.p
 refine sreg te_ok ?_
 refine sreg te_ok ?_
 refine Exec.rets hR te_ok rfl rfl rfl (LeX.le ?_) (.inr ⟨_, rfl⟩)
 simp only [go_sem]
theorem good_ok  : FnOK Laid Tryz.prog 23 [] (.ag [.sl 8 1 1 (lstR [[sv [97], sv [98], bv false, sv [120], sv [101], iv 0, sv [], .v (.slice none 0 0)]]), .sl 13 1 1 (lstR [[iv 3, iv 2, sv [101], sv [107], iv 0, iv 0, sv [], iv 3, sv [], sv [], iv 1, iv 5, sv []]]), .sl 6 1 1 (lstR [[iv 1, sv [97], sv [], iv 0, iv 0, sv []]]), iv 5, iv 1]) := by
 refine FnOK_of laid_stable Tryz.func23 Tryz.ntmps23 rfl (by as_aux_lemma => kernel_rfl) (Nat.le_of_ble_eq_true rfl) (fun R hR => ?_)
 obtain ⟨_, b, cs, T, C⟩ := R
 obtain rfl : _ = Tryz.prog := hR.p
 refine sreg te_ok ?_
 refine sreg te_ok ?_
 refine sreg te_ok ?_
 refine Exec.rets hR te_ok rfl rfl rfl (LeX.le ?_) (.inr ⟨_, rfl⟩)
 simp only [go_sem]
end Go.Proofs.YtonchjamoblioaaGreatDoor
namespace Go.Proofs.YtonchjamoblioaaGreatDoor
open Go.Kin
set_option maxRecDepth 100000
set_option maxHeartbeats 0
theorem row1 {a : List D} {x : Ex} (h1 : LeDs a (exC x)) : LeD (.sl 3 1 1 (lstR [a])) (exsD [x]) := LeD.rows fun i hi => by
 obtain rfl : i = 0 := by omega
 rw [kdR_at (by simp)]
 exact ⟨h1, exD_lf x⟩
theorem row2 {a c : List D} {x y : Ex} (h1 : LeDs a (exC x)) (h2 : LeDs c (exC y)) : LeD (.sl 3 2 2 (lstR [a, c])) (exsD [x, y]) := LeD.rows fun i hi => by
 rcases (show i = 0 ∨ i = 1 by omega) with rfl | rfl
 ·rw [kdR_at (by simp)]; exact ⟨h1, exD_lf x⟩
 ·rw [kdR_at (by simp)]; exact ⟨h2, exD_lf y⟩
theorem lab_le (s : List UInt8) : LeDs [iv 1, sv s, .v (.slice none 0 0)] (exC (.mk 1 s [])) := ⟨LeD.refl _, LeD.refl _, by rw [kd_eq]; exact LeD.nil 3 _, trivial⟩
theorem node_le {k : Int} {l : List Ex} {d : D} (h : LeD d (exsD l)) : LeDs [iv k, sv [], d] (exC (.mk k [] l)) := ⟨LeD.refl _, LeD.refl _, by rw [kd_eq]; exact h, trivial⟩
def awE : Ex := .mk 2 [] [.mk 4 [] [.mk 3 [] [.mk 1 [120] [], .mk 1 [121] []]], .mk 1 [122] []]
theorem awE_fit : FitX awE := by
 have l : ∀ s : List UInt8, s.length ≤ 10 → FitX (.mk 1 s []) := fun s h => .mk (by show s.length ≤ _; omega) (by simp [Ex.kids]) (by simp [Ex.kids])
 refine .mk (by simp [awE, Ex.s]) (by simp [awE, Ex.kids]) fun y hy => ?_
 simp [awE, Ex.kids] at hy
 rcases hy with rfl | rfl
 ·refine .mk (by simp [Ex.s]) (by simp [Ex.kids]) fun y hy => ?_
  simp [Ex.kids] at hy; subst hy
  refine .mk (by simp [Ex.s]) (by simp [Ex.kids]) fun y hy => ?_
  simp [Ex.kids] at hy
  rcases hy with rfl | rfl <;> exact l _ (by simp)
 ·exact l _ (by simp)
theorem awE_S : exS awE = [40, 120, 124, 121, 41, 42, 46, 122] := by decide
theorem awE_E : exE awE = 0 := by decide
theorem awE_ok : FnOK Laid Tryz.prog 18 [.ag [iv 2, sv [], .sl 3 2 2 (lstR [[iv 4, sv [], .sl 3 1 1 (lstR [[iv 3, sv [], .sl 3 2 2 (lstR [[iv 1, sv [120], .v (.slice none 0 0)], [iv 1, sv [121], .v (.slice none 0 0)]])]])], [iv 1, sv [122], .v (.slice none 0 0)]])]] (.tup [sv [40, 120, 124, 121, 41, 42, 46, 122], iv 0]) := by
 have h := xexpr_ok awE awE_fit
 rw [awE_S, awE_E] at h
 exact FnOK.args h ⟨LeD.ag (node_le (row2 (node_le (row1 (node_le (row2 (lab_le _) (lab_le _))))) (lab_le _))), trivial⟩
def gq : Qu := ⟨[⟨[97], [98], false, [120], [101], zEx⟩], [⟨3, ⟨2, [101], [107], 0, 0, []⟩, ⟨3, [], [], 1, 5, []⟩⟩], [⟨1, [97], [], 0, 0, []⟩], 5, 1⟩
theorem itoa1 : Lib.itoa 1 = [49] := by
 have : Lib.decDigits 1 = [49] := by rw [Lib.decDigits, dif_pos (by omega)]; rfl
 unfold Lib.itoa; rw [if_neg (by decide)]; exact this
theorem itoa5 : Lib.itoa 5 = [53] := by
 have : Lib.decDigits 5 = [53] := by rw [Lib.decDigits, dif_pos (by omega)]; rfl
 unfold Lib.itoa; rw [if_neg (by decide)]; exact this
theorem gq_R : quR gq = true := by
 have e1 : ptR ⟨[97], [98], false, [120], [101], zEx⟩ = true := by
  unfold ptR
  rw [show freeB [97] = true from by decide, show freeB [98] = true from by decide, show freeB [120] = true from by decide, show freeB [101] = true from by decide]
  simp
 have e2 : cdR ⟨3, ⟨2, [101], [107], 0, 0, []⟩, ⟨3, [], [], 1, 5, []⟩⟩ = true := by decide
 have e3 : opR ⟨1, [97], [], 0, 0, []⟩ = true := by decide
 unfold quR gq
 simp [e1, e2, e3]
theorem gq_fit : FitQ gq := by
 refine ⟨by simp [gq], by simp [gq], by simp [gq], fun p hp => ?_, fun c hc => ?_, fun o ho => ?_⟩
 ·simp [gq] at hp; subst hp
  exact ⟨by simp, by simp, by simp, by simp, .mk (by simp [Ex.s]) (by simp [Ex.kids]) (by simp [Ex.kids]), by simp [Ex.size_eq, Ex.kids, Ex.sizes]⟩
 ·simp [gq] at hc; subst hc
  exact ⟨⟨by simp, by simp, by simp⟩, ⟨by simp, by simp, by simp⟩⟩
 ·simp [gq] at ho; subst ho
  exact ⟨by simp, by simp, by simp⟩
theorem gq_T : quT gq = [109, 97, 116, 99, 104, 32, 40, 97, 41, 45, 91, 120, 32, 97, 115, 32, 101, 93, 45, 62, 40, 98, 41, 32, 119, 104, 101, 114, 101, 32, 101, 46, 107, 32, 60, 32, 53, 32, 114, 101, 116, 117, 114, 110, 32, 97, 32, 114, 97, 110, 103, 101, 32, 53, 32, 115, 108, 105, 100, 101, 32, 49] := by
 have e1 : showT ⟨1, 5, []⟩ = [53] := by
  have : Vl.right ⟨1, 5, []⟩ = true := by decide
  unfold showT; rw [if_pos this]; unfold Vl.shown shownV; rw [if_neg (by decide)]; exact itoa5
 have e2 : opT ⟨3, [], [], 1, 5, []⟩ = [53] := by unfold opT; rw [if_neg (by decide), if_neg (by decide)]; exact e1
 have e3 : cdT ⟨3, ⟨2, [101], [107], 0, 0, []⟩, ⟨3, [], [], 1, 5, []⟩⟩ = [101, 46, 107, 32, 60, 32, 53] := by unfold cdT; rw [e2]; decide
 unfold quT txR txC txP gq
 simp only [List.map_cons, List.map_nil, e3, itoa1, itoa5]
 decide
theorem gq_S : quS gq = [109, 97, 116, 99, 104, 32, 40, 97, 41, 45, 91, 120, 32, 97, 115, 32, 101, 93, 45, 62, 40, 98, 41, 32, 119, 104, 101, 114, 101, 32, 101, 46, 107, 32, 60, 32, 53, 32, 114, 101, 116, 117, 114, 110, 32, 97, 32, 114, 97, 110, 103, 101, 32, 53, 32, 115, 108, 105, 100, 101, 32, 49] := by
 unfold quS; rw [if_pos gq_R, gq_T, if_neg (by decide)]
theorem gq_E : quE gq = 0 := by
 unfold quE; rw [if_pos gq_R, gq_T, if_neg (by decide)]
theorem gq_ok : FnOK Laid Tryz.prog 16 [.ag [.sl 8 1 1 (lstR [[sv [97], sv [98], bv false, sv [120], sv [101], iv 0, sv [], .v (.slice none 0 0)]]), .sl 13 1 1 (lstR [[iv 3, iv 2, sv [101], sv [107], iv 0, iv 0, sv [], iv 3, sv [], sv [], iv 1, iv 5, sv []]]), .sl 6 1 1 (lstR [[iv 1, sv [97], sv [], iv 0, iv 0, sv []]]), iv 5, iv 1]] (.tup [sv [109, 97, 116, 99, 104, 32, 40, 97, 41, 45, 91, 120, 32, 97, 115, 32, 101, 93, 45, 62, 40, 98, 41, 32, 119, 104, 101, 114, 101, 32, 101, 46, 107, 32, 60, 32, 53, 32, 114, 101, 116, 117, 114, 110, 32, 97, 32, 114, 97, 110, 103, 101, 32, 53, 32, 115, 108, 105, 100, 101, 32, 49], iv 0]) := by
 have h := xquery_ok gq gq_fit
 rw [gq_S, gq_E] at h
 refine FnOK.args h ⟨LeD.ag ⟨LeD.rows fun i hi => ?_, LeD.slice (Nat.le_refl _) (Nat.le_refl _) fun i hi => ?_, LeD.slice (Nat.le_refl _) (Nat.le_refl _) fun i hi => ?_, LeD.refl _, LeD.refl _, trivial⟩, trivial⟩
 ·obtain rfl : i = 0 := by simp [gq] at hi; omega
  exact ⟨⟨LeD.refl _, LeD.refl _, LeD.refl _, LeD.refl _, LeD.refl _, LeD.refl _, LeD.refl _, (by show LeD _ (kdX zEx); rw [kd_eq]; exact LeD.nil 3 _), trivial⟩, ptC_lf _⟩
 ·obtain rfl : i = 0 := by simp [gq] at hi; omega
  rfl
 ·obtain rfl : i = 0 := by simp [gq] at hi; omega
  rfl
theorem awake_ok  : FnOK Laid Tryz.prog 13 [] (bv true) := by
 refine FnOK_of laid_stable Tryz.func13 Tryz.ntmps13 rfl (by as_aux_lemma => kernel_rfl) (Nat.le_of_ble_eq_true rfl) (fun R hR => ?_)
 obtain ⟨_, b, cs, T, C⟩ := R
 obtain rfl : _ = Tryz.prog := hR.p
 refine sreg te_ok ?_
 refine sq ?_
 apply Exec.regionL te_ok
 ·intro u' Q hQ
  simp only [go_sem]
  repeat refine ob2 ?_
  refine kcall hR.inv te_ok rfl rfl rfl rfl rfl rfl (label_ok _) ?_
  simp only [go_sem]
  repeat refine ob2 ?_
  refine kcall hR.inv te_ok rfl rfl rfl rfl rfl rfl (label_ok _) ?_
  simp only [go_sem]
  repeat refine ob2 ?_
  refine kfreeze 8 rfl (by simp only [go_sem]; rfl) ?_
  refine kcall hR.inv te_ok rfl rfl rfl rfl rfl rfl (of_ok _ _ _) ?_
  simp only [go_sem]
  repeat refine ob2 ?_
  refine kfreeze 10 rfl (by simp only [go_sem]; rfl) ?_
  refine kcall hR.inv te_ok rfl rfl rfl rfl rfl rfl (of_ok _ _ _) ?_
  simp only [go_sem]
  repeat refine ob2 ?_
  refine kcall hR.inv te_ok rfl rfl rfl rfl rfl rfl (label_ok _) ?_
  simp only [go_sem]
  repeat refine ob2 ?_
  refine kfreeze 13 rfl (by simp only [go_sem]; rfl) ?_
  refine kcall hR.inv te_ok rfl rfl rfl rfl rfl rfl (of_ok _ _ _) ?_
  simp only [go_sem]
  repeat refine ob2 ?_
  refine kcall hR.inv te_ok rfl rfl rfl rfl rfl rfl (awE_ok) ?_
  simp only [go_sem]
  repeat refine ob2 ?_
  exact hQ
 refine sq ?_
 apply Exec.regionL te_ok
 ·intro u' Q hQ
  simp only [go_sem]
  repeat refine ob2 ?_
  refine kcall hR.inv te_ok rfl rfl rfl rfl rfl rfl (good_ok) ?_
  simp only [go_sem]
  repeat refine ob2 ?_
  refine kcall hR.inv te_ok rfl rfl rfl rfl rfl rfl (gq_ok) ?_
  simp only [go_sem]
  repeat refine ob2 ?_
  exact hQ
 refine sreg te_ok ?_
 refine Exec.rets hR te_ok rfl rfl rfl (LeX.le ?_) (.inr ⟨_, rfl⟩)
 simp only [go_sem]
end Go.Proofs.YtonchjamoblioaaGreatDoor
namespace Go.Proofs.YtonchjamoblioaaGreatDoor
open Go.Kin
set_option maxRecDepth 100000
set_option maxHeartbeats 0
structure RawP (p : Pt) : Prop where
 a : p.a.length ≤ 140737488355328
 z : p.z.length ≤ 140737488355328
 lab : p.lab.length ≤ 140737488355328
 name : p.name.length ≤ 140737488355328
 e : FitX p.e
structure RawQ (q : Qu) : Prop where
 p : q.p.length ≤ 140737488355328
 c : q.c.length ≤ 140737488355328
 r : q.r.length ≤ 140737488355328
 pa : ∀ p ∈ q.p, RawP p
 ca : ∀ c ∈ q.c, FitC c
 ra : ∀ o ∈ q.r, FitO o
theorem RawQ.fit {q : Qu} (h : RawQ q) (hs : ∀ p ∈ q.p, p.e.size ≤ 400) : FitQ q :=
 ⟨h.p, h.c, h.r, fun p hp => ⟨(h.pa p hp).a, (h.pa p hp).z, (h.pa p hp).lab, (h.pa p hp).name, (h.pa p hp).e, Nat.le_trans (hs p hp) (by omega)⟩, h.ca, h.ra⟩
theorem fitB : ∀ x, FitX x → x.kids.length ≤ 140737488355328 ∧ ∀ y ∈ x.kids, FitX y := fun x h => ⟨h.k, fun y hy => h.y hy⟩
theorem tells_ok (q : Qu) (x : Ex) (hq : RawQ q) (hfx : FitX x) : FnOK Laid Tryz.prog 3 [quD q, exD x] (bv true) := by
 refine FnOK_of laid_stable Tryz.func3 Tryz.ntmps3 rfl (by as_aux_lemma => kernel_rfl) (Nat.le_of_ble_eq_true rfl) (fun R hR => ?_)
 obtain ⟨_, b, cs, T, C⟩ := R
 obtain rfl : _ = Tryz.prog := hR.p
 refine sreg te_ok ?_
 refine sq ?_
 refine sq ?_
 apply Exec.regionL te_ok
 ·intro u' Q hQ
  simp only [go_sem]
  repeat refine ob2 ?_
  refine kcall hR.inv te_ok rfl rfl rfl rfl rfl rfl (size_ok FitX fitB q hq.p hq.c hq.r (fun p hp => (hq.pa p hp).e)) ?_
  simp only [go_sem]
  repeat refine ob2 ?_
  refine kcallG hR.inv te_ok rfl rfl rfl rfl rfl rfl ob1 (fun hq => esize_ok FitX fitB x hfx 0 (by omega)) ?_
  simp only [go_sem]
  repeat refine ob2 ?_
  exact hQ
 refine Exec.cond_split rfl (fun h0 => ?_) (fun h0 => ?_)
 ·refine sq ?_
  apply Exec.regionL te_ok
  ·intro u' Q hQ
   simp only [go_sem]
   repeat refine ob2 ?_
   refine kcall hR.inv te_ok rfl rfl rfl rfl rfl rfl (awake_ok) ?_
   simp only [go_sem]
   repeat refine ob2 ?_
   exact hQ
  refine Exec.rets hR te_ok rfl rfl rfl (LeX.le ?_) (.inr ⟨_, rfl⟩)
  simp only [go_sem]
 ·have hlq : q.lim ≤ 400 ∧ x.lim 0 ≤ 400 := by simp at h0; omega
  obtain ⟨hlq, hlx⟩ := hlq
  obtain ⟨l1, l2, l3, l4⟩ := Qu.lim_mem hlq
  have hsx := Ex.lim_size x 0 hlx
  have hfq := hq.fit l4
  refine sk ?_
  refine sq ?_
  apply Exec.draw (st := _) 9 6 [5, 6] [] te_ok (by as_aux_lemma => kernel_rfl) (by as_aux_lemma => kernel_rfl) (by as_aux_lemma => kernel_rfl)
  ·intro u' Q hQ
   simp only [go_sem]
   repeat refine ob2 ?_
   refine kdcall hR.inv te_ok rfl rfl rfl rfl rfl rfl (lentQ_ok q (by omega) (by omega) (by omega) (fun p hp => Nat.le_trans (l4 p hp) (by omega))) ?_
   simp only [go_sem]
   repeat refine ob2 ?_
   refine kdcall hR.inv te_ok rfl rfl rfl rfl rfl rfl (lentE_ok x (by omega)) ?_
   simp only [go_sem]
   repeat refine ob2 ?_
   exact hQ
  refine sq ?_
  apply Exec.regionL te_ok
  ·intro u' Q hQ
   simp only [go_sem]
   repeat refine ob2 ?_
   refine kcall hR.inv te_ok rfl rfl rfl rfl rfl rfl (FnOK.args (xs := [quLD q]) (xquery_ok q hfq) ⟨quLD_le q, trivial⟩) ?_
   simp only [go_sem]
   repeat refine ob2 ?_
   exact hQ
  refine sq ?_
  apply Exec.regionL te_ok
  ·intro u' Q hQ
   simp only [go_sem]
   repeat refine ob2 ?_
   refine kcall hR.inv te_ok rfl rfl rfl rfl rfl rfl (rquery_ok q hfq) ?_
   simp only [go_sem]
   repeat refine ob2 ?_
   exact hQ
  refine sq ?_
  apply Exec.regionL te_ok
  ·intro u' Q hQ
   simp only [go_sem]
   repeat refine ob2 ?_
   refine kcall hR.inv te_ok rfl rfl rfl rfl rfl rfl (FnOK.args (xs := [exLD x]) (xexpr_ok x hfx) ⟨exLD_le x, trivial⟩) ?_
   simp only [go_sem]
   repeat refine ob2 ?_
   exact hQ
  refine sq ?_
  apply Exec.regionL te_ok
  ·intro u' Q hQ
   simp only [go_sem]
   repeat refine ob2 ?_
   refine kcall hR.inv te_ok rfl rfl rfl rfl rfl rfl (rexprT_ok x hfx (by omega)) ?_
   simp only [go_sem]
   repeat refine ob2 ?_
   exact hQ
  refine sq ?_
  apply Exec.regionL te_ok
  ·intro u' Q hQ
   simp only [go_sem]
   repeat refine ob2 ?_
   refine kcallG hR.inv te_ok rfl rfl rfl rfl rfl rfl ob1 (fun hq => keptQ_ok q (by omega) (by omega) (by omega) (fun p hp => Nat.le_trans (l4 p hp) (by omega))) ?_
   simp only [go_sem]
   repeat refine ob2 ?_
   refine kcallG hR.inv te_ok rfl rfl rfl rfl rfl rfl ob1 (fun hq => keptE_ok x (by omega)) ?_
   simp only [go_sem]
   repeat refine ob2 ?_
   refine kcallG hR.inv te_ok rfl rfl rfl rfl rfl rfl ob1 (fun hq => awake_ok) ?_
   simp only [go_sem]
   repeat refine ob2 ?_
   exact hQ
  refine Exec.rets hR te_ok rfl rfl rfl (LeX.le ?_) (.inr ⟨_, rfl⟩)
  simp only [go_sem]
end Go.Proofs.YtonchjamoblioaaGreatDoor
namespace Go.Kin
open Go.RowKit
/-! ### a call to which slices of the function's own are lent: they are read, and stay the function's own -/
def lendD (O : FO) : SV → Option D
  | .sg cs => match toD1s O cs with | some ds => some (.ag ds) | none => none
  | sv => toD1 O sv
def lendDs (O : FO) : List SV → Option (List D)
  | [] => some []
  | sv :: r => match lendD O sv, lendDs O r with | some d, some ds => some (d :: ds) | _, _ => none
section
variable {P : Program} {C : Ctx} {o : Oper} {s s' : Sy} {E : Env} {a : Act} {w : World} {I : World → Prop}
theorem lendD_den (hE : SatE C E s a w) {sv : SV} {d : D} {v : Value} (h : lendD s.O sv = some d) (hv : DenV E w sv v) : RdV w (Zf E s.L s.O) d v := by
  unfold lendD at h
  split at h
  · rename_i cs
    split at h
    · rename_i ds hds
      cases h
      simp only [DenV] at hv
      obtain ⟨vs, h1, h2⟩ := hv
      simp only [RdV]
      exact ⟨vs, h1, toD1s_den hE hds h2⟩
    · cases h
  · exact toD1_den hE h hv
theorem lendDs_den (hE : SatE C E s a w) : ∀ {svs : List SV} {ds : List D} {vs : List Value}, lendDs s.O svs = some ds → DenL E w svs vs → RdL w (Zf E s.L s.O) ds vs
  | [], ds, vs, h, hv => by
    simp only [lendDs, Option.some.injEq] at h; subst h
    simp only [DenL] at hv; subst hv; simp [RdL]
  | sv :: r, ds, vs, h, hv => by
    simp only [lendDs] at h
    split at h
    · rename_i d ds' h1 h2
      cases h
      simp only [DenL] at hv
      obtain ⟨v, vs', rfl, h3, h4⟩ := hv
      simp only [RdL]
      exact ⟨v, vs', rfl, lendD_den hE h1 h3, lendDs_den hE h2 h4⟩
    · cases h
theorem toD1_ext {O O' : FO} (h : ∀ k, O k ≠ none → O' k = O k) {sv : SV} {d : D} (hd : toD1 O sv = some d) : toD1 O' sv = some d := by
  unfold toD1 at hd ⊢
  split at hd
  · exact hd
  · rename_i key
    split at hd
    · rename_i ow ho
      rw [h key (by rw [ho]; simp), ho]; exact hd
    · cases hd
  · cases hd
theorem toD1s_ext {O O' : FO} (h : ∀ k, O k ≠ none → O' k = O k) : ∀ {svs : List SV} {ds : List D}, toD1s O svs = some ds → toD1s O' svs = some ds
  | [], ds, hd => hd
  | sv :: r, ds, hd => by
    simp only [toD1s] at hd ⊢
    split at hd
    · rename_i d ds' h1 h2
      rw [toD1_ext h h1, toD1s_ext h h2]; exact hd
    · cases hd
theorem lendDs_ext {O O' : FO} (h : ∀ k, O k ≠ none → O' k = O k) : ∀ {svs : List SV} {ds : List D}, lendDs O svs = some ds → lendDs O' svs = some ds
  | [], ds, hd => hd
  | sv :: r, ds, hd => by
    have one : ∀ {sv : SV} {d : D}, lendD O sv = some d → lendD O' sv = some d := fun {sv d} hd => by
      unfold lendD at hd ⊢
      split at hd
      · split at hd
        · rename_i ds hds; simp only [toD1s_ext h hds]; exact hd
        · cases hd
      · exact toD1_ext h hd
    simp only [lendDs] at hd ⊢
    split at hd
    · rename_i d ds' h1 h2
      rw [one h1, lendDs_ext h h2]; exact hd
    · cases hd
theorem ok_callV (hI : ∀ w, BelM C w → I w) {f : Operand} {args : Array Operand} {ts : Array TypeId} {g : FuncId} {svs : List SV} {ds : List D} {x : Value} (ho : o.op = .call { callee := .value f, args := args, argTypes := ts }) (ht : ∀ t, o.dst = some t → t < s.N)
    (hf : evalO s.S f = some (.d (.fn g []))) (hargs : args.toList.mapM (evalO s.S) = some svs) (hl : lendDs s.O svs = some ds) (h : FnOK I P g ds (.v x)) : Ok1 P C o s ⟨.d (.v x), [], [], [], []⟩ := by
  refine ⟨by simp [ho], fun s' hext a w ⟨E, hE⟩ => ?_⟩
  have hfv := hext.ev hE (x := f) (by simp [ho, Op.operands, Call.operands]) hf
  have hav := mapM_den hext hE (l := args.toList) (fun x hx => by simp [ho, Op.operands, Call.operands] at hx ⊢; exact .inr hx) hargs
  have hl' := lendDs_ext hext.o hl
  have hrd := lendDs_den hE hl' hav
  simp only [DenV, RdV] at hfv
  obtain ⟨cs, e1, h1⟩ := hfv
  simp only [RdL] at h1
  subst h1
  have hr : (execOp a.eval o).run P w = .ok (.enter g (args.toList.map a.eval).toArray) w := by
    have : args.map a.eval = (args.toList.map a.eval).toArray := Array.ext' (by simp)
    simp [execOp, ho, resolve, e1, Deferred.ofValue, invoke, h.1.run, this]
  have hc := h.2 w (Zf E s'.L s'.O) (args.toList.map a.eval) (hI w hE.hp.bel) (fun b hb => (Zf_lt hE hb).1) hrd
  unfold gives
  rw [hr]
  refine hc.mono ?_
  rintro e w' ⟨v, Z', rfl, hb, hz, hv⟩
  simp only [RdV] at hv
  subst hv
  refine ⟨v, rfl, ?_⟩
  have hg := hE.grow hb (fun _ => False) (fun b hb => hb.elim)
  exact ⟨_, hg.slot (fun t e => by rw [hext.n]; exact ht t e) (by simp only [DenV, RdV])⟩
theorem kfcallV {te : TE} {ops : Array Oper} {r : List Oper} {i : Nat} {dl : List (Option Tmp)} {acc : List Fp} {st : Stt} {Q : List Fp → Sy → Prop} (hI : ∀ w, BelM C w → I w) (hte : TEok P te) (hg : o.guard = none) (hd : dstOk o st.N = true) {f : Operand} {args : Array Operand} {ts : Array TypeId} {g : FuncId} {svs : List SV} {ds : List D} {x : Value}
    (ho : o.op = .call { callee := .value f, args := args, argTypes := ts }) (hf : evalO (fun t => klook t st.S) f = some (.d (.fn g []))) (hargs : argsV st.S args.toList = some svs) (hl : lendDs (fun k => klook k (trimO st o).O) svs = some ds) (h : FnOK I P g ds (.v x))
    (hr : runF P C te ops (i + 1) (o.dst :: dl) r (fpO st o [] ⟨.d (.v x), [], [], [], []⟩ :: acc) (applyL o.dst ⟨.d (.v x), [], [], [], []⟩ st) Q) : WalkFI P C ops i dl (o :: r) acc st.sy Q :=
  walkFI_step (fun _ hi => ok2_run (ok_callV (s := (trimO st o).sy) hI ho (dstOk_spec hd) hf (argsV_mapM hargs) hl h) (by simp [wantS, hg])) (runF_walk hte hr)
/-! ### a call that hands a slice of the function's own on, within a struct -/
theorem RdL_snoc {Z : Nat → Prop} {d : D} : ∀ {ds : List D} {vs : List Value}, RdL w Z (ds ++ [d]) vs → ∃ us v, vs = us ++ [v] ∧ RdL w Z ds us ∧ RdV w Z d v
  | [], vs, h => by
    simp only [List.nil_append, RdL] at h
    obtain ⟨v, vs', rfl, h1, rfl⟩ := h
    exact ⟨[], v, rfl, by simp [RdL], h1⟩
  | e :: ds, vs, h => by
    simp only [List.cons_append, RdL] at h
    obtain ⟨v, vs', rfl, h1, h2⟩ := h
    obtain ⟨us, u, rfl, h3, h4⟩ := RdL_snoc h2
    exact ⟨v :: us, u, rfl, by simp only [RdL]; exact ⟨v, us, rfl, h1, h3⟩, h4⟩
theorem DenL_snoc {sv : SV} {v : Value} (hv : DenV E w sv v) : ∀ {svs : List SV} {vs : List Value}, DenL E w svs vs → DenL E w (svs ++ [sv]) (vs ++ [v])
  | [], vs, h => by simp only [DenL] at h; subst h; simp only [List.nil_append, DenL]; exact ⟨v, [], rfl, hv, rfl⟩
  | s :: r, vs, h => by
    simp only [DenL] at h
    obtain ⟨u, us, rfl, h1, h2⟩ := h
    simp only [List.cons_append, DenL]
    exact ⟨u, us ++ [v], rfl, h1, DenL_snoc hv h2⟩
theorem ok_callP (hI : ∀ w, BelM C w → I w) {f x y : Operand} {args : Array Operand} {ts : Array TypeId} {g : FuncId} {d : D} {key : Nat} {ow : Ow} {rs : List D} (ho : o.op = .call { callee := .value f, args := args, argTypes := ts }) (ha : args.toList = [x, y]) (ht : ∀ t, o.dst = some t → t < s.N)
    (hf : evalO s.S f = some (.d (.fn g []))) (hx : evalO s.S x = some (.d d)) (hy : evalO s.S y = some (.own key)) (hO : s.O key = some ow) (h : ∀ a n c, FnOK I P g [d, .v (.slice a n c)] (.ag (rs ++ [.v (.slice a n c)]))) : Ok1 P C o s ⟨.sg (rs.map SV.d ++ [.own key]), [], [], [], []⟩ := by
  refine ⟨by simp [ho], fun s' hext a w ⟨E, hE⟩ => ?_⟩
  have hmem : ∀ z ∈ args.toList, z ∈ o.op.operands := fun z hz => by simp [ho, Op.operands, Call.operands] at hz ⊢; exact .inr hz
  have hfv := hext.ev hE (x := f) (by simp [ho, Op.operands, Call.operands]) hf
  have hxv := hext.ev hE (hmem x (by rw [ha]; simp)) hx
  have hyv := hext.ev hE (hmem y (by rw [ha]; simp)) hy
  simp only [DenV, RdV] at hfv
  obtain ⟨cs, e1, h1⟩ := hfv
  simp only [RdL] at h1
  subst h1
  simp only [DenV] at hxv hyv
  have hsl : ∃ a n c, E.ω key = .slice a n c := by
    obtain ⟨_, h3⟩ := hE.hp.own key ow (by rw [hext.o key (by rw [hO]; simp)]; exact hO)
    rcases h3 with ⟨h3, _⟩ | ⟨g, cap, vs, h3, _⟩
    · exact ⟨_, _, _, h3⟩
    · exact ⟨_, _, _, h3⟩
  obtain ⟨sa, sn, sc, hsl⟩ := hsl
  have hr : (execOp a.eval o).run P w = .ok (.enter g [a.eval x, a.eval y].toArray) w := by
    have : args.map a.eval = [a.eval x, a.eval y].toArray := Array.ext' (by simp [ha])
    simp [execOp, ho, resolve, e1, Deferred.ofValue, invoke, (h none 0 0).1.run, this]
  have hc := (h sa sn sc).2 w E.Z [a.eval x, a.eval y] (hI w hE.hp.bel) (fun b hb => (hE.hp.z b hb).1) (by
    simp only [RdL, RdV]
    exact ⟨_, _, rfl, hxv, _, _, rfl, by rw [hyv, hsl], rfl⟩)
  unfold gives
  rw [hr]
  refine hc.mono ?_
  rintro e w' ⟨v, Z', rfl, hb, hz, hv⟩
  simp only [RdV] at hv
  obtain ⟨vs, rfl, hv⟩ := hv
  obtain ⟨us, u, rfl, h3, h4⟩ := RdL_snoc hv
  simp only [RdV] at h4
  refine ⟨_, rfl, ?_⟩
  have hg := hE.grow hb Z' hz
  refine ⟨_, hg.slot (fun t e => by rw [hext.n]; exact ht t e) ?_⟩
  simp only [DenV]
  refine ⟨us ++ [u], by simp, DenL_snoc ?_ (DenLW (h3.mono ⟨fun b hb => .inr hb, fun b _ => rfl⟩))⟩
  simp only [DenV]; rw [h4, hsl]
theorem kcallP {te : TE} {ops : Array Oper} {r : List Oper} {i : Nat} {dl : List (Option Tmp)} {st : Stt} {Q : Sy → Prop} (hI : ∀ w, BelM C w → I w) (hte : TEok P te) (hg : o.guard = none) (hd : dstOk o st.N = true) {f x y : Operand} {args : Array Operand} {ts : Array TypeId} {g : FuncId} {d : D} {key : Nat} {ow : Ow} {rs : List D}
    (ho : o.op = .call { callee := .value f, args := args, argTypes := ts }) (ha : args.toList = [x, y]) (hf : evalO (fun t => klook t st.S) f = some (.d (.fn g []))) (hx : evalO (fun t => klook t st.S) x = some (.d d)) (hy : evalO (fun t => klook t st.S) y = some (.own key)) (hO : klook key st.O = some ow) (h : ∀ a n c, FnOK I P g [d, .v (.slice a n c)] (.ag (rs ++ [.v (.slice a n c)])))
    (hr : runL P C te ops (i + 1) (o.dst :: dl) r (applyL o.dst ⟨.sg (rs.map SV.d ++ [.own key]), [], [], [], []⟩ st) Q) : WalkI P C ops i dl (o :: r) st.sy Q :=
  walkI_step (fun _ hi => ok2_run (ok_callP (s := st.sy) hI ho ha (dstOk_spec hd) hf hx hy hO h) (by simp [wantS, hg])) (runL_walk hte hr)
end
attribute [go_sem] lendDs lendD toD1s toD1
end Go.Kin
namespace Go.Kin
end Go.Kin
