/- Steps of a function body on data, and contracts of the functions of the seat, walked. -/
import Derived.Test.YtonchjamoblioaaGreatDoorZ11
import Derived.Test.YtonchjamoblioaaGreatDoorPDef
import Derived.Test.YtonchjamoblioaaGreatDoorKOb
set_option linter.unusedSimpArgs false
set_option linter.unusedVariables false
set_option linter.unusedSectionVars false
namespace Go.Proofs.YtonchjamoblioaaGreatDoor
open Go.Kin
set_option maxRecDepth 100000
set_option maxHeartbeats 0
def pc1 (q : Qu) : List UInt8 := [109, 97, 116, 99, 104, 32] ++ Lib.join (q.p.map ptT) [44, 32]
def pc2 (q : Qu) : List UInt8 := if 0 < q.c.length then [32, 119, 104, 101, 114, 101, 32] ++ Lib.join (q.c.map cdT) [32, 97, 110, 100, 32] else []
def pc3 (q : Qu) : List UInt8 := [32, 114, 101, 116, 117, 114, 110, 32] ++ Lib.join (q.r.map opT) [44, 32]
def pc4 (q : Qu) : List UInt8 := [32, 114, 97, 110, 103, 101, 32] ++ Lib.itoa q.range ++ [32, 115, 108, 105, 100, 101, 32] ++ Lib.itoa q.slide
def pcs (q : Qu) : List (List UInt8) := [pc1 q, pc2 q, pc3 q, pc4 q]
def acT (q : Qu) (i : Nat) : List UInt8 := ((pcs q).take i).flatten
theorem acT_s (q : Qu) {i : Nat} (h : i < 4) : acT q (i + 1) = acT q i ++ nth (pcs q) i := by
 unfold acT; rw [take_succ_nth (show i < (pcs q).length from h)]; simp
theorem quT_pcs {q : Qu} (h : QuF q) : acT q 4 = quT q := by
 have h1 : txP q = pc1 q := by
  unfold txP pc1; rw [accS_all (by simp), if_neg (by have := h.lp; omega)]; simp
 have h2 : txC q = pc1 q ++ pc2 q := by
  unfold txC pc2; rw [accS_all (by simp), h1]
  by_cases hc : q.c.length = 0
  ·rw [if_pos hc, if_neg (by omega)]
  ·rw [if_neg hc, if_pos (by omega)]
 have h3 : txR q = pc1 q ++ pc2 q ++ pc3 q := by
  unfold txR pc3; rw [accS_all (by simp), if_neg (by have := h.lr; omega), h2]; simp
 unfold quT acT pcs
 rw [h3]; simp [pc4]
theorem acT_le (q : Qu) {i : Nat} (h : i ≤ 4) : (acT q i).length ≤ (acT q 4).length := by
 have e : acT q 4 = acT q i ++ ((pcs q).drop i).flatten := by
  unfold acT
  rw [← List.flatten_append, List.take_append_drop]
  rfl
 rw [e, List.length_append]; omega
theorem pc_len {q : Qu} (h : QuF q) : (pc1 q).length ≤ 5000 ∧ (pc2 q).length ≤ 5000 ∧ (pc3 q).length ≤ 5000 ∧ (pc4 q).length ≤ 100 := by
 have s1 := sum_p h
 have s2 := sum_c h
 have s3 := sum_r h
 have j1 := join_len (q.p.map ptT) [44, 32]
 have j2 := join_len (q.c.map cdT) [32, 97, 110, 100, 32]
 have j3 := join_len (q.r.map opT) [44, 32]
 have i1 := Lib.itoa_length_le q.range (by have := h.ra; omega) (by have := h.ra; omega)
 have i2 := Lib.itoa_length_le q.slide (by have := h.sl; omega) (by have := h.sl; omega)
 have e2 : ([44, 32] : List UInt8).length = 2 := rfl
 have e5 : ([32, 97, 110, 100, 32] : List UInt8).length = 5 := rfl
 rw [e2] at j1 j3; rw [e5] at j2
 refine ⟨by unfold pc1; simp; omega, ?_, by unfold pc3; simp; omega, by unfold pc4; simp; omega⟩
 unfold pc2; split <;> simp <;> omega
theorem ix4 (q : Qu) {i : Nat} (h : i < 4) : ([D.v (.string (mkS (pc1 q))), D.v (.string (mkS (pc2 q))), D.v (.string (mkS (pc3 q))), D.v (.string (mkS (pc4 q)))] : List D)[i]? = some (D.v (.string (mkS (nth (pcs q) i)))) := by
 rcases (show i = 0 ∨ i = 1 ∨ i = 2 ∨ i = 3 by omega) with rfl | rfl | rfl | rfl <;> rfl
theorem nth_pc {q : Qu} (h : QuF q) {i : Nat} (hi : i < 4) : (nth (pcs q) i).length ≤ 5000 := by
 have := pc_len h
 rcases (show i = 0 ∨ i = 1 ∨ i = 2 ∨ i = 3 by omega) with rfl | rfl | rfl | rfl
 ·exact this.1
 ·exact this.2.1
 ·exact this.2.2.1
 ·exact Nat.le_trans this.2.2.2 (by omega)
theorem pieces_ok (q : Qu) : FnOK Laid Tryz.prog 42 [quD q] (.fn 83 [.ptr [ptsD q.p, cdsD q.c, opsD q.r, iv q.range, iv q.slide]]) := by
 refine FnOK_of laid_stable Tryz.func42 Tryz.ntmps42 rfl (by as_aux_lemma => kernel_rfl) (Nat.le_of_ble_eq_true rfl) (fun R hR => ?_)
 obtain ⟨_, b, cs, T, C⟩ := R
 obtain rfl : _ = Tryz.prog := hR.p
 refine sreg te_ok ?_
 refine sq ?_
 refine Exec.freezeB 1 rfl rfl rfl ?_
 apply Exec.norm
 ·simp only [go_sem]
  rfl
 refine Exec.reg te_ok ?_
 refine Exec.rets hR te_ok rfl rfl rfl (LeX.le ?_) (.inr ⟨_, rfl⟩)
 simp only [go_sem]
theorem xquery_ok (q : Qu) (hfq : FitQ q) : FnOK Laid Tryz.prog 16 [quD q] (.tup [sv (quS q), iv (quE q)]) := by
 refine FnOK_of laid_stable Tryz.func16 Tryz.ntmps16 rfl (by as_aux_lemma => kernel_rfl) (Nat.le_of_ble_eq_true rfl) (fun R hR => ?_)
 obtain ⟨_, b, cs, T, C⟩ := R
 obtain rfl : _ = Tryz.prog := hR.p
 refine sreg te_ok ?_
 refine Exec.scope ?_
 refine sq ?_
 refine sq ?_
 apply Exec.regionL te_ok
 ·intro u' Q hQ
  simp only [go_sem]
  repeat refine ob2 ?_
  refine kcall hR.inv te_ok rfl rfl rfl rfl rfl rfl (xtree_ok q hfq) ?_
  simp only [go_sem]
  repeat refine ob2 ?_
  exact hQ
 refine Exec.cond_split rfl (fun h0 => ?_) (fun h0 => ?_)
 ·refine sreg te_ok ?_
  refine Exec.rets hR te_ok rfl rfl rfl (LeX.le ?_) (.inr ⟨_, rfl⟩)
  simp only [go_sem]
  have : quR q = false := by simpa using h0
  simp [quS, quE, this]
 ·have hr : quR q = true := by simpa using h0
  have hf := qu_f hr
  have fl1 := hf.lp
  have fl2 := hf.lc
  have fl3 := hf.lr
  have fi1 := hf.ra
  have fi2 := hf.sl
  have il1 := Lib.itoa_length_le q.range (by omega) (by omega)
  have il2 := Lib.itoa_length_le q.slide (by omega) (by omega)
  have s1 := sum_p hf
  have s2 := sum_c hf
  have s3 := sum_r hf
  have j1 : (Lib.join (q.p.map ptT) [44, 32]).length ≤ _ := join_len (q.p.map ptT) [44, 32]
  have j2 : (Lib.join (q.c.map cdT) [32, 97, 110, 100, 32]).length ≤ _ := join_len (q.c.map cdT) [32, 97, 110, 100, 32]
  have j3 : (Lib.join (q.r.map opT) [44, 32]).length ≤ _ := join_len (q.r.map opT) [44, 32]
  rw [show ([44, 32] : List UInt8).length = 2 from rfl] at j1 j3
  rw [show ([32, 97, 110, 100, 32] : List UInt8).length = 5 from rfl] at j2
  refine sk ?_
  refine sreg te_ok ?_
  refine sq ?_
  refine Exec.label ?_
  refine sq ?_
  refine sq ?_
  apply Exec.regionL te_ok
  ·intro u' Q hQ
   simp only [go_sem]
   repeat refine ob2 ?_
   refine kcall hR.inv te_ok rfl rfl rfl rfl rfl rfl (pieces_ok q) ?_
   simp only [go_sem]
   repeat refine ob2 ?_
   exact hQ
  refine Exec.block ?_
  refine Exec.range 1 hR.round hR.bfn rfl rfl Tryz.func83 Tryz.ntmps83 rfl (by as_aux_lemma => kernel_rfl) (Nat.le_of_ble_eq_true rfl) (fun a0 l0 r0 lo0 hlo0 hN0 hD0 hfr0 hfl0 => ?_)
  apply Exec.norm
  ·simp only [go_sem]
   rfl
  refine sreg te_ok ?_
  refine sq ?_
  refine sreg te_ok ?_
  refine Exec.cond_split rfl (fun h1 => ?_) (fun h1 => ?_)
  ·apply Exec.regionL te_ok
   ·intro u' Q hQ
    simp only [go_sem]
    repeat refine ob2 ?_
    refine kcall hR.inv te_ok rfl rfl rfl rfl rfl rfl (joinedC_ok q.c [32, 97, 110, 100, 32] cdT (by omega) (by omega) (fun c hc => xcondT_ok c (hfq.ca c hc) (hf.c c hc))) ?_
    simp only [go_sem]
    repeat refine ob2 ?_
    exact hQ
   refine sq ?_
   apply Exec.draw (st := _) 11 10 [] [] te_ok (by as_aux_lemma => kernel_rfl) (by as_aux_lemma => kernel_rfl) (by as_aux_lemma => kernel_rfl)
   ·intro u' Q hQ
    simp only [go_sem]
    repeat refine ob2 ?_
    refine kdcall hR.inv te_ok rfl rfl rfl rfl rfl rfl (itoa_ok q.range (by constructor <;> omega)) ?_
    simp only [go_sem]
    repeat refine ob2 ?_
    refine kdcall hR.inv te_ok rfl rfl rfl rfl rfl rfl (itoa_ok q.slide (by constructor <;> omega)) ?_
    simp only [go_sem]
    repeat refine ob2 ?_
    exact hQ
   refine sq ?_
   apply Exec.draw (st := _) 14 12 [5] [] te_ok (by as_aux_lemma => kernel_rfl) (by as_aux_lemma => kernel_rfl) (by as_aux_lemma => kernel_rfl)
   ·intro u' Q hQ
    simp only [go_sem]
    repeat refine ob2 ?_
    refine kdcall hR.inv te_ok rfl rfl rfl rfl rfl rfl (joinedP_ok q.p [44, 32] ptT (by omega) (by omega) (fun p hp => xptT_ok p (hf.p p hp))) ?_
    simp only [go_sem]
    repeat refine ob2 ?_
    refine kdcall hR.inv te_ok rfl rfl rfl rfl rfl rfl (joinedO_ok q.r [44, 32] opT (by omega) (by omega) (fun o ho => xopT_ok o (hfq.ra o ho))) ?_
    simp only [go_sem]
    repeat refine ob2 ?_
    exact hQ
   refine sreg te_ok ?_
   refine Exec.block ?_
   apply Exec.loopU [0, 36] (X := Nat) (fun i => [(37, .d (iv i))]) (fun i => [(1004, 9, [.d (sv (acT q i))])]) (fun i => []) (fun i => 4 - i) (fun i => i ≤ 4 ∧ (acT q i).length ≤ 2000) 0
   case h0 =>
    exact ⟨by omega, by simp [acT]⟩
   case hw =>
    simp only [go_sem]; rfl
   case body =>
    rintro i hx ih0
    try simp only at hx
    apply Exec.norm
    ·simp only [go_sem]
     rfl
    refine sreg te_ok ?_
    refine sq ?_
    refine Exec.cond_split rfl (fun h2 => ?_) (fun h2 => ?_)
    ·have hi : i < 4 := by have := of_decide_eq_true h2; omega
     have hix : ([D.v (.string (mkS (109 :: 97 :: 116 :: 99 :: 104 :: 32 :: Lib.join (List.map ptT q.p) [44, 32]))), D.v (.string (mkS (32 :: 119 :: 104 :: 101 :: 114 :: 101 :: 32 :: Lib.join (List.map cdT q.c) [32, 97, 110, 100, 32]))), D.v (.string (mkS (32 :: 114 :: 101 :: 116 :: 117 :: 114 :: 110 :: 32 :: Lib.join (List.map opT q.r) [44, 32]))), D.v (.string (mkS (32 :: 114 :: 97 :: 110 :: 103 :: 101 :: 32 :: (Lib.itoa q.range ++ [32, 115, 108, 105, 100, 101, 32] ++ Lib.itoa q.slide))))] : List D)[i]? = some (D.v (.string (mkS (nth (pcs q) i)))) := by have hx4 := ix4 q hi; unfold pc2 at hx4; rw [if_pos (by have := of_decide_eq_true h1; omega)] at hx4; exact hx4
     have has : acT q i ++ nth (pcs q) i = acT q (i + 1) := (acT_s q hi).symm
     have hnl := nth_pc hf hi
     have w2 : IntKind.i64.wrap ((i : Int) + 1) = ((i + 1 : Nat) : Int) := by rw [wrap_id (by omega)]; omega
     refine sk ?_
     refine sq ?_
     refine Exec.block ?_
     refine sq ?_
     apply Exec.regionL te_ok
     ·intro u' Q hQ
      simp only [go_sem, hix, has, w2, Int.toNat_natCast]
      repeat refine ob2 ?_
      exact hQ
     refine sq ?_
     refine Exec.regStart 4 rfl ?_
     apply Exec.regPart 0 2 2 te_ok rfl
     ·intro u' Q hQ
      simp only [go_sem, hix, has, w2, Int.toNat_natCast]
      repeat refine ob2 ?_
      exact hQ
     refine Exec.yield 1 (m := 1) rfl rfl rfl rfl rfl rfl hlo0 rfl hN0 rfl (fun ag0 hag0 hdg0 => ?_)
     apply Exec.norm
     ·simp only [go_sem, hix, has, w2, Int.toNat_natCast]
      rfl
     apply Exec.regionL te_ok
     ·intro u' Q hQ
      simp only [go_sem, hix, has, w2, Int.toNat_natCast]
      repeat refine ob2 ?_
      exact hQ
     refine Exec.begin rfl hlo0 hfl0 ?_
     apply Exec.norm
     ·simp only [go_sem, hix, has, w2, Int.toNat_natCast]
      rfl
     refine Exec.block ?_
     refine sq ?_
     refine sq ?_
     apply Exec.regionL te_ok
     ·intro u' Q hQ
      simp only [go_sem, hix, has, w2, Int.toNat_natCast]
      repeat refine ob2 ?_
      exact hQ
     refine sq ?_
     apply Exec.regionL te_ok
     ·intro u' Q hQ
      simp only [go_sem, hix, has, w2, Int.toNat_natCast]
      repeat refine ob2 ?_
      exact hQ
     refine Exec.cond_split rfl (fun h3 => ?_) (fun h3 => ?_)
     ·refine Exec.exit rfl ?_
      refine Exec.roundEnd 1 .fall rfl hlo0 hfl0 rfl hag0 hdg0 rfl rfl rfl ?_
      apply Exec.norm
      ·simp only [go_sem, hix, has, w2, Int.toNat_natCast]
       rfl
      apply Exec.regPart 3 1 0 te_ok rfl
      ·intro u' Q hQ
       simp only [go_sem, hix, has, w2, Int.toNat_natCast]
       repeat refine ob2 ?_
       exact hQ
      refine Exec.regEnd ?_
      refine Exec.cond (t := false) rfl ?_
      simp only [reduceIte, Bool.false_eq_true]
      refine sk ?_
      refine Exec.inBlock ?_
      apply Exec.regionL te_ok
      ·intro u' Q hQ
       simp only [go_sem, hix, has, w2, Int.toNat_natCast]
       repeat refine ob2 ?_
       exact hQ
      refine Exec.back (ih0 (i + 1) ?_ ?_) ?_ ?_ ?_ ?_ ?_ ?_ ?_
      ·try simp only
       exact ⟨by omega, by have := of_decide_eq_true h3; omega⟩
      ·try simp only
       omega
      ·rfl
      ·rfl
      ·(simp only [go_sem, hix, has, w2, Int.toNat_natCast])
      ·(simp only [go_sem, hix, has, w2, Int.toNat_natCast])
      ·(simp only [go_sem, hix, has, w2, Int.toNat_natCast])
      ·simp only [go_sem, hix, has, w2, Int.toNat_natCast]
      ·rfl
     ·refine sk ?_
      refine sq ?_
      apply Exec.regionL te_ok
      ·intro u' Q hQ
       simp only [go_sem, hix, has, w2, Int.toNat_natCast]
       repeat refine ob2 ?_
       exact hQ
      refine Exec.roundEnd 1 .ret rfl hlo0 hfl0 rfl hag0 hdg0 rfl rfl rfl ?_
      apply Exec.norm
      ·simp only [go_sem, hix, has, w2, Int.toNat_natCast]
       rfl
      apply Exec.regPart 3 1 0 te_ok rfl
      ·intro u' Q hQ
       simp only [go_sem, hix, has, w2, Int.toNat_natCast]
       repeat refine ob2 ?_
       exact hQ
      refine Exec.regEnd ?_
      refine Exec.cond (t := true) rfl ?_
      simp only [reduceIte, Bool.false_eq_true]
      refine Exec.rangeEnd 1 (pd := (some .ret)) Tryz.func83 rfl (.inr ⟨_, rfl⟩) rfl rfl hlo0 hfl0 rfl rfl hN0 hD0 ?_
      apply Exec.norm
      ·simp only [go_sem, hix, has, w2, Int.toNat_natCast]
       rfl
      refine Exec.retsM hR te_ok rfl (.cons hfr0 .nil) rfl (LeX.le ?_) (.inr ⟨_, rfl⟩)
      simp only [go_sem]
      have hq3 : 2000 < (quT q).length := by have e1 := of_decide_eq_false h3; have e2 := acT_le q (i := i + 1) (by omega); rw [quT_pcs hf] at e2; omega
      simp [quS, quE, hr, hq3]
    ·refine Exec.exit rfl ?_
     refine Exec.rangeEnd 1 (pd := none) Tryz.func83 rfl (.inl rfl) rfl rfl hlo0 hfl0 rfl rfl hN0 hD0 ?_
     apply Exec.norm
     ·simp only [go_sem]
      rfl
     refine Exec.inBlock ?_
     refine sreg te_ok ?_
     refine Exec.retsM hR te_ok rfl (.cons hfr0 .nil) rfl (LeX.le ?_) (.inr ⟨_, rfl⟩)
     simp only [go_sem]
     obtain rfl : i = 4 := by have := of_decide_eq_false h2; omega
     have e3 := hx.2
     rw [quT_pcs hf] at e3 ⊢
     have hq3 : ¬ 2000 < (quT q).length := by omega
     simp [quS, quE, hr, hq3]
  ·refine sk ?_
   refine sq ?_
   apply Exec.draw (st := _) 11 10 [] [] te_ok (by as_aux_lemma => kernel_rfl) (by as_aux_lemma => kernel_rfl) (by as_aux_lemma => kernel_rfl)
   ·intro u' Q hQ
    simp only [go_sem]
    repeat refine ob2 ?_
    refine kdcall hR.inv te_ok rfl rfl rfl rfl rfl rfl (itoa_ok q.range (by constructor <;> omega)) ?_
    simp only [go_sem]
    repeat refine ob2 ?_
    refine kdcall hR.inv te_ok rfl rfl rfl rfl rfl rfl (itoa_ok q.slide (by constructor <;> omega)) ?_
    simp only [go_sem]
    repeat refine ob2 ?_
    exact hQ
   refine sq ?_
   apply Exec.draw (st := _) 14 12 [5] [] te_ok (by as_aux_lemma => kernel_rfl) (by as_aux_lemma => kernel_rfl) (by as_aux_lemma => kernel_rfl)
   ·intro u' Q hQ
    simp only [go_sem]
    repeat refine ob2 ?_
    refine kdcall hR.inv te_ok rfl rfl rfl rfl rfl rfl (joinedP_ok q.p [44, 32] ptT (by omega) (by omega) (fun p hp => xptT_ok p (hf.p p hp))) ?_
    simp only [go_sem]
    repeat refine ob2 ?_
    refine kdcall hR.inv te_ok rfl rfl rfl rfl rfl rfl (joinedO_ok q.r [44, 32] opT (by omega) (by omega) (fun o ho => xopT_ok o (hfq.ra o ho))) ?_
    simp only [go_sem]
    repeat refine ob2 ?_
    exact hQ
   refine sreg te_ok ?_
   refine Exec.block ?_
   apply Exec.loopU [0, 36] (X := Nat) (fun i => [(37, .d (iv i))]) (fun i => [(1004, 9, [.d (sv (acT q i))])]) (fun i => []) (fun i => 4 - i) (fun i => i ≤ 4 ∧ (acT q i).length ≤ 2000) 0
   case h0 =>
    exact ⟨by omega, by simp [acT]⟩
   case hw =>
    simp only [go_sem]; rfl
   case body =>
    rintro i hx ih1
    try simp only at hx
    apply Exec.norm
    ·simp only [go_sem]
     rfl
    refine sreg te_ok ?_
    refine sq ?_
    refine Exec.cond_split rfl (fun h6 => ?_) (fun h6 => ?_)
    ·have hi : i < 4 := by have := of_decide_eq_true h6; omega
     have hix : ([D.v (.string (mkS (109 :: 97 :: 116 :: 99 :: 104 :: 32 :: Lib.join (List.map ptT q.p) [44, 32]))), D.v (.string (mkS [])), D.v (.string (mkS (32 :: 114 :: 101 :: 116 :: 117 :: 114 :: 110 :: 32 :: Lib.join (List.map opT q.r) [44, 32]))), D.v (.string (mkS (32 :: 114 :: 97 :: 110 :: 103 :: 101 :: 32 :: (Lib.itoa q.range ++ [32, 115, 108, 105, 100, 101, 32] ++ Lib.itoa q.slide))))] : List D)[i]? = some (D.v (.string (mkS (nth (pcs q) i)))) := by have hx4 := ix4 q hi; unfold pc2 at hx4; rw [if_neg (by have := of_decide_eq_false h1; omega)] at hx4; exact hx4
     have has : acT q i ++ nth (pcs q) i = acT q (i + 1) := (acT_s q hi).symm
     have hnl := nth_pc hf hi
     have w2 : IntKind.i64.wrap ((i : Int) + 1) = ((i + 1 : Nat) : Int) := by rw [wrap_id (by omega)]; omega
     refine sk ?_
     refine sq ?_
     refine Exec.block ?_
     refine sq ?_
     apply Exec.regionL te_ok
     ·intro u' Q hQ
      simp only [go_sem, hix, has, w2, Int.toNat_natCast]
      repeat refine ob2 ?_
      exact hQ
     refine sq ?_
     refine Exec.regStart 4 rfl ?_
     apply Exec.regPart 0 2 2 te_ok rfl
     ·intro u' Q hQ
      simp only [go_sem, hix, has, w2, Int.toNat_natCast]
      repeat refine ob2 ?_
      exact hQ
     refine Exec.yield 1 (m := 1) rfl rfl rfl rfl rfl rfl hlo0 rfl hN0 rfl (fun ag1 hag1 hdg1 => ?_)
     apply Exec.norm
     ·simp only [go_sem, hix, has, w2, Int.toNat_natCast]
      rfl
     apply Exec.regionL te_ok
     ·intro u' Q hQ
      simp only [go_sem, hix, has, w2, Int.toNat_natCast]
      repeat refine ob2 ?_
      exact hQ
     refine Exec.begin rfl hlo0 hfl0 ?_
     apply Exec.norm
     ·simp only [go_sem, hix, has, w2, Int.toNat_natCast]
      rfl
     refine Exec.block ?_
     refine sq ?_
     refine sq ?_
     apply Exec.regionL te_ok
     ·intro u' Q hQ
      simp only [go_sem, hix, has, w2, Int.toNat_natCast]
      repeat refine ob2 ?_
      exact hQ
     refine sq ?_
     apply Exec.regionL te_ok
     ·intro u' Q hQ
      simp only [go_sem, hix, has, w2, Int.toNat_natCast]
      repeat refine ob2 ?_
      exact hQ
     refine Exec.cond_split rfl (fun h7 => ?_) (fun h7 => ?_)
     ·refine Exec.exit rfl ?_
      refine Exec.roundEnd 1 .fall rfl hlo0 hfl0 rfl hag1 hdg1 rfl rfl rfl ?_
      apply Exec.norm
      ·simp only [go_sem, hix, has, w2, Int.toNat_natCast]
       rfl
      apply Exec.regPart 3 1 0 te_ok rfl
      ·intro u' Q hQ
       simp only [go_sem, hix, has, w2, Int.toNat_natCast]
       repeat refine ob2 ?_
       exact hQ
      refine Exec.regEnd ?_
      refine Exec.cond (t := false) rfl ?_
      simp only [reduceIte, Bool.false_eq_true]
      refine sk ?_
      refine Exec.inBlock ?_
      apply Exec.regionL te_ok
      ·intro u' Q hQ
       simp only [go_sem, hix, has, w2, Int.toNat_natCast]
       repeat refine ob2 ?_
       exact hQ
      refine Exec.back (ih1 (i + 1) ?_ ?_) ?_ ?_ ?_ ?_ ?_ ?_ ?_
      ·try simp only
       exact ⟨by omega, by have := of_decide_eq_true h7; omega⟩
      ·try simp only
       omega
      ·rfl
      ·rfl
      ·(simp only [go_sem, hix, has, w2, Int.toNat_natCast])
      ·(simp only [go_sem, hix, has, w2, Int.toNat_natCast])
      ·(simp only [go_sem, hix, has, w2, Int.toNat_natCast])
      ·simp only [go_sem, hix, has, w2, Int.toNat_natCast]
      ·rfl
     ·refine sk ?_
      refine sq ?_
      apply Exec.regionL te_ok
      ·intro u' Q hQ
       simp only [go_sem, hix, has, w2, Int.toNat_natCast]
       repeat refine ob2 ?_
       exact hQ
      refine Exec.roundEnd 1 .ret rfl hlo0 hfl0 rfl hag1 hdg1 rfl rfl rfl ?_
      apply Exec.norm
      ·simp only [go_sem, hix, has, w2, Int.toNat_natCast]
       rfl
      apply Exec.regPart 3 1 0 te_ok rfl
      ·intro u' Q hQ
       simp only [go_sem, hix, has, w2, Int.toNat_natCast]
       repeat refine ob2 ?_
       exact hQ
      refine Exec.regEnd ?_
      refine Exec.cond (t := true) rfl ?_
      simp only [reduceIte, Bool.false_eq_true]
      refine Exec.rangeEnd 1 (pd := (some .ret)) Tryz.func83 rfl (.inr ⟨_, rfl⟩) rfl rfl hlo0 hfl0 rfl rfl hN0 hD0 ?_
      apply Exec.norm
      ·simp only [go_sem, hix, has, w2, Int.toNat_natCast]
       rfl
      refine Exec.retsM hR te_ok rfl (.cons hfr0 .nil) rfl (LeX.le ?_) (.inr ⟨_, rfl⟩)
      simp only [go_sem]
      have hq3 : 2000 < (quT q).length := by have e1 := of_decide_eq_false h7; have e2 := acT_le q (i := i + 1) (by omega); rw [quT_pcs hf] at e2; omega
      simp [quS, quE, hr, hq3]
    ·refine Exec.exit rfl ?_
     refine Exec.rangeEnd 1 (pd := none) Tryz.func83 rfl (.inl rfl) rfl rfl hlo0 hfl0 rfl rfl hN0 hD0 ?_
     apply Exec.norm
     ·simp only [go_sem]
      rfl
     refine Exec.inBlock ?_
     refine sreg te_ok ?_
     refine Exec.retsM hR te_ok rfl (.cons hfr0 .nil) rfl (LeX.le ?_) (.inr ⟨_, rfl⟩)
     simp only [go_sem]
     obtain rfl : i = 4 := by have := of_decide_eq_false h6; omega
     have e3 := hx.2
     rw [quT_pcs hf] at e3 ⊢
     have hq3 : ¬ 2000 < (quT q).length := by omega
     simp [quS, quE, hr, hq3]
end Go.Proofs.YtonchjamoblioaaGreatDoor
namespace Go.Proofs.YtonchjamoblioaaGreatDoor
open Go.Kin Go.Lib
/-! ### what whole texts are read as -/
section
variable {α : Type} {z : α} {rule : List Tk → PS → PR α} {s : List UInt8}
theorem readV_cases (z : α) (h : lexE s = 0) :
  (∃ a, rule (lexT s) ⟨0, -1⟩ = .err a ∧ readV z rule s = (z, a, 7)) ∨
  (∃ s1 x, rule (lexT s) ⟨0, -1⟩ = .ok s1 x ∧ (nth (lexT s) s1.n).k ≠ 5 ∧ readV z rule s = (z, (nth (lexT s) s1.n).a, 7)) ∨
  (∃ s1 x, rule (lexT s) ⟨0, -1⟩ = .ok s1 x ∧ (nth (lexT s) s1.n).k = 5 ∧ 0 ≤ s1.m ∧ readV z rule s = (z, s1.m, 3)) ∨
  (∃ s1 x, rule (lexT s) ⟨0, -1⟩ = .ok s1 x ∧ (nth (lexT s) s1.n).k = 5 ∧ s1.m < 0 ∧ readV z rule s = (x, 0, 0)) := by
 cases hr : rule (lexT s) ⟨0, -1⟩ with
 | err a => exact .inl ⟨a, rfl, readV_err h hr⟩
 | ok s1 x =>
  by_cases hk : (nth (lexT s) s1.n).k = 5
  ·by_cases hm : 0 ≤ s1.m
   ·exact .inr (.inr (.inl ⟨s1, x, rfl, hk, hm, readV_long h hr hk hm⟩))
   ·exact .inr (.inr (.inr ⟨s1, x, rfl, hk, by omega, readV_ok h hr hk hm⟩))
  ·exact .inr (.inl ⟨s1, x, rfl, hk, readV_end h hr hk⟩)
theorem St2.init {l l' : List Tk} (h : 0 < l.length) : St2 l l' ⟨0, -1⟩ ⟨0, -1⟩ := ⟨rfl, h, .inl ⟨by decide, by decide⟩⟩
theorem lexE_cases (hl : s.length ≤ 2000) : lexE s = 0 ∨ (lexE s = 7 ∧ 0 ≤ lexA s ∧ lexA s ≤ s.length) := by
 rcases lexE_or s with ⟨h, _⟩ | ⟨_, h, _⟩ | ⟨_, h, _⟩
 ·omega
 ·exact .inl h
 ·obtain ⟨A, e, hA, _⟩ := lex_cut h
  exact .inr ⟨h, by omega, by omega⟩
theorem Sh.refl (h : LxT s) : Sh (lexT s) (lexT s) := ⟨rfl, fun _ _ => ⟨rfl, rfl, rfl⟩, fun i j a b => ⟨h.up i j a b, h.up i j a b⟩, fun i a => ⟨(h.pos i a).1, (h.pos i a).1⟩⟩
/-- either it is right, or there is an error at a place -/
theorem either_read {G : α → Prop} (hl : s.length ≤ 2000) (hR : ∀ l, TkOk l → Sh l l → 0 < l.length → R2 l l (rule l ⟨0, -1⟩) (rule l ⟨0, -1⟩)) (hG : ∀ l, TkOk l → TV l → ∀ s1 x, rule l ⟨0, -1⟩ = .ok s1 x → s1.m < 0 → G x) :
  ((readV z rule s).2.2 = 0 → (readV z rule s).2.1 = 0 ∧ G (readV z rule s).1) ∧ ((readV z rule s).2.2 ≠ 0 → ((readV z rule s).2.2 = 7 ∨ (readV z rule s).2.2 = 3) ∧ 0 ≤ (readV z rule s).2.1 ∧ (readV z rule s).2.1 ≤ s.length ∧ (readV z rule s).1 = z) := by
 rcases lexE_cases hl with h | ⟨h, h1, h2⟩
 ·have x := lxT h
  have hR := hR _ x.tk (Sh.refl x) x.n0
  rcases readV_cases (rule := rule) z h with ⟨a, e, r⟩ | ⟨s1, y, e, hk, r⟩ | ⟨s1, y, e, hk, hm, r⟩ | ⟨s1, y, e, hk, hm, r⟩ <;> rw [e] at hR <;> rw [r]
  ·obtain ⟨j, hj, h1, _⟩ := hR
   have := x.pos j hj
   exact ⟨fun h => by simp at h, fun _ => ⟨.inl rfl, by simp only; omega, by simp only; omega, rfl⟩⟩
  ·have := x.pos _ hR.1.2.1
   exact ⟨fun h => by simp at h, fun _ => ⟨.inl rfl, by simp only; omega, by simp only; omega, rfl⟩⟩
  ·rcases hR.1.2.2 with ⟨h1, _⟩ | ⟨j, hj, h1, _⟩
   ·omega
   ·have := x.pos j hj
    exact ⟨fun h => by simp at h, fun _ => ⟨.inr rfl, by simp only; omega, by simp only; omega, rfl⟩⟩
  ·exact ⟨fun _ => ⟨rfl, hG _ x.tk x.tv _ _ e hm⟩, fun h => absurd rfl h⟩
 ·have e := readV_no (z := z) (rule := rule) (s := s) (by omega)
  rw [e, h]
  exact ⟨fun h => by simp at h, fun _ => ⟨.inl rfl, h1, h2, rfl⟩⟩
end
theorem query_either {s : List UInt8} (hl : s.length ≤ 2000) : ((readV qz queryP s).2.2 = 0 → (readV qz queryP s).2.1 = 0 ∧ quR (readV qz queryP s).1 = true) ∧ ((readV qz queryP s).2.2 ≠ 0 → ((readV qz queryP s).2.2 = 7 ∨ (readV qz queryP s).2.2 = 3) ∧ 0 ≤ (readV qz queryP s).2.1 ∧ (readV qz queryP s).2.1 ≤ s.length ∧ (readV qz queryP s).1 = qz) :=
 either_read (G := fun q => quR q = true) hl (fun l hk hs h0 => query2 hk hs (St2.init h0)) (fun l hk hv s1 x e hm => (query_k hk hv s1 x e).2 hm)
theorem expr_either {s : List UInt8} (hl : s.length ≤ 2000) : ((readV xz wholeP s).2.2 = 0 → (readV xz wholeP s).2.1 = 0 ∧ exRight (readV xz wholeP s).1 = true) ∧ ((readV xz wholeP s).2.2 ≠ 0 → ((readV xz wholeP s).2.2 = 7 ∨ (readV xz wholeP s).2.2 = 3) ∧ 0 ≤ (readV xz wholeP s).2.1 ∧ (readV xz wholeP s).2.1 ≤ s.length ∧ (readV xz wholeP s).1 = xz) :=
 either_read (G := fun q => exRight q = true) hl (fun l hk hs h0 => whole2 hk hs (St2.init h0)) (fun l hk hv s1 x e hm => (whole_k hk s1 x e).2 hm)
end Go.Proofs.YtonchjamoblioaaGreatDoor
namespace Go.Proofs.YtonchjamoblioaaGreatDoor
open Go.Kin
set_option maxRecDepth 100000
set_option maxHeartbeats 0
attribute [go_sem] te_101 te_22 te_23 te_24 te_53 te_51 te_56
theorem samePt_ok (x y : Pt) (hfx : FitX x.e) : FnOK Laid Tryz.prog 63 [ptD x, ptD y] (bv (decide (x = y))) := by
 refine FnOK_of laid_stable Tryz.func63 Tryz.ntmps63 rfl (by as_aux_lemma => kernel_rfl) (Nat.le_of_ble_eq_true rfl) (fun R hR => ?_)
 obtain ⟨_, b, cs, T, C⟩ := R
 obtain rfl : _ = Tryz.prog := hR.p
 refine sreg te_ok ?_
 refine sq ?_
 apply Exec.regionL te_ok
 ·intro u' Q hQ
  simp only [go_sem]
  repeat refine ob2 ?_
  refine kcall hR.inv te_ok rfl rfl rfl rfl rfl rfl (xsame_ok x.e y.e hfx) ?_
  simp only [go_sem]
  repeat refine ob2 ?_
  exact hQ
 refine sreg te_ok ?_
 refine Exec.rets hR te_ok rfl rfl rfl (LeX.le ?_) (.inr ⟨_, rfl⟩)
 simp only [go_sem]
 rw [← pt_eq]
 cases (x.a == y.a) <;> cases (x.z == y.z) <;> cases (x.path == y.path) <;> cases (x.lab == y.lab) <;> cases (x.name == y.name) <;> cases decide (x.e = y.e) <;> rfl
theorem eqPt_ok (l m : List Pt) (hl : l.length ≤ 1000000) (hx0 : ∀ p ∈ l, FitX p.e) : FnOK Laid Tryz.prog 62 [ptsD l, ptsD m, .fn 63 []] (bv (decide (l = m))) := by
 refine FnOK_of laid_stable Tryz.func62 Tryz.ntmps62 rfl (by as_aux_lemma => kernel_rfl) (Nat.le_of_ble_eq_true rfl) (fun R hR => ?_)
 obtain ⟨_, b, cs, T, C⟩ := R
 obtain rfl : _ = Tryz.prog := hR.p
 refine sreg te_ok ?_
 refine sq ?_
 refine sreg te_ok ?_
 refine Exec.cond_split rfl (fun h0 => ?_) (fun h0 => ?_)
 ·refine sreg te_ok ?_
  refine Exec.rets hR te_ok rfl rfl rfl (LeX.le ?_) (.inr ⟨_, rfl⟩)
  simp only [go_sem]
  have : l ≠ m := fun e => by subst e; simp at h0
  simp [this]
 ·have hlm : l.length = m.length := by simp at h0; omega
  refine sk ?_
  refine sq ?_
  refine sreg te_ok ?_
  refine Exec.block ?_
  apply Exec.loopU [1, 2, 15, 16] (X := Nat) (fun i => [(17, .d (iv i))]) (fun i => []) (fun i => []) (fun i => l.length - i) (fun i => i ≤ l.length ∧ l.take i = m.take i) 0
  case h0 =>
   simp
  case hw =>
   simp only [go_sem]
  case body =>
   rintro i hx ih0
   try simp only at hx
   apply Exec.norm
   ·simp only [go_sem]
    rfl
   refine sreg te_ok ?_
   refine sq ?_
   refine Exec.cond_split rfl (fun h1 => ?_) (fun h1 => ?_)
   ·have hi : i < l.length := by simp at h1; omega
    have hi2 : i < m.length := by omega
    have w2 : IntKind.i64.wrap ((i : Int) + 1) = ((i + 1 : Nat) : Int) := by rw [wrap_id (by omega)]; omega
    refine sk ?_
    refine sq ?_
    refine Exec.block ?_
    refine sq ?_
    apply Exec.regionL te_ok
    ·intro u' Q hQ
     simp only [go_sem, w2]
     repeat refine ob2 ?_
     exact hQ
    refine sq ?_
    apply Exec.regionL te_ok
    ·intro u' Q hQ
     simp only [go_sem, w2]
     repeat refine ob2 ?_
     exact hQ
    refine sq ?_
    apply Exec.regionL te_ok
    ·intro u' Q hQ
     simp only [go_sem, w2]
     repeat refine ob2 ?_
     refine kcall hR.inv te_ok rfl rfl rfl rfl rfl rfl (samePt_ok _ _ (hx0 _ (nth_mem hi))) ?_
     simp only [go_sem, w2]
     repeat refine ob2 ?_
     exact hQ
    refine Exec.cond_split rfl (fun h2 => ?_) (fun h2 => ?_)
    ·refine sq ?_
     apply Exec.regionL te_ok
     ·intro u' Q hQ
      simp only [go_sem, w2]
      repeat refine ob2 ?_
      exact hQ
     refine Exec.rets hR te_ok rfl rfl rfl (LeX.le ?_) (.inr ⟨_, rfl⟩)
     simp only [go_sem]
     have : l ≠ m := fun e => by subst e; simp [decide_eq_true_eq] at h2
     simp [this]
    ·refine sk ?_
     refine Exec.inBlock ?_
     apply Exec.regionL te_ok
     ·intro u' Q hQ
      simp only [go_sem, w2]
      repeat refine ob2 ?_
      exact hQ
     refine Exec.back (ih0 (i + 1) ?_ ?_) ?_ ?_ ?_ ?_ ?_ ?_ ?_
     ·try simp only
      exact ⟨by omega, (same_step hlm hi hx.2).2 (by simpa [decide_eq_true_eq] using h2)⟩
     ·try simp only
      omega
     ·rfl
     ·rfl
     ·(simp only [go_sem, w2])
     ·(simp only [go_sem, w2])
     ·(simp only [go_sem, w2])
     ·simp only [go_sem, w2]
     ·rfl
   ·refine Exec.exit rfl ?_
    refine sreg te_ok ?_
    refine Exec.rets hR te_ok rfl rfl rfl (LeX.le ?_) (.inr ⟨_, rfl⟩)
    simp only [go_sem]
    have : l = m := by have := hx.2; simp at h1; rw [List.take_of_length_le (by omega), List.take_of_length_le (by omega)] at this; exact this
    simp [this]
theorem eqCd_ok (l m : List Cd) (hl : l.length ≤ 1000000)  : FnOK Laid Tryz.prog 64 [cdsD l, cdsD m] (bv (decide (l = m))) := by
 refine FnOK_of laid_stable Tryz.func64 Tryz.ntmps64 rfl (by as_aux_lemma => kernel_rfl) (Nat.le_of_ble_eq_true rfl) (fun R hR => ?_)
 obtain ⟨_, b, cs, T, C⟩ := R
 obtain rfl : _ = Tryz.prog := hR.p
 refine sreg te_ok ?_
 refine sq ?_
 refine sreg te_ok ?_
 refine Exec.cond_split rfl (fun h0 => ?_) (fun h0 => ?_)
 ·refine sreg te_ok ?_
  refine Exec.rets hR te_ok rfl rfl rfl (LeX.le ?_) (.inr ⟨_, rfl⟩)
  simp only [go_sem]
  have : l ≠ m := fun e => by subst e; simp at h0
  simp [this]
 ·have hlm : l.length = m.length := by simp at h0; omega
  refine sk ?_
  refine sq ?_
  refine sreg te_ok ?_
  refine Exec.block ?_
  apply Exec.loopU [0, 1, 12] (X := Nat) (fun i => [(13, .d (iv i))]) (fun i => []) (fun i => []) (fun i => l.length - i) (fun i => i ≤ l.length ∧ l.take i = m.take i) 0
  case h0 =>
   simp
  case hw =>
   simp only [go_sem]
  case body =>
   rintro i hx ih0
   try simp only at hx
   apply Exec.norm
   ·simp only [go_sem]
    rfl
   refine sreg te_ok ?_
   refine sq ?_
   refine Exec.cond_split rfl (fun h1 => ?_) (fun h1 => ?_)
   ·have hi : i < l.length := by simp at h1; omega
    have hi2 : i < m.length := by omega
    have w2 : IntKind.i64.wrap ((i : Int) + 1) = ((i + 1 : Nat) : Int) := by rw [wrap_id (by omega)]; omega
    refine sk ?_
    refine sq ?_
    refine Exec.block ?_
    refine sq ?_
    apply Exec.regionL te_ok
    ·intro u' Q hQ
     simp only [go_sem, w2]
     repeat refine ob2 ?_
     exact hQ
    refine sq ?_
    apply Exec.draw (st := _) 10 9 [] [] te_ok (by as_aux_lemma => kernel_rfl) (by as_aux_lemma => kernel_rfl) (by as_aux_lemma => kernel_rfl)
    ·intro u' Q hQ
     simp only [go_sem, w2]
     repeat refine ob2 ?_
     exact hQ
    refine Exec.cond_split rfl (fun h2 => ?_) (fun h2 => ?_)
    ·refine sq ?_
     apply Exec.regionL te_ok
     ·intro u' Q hQ
      simp only [go_sem, w2]
      repeat refine ob2 ?_
      exact hQ
     refine Exec.rets hR te_ok rfl rfl rfl (LeX.le ?_) (.inr ⟨_, rfl⟩)
     simp only [go_sem]
     have : l ≠ m := fun e => by subst e; simp [cdx, and_assoc] at h2
     simp [this]
    ·refine sk ?_
     refine Exec.inBlock ?_
     apply Exec.regionL te_ok
     ·intro u' Q hQ
      simp only [go_sem, w2]
      repeat refine ob2 ?_
      exact hQ
     refine Exec.back (ih0 (i + 1) ?_ ?_) ?_ ?_ ?_ ?_ ?_ ?_ ?_
     ·try simp only
      exact ⟨by omega, (same_step hlm hi hx.2).2 (by simpa [cdx, and_assoc] using h2)⟩
     ·try simp only
      omega
     ·rfl
     ·rfl
     ·(simp only [go_sem, w2])
     ·(simp only [go_sem, w2])
     ·(simp only [go_sem, w2])
     ·simp only [go_sem, w2]
     ·rfl
   ·refine Exec.exit rfl ?_
    refine sreg te_ok ?_
    refine Exec.rets hR te_ok rfl rfl rfl (LeX.le ?_) (.inr ⟨_, rfl⟩)
    simp only [go_sem]
    have : l = m := by have := hx.2; simp at h1; rw [List.take_of_length_le (by omega), List.take_of_length_le (by omega)] at this; exact this
    simp [this]
theorem eqOp_ok (l m : List Opd) (hl : l.length ≤ 1000000)  : FnOK Laid Tryz.prog 65 [opsD l, opsD m] (bv (decide (l = m))) := by
 refine FnOK_of laid_stable Tryz.func65 Tryz.ntmps65 rfl (by as_aux_lemma => kernel_rfl) (Nat.le_of_ble_eq_true rfl) (fun R hR => ?_)
 obtain ⟨_, b, cs, T, C⟩ := R
 obtain rfl : _ = Tryz.prog := hR.p
 refine sreg te_ok ?_
 refine sq ?_
 refine sreg te_ok ?_
 refine Exec.cond_split rfl (fun h0 => ?_) (fun h0 => ?_)
 ·refine sreg te_ok ?_
  refine Exec.rets hR te_ok rfl rfl rfl (LeX.le ?_) (.inr ⟨_, rfl⟩)
  simp only [go_sem]
  have : l ≠ m := fun e => by subst e; simp at h0
  simp [this]
 ·have hlm : l.length = m.length := by simp at h0; omega
  refine sk ?_
  refine sq ?_
  refine sreg te_ok ?_
  refine Exec.block ?_
  apply Exec.loopU [0, 1, 12] (X := Nat) (fun i => [(13, .d (iv i))]) (fun i => []) (fun i => []) (fun i => l.length - i) (fun i => i ≤ l.length ∧ l.take i = m.take i) 0
  case h0 =>
   simp
  case hw =>
   simp only [go_sem]
  case body =>
   rintro i hx ih0
   try simp only at hx
   apply Exec.norm
   ·simp only [go_sem]
    rfl
   refine sreg te_ok ?_
   refine sq ?_
   refine Exec.cond_split rfl (fun h1 => ?_) (fun h1 => ?_)
   ·have hi : i < l.length := by simp at h1; omega
    have hi2 : i < m.length := by omega
    have w2 : IntKind.i64.wrap ((i : Int) + 1) = ((i + 1 : Nat) : Int) := by rw [wrap_id (by omega)]; omega
    refine sk ?_
    refine sq ?_
    refine Exec.block ?_
    refine sq ?_
    apply Exec.regionL te_ok
    ·intro u' Q hQ
     simp only [go_sem, w2]
     repeat refine ob2 ?_
     exact hQ
    refine sq ?_
    apply Exec.draw (st := _) 10 9 [] [] te_ok (by as_aux_lemma => kernel_rfl) (by as_aux_lemma => kernel_rfl) (by as_aux_lemma => kernel_rfl)
    ·intro u' Q hQ
     simp only [go_sem, w2]
     repeat refine ob2 ?_
     exact hQ
    refine Exec.cond_split rfl (fun h2 => ?_) (fun h2 => ?_)
    ·refine sq ?_
     apply Exec.regionL te_ok
     ·intro u' Q hQ
      simp only [go_sem, w2]
      repeat refine ob2 ?_
      exact hQ
     refine Exec.rets hR te_ok rfl rfl rfl (LeX.le ?_) (.inr ⟨_, rfl⟩)
     simp only [go_sem]
     have : l ≠ m := fun e => by subst e; simp [op_eq] at h2
     simp [this]
    ·refine sk ?_
     refine Exec.inBlock ?_
     apply Exec.regionL te_ok
     ·intro u' Q hQ
      simp only [go_sem, w2]
      repeat refine ob2 ?_
      exact hQ
     refine Exec.back (ih0 (i + 1) ?_ ?_) ?_ ?_ ?_ ?_ ?_ ?_ ?_
     ·try simp only
      exact ⟨by omega, (same_step hlm hi hx.2).2 (by simpa [op_eq] using h2)⟩
     ·try simp only
      omega
     ·rfl
     ·rfl
     ·(simp only [go_sem, w2])
     ·(simp only [go_sem, w2])
     ·(simp only [go_sem, w2])
     ·simp only [go_sem, w2]
     ·rfl
   ·refine Exec.exit rfl ?_
    refine sreg te_ok ?_
    refine Exec.rets hR te_ok rfl rfl rfl (LeX.le ?_) (.inr ⟨_, rfl⟩)
    simp only [go_sem]
    have : l = m := by have := hx.2; simp at h1; rw [List.take_of_length_le (by omega), List.take_of_length_le (by omega)] at this; exact this
    simp [this]
theorem tsame_ok (x y : Qu) (h1 : x.p.length ≤ 1000000) (h2 : x.c.length ≤ 1000000) (h3 : x.r.length ≤ 1000000) (hx0 : ∀ p ∈ x.p, FitX p.e) : FnOK Laid Tryz.prog 33 [quD x, quD y] (bv (decide (x = y))) := by
 refine FnOK_of laid_stable Tryz.func33 Tryz.ntmps33 rfl (by as_aux_lemma => kernel_rfl) (Nat.le_of_ble_eq_true rfl) (fun R hR => ?_)
 obtain ⟨_, b, cs, T, C⟩ := R
 obtain rfl : _ = Tryz.prog := hR.p
 refine sreg te_ok ?_
 refine sq ?_
 apply Exec.regionL te_ok
 ·intro u' Q hQ
  simp only [go_sem]
  repeat refine ob2 ?_
  refine kcallG hR.inv te_ok rfl rfl rfl rfl rfl rfl ob1 (fun hq => eqPt_ok x.p y.p (by omega) hx0) ?_
  simp only [go_sem]
  repeat refine ob2 ?_
  refine kcallG hR.inv te_ok rfl rfl rfl rfl rfl rfl ob1 (fun hq => eqCd_ok x.c y.c (by omega)) ?_
  simp only [go_sem]
  repeat refine ob2 ?_
  refine kcallG hR.inv te_ok rfl rfl rfl rfl rfl rfl ob1 (fun hq => eqOp_ok x.r y.r (by omega)) ?_
  simp only [go_sem]
  repeat refine ob2 ?_
  exact hQ
 refine Exec.rets hR te_ok rfl rfl rfl (LeX.le ?_) (.inr ⟨_, rfl⟩)
 simp only [go_sem]
 rw [← qu_eq]
 cases decide (x.p = y.p) <;> cases decide (x.c = y.c) <;> cases decide (x.r = y.r) <;> cases (x.range == y.range) <;> cases (x.slide == y.slide) <;> rfl
end Go.Proofs.YtonchjamoblioaaGreatDoor
namespace Go.Proofs.YtonchjamoblioaaGreatDoor
open Go.Kin Go.Lib
/-! ### what is right is small -/
theorem free_le {s : List UInt8} (h : freeB s = true) : s.length ≤ 20 := by
 unfold freeB vertexB at h; simp at h; omega
theorem ex_fit : ∀ x : Ex, exOk x = true → x.size ≤ 1000000 → FitX x := fun x => by
 refine Ex.ind (p := fun x => exOk x = true → x.size ≤ 1000000 → FitX x) (fun x ih h hs => ?_) x
 have hl := Ex.len_le x.kids
 have he := x.size_eq
 have hmem : ∀ y ∈ x.kids, exOk y = true := fun y hy => by
  rw [exOk_eq, Bool.and_eq_true] at h
  have : ∀ {l : List Ex}, exsOk l = true → ∀ y ∈ l, exOk y = true := fun {l} => by
   induction l with
   | nil => intro _ y hy; cases hy
   | cons a r ih =>
    intro h y hy
    simp only [exsOk, Bool.and_eq_true] at h
    rcases List.mem_cons.1 hy with rfl | hy
    ·exact h.1
    ·exact ih h.2 y hy
  exact this h.2 y hy
 refine .mk ?_ (by omega) fun y hy => ih y hy (hmem y hy) (by have := Ex.sizes_mem hy; omega)
 by_cases h1 : x.k = 1
 ·rw [partR_1 h1, Bool.and_eq_true] at h; have := free_le h.1; omega
 ·by_cases h2 : x.k = 2 ∨ x.k = 3
  ·rw [partR_2 h2] at h; simp only [Bool.and_eq_true, beq_iff_eq] at h; rw [h.2.1]; simp
  ·by_cases h4 : x.k = 4 ∨ x.k = 5 ∨ x.k = 6
   ·rw [partR_4 h4] at h; simp only [Bool.and_eq_true, beq_iff_eq] at h; rw [h.2.1]; simp
   ·rw [partR_0 h1 h2 h4] at h; cases h
theorem zEx_fit : FitX (.mk 0 [] []) := .mk (by simp [Ex.s]) (by simp [Ex.kids]) fun y hy => by cases hy
theorem exr_fit {x : Ex} (h : exRight x = true ∨ x = xz) : FitX x ∧ x.size ≤ 24 := by
 rcases h with h | rfl
 ·unfold exRight at h
  rw [Bool.and_eq_true] at h
  have := of_decide_eq_true h.1
  exact ⟨ex_fit x h.2 (by omega), this⟩
 ·exact ⟨zEx_fit, by show Ex.size (.mk 0 [] []) ≤ 24; rw [Ex.size_eq]; decide⟩
theorem op_fit {o : Opd} (h : opR o = true) : FitO o := by
 unfold opR at h
 by_cases h1 : o.k = 1
 ·rw [if_pos h1] at h; simp only [Bool.and_eq_true, beq_iff_eq] at h
  have := free_le h.1
  exact ⟨by omega, by rw [h.2.1]; simp, by rw [h.2.2.2.2]; simp⟩
 ·rw [if_neg h1] at h
  by_cases h2 : o.k = 2
  ·rw [if_pos h2] at h; simp only [Bool.and_eq_true, beq_iff_eq] at h
   have := free_le h.1
   have := free_le h.2.1
   exact ⟨by omega, by omega, by rw [h.2.2.2.2]; simp⟩
  ·rw [if_neg h2] at h
   by_cases h3 : o.k = 3
   ·rw [if_pos h3] at h; simp only [Bool.and_eq_true, beq_iff_eq] at h
    refine ⟨by rw [h.1]; simp, by rw [h.2.1]; simp, ?_⟩
    have hr := h.2.2
    unfold rightV at hr
    by_cases hk : o.vk = 1
    ·rw [if_pos hk] at hr; simp at hr; rw [hr.1.1]; simp
    ·rw [if_neg hk] at hr
     by_cases hk2 : o.vk = 2
     ·rw [if_pos hk2] at hr; simp at hr; omega
     ·rw [if_neg hk2] at hr; cases hr
   ·rw [if_neg h3] at h; cases h
theorem pt_fit {p : Pt} (h : ptR p = true) : FitP p := by
 unfold ptR at h
 simp only [Bool.and_eq_true] at h
 obtain ⟨h1, h2, h3⟩ := h
 have l1 := free_le h1
 have l2 := free_le h2
 by_cases hp : p.path = true
 ·rw [if_pos hp] at h3; simp only [Bool.and_eq_true, beq_iff_eq] at h3
  obtain ⟨e1, e2⟩ := exr_fit (.inl h3.2.2)
  exact ⟨by omega, by omega, by rw [h3.1]; simp, by rw [h3.2.1]; simp, e1, by omega⟩
 ·rw [if_neg hp] at h3; simp only [Bool.and_eq_true, Bool.or_eq_true, beq_iff_eq, decide_eq_true_eq] at h3
  have l3 := free_le h3.1
  have l4 : p.name.length ≤ 20 := by
   rcases h3.2.1 with h | h
   ·rw [h]; simp
   ·exact free_le h
  have he := h3.2.2
  refine ⟨by omega, by omega, by omega, by omega, by rw [he]; exact zEx_fit, ?_⟩
  rw [he]; exact Nat.le_trans (exr_fit (.inr rfl)).2 (by decide)
theorem qu_fit {q : Qu} (h : quR q = true ∨ q = qz) : FitQ q ∧ (∀ p ∈ q.p, FitX p.e) ∧ q.p.length ≤ 4 ∧ q.c.length ≤ 6 ∧ q.r.length ≤ 4 := by
 rcases h with h | rfl
 ·unfold quR at h
  simp only [Bool.and_eq_true, decide_eq_true_eq, List.all_eq_true] at h
  obtain ⟨h1, h2, h3, h4, h5, h6, h7, h8⟩ := h
  refine ⟨⟨by omega, by omega, by omega, fun p hp => pt_fit (h6 p hp), fun c hc => ?_, fun o ho => op_fit (h8 o ho).2⟩, fun p hp => (pt_fit (h6 p hp)).e, by omega, by omega, by omega⟩
  have := h7 c hc
  unfold cdR at this
  simp only [Bool.and_eq_true] at this
  exact ⟨op_fit this.2.2.1, op_fit this.2.2.2⟩
 ·exact ⟨⟨by decide, by decide, by decide, fun p hp => (by cases hp), fun p hp => (by cases hp), fun p hp => (by cases hp)⟩, fun p hp => (by cases hp), by decide, by decide, by decide⟩
/-! ### the text that the law writes anew -/
section
variable (g : List UInt8) (l : List Tk)
def othK : Nat → List UInt8
 | 0 => []
 | i + 1 => (if 0 < i then othK i ++ g else othK i) ++ (nth l i).t
def othB (i : Nat) : List UInt8 := if 0 < i then othK g l i ++ g else othK g l i
end
theorem othK_on (g : List UInt8) (l : List Tk) (i : Nat) : othK g l (i + 1) = othB g l i ++ (nth l i).t := rfl
/-! ### the gaps -/
def gapsW : List (List UInt8) := [[32], [10], [9, 32]]
def pick3 (x : Int) : Int := if x.tmod 3 < 0 then x.tmod 3 + 3 else x.tmod 3
def gP (n : Int) : List UInt8 := nth gapsW (pick3 n).toNat
end Go.Proofs.YtonchjamoblioaaGreatDoor
