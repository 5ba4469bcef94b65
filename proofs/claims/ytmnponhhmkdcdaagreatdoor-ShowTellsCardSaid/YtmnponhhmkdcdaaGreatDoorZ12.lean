/- Contracts of functions of the seat, walked. -/
import Derived.Test.YtmnponhhmkdcdaaGreatDoorZ11
namespace Go.Proofs.YtmnponhhmkdcdaaGreatDoor
open Go.Kin
set_option linter.unusedSimpArgs false
set_option linter.unusedVariables false
set_option maxRecDepth 100000
set_option maxHeartbeats 0
def pc1 (q : Qu) : List UInt8 := [109, 97, 116, 99, 104, 32] ++ Lib.join (q.p.map ptT) [44, 32]
def pc2 (q : Qu) : List UInt8 := if 0 < q.c.length then [32, 119, 104, 101, 114, 101, 32] ++ Lib.join (q.c.map cdT) [32, 97, 110, 100, 32] else []
def pc3 (q : Qu) : List UInt8 := [32, 114, 101, 116, 117, 114, 110, 32] ++ Lib.join (q.r.map opT) [44, 32]
def pc4 (q : Qu) : List UInt8 := [32, 114, 97, 110, 103, 101, 32] ++ Lib.itoa q.range ++ [32, 115, 108, 105, 100, 101, 32] ++ Lib.itoa q.slide
def pcs (q : Qu) : List (List UInt8) := [pc1 q, pc2 q, pc3 q, pc4 q]
def acT (q : Qu) (i : Nat) : List UInt8 := ((pcs q).take i).flatten
theorem acT_s (q : Qu) {i : Nat} (h : i < 4) : acT q (i + 1) = acT q i ++ nth (pcs q) i := by
  unfold acT; rw [take_succ_nth (show i < (pcs q).length from h)]; simp
theorem quT_pcs {q : Qu} (h : QuF q) : acT q 4 = quT q := by
  have h1 : txP q = pc1 q := by
    unfold txP pc1; rw [accS_all (by simp), if_neg (by have := h.lp; omega)]; simp
  have h2 : txC q = pc1 q ++ pc2 q := by
    unfold txC pc2; rw [accS_all (by simp), h1]
    by_cases hc : q.c.length = 0
    · rw [if_pos hc, if_neg (by omega)]
    · rw [if_neg hc, if_pos (by omega)]
  have h3 : txR q = pc1 q ++ pc2 q ++ pc3 q := by
    unfold txR pc3; rw [accS_all (by simp), if_neg (by have := h.lr; omega), h2]; simp
  unfold quT acT pcs
  rw [h3]; simp [pc4]
theorem acT_le (q : Qu) {i : Nat} (h : i ≤ 4) : (acT q i).length ≤ (acT q 4).length := by
  have e : acT q 4 = acT q i ++ ((pcs q).drop i).flatten := by
    unfold acT
    rw [← List.flatten_append, List.take_append_drop]
    rfl
  rw [e, List.length_append]; omega
theorem pc_len {q : Qu} (h : QuF q) : (pc1 q).length ≤ 5000 ∧ (pc2 q).length ≤ 5000 ∧ (pc3 q).length ≤ 5000 ∧ (pc4 q).length ≤ 100 := by
  have s1 := sum_p h
  have s2 := sum_c h
  have s3 := sum_r h
  have j1 := join_len (q.p.map ptT) [44, 32]
  have j2 := join_len (q.c.map cdT) [32, 97, 110, 100, 32]
  have j3 := join_len (q.r.map opT) [44, 32]
  have i1 := Lib.itoa_length_le q.range (by have := h.ra; omega) (by have := h.ra; omega)
  have i2 := Lib.itoa_length_le q.slide (by have := h.sl; omega) (by have := h.sl; omega)
  have e2 : ([44, 32] : List UInt8).length = 2 := rfl
  have e5 : ([32, 97, 110, 100, 32] : List UInt8).length = 5 := rfl
  rw [e2] at j1 j3; rw [e5] at j2
  refine ⟨by unfold pc1; simp; omega, ?_, by unfold pc3; simp; omega, by unfold pc4; simp; omega⟩
  unfold pc2; split <;> simp <;> omega
theorem ix4 (q : Qu) {i : Nat} (h : i < 4) : ([D.v (.string (mkS (pc1 q))), D.v (.string (mkS (pc2 q))), D.v (.string (mkS (pc3 q))), D.v (.string (mkS (pc4 q)))] : List D)[i]? = some (D.v (.string (mkS (nth (pcs q) i)))) := by
  rcases (show i = 0 ∨ i = 1 ∨ i = 2 ∨ i = 3 by omega) with rfl | rfl | rfl | rfl <;> rfl
theorem nth_pc {q : Qu} (h : QuF q) {i : Nat} (hi : i < 4) : (nth (pcs q) i).length ≤ 5000 := by
  have := pc_len h
  rcases (show i = 0 ∨ i = 1 ∨ i = 2 ∨ i = 3 by omega) with rfl | rfl | rfl | rfl
  · exact this.1
  · exact this.2.1
  · exact this.2.2.1
  · exact Nat.le_trans this.2.2.2 (by omega)

theorem pieces_ok (q : Qu) : FnOK Laid Tryz.prog 42 [quD q] (.fn 83 [.ptr [ptsD q.p, cdsD q.c, opsD q.r, iv q.range, iv q.slide]]) := by
  refine FnOK_of laid_stable Tryz.func42 Tryz.ntmps42 rfl (by as_aux_lemma => kernel_rfl) (Nat.le_of_ble_eq_true rfl) (fun R hR => ?_)
  obtain ⟨_, b, cs, T, C⟩ := R
  obtain rfl : _ = Tryz.prog := hR.p
  refine Exec.seq ?_
  apply Exec.regionL te_ok
  · intro ops' Q hQ
    simp only [go_sem]
    repeat (refine And.intro (by first | assumption | omega | (simp; done) | (simp; omega) | (intros; omega) | (simp_all; done) | (simp_all; omega)) ?_)
    exact hQ
  refine Exec.seq ?_
  refine Exec.freezeB 1 rfl rfl ?_
  apply Exec.norm
  · simp only [go_sem]
    rfl
  apply Exec.regionL te_ok
  · intro ops' Q hQ
    simp only [go_sem]
    repeat (refine And.intro (by first | assumption | omega | (simp; done) | (simp; omega) | (intros; omega) | (simp_all; done) | (simp_all; omega)) ?_)
    exact hQ
  refine Exec.rets hR te_ok rfl rfl rfl (LeX.le ?_) (.inr ⟨_, rfl⟩)
  simp only [go_sem]
theorem xquery_ok (q : Qu) (hfq : FitQ q) : FnOK Laid Tryz.prog 16 [quD q] (.tup [sv (quS q), iv (quE q)]) := by
  refine FnOK_of laid_stable Tryz.func16 Tryz.ntmps16 rfl (by as_aux_lemma => kernel_rfl) (Nat.le_of_ble_eq_true rfl) (fun R hR => ?_)
  obtain ⟨_, b, cs, T, C⟩ := R
  obtain rfl : _ = Tryz.prog := hR.p
  refine Exec.seq ?_
  apply Exec.regionL te_ok
  · intro ops' Q hQ
    simp only [go_sem]
    repeat (refine And.intro (by first | assumption | omega | (simp; done) | (simp; omega) | (intros; omega) | (simp_all; done) | (simp_all; omega)) ?_)
    exact hQ
  refine Exec.scope ?_
  refine Exec.seq ?_
  refine Exec.seq ?_
  apply Exec.regionL te_ok
  · intro ops' Q hQ
    simp only [go_sem]
    repeat (refine And.intro (by first | assumption | omega | (simp; done) | (simp; omega) | (intros; omega) | (simp_all; done) | (simp_all; omega)) ?_)
    refine kcall hR.inv te_ok rfl rfl rfl rfl rfl rfl (xtree_ok q hfq) ?_
    simp only [go_sem]
    repeat (refine And.intro (by first | assumption | omega | (simp; done) | (simp; omega) | (intros; omega) | (simp_all; done) | (simp_all; omega)) ?_)
    exact hQ
  refine Exec.cond_split rfl (fun h0 => ?_) (fun h0 => ?_)
  · skip
    refine Exec.seq ?_
    apply Exec.regionL te_ok
    · intro ops' Q hQ
      simp only [go_sem]
      repeat (refine And.intro (by first | assumption | omega | (simp; done) | (simp; omega) | (intros; omega) | (simp_all; done) | (simp_all; omega)) ?_)
      exact hQ
    refine Exec.rets hR te_ok rfl rfl rfl (LeX.le ?_) (.inr ⟨_, rfl⟩)
    simp only [go_sem]
    have : quR q = false := by simpa using h0
    simp [quS, quE, this]
  · skip
    have hr : quR q = true := by simpa using h0
    have hf := qu_f hr
    have fl1 := hf.lp
    have fl2 := hf.lc
    have fl3 := hf.lr
    have fi1 := hf.ra
    have fi2 := hf.sl
    have il1 := Lib.itoa_length_le q.range (by omega) (by omega)
    have il2 := Lib.itoa_length_le q.slide (by omega) (by omega)
    have s1 := sum_p hf
    have s2 := sum_c hf
    have s3 := sum_r hf
    have j1 : (Lib.join (q.p.map ptT) [44, 32]).length ≤ _ := join_len (q.p.map ptT) [44, 32]
    have j2 : (Lib.join (q.c.map cdT) [32, 97, 110, 100, 32]).length ≤ _ := join_len (q.c.map cdT) [32, 97, 110, 100, 32]
    have j3 : (Lib.join (q.r.map opT) [44, 32]).length ≤ _ := join_len (q.r.map opT) [44, 32]
    rw [show ([44, 32] : List UInt8).length = 2 from rfl] at j1 j3
    rw [show ([32, 97, 110, 100, 32] : List UInt8).length = 5 from rfl] at j2
    refine Exec.skip ?_
    refine Exec.seq ?_
    apply Exec.regionL te_ok
    · intro ops' Q hQ
      simp only [go_sem]
      repeat (refine And.intro (by first | assumption | omega | (simp; done) | (simp; omega) | (intros; omega) | (simp_all; done) | (simp_all; omega)) ?_)
      exact hQ
    refine Exec.seq ?_
    refine Exec.label ?_
    refine Exec.seq ?_
    refine Exec.seq ?_
    apply Exec.regionL te_ok
    · intro ops' Q hQ
      simp only [go_sem]
      repeat (refine And.intro (by first | assumption | omega | (simp; done) | (simp; omega) | (intros; omega) | (simp_all; done) | (simp_all; omega)) ?_)
      refine kcall hR.inv te_ok rfl rfl rfl rfl rfl rfl (pieces_ok q) ?_
      simp only [go_sem]
      repeat (refine And.intro (by first | assumption | omega | (simp; done) | (simp; omega) | (intros; omega) | (simp_all; done) | (simp_all; omega)) ?_)
      exact hQ
    refine Exec.block ?_
    refine Exec.range 1 hR.round hR.bfn rfl rfl Tryz.func83 Tryz.ntmps83 rfl (by as_aux_lemma => kernel_rfl) (Nat.le_of_ble_eq_true rfl) (fun a0 l0 r0 lo0 hlo0 hN0 hD0 hfr0 hfl0 => ?_)
    apply Exec.norm
    · simp only [go_sem]
      rfl
    refine Exec.seq ?_
    apply Exec.regionL te_ok
    · intro ops' Q hQ
      simp only [go_sem]
      repeat (refine And.intro (by first | assumption | omega | (simp; done) | (simp; omega) | (intros; omega) | (simp_all; done) | (simp_all; omega)) ?_)
      exact hQ
    refine Exec.seq ?_
    refine Exec.seq ?_
    apply Exec.regionL te_ok
    · intro ops' Q hQ
      simp only [go_sem]
      repeat (refine And.intro (by first | assumption | omega | (simp; done) | (simp; omega) | (intros; omega) | (simp_all; done) | (simp_all; omega)) ?_)
      exact hQ
    refine Exec.cond_split rfl (fun h1 => ?_) (fun h1 => ?_)
    · skip
      apply Exec.regionL te_ok
      · intro ops' Q hQ
        simp only [go_sem]
        repeat (refine And.intro (by first | assumption | omega | (simp; done) | (simp; omega) | (intros; omega) | (simp_all; done) | (simp_all; omega)) ?_)
        refine kcall hR.inv te_ok rfl rfl rfl rfl rfl rfl (joinedC_ok q.c [32, 97, 110, 100, 32] cdT (by omega) (by omega) (fun c hc => xcondT_ok c (hfq.ca c hc) (hf.c c hc))) ?_
        simp only [go_sem]
        repeat (refine And.intro (by first | assumption | omega | (simp; done) | (simp; omega) | (intros; omega) | (simp_all; done) | (simp_all; omega)) ?_)
        exact hQ
      refine Exec.seq ?_
      apply Exec.draw (st := _) 11 10 [] [] te_ok (by as_aux_lemma => kernel_rfl) (by as_aux_lemma => kernel_rfl) (by as_aux_lemma => kernel_rfl)
      · intro ops' Q hQ
        simp only [go_sem]
        repeat (refine And.intro (by first | assumption | omega | (simp; done) | (simp; omega) | (intros; omega) | (simp_all; done) | (simp_all; omega)) ?_)
        refine kdcall hR.inv te_ok rfl rfl rfl rfl rfl rfl (itoa_ok q.range (by constructor <;> omega)) ?_
        simp only [go_sem]
        repeat (refine And.intro (by first | assumption | omega | (simp; done) | (simp; omega) | (intros; omega) | (simp_all; done) | (simp_all; omega)) ?_)
        refine kdcall hR.inv te_ok rfl rfl rfl rfl rfl rfl (itoa_ok q.slide (by constructor <;> omega)) ?_
        simp only [go_sem]
        repeat (refine And.intro (by first | assumption | omega | (simp; done) | (simp; omega) | (intros; omega) | (simp_all; done) | (simp_all; omega)) ?_)
        exact hQ
      refine Exec.seq ?_
      apply Exec.draw (st := _) 14 12 [5] [] te_ok (by as_aux_lemma => kernel_rfl) (by as_aux_lemma => kernel_rfl) (by as_aux_lemma => kernel_rfl)
      · intro ops' Q hQ
        simp only [go_sem]
        repeat (refine And.intro (by first | assumption | omega | (simp; done) | (simp; omega) | (intros; omega) | (simp_all; done) | (simp_all; omega)) ?_)
        refine kdcall hR.inv te_ok rfl rfl rfl rfl rfl rfl (joinedP_ok q.p [44, 32] ptT (by omega) (by omega) (fun p hp => xptT_ok p (hf.p p hp))) ?_
        simp only [go_sem]
        repeat (refine And.intro (by first | assumption | omega | (simp; done) | (simp; omega) | (intros; omega) | (simp_all; done) | (simp_all; omega)) ?_)
        refine kdcall hR.inv te_ok rfl rfl rfl rfl rfl rfl (joinedO_ok q.r [44, 32] opT (by omega) (by omega) (fun o ho => xopT_ok o (hfq.ra o ho))) ?_
        simp only [go_sem]
        repeat (refine And.intro (by first | assumption | omega | (simp; done) | (simp; omega) | (intros; omega) | (simp_all; done) | (simp_all; omega)) ?_)
        exact hQ
      refine Exec.seq ?_
      apply Exec.regionL te_ok
      · intro ops' Q hQ
        simp only [go_sem]
        repeat (refine And.intro (by first | assumption | omega | (simp; done) | (simp; omega) | (intros; omega) | (simp_all; done) | (simp_all; omega)) ?_)
        exact hQ
      refine Exec.block ?_
      apply Exec.loopU [0, 36] (X := Nat) (fun i => [(37, .d (iv i))]) (fun i => [(1004, 9, [.d (sv (acT q i))])]) (fun i => []) (fun i => 4 - i) (fun i => i ≤ 4 ∧ (acT q i).length ≤ 2000) 0
      case h0 =>
        exact ⟨by omega, by simp [acT]⟩
      case hw =>
        simp only [go_sem]; rfl
      case body =>
        rintro i hx ih0
        try simp only at hx
        apply Exec.norm
        · simp only [go_sem]
          rfl
        refine Exec.seq ?_
        apply Exec.regionL te_ok
        · intro ops' Q hQ
          simp only [go_sem]
          repeat (refine And.intro (by first | assumption | omega | (simp; done) | (simp; omega) | (intros; omega) | (simp_all; done) | (simp_all; omega)) ?_)
          exact hQ
        refine Exec.seq ?_
        refine Exec.cond_split rfl (fun h2 => ?_) (fun h2 => ?_)
        · skip
          have hi : i < 4 := by have := of_decide_eq_true h2; omega
          have hix : ([D.v (.string (mkS (109 :: 97 :: 116 :: 99 :: 104 :: 32 :: Lib.join (List.map ptT q.p) [44, 32]))), D.v (.string (mkS (32 :: 119 :: 104 :: 101 :: 114 :: 101 :: 32 :: Lib.join (List.map cdT q.c) [32, 97, 110, 100, 32]))), D.v (.string (mkS (32 :: 114 :: 101 :: 116 :: 117 :: 114 :: 110 :: 32 :: Lib.join (List.map opT q.r) [44, 32]))), D.v (.string (mkS (32 :: 114 :: 97 :: 110 :: 103 :: 101 :: 32 :: (Lib.itoa q.range ++ [32, 115, 108, 105, 100, 101, 32] ++ Lib.itoa q.slide))))] : List D)[i]? = some (D.v (.string (mkS (nth (pcs q) i)))) := by have hx4 := ix4 q hi; unfold pc2 at hx4; rw [if_pos (by have := of_decide_eq_true h1; omega)] at hx4; exact hx4
          have has : acT q i ++ nth (pcs q) i = acT q (i + 1) := (acT_s q hi).symm
          have hnl := nth_pc hf hi
          have w2 : IntKind.i64.wrap ((i : Int) + 1) = ((i + 1 : Nat) : Int) := by rw [wrap_id (by omega)]; omega
          refine Exec.skip ?_
          refine Exec.seq ?_
          refine Exec.block ?_
          refine Exec.seq ?_
          apply Exec.regionL te_ok
          · intro ops' Q hQ
            simp only [go_sem, hix, has, w2, Int.toNat_natCast]
            repeat (refine And.intro (by first | assumption | omega | (simp; done) | (simp; omega) | (intros; omega) | (simp_all; done) | (simp_all; omega)) ?_)
            exact hQ
          refine Exec.seq ?_
          refine Exec.regStart 4 rfl ?_
          apply Exec.regPart 0 2 2 te_ok rfl
          · intro ops' Q hQ
            simp only [go_sem, hix, has, w2, Int.toNat_natCast]
            repeat (refine And.intro (by first | assumption | omega | (simp; done) | (simp; omega) | (intros; omega) | (simp_all; done) | (simp_all; omega)) ?_)
            exact hQ
          refine Exec.yield 1 (m := 1) rfl rfl rfl rfl rfl rfl hlo0 rfl hN0 rfl (fun ag0 hag0 hdg0 => ?_)
          apply Exec.norm
          · simp only [go_sem, hix, has, w2, Int.toNat_natCast]
            rfl
          apply Exec.regionL te_ok
          · intro ops' Q hQ
            simp only [go_sem, hix, has, w2, Int.toNat_natCast]
            repeat (refine And.intro (by first | assumption | omega | (simp; done) | (simp; omega) | (intros; omega) | (simp_all; done) | (simp_all; omega)) ?_)
            exact hQ
          refine Exec.begin rfl hlo0 hfl0 ?_
          apply Exec.norm
          · simp only [go_sem, hix, has, w2, Int.toNat_natCast]
            rfl
          refine Exec.block ?_
          refine Exec.seq ?_
          refine Exec.seq ?_
          apply Exec.regionL te_ok
          · intro ops' Q hQ
            simp only [go_sem, hix, has, w2, Int.toNat_natCast]
            repeat (refine And.intro (by first | assumption | omega | (simp; done) | (simp; omega) | (intros; omega) | (simp_all; done) | (simp_all; omega)) ?_)
            exact hQ
          refine Exec.seq ?_
          apply Exec.regionL te_ok
          · intro ops' Q hQ
            simp only [go_sem, hix, has, w2, Int.toNat_natCast]
            repeat (refine And.intro (by first | assumption | omega | (simp; done) | (simp; omega) | (intros; omega) | (simp_all; done) | (simp_all; omega)) ?_)
            exact hQ
          refine Exec.cond_split rfl (fun h3 => ?_) (fun h3 => ?_)
          · skip
            refine Exec.exit rfl ?_
            refine Exec.roundEnd 1 .fall rfl hlo0 hfl0 rfl hag0 hdg0 rfl rfl rfl ?_
            apply Exec.norm
            · simp only [go_sem, hix, has, w2, Int.toNat_natCast]
              rfl
            apply Exec.regPart 3 1 0 te_ok rfl
            · intro ops' Q hQ
              simp only [go_sem, hix, has, w2, Int.toNat_natCast]
              repeat (refine And.intro (by first | assumption | omega | (simp; done) | (simp; omega) | (intros; omega) | (simp_all; done) | (simp_all; omega)) ?_)
              exact hQ
            refine Exec.regEnd ?_
            refine Exec.cond (t := false) rfl ?_
            simp only [reduceIte, Bool.false_eq_true]
            refine Exec.skip ?_
            refine Exec.inBlock ?_
            apply Exec.regionL te_ok
            · intro ops' Q hQ
              simp only [go_sem, hix, has, w2, Int.toNat_natCast]
              repeat (refine And.intro (by first | assumption | omega | (simp; done) | (simp; omega) | (intros; omega) | (simp_all; done) | (simp_all; omega)) ?_)
              exact hQ
            refine Exec.back (ih0 (i + 1) ?_ ?_) ?_ ?_ ?_ ?_ ?_ ?_ ?_
            · try simp only
              exact ⟨by omega, by have := of_decide_eq_true h3; omega⟩
            · try simp only
              omega
            · rfl
            · rfl
            · (simp only [go_sem, hix, has, w2, Int.toNat_natCast])
            · (simp only [go_sem, hix, has, w2, Int.toNat_natCast])
            · (simp only [go_sem, hix, has, w2, Int.toNat_natCast])
            · simp only [go_sem, hix, has, w2, Int.toNat_natCast]
            · rfl
          · skip
            refine Exec.skip ?_
            refine Exec.seq ?_
            apply Exec.regionL te_ok
            · intro ops' Q hQ
              simp only [go_sem, hix, has, w2, Int.toNat_natCast]
              repeat (refine And.intro (by first | assumption | omega | (simp; done) | (simp; omega) | (intros; omega) | (simp_all; done) | (simp_all; omega)) ?_)
              exact hQ
            refine Exec.roundEnd 1 .ret rfl hlo0 hfl0 rfl hag0 hdg0 rfl rfl rfl ?_
            apply Exec.norm
            · simp only [go_sem, hix, has, w2, Int.toNat_natCast]
              rfl
            apply Exec.regPart 3 1 0 te_ok rfl
            · intro ops' Q hQ
              simp only [go_sem, hix, has, w2, Int.toNat_natCast]
              repeat (refine And.intro (by first | assumption | omega | (simp; done) | (simp; omega) | (intros; omega) | (simp_all; done) | (simp_all; omega)) ?_)
              exact hQ
            refine Exec.regEnd ?_
            refine Exec.cond (t := true) rfl ?_
            simp only [reduceIte, Bool.false_eq_true]
            refine Exec.rangeEnd 1 (pd := (some .ret)) Tryz.func83 rfl (.inr ⟨_, rfl⟩) rfl rfl hlo0 hfl0 rfl rfl hN0 hD0 ?_
            apply Exec.norm
            · simp only [go_sem, hix, has, w2, Int.toNat_natCast]
              rfl
            refine Exec.retsM hR te_ok rfl (.cons hfr0 .nil) rfl (LeX.le ?_) (.inr ⟨_, rfl⟩)
            simp only [go_sem]
            have hq3 : 2000 < (quT q).length := by have e1 := of_decide_eq_false h3; have e2 := acT_le q (i := i + 1) (by omega); rw [quT_pcs hf] at e2; omega
            simp [quS, quE, hr, hq3]
        · skip
          refine Exec.exit rfl ?_
          refine Exec.rangeEnd 1 (pd := none) Tryz.func83 rfl (.inl rfl) rfl rfl hlo0 hfl0 rfl rfl hN0 hD0 ?_
          apply Exec.norm
          · simp only [go_sem]
            rfl
          refine Exec.inBlock ?_
          refine Exec.seq ?_
          apply Exec.regionL te_ok
          · intro ops' Q hQ
            simp only [go_sem]
            repeat (refine And.intro (by first | assumption | omega | (simp; done) | (simp; omega) | (intros; omega) | (simp_all; done) | (simp_all; omega)) ?_)
            exact hQ
          refine Exec.retsM hR te_ok rfl (.cons hfr0 .nil) rfl (LeX.le ?_) (.inr ⟨_, rfl⟩)
          simp only [go_sem]
          obtain rfl : i = 4 := by have := of_decide_eq_false h2; omega
          have e3 := hx.2
          rw [quT_pcs hf] at e3 ⊢
          have hq3 : ¬ 2000 < (quT q).length := by omega
          simp [quS, quE, hr, hq3]
    · skip
      refine Exec.skip ?_
      refine Exec.seq ?_
      apply Exec.draw (st := _) 11 10 [] [] te_ok (by as_aux_lemma => kernel_rfl) (by as_aux_lemma => kernel_rfl) (by as_aux_lemma => kernel_rfl)
      · intro ops' Q hQ
        simp only [go_sem]
        repeat (refine And.intro (by first | assumption | omega | (simp; done) | (simp; omega) | (intros; omega) | (simp_all; done) | (simp_all; omega)) ?_)
        refine kdcall hR.inv te_ok rfl rfl rfl rfl rfl rfl (itoa_ok q.range (by constructor <;> omega)) ?_
        simp only [go_sem]
        repeat (refine And.intro (by first | assumption | omega | (simp; done) | (simp; omega) | (intros; omega) | (simp_all; done) | (simp_all; omega)) ?_)
        refine kdcall hR.inv te_ok rfl rfl rfl rfl rfl rfl (itoa_ok q.slide (by constructor <;> omega)) ?_
        simp only [go_sem]
        repeat (refine And.intro (by first | assumption | omega | (simp; done) | (simp; omega) | (intros; omega) | (simp_all; done) | (simp_all; omega)) ?_)
        exact hQ
      refine Exec.seq ?_
      apply Exec.draw (st := _) 14 12 [5] [] te_ok (by as_aux_lemma => kernel_rfl) (by as_aux_lemma => kernel_rfl) (by as_aux_lemma => kernel_rfl)
      · intro ops' Q hQ
        simp only [go_sem]
        repeat (refine And.intro (by first | assumption | omega | (simp; done) | (simp; omega) | (intros; omega) | (simp_all; done) | (simp_all; omega)) ?_)
        refine kdcall hR.inv te_ok rfl rfl rfl rfl rfl rfl (joinedP_ok q.p [44, 32] ptT (by omega) (by omega) (fun p hp => xptT_ok p (hf.p p hp))) ?_
        simp only [go_sem]
        repeat (refine And.intro (by first | assumption | omega | (simp; done) | (simp; omega) | (intros; omega) | (simp_all; done) | (simp_all; omega)) ?_)
        refine kdcall hR.inv te_ok rfl rfl rfl rfl rfl rfl (joinedO_ok q.r [44, 32] opT (by omega) (by omega) (fun o ho => xopT_ok o (hfq.ra o ho))) ?_
        simp only [go_sem]
        repeat (refine And.intro (by first | assumption | omega | (simp; done) | (simp; omega) | (intros; omega) | (simp_all; done) | (simp_all; omega)) ?_)
        exact hQ
      refine Exec.seq ?_
      apply Exec.regionL te_ok
      · intro ops' Q hQ
        simp only [go_sem]
        repeat (refine And.intro (by first | assumption | omega | (simp; done) | (simp; omega) | (intros; omega) | (simp_all; done) | (simp_all; omega)) ?_)
        exact hQ
      refine Exec.block ?_
      apply Exec.loopU [0, 36] (X := Nat) (fun i => [(37, .d (iv i))]) (fun i => [(1004, 9, [.d (sv (acT q i))])]) (fun i => []) (fun i => 4 - i) (fun i => i ≤ 4 ∧ (acT q i).length ≤ 2000) 0
      case h0 =>
        exact ⟨by omega, by simp [acT]⟩
      case hw =>
        simp only [go_sem]; rfl
      case body =>
        rintro i hx ih1
        try simp only at hx
        apply Exec.norm
        · simp only [go_sem]
          rfl
        refine Exec.seq ?_
        apply Exec.regionL te_ok
        · intro ops' Q hQ
          simp only [go_sem]
          repeat (refine And.intro (by first | assumption | omega | (simp; done) | (simp; omega) | (intros; omega) | (simp_all; done) | (simp_all; omega)) ?_)
          exact hQ
        refine Exec.seq ?_
        refine Exec.cond_split rfl (fun h6 => ?_) (fun h6 => ?_)
        · skip
          have hi : i < 4 := by have := of_decide_eq_true h6; omega
          have hix : ([D.v (.string (mkS (109 :: 97 :: 116 :: 99 :: 104 :: 32 :: Lib.join (List.map ptT q.p) [44, 32]))), D.v (.string (mkS [])), D.v (.string (mkS (32 :: 114 :: 101 :: 116 :: 117 :: 114 :: 110 :: 32 :: Lib.join (List.map opT q.r) [44, 32]))), D.v (.string (mkS (32 :: 114 :: 97 :: 110 :: 103 :: 101 :: 32 :: (Lib.itoa q.range ++ [32, 115, 108, 105, 100, 101, 32] ++ Lib.itoa q.slide))))] : List D)[i]? = some (D.v (.string (mkS (nth (pcs q) i)))) := by have hx4 := ix4 q hi; unfold pc2 at hx4; rw [if_neg (by have := of_decide_eq_false h1; omega)] at hx4; exact hx4
          have has : acT q i ++ nth (pcs q) i = acT q (i + 1) := (acT_s q hi).symm
          have hnl := nth_pc hf hi
          have w2 : IntKind.i64.wrap ((i : Int) + 1) = ((i + 1 : Nat) : Int) := by rw [wrap_id (by omega)]; omega
          refine Exec.skip ?_
          refine Exec.seq ?_
          refine Exec.block ?_
          refine Exec.seq ?_
          apply Exec.regionL te_ok
          · intro ops' Q hQ
            simp only [go_sem, hix, has, w2, Int.toNat_natCast]
            repeat (refine And.intro (by first | assumption | omega | (simp; done) | (simp; omega) | (intros; omega) | (simp_all; done) | (simp_all; omega)) ?_)
            exact hQ
          refine Exec.seq ?_
          refine Exec.regStart 4 rfl ?_
          apply Exec.regPart 0 2 2 te_ok rfl
          · intro ops' Q hQ
            simp only [go_sem, hix, has, w2, Int.toNat_natCast]
            repeat (refine And.intro (by first | assumption | omega | (simp; done) | (simp; omega) | (intros; omega) | (simp_all; done) | (simp_all; omega)) ?_)
            exact hQ
          refine Exec.yield 1 (m := 1) rfl rfl rfl rfl rfl rfl hlo0 rfl hN0 rfl (fun ag1 hag1 hdg1 => ?_)
          apply Exec.norm
          · simp only [go_sem, hix, has, w2, Int.toNat_natCast]
            rfl
          apply Exec.regionL te_ok
          · intro ops' Q hQ
            simp only [go_sem, hix, has, w2, Int.toNat_natCast]
            repeat (refine And.intro (by first | assumption | omega | (simp; done) | (simp; omega) | (intros; omega) | (simp_all; done) | (simp_all; omega)) ?_)
            exact hQ
          refine Exec.begin rfl hlo0 hfl0 ?_
          apply Exec.norm
          · simp only [go_sem, hix, has, w2, Int.toNat_natCast]
            rfl
          refine Exec.block ?_
          refine Exec.seq ?_
          refine Exec.seq ?_
          apply Exec.regionL te_ok
          · intro ops' Q hQ
            simp only [go_sem, hix, has, w2, Int.toNat_natCast]
            repeat (refine And.intro (by first | assumption | omega | (simp; done) | (simp; omega) | (intros; omega) | (simp_all; done) | (simp_all; omega)) ?_)
            exact hQ
          refine Exec.seq ?_
          apply Exec.regionL te_ok
          · intro ops' Q hQ
            simp only [go_sem, hix, has, w2, Int.toNat_natCast]
            repeat (refine And.intro (by first | assumption | omega | (simp; done) | (simp; omega) | (intros; omega) | (simp_all; done) | (simp_all; omega)) ?_)
            exact hQ
          refine Exec.cond_split rfl (fun h7 => ?_) (fun h7 => ?_)
          · skip
            refine Exec.exit rfl ?_
            refine Exec.roundEnd 1 .fall rfl hlo0 hfl0 rfl hag1 hdg1 rfl rfl rfl ?_
            apply Exec.norm
            · simp only [go_sem, hix, has, w2, Int.toNat_natCast]
              rfl
            apply Exec.regPart 3 1 0 te_ok rfl
            · intro ops' Q hQ
              simp only [go_sem, hix, has, w2, Int.toNat_natCast]
              repeat (refine And.intro (by first | assumption | omega | (simp; done) | (simp; omega) | (intros; omega) | (simp_all; done) | (simp_all; omega)) ?_)
              exact hQ
            refine Exec.regEnd ?_
            refine Exec.cond (t := false) rfl ?_
            simp only [reduceIte, Bool.false_eq_true]
            refine Exec.skip ?_
            refine Exec.inBlock ?_
            apply Exec.regionL te_ok
            · intro ops' Q hQ
              simp only [go_sem, hix, has, w2, Int.toNat_natCast]
              repeat (refine And.intro (by first | assumption | omega | (simp; done) | (simp; omega) | (intros; omega) | (simp_all; done) | (simp_all; omega)) ?_)
              exact hQ
            refine Exec.back (ih1 (i + 1) ?_ ?_) ?_ ?_ ?_ ?_ ?_ ?_ ?_
            · try simp only
              exact ⟨by omega, by have := of_decide_eq_true h7; omega⟩
            · try simp only
              omega
            · rfl
            · rfl
            · (simp only [go_sem, hix, has, w2, Int.toNat_natCast])
            · (simp only [go_sem, hix, has, w2, Int.toNat_natCast])
            · (simp only [go_sem, hix, has, w2, Int.toNat_natCast])
            · simp only [go_sem, hix, has, w2, Int.toNat_natCast]
            · rfl
          · skip
            refine Exec.skip ?_
            refine Exec.seq ?_
            apply Exec.regionL te_ok
            · intro ops' Q hQ
              simp only [go_sem, hix, has, w2, Int.toNat_natCast]
              repeat (refine And.intro (by first | assumption | omega | (simp; done) | (simp; omega) | (intros; omega) | (simp_all; done) | (simp_all; omega)) ?_)
              exact hQ
            refine Exec.roundEnd 1 .ret rfl hlo0 hfl0 rfl hag1 hdg1 rfl rfl rfl ?_
            apply Exec.norm
            · simp only [go_sem, hix, has, w2, Int.toNat_natCast]
              rfl
            apply Exec.regPart 3 1 0 te_ok rfl
            · intro ops' Q hQ
              simp only [go_sem, hix, has, w2, Int.toNat_natCast]
              repeat (refine And.intro (by first | assumption | omega | (simp; done) | (simp; omega) | (intros; omega) | (simp_all; done) | (simp_all; omega)) ?_)
              exact hQ
            refine Exec.regEnd ?_
            refine Exec.cond (t := true) rfl ?_
            simp only [reduceIte, Bool.false_eq_true]
            refine Exec.rangeEnd 1 (pd := (some .ret)) Tryz.func83 rfl (.inr ⟨_, rfl⟩) rfl rfl hlo0 hfl0 rfl rfl hN0 hD0 ?_
            apply Exec.norm
            · simp only [go_sem, hix, has, w2, Int.toNat_natCast]
              rfl
            refine Exec.retsM hR te_ok rfl (.cons hfr0 .nil) rfl (LeX.le ?_) (.inr ⟨_, rfl⟩)
            simp only [go_sem]
            have hq3 : 2000 < (quT q).length := by have e1 := of_decide_eq_false h7; have e2 := acT_le q (i := i + 1) (by omega); rw [quT_pcs hf] at e2; omega
            simp [quS, quE, hr, hq3]
        · skip
          refine Exec.exit rfl ?_
          refine Exec.rangeEnd 1 (pd := none) Tryz.func83 rfl (.inl rfl) rfl rfl hlo0 hfl0 rfl rfl hN0 hD0 ?_
          apply Exec.norm
          · simp only [go_sem]
            rfl
          refine Exec.inBlock ?_
          refine Exec.seq ?_
          apply Exec.regionL te_ok
          · intro ops' Q hQ
            simp only [go_sem]
            repeat (refine And.intro (by first | assumption | omega | (simp; done) | (simp; omega) | (intros; omega) | (simp_all; done) | (simp_all; omega)) ?_)
            exact hQ
          refine Exec.retsM hR te_ok rfl (.cons hfr0 .nil) rfl (LeX.le ?_) (.inr ⟨_, rfl⟩)
          simp only [go_sem]
          obtain rfl : i = 4 := by have := of_decide_eq_false h6; omega
          have e3 := hx.2
          rw [quT_pcs hf] at e3 ⊢
          have hq3 : ¬ 2000 < (quT q).length := by omega
          simp [quS, quE, hr, hq3]
end Go.Proofs.YtmnponhhmkdcdaaGreatDoor
