/- Steps of a function body on data, and contracts of the functions of the seat, walked. -/
import Derived.Test.YtonchjamoblioaaGreatDoorPR1
set_option linter.unusedSimpArgs false
set_option linter.unusedVariables false
namespace Go.Proofs.YtonchjamoblioaaGreatDoor
open Go.Kin
set_option maxRecDepth 100000
set_option maxHeartbeats 0
theorem signR_st {l : List Tk} {f : Nat} {s : RS} {x : Ex} (hf : 0 < f) : signR l f s x = if (isR l [42] s || isR l [43] s || isR l [63] s) = true then signR l (f - 1) (s.step l) (.mk (if isR l [63] s = true then 6 else if isR l [43] s = true then 5 else 4) [] [x]) else (s, x) := by
 obtain ⟨g, rfl⟩ : ∃ g, f = g + 1 := ⟨f - 1, by omega⟩
 simp only [signR, Nat.add_sub_cancel]
theorem sepR_st {l : List Tk} {it : RS → RS × Ex} {w : List UInt8} {f : Nat} {s : RS} {acc : List Ex} (hf : 0 < f) : sepR l it w f s acc = if isR l w s = true then sepR l it w (f - 1) (it (s.step l)).1 (acc ++ [(it (s.step l)).2]) else (s, acc) := by
 obtain ⟨g, rfl⟩ : ∃ g, f = g + 1 := ⟨f - 1, by omega⟩
 simp only [sepR, Nat.add_sub_cancel]
theorem kd_oneR (x : Ex) (i : Nat) (h : i < 1) : lstR [exC x] i = kdR [x] i := by
 have : i = 0 := by omega
 subst this
 rw [kdR_at (by simp)]; rfl
theorem le_oneR (k : Int) (x : Ex) : LeX (.sl 3 1 1 (lstR [exC x])) (kdX (.mk k [] [x])) := by
 rw [kd_eq]; simp only [LeX, Ex.kids]; exact ⟨rfl, .inl rfl, .inl ⟨trivial, kd_oneR x⟩⟩
theorem kdR_snocR (acc : List Ex) (x : Ex) (i : Nat) (h : i < (acc ++ [x]).length) : catR acc.length (kdR acc) (lstR [exC x]) i = kdR (acc ++ [x]) i := by
 rw [kdR_at h]
 unfold catR
 by_cases h1 : i < acc.length
 ·rw [if_pos h1, kdR_at h1]; congr 1; simp [nth, List.getD_eq_getElem?_getD, List.getElem?_append_left h1]
 ·have : i = acc.length := by simp at h; omega
  subst this
  rw [if_neg (by omega), nth_of (a := x) (by simp)]; simp [lstR]
theorem nth_left {α : Type} [Inhabited α] {l m : List α} {i : Nat} (h : i < l.length) : nth (l ++ m) i = nth l i := by simp [nth, List.getD_eq_getElem?_getD, List.getElem?_append_left h]
theorem rrow_ok (l : List Tk) (s : RS) (hk : TkOk l) (hn : s.n < l.length) (it : RS → RS × Ex) (hit : ∀ q : RS, s.n ≤ q.n → q.n < l.length → FnM Laid Tryz.prog 212 134 [tksD l, iv q.n, iv q.b, iv q.m] [.lp 900 0] (.ret (rfC l (it q).1) (exD (it q).2))) (hon : OnR l s.n it) : FnM Laid Tryz.prog 195 134 [tksD l, iv s.n, iv s.b, iv s.m] [.lp 900 0] (.ret (rfC l ((joinR l it [46] 2 s).1)) (exD (joinR l it [46] 2 s).2)) := by
 refine FnM_of Tryz.func195 Tryz.ntmps195 rfl (by as_aux_lemma => kernel_rfl) (Nat.le_of_ble_eq_true rfl) (fun R b0 hR => ?_)
 obtain ⟨_, b, cs, T, C⟩ := R
 obtain rfl : _ = Tryz.prog := hR.p
 have h0i := hon s (Nat.le_refl _) hn
 refine sreg te_ok ?_
 refine sq ?_
 apply Exec.regionL te_ok
 ·intro o Q hQ
  simp only [go_sem]
  repeat refine ob2 ?_
  refine kcallM 900 hR.inv te_ok rfl rfl rfl rfl rfl rfl rfl rfl rfl (hit s (Nat.le_refl _) hn) ?_
  simp only [go_sem]
  repeat refine ob2 ?_
  exact hQ
 refine sreg te_ok ?_
 refine sq ?_
 refine Exec.block ?_
 apply Exec.loopU [0, 2, 3] (X := RS × List Ex) (fun ⟨q, acc⟩ => [(4, .own 9)]) (fun ⟨q, acc⟩ => [(900, 134, [.d (tksD l), .d (iv q.n), .d (iv q.b), .d (iv q.m)])]) (fun ⟨q, acc⟩ => [(9, ⟨30, 3, acc.length, acc.length, kdR acc⟩)]) (fun ⟨q, acc⟩ => l.length - q.n) (fun ⟨q, acc⟩ => (s.n ≤ q.n ∧ q.n < l.length ∧ acc.length ≤ q.n + 1 ∧ 0 < acc.length ∧ nth acc 0 = (it s).2) ∧ sepR l it [46] (l.length + 1) (it s).1 [(it s).2] = sepR l it [46] (l.length + 1 - (acc.length - 1)) q acc) ((it s).1, [(it s).2])
 case h0 =>
  exact ⟨⟨h0i.1, h0i.2, by simp, by simp, rfl⟩, rfl⟩
 case hw =>
  simp only [go_sem]; exact fun i hi => kd_oneR _ i hi
 case body =>
  rintro ⟨q, acc⟩ hx ih0
  try simp only at hx
  have hfew := hk.few
  have hf : 0 < l.length + 1 - (acc.length - 1) := by omega
  apply Exec.norm
  ·simp only [go_sem]
   rfl
  refine sq ?_
  refine sq ?_
  apply Exec.regionL te_ok
  ·intro o Q hQ
   simp only [go_sem]
   repeat refine ob2 ?_
   refine kcallM 900 hR.inv te_ok rfl rfl rfl rfl rfl rfl rfl rfl rfl (ris_ok l q [46] hk hx.1.2.1) ?_
   simp only [go_sem]
   repeat refine ob2 ?_
   exact hQ
  refine Exec.cond_split rfl (fun h0 => ?_) (fun h0 => ?_)
  ·have hq1 := isR_step hk hx.1.2.1 h0
   rw [← hq1.1] at hq1
   have hq0 := (isR_step hk hx.1.2.1 h0).1
   have hq2 := hon (q.step l) (by omega) hq1.2
   have hz := sepR_st (l := l) (it := it) (w := [46]) (s := q) (acc := acc) hf
   rw [if_pos h0] at hz
   refine sk ?_
   refine Exec.block ?_
   refine sq ?_
   apply Exec.regionL te_ok
   ·intro o Q hQ
    simp only [go_sem]
    repeat refine ob2 ?_
    refine kcallM 900 hR.inv te_ok rfl rfl rfl rfl rfl rfl rfl rfl rfl (rstep_ok l q hk hx.1.2.1) ?_
    simp only [go_sem]
    repeat refine ob2 ?_
    exact hQ
   refine sq ?_
   apply Exec.regionL te_ok
   ·intro o Q hQ
    simp only [go_sem]
    repeat refine ob2 ?_
    refine kcallM 900 hR.inv te_ok rfl rfl rfl rfl rfl rfl rfl rfl rfl (hit (q.step l) (by omega) hq1.2) ?_
    simp only [go_sem]
    repeat refine ob2 ?_
    exact hQ
   refine Exec.reg te_ok ?_
   refine Exec.inBlock ?_
   refine Exec.back (ih0 ((it (q.step l)).1, acc ++ [(it (q.step l)).2]) ?_ ?_) ?_ ?_ ?_ ?_ ?_ ?_ ?_
   ·try simp only
    exact ⟨⟨by omega, hq2.2, by simp; omega, by simp, by rw [← hx.1.2.2.2.2]; exact nth_left hx.1.2.2.2.1⟩, by rw [hx.2, hz]; congr 1; simp; omega⟩
   ·try simp only
    omega
   ·rfl
   ·rfl
   ·(simp only [go_sem])
   ·(simp only [go_sem])
   ·simp only [go_sem]
    exact ⟨by simp, .inl (by simp), fun i hi => kdR_snocR acc _ i hi⟩
   ·simp only [go_sem]
   ·rfl
  ·have hb : ¬ (isR l [46] q = true) := by rw [h0]; decide
   have hz := sepR_st (l := l) (it := it) (w := [46]) (s := q) (acc := acc) hf
   rw [if_neg hb] at hz
   refine Exec.exit rfl ?_
   refine sq ?_
   refine sreg te_ok ?_
   refine Exec.cond_split rfl (fun h1 => ?_) (fun h1 => ?_)
   ·refine sreg te_ok ?_
    refine Exec.retsMu hR te_ok rfl .nil rfl rfl rfl ?_ (.inr ⟨_, rfl⟩)
    have hj : joinR l it [46] 2 s = (q, oneEx 2 acc) := by simp only [joinR, hx.2, hz]
    have hl1 : acc.length = 1 := by have h2 := of_decide_eq_true (by simpa using h1 : decide ((acc.length : Int) = 1) = true); omega
    have h1e : oneEx 2 acc = (it s).2 := by unfold oneEx; rw [if_pos hl1]; exact hx.1.2.2.2.2
    rw [hj, h1e]
    refine ⟨_, _, rfl, ?_⟩
    simp only [go_sem]
   ·refine sk ?_
    refine sq ?_
    apply Exec.regionL te_ok
    ·intro o Q hQ
     simp only [go_sem]
     repeat refine ob2 ?_
     refine kfreeze 9 rfl (by simp only [go_sem]; rfl) ?_
     refine runL_walk te_ok ?_
     simp only [go_sem]
     repeat refine ob2 ?_
     exact hQ
    refine Exec.retsMu hR te_ok rfl .nil rfl rfl rfl ?_ (.inr ⟨_, rfl⟩)
    have hj : joinR l it [46] 2 s = (q, oneEx 2 acc) := by simp only [joinR, hx.2, hz]
    have hl1 : ¬ acc.length = 1 := by have h2 := of_decide_eq_false (by simpa using h1 : decide ((acc.length : Int) = 1) = false); omega
    have h1e : oneEx 2 acc = .mk 2 [] acc := by unfold oneEx; rw [if_neg hl1]
    rw [hj, h1e]
    refine ⟨_, _, rfl, ?_⟩
    simp only [go_sem]
    exact ⟨rfl, rfl, by rw [kd_eq]; simp [LeX, Ex.kids]⟩
theorem rexpr_ok (l : List Tk) (s : RS) (hk : TkOk l) (hn : s.n < l.length) (it : RS → RS × Ex) (hit : ∀ q : RS, s.n ≤ q.n → q.n < l.length → FnM Laid Tryz.prog 195 134 [tksD l, iv q.n, iv q.b, iv q.m] [.lp 900 0] (.ret (rfC l (it q).1) (exD (it q).2))) (hon : OnR l s.n it) : FnM Laid Tryz.prog 158 134 [tksD l, iv s.n, iv s.b, iv s.m] [.lp 900 0] (.ret (rfC l ((joinR l it [124] 3 s).1)) (exD (joinR l it [124] 3 s).2)) := by
 refine FnM_of Tryz.func158 Tryz.ntmps158 rfl (by as_aux_lemma => kernel_rfl) (Nat.le_of_ble_eq_true rfl) (fun R b0 hR => ?_)
 obtain ⟨_, b, cs, T, C⟩ := R
 obtain rfl : _ = Tryz.prog := hR.p
 have h0i := hon s (Nat.le_refl _) hn
 refine sreg te_ok ?_
 refine sq ?_
 apply Exec.regionL te_ok
 ·intro o Q hQ
  simp only [go_sem]
  repeat refine ob2 ?_
  refine kcallM 900 hR.inv te_ok rfl rfl rfl rfl rfl rfl rfl rfl rfl (hit s (Nat.le_refl _) hn) ?_
  simp only [go_sem]
  repeat refine ob2 ?_
  exact hQ
 refine sreg te_ok ?_
 refine sq ?_
 refine Exec.block ?_
 apply Exec.loopU [0, 2, 3] (X := RS × List Ex) (fun ⟨q, acc⟩ => [(4, .own 9)]) (fun ⟨q, acc⟩ => [(900, 134, [.d (tksD l), .d (iv q.n), .d (iv q.b), .d (iv q.m)])]) (fun ⟨q, acc⟩ => [(9, ⟨30, 3, acc.length, acc.length, kdR acc⟩)]) (fun ⟨q, acc⟩ => l.length - q.n) (fun ⟨q, acc⟩ => (s.n ≤ q.n ∧ q.n < l.length ∧ acc.length ≤ q.n + 1 ∧ 0 < acc.length ∧ nth acc 0 = (it s).2) ∧ sepR l it [124] (l.length + 1) (it s).1 [(it s).2] = sepR l it [124] (l.length + 1 - (acc.length - 1)) q acc) ((it s).1, [(it s).2])
 case h0 =>
  exact ⟨⟨h0i.1, h0i.2, by simp, by simp, rfl⟩, rfl⟩
 case hw =>
  simp only [go_sem]; exact fun i hi => kd_oneR _ i hi
 case body =>
  rintro ⟨q, acc⟩ hx ih0
  try simp only at hx
  have hfew := hk.few
  have hf : 0 < l.length + 1 - (acc.length - 1) := by omega
  apply Exec.norm
  ·simp only [go_sem]
   rfl
  refine sq ?_
  refine sq ?_
  apply Exec.regionL te_ok
  ·intro o Q hQ
   simp only [go_sem]
   repeat refine ob2 ?_
   refine kcallM 900 hR.inv te_ok rfl rfl rfl rfl rfl rfl rfl rfl rfl (ris_ok l q [124] hk hx.1.2.1) ?_
   simp only [go_sem]
   repeat refine ob2 ?_
   exact hQ
  refine Exec.cond_split rfl (fun h0 => ?_) (fun h0 => ?_)
  ·have hq1 := isR_step hk hx.1.2.1 h0
   rw [← hq1.1] at hq1
   have hq0 := (isR_step hk hx.1.2.1 h0).1
   have hq2 := hon (q.step l) (by omega) hq1.2
   have hz := sepR_st (l := l) (it := it) (w := [124]) (s := q) (acc := acc) hf
   rw [if_pos h0] at hz
   refine sk ?_
   refine Exec.block ?_
   refine sq ?_
   apply Exec.regionL te_ok
   ·intro o Q hQ
    simp only [go_sem]
    repeat refine ob2 ?_
    refine kcallM 900 hR.inv te_ok rfl rfl rfl rfl rfl rfl rfl rfl rfl (rstep_ok l q hk hx.1.2.1) ?_
    simp only [go_sem]
    repeat refine ob2 ?_
    exact hQ
   refine sq ?_
   apply Exec.regionL te_ok
   ·intro o Q hQ
    simp only [go_sem]
    repeat refine ob2 ?_
    refine kcallM 900 hR.inv te_ok rfl rfl rfl rfl rfl rfl rfl rfl rfl (hit (q.step l) (by omega) hq1.2) ?_
    simp only [go_sem]
    repeat refine ob2 ?_
    exact hQ
   refine Exec.reg te_ok ?_
   refine Exec.inBlock ?_
   refine Exec.back (ih0 ((it (q.step l)).1, acc ++ [(it (q.step l)).2]) ?_ ?_) ?_ ?_ ?_ ?_ ?_ ?_ ?_
   ·try simp only
    exact ⟨⟨by omega, hq2.2, by simp; omega, by simp, by rw [← hx.1.2.2.2.2]; exact nth_left hx.1.2.2.2.1⟩, by rw [hx.2, hz]; congr 1; simp; omega⟩
   ·try simp only
    omega
   ·rfl
   ·rfl
   ·(simp only [go_sem])
   ·(simp only [go_sem])
   ·simp only [go_sem]
    exact ⟨by simp, .inl (by simp), fun i hi => kdR_snocR acc _ i hi⟩
   ·simp only [go_sem]
   ·rfl
  ·have hb : ¬ (isR l [124] q = true) := by rw [h0]; decide
   have hz := sepR_st (l := l) (it := it) (w := [124]) (s := q) (acc := acc) hf
   rw [if_neg hb] at hz
   refine Exec.exit rfl ?_
   refine sq ?_
   refine sreg te_ok ?_
   refine Exec.cond_split rfl (fun h1 => ?_) (fun h1 => ?_)
   ·refine sreg te_ok ?_
    refine Exec.retsMu hR te_ok rfl .nil rfl rfl rfl ?_ (.inr ⟨_, rfl⟩)
    have hj : joinR l it [124] 3 s = (q, oneEx 3 acc) := by simp only [joinR, hx.2, hz]
    have hl1 : acc.length = 1 := by have h2 := of_decide_eq_true (by simpa using h1 : decide ((acc.length : Int) = 1) = true); omega
    have h1e : oneEx 3 acc = (it s).2 := by unfold oneEx; rw [if_pos hl1]; exact hx.1.2.2.2.2
    rw [hj, h1e]
    refine ⟨_, _, rfl, ?_⟩
    simp only [go_sem]
   ·refine sk ?_
    refine sq ?_
    apply Exec.regionL te_ok
    ·intro o Q hQ
     simp only [go_sem]
     repeat refine ob2 ?_
     refine kfreeze 9 rfl (by simp only [go_sem]; rfl) ?_
     refine runL_walk te_ok ?_
     simp only [go_sem]
     repeat refine ob2 ?_
     exact hQ
    refine Exec.retsMu hR te_ok rfl .nil rfl rfl rfl ?_ (.inr ⟨_, rfl⟩)
    have hj : joinR l it [124] 3 s = (q, oneEx 3 acc) := by simp only [joinR, hx.2, hz]
    have hl1 : ¬ acc.length = 1 := by have h2 := of_decide_eq_false (by simpa using h1 : decide ((acc.length : Int) = 1) = false); omega
    have h1e : oneEx 3 acc = .mk 3 [] acc := by unfold oneEx; rw [if_neg hl1]
    rw [hj, h1e]
    refine ⟨_, _, rfl, ?_⟩
    simp only [go_sem]
    exact ⟨rfl, rfl, by rw [kd_eq]; simp [LeX, Ex.kids]⟩
theorem ritem_step (l : List Tk) (s : RS) (hk : TkOk l) (hn : s.n < l.length) (f : Nat) (hit : ∀ q : RS, s.n < q.n → q.n < l.length → FnM Laid Tryz.prog 212 134 [tksD l, iv q.n, iv q.b, iv q.m] [.lp 900 0] (.ret (rfC l (itemR l f q).1) (exD (itemR l f q).2))) : FnM Laid Tryz.prog 212 134 [tksD l, iv s.n, iv s.b, iv s.m] [.lp 900 0] (.ret (rfC l ((itemR l (f + 1) s).1)) (exD (itemR l (f + 1) s).2)) := by
 refine FnM_of Tryz.func212 Tryz.ntmps212 rfl (by as_aux_lemma => kernel_rfl) (Nat.le_of_ble_eq_true rfl) (fun R b0 hR => ?_)
 obtain ⟨_, b, cs, T, C⟩ := R
 obtain rfl : _ = Tryz.prog := hR.p
 refine sreg te_ok ?_
 refine sreg te_ok ?_
 refine sq ?_
 refine sq ?_
 apply Exec.regionL te_ok
 ·intro o Q hQ
  simp only [go_sem]
  repeat refine ob2 ?_
  refine kcallM 900 hR.inv te_ok rfl rfl rfl rfl rfl rfl rfl rfl rfl (ris_ok l s [40] hk hn) ?_
  simp only [go_sem]
  repeat refine ob2 ?_
  exact hQ
 refine Exec.cond_split rfl (fun h0 => ?_) (fun h0 => ?_)
 ·have hq0 := isR_step hk hn h0
  have hg := itemR_on (l := l) f
  have hle := (joinR_on (w := [124]) (k := 3) (joinR_on (w := [46]) (k := 2) (hg (s.step l).n)) (s.step l) (Nat.le_refl _) (by omega))
  have hlta := must_lt (w := [41]) hle.2
  have hex : joinR l (rowR l (itemR l f)) [124] 3 (s.step l) = exprR l (itemR l f) (s.step l) := rfl
  refine sq ?_
  apply Exec.regionL te_ok
  ·intro o Q hQ
   simp only [go_sem, hex]
   repeat refine ob2 ?_
   refine kcallM 900 hR.inv te_ok rfl rfl rfl rfl rfl rfl rfl rfl rfl (rstep_ok l s hk hn) ?_
   simp only [go_sem, hex]
   repeat refine ob2 ?_
   exact hQ
  refine sq ?_
  apply Exec.regionL te_ok
  ·intro o Q hQ
   simp only [go_sem, hex]
   repeat refine ob2 ?_
   refine kcallM 900 hR.inv te_ok rfl rfl rfl rfl rfl rfl rfl rfl rfl (rexpr_ok l (s.step l) hk (step_lt hn) (rowR l (itemR l f)) (fun q h3 h4 => rrow_ok l q hk h4 (itemR l f) (fun q2 h5 h6 => hit q2 (by have := hq0.1; omega) h6) (hg _)) (joinR_on (hg _))) ?_
   simp only [go_sem, hex]
   repeat refine ob2 ?_
   exact hQ
  apply Exec.regionL te_ok
  ·intro o Q hQ
   simp only [go_sem, hex]
   repeat refine ob2 ?_
   refine kcallM 900 hR.inv te_ok rfl rfl rfl rfl rfl rfl rfl rfl rfl (rmust_ok l (exprR l (itemR l f) (s.step l)).1 [41] hk hle.2) ?_
   simp only [go_sem, hex]
   repeat refine ob2 ?_
   exact hQ
  refine sq ?_
  refine Exec.block ?_
  apply Exec.loopU [0, 2, 3] (X := RS × Ex) (fun ⟨q, x⟩ => []) (fun ⟨q, x⟩ => [(900, 134, [.d (tksD l), .d (iv q.n), .d (iv q.b), .d (iv q.m)]), (3, 30, [.d (.v (.int .i64 x.k)), .d (sv x.s), .d (kdX x)])]) (fun ⟨q, x⟩ => []) (fun ⟨q, x⟩ => l.length - q.n) (fun ⟨q, x⟩ => ((mustR l [41] (exprR l (itemR l f) (s.step l)).1).n ≤ q.n ∧ q.n < l.length) ∧ signR l (l.length + 1) (mustR l [41] (exprR l (itemR l f) (s.step l)).1) (exprR l (itemR l f) (s.step l)).2 = signR l (l.length + 1 - (q.n - (mustR l [41] (exprR l (itemR l f) (s.step l)).1).n)) q x) (mustR l [41] (exprR l (itemR l f) (s.step l)).1, (exprR l (itemR l f) (s.step l)).2)
  case h0 =>
   exact ⟨⟨Nat.le_refl _, hlta⟩, by simp⟩
  case hw =>
   simp only [go_sem, hex]
  case body =>
   rintro ⟨q, x⟩ hx ih0
   try simp only at hx
   have hql : q.n < l.length := hx.1.2
   have hf : 0 < l.length + 1 - (q.n - (mustR l [41] (exprR l (itemR l f) (s.step l)).1).n) := by omega
   have hz := signR_st (l := l) (s := q) (x := x) hf
   apply Exec.norm
   ·simp only [go_sem, hex]
    rfl
   refine sq ?_
   refine sq ?_
   apply Exec.regionL te_ok
   ·intro o Q hQ
    simp only [go_sem, hex]
    repeat refine ob2 ?_
    refine kcallM 900 hR.inv te_ok rfl rfl rfl rfl rfl rfl rfl rfl rfl (ris_ok l q _ hk hql) ?_
    simp only [go_sem, hex]
    repeat refine ob2 ?_
    refine kcallMG 900 hR.inv te_ok rfl rfl rfl rfl rfl rfl rfl rfl rfl ob1 (fun hq => ris_ok l q _ hk hql) ?_
    simp only [go_sem, hex]
    repeat refine ob2 ?_
    refine kcallMG 900 hR.inv te_ok rfl rfl rfl rfl rfl rfl rfl rfl rfl ob1 (fun hq => ris_ok l q _ hk hql) ?_
    simp only [go_sem, hex]
    repeat refine ob2 ?_
    exact hQ
   refine Exec.cond_split rfl (fun h1 => ?_) (fun h1 => ?_)
   ·have hst : (isR l [42] q || isR l [43] q || isR l [63] q) = true := by simpa [Bool.or_assoc] using h1
    have hqs : (q.step l).n = q.n + 1 ∧ q.n + 1 < l.length := by simp only [Bool.or_eq_true] at hst; rcases hst with (h9 | h9) | h9 <;> exact isR_step hk hql h9
    refine sk ?_
    refine Exec.block ?_
    refine sq ?_
    apply Exec.regionL te_ok
    ·intro o Q hQ
     simp only [go_sem, hex]
     repeat refine ob2 ?_
     exact hQ
    refine sq ?_
    refine sq ?_
    apply Exec.regionL te_ok
    ·intro o Q hQ
     simp only [go_sem, hex]
     repeat refine ob2 ?_
     refine kcallM 900 hR.inv te_ok rfl rfl rfl rfl rfl rfl rfl rfl rfl (ris_ok l q _ hk hql) ?_
     simp only [go_sem, hex]
     repeat refine ob2 ?_
     exact hQ
    refine Exec.cond_split rfl (fun h2 => ?_) (fun h2 => ?_)
    ·apply Exec.regionL te_ok
     ·intro o Q hQ
      simp only [go_sem, hex]
      repeat refine ob2 ?_
      exact hQ
     refine sq ?_
     refine sq ?_
     apply Exec.regionL te_ok
     ·intro o Q hQ
      simp only [go_sem, hex]
      repeat refine ob2 ?_
      refine kcallM 900 hR.inv te_ok rfl rfl rfl rfl rfl rfl rfl rfl rfl (ris_ok l q _ hk hql) ?_
      simp only [go_sem, hex]
      repeat refine ob2 ?_
      exact hQ
     refine Exec.cond_split rfl (fun h3 => ?_) (fun h3 => ?_)
     ·have he : (if isR l [63] q = true then (6 : Int) else if isR l [43] q = true then 5 else 4) = 6 := by rw [if_pos h3]
      apply Exec.regionL te_ok
      ·intro o Q hQ
       simp only [go_sem, hex]
       repeat refine ob2 ?_
       exact hQ
      refine sq ?_
      apply Exec.regionL te_ok
      ·intro o Q hQ
       simp only [go_sem, hex]
       repeat refine ob2 ?_
       refine kfreeze 32 rfl (by simp only [go_sem, hex]; rfl) ?_
       refine runL_walk te_ok ?_
       simp only [go_sem, hex]
       repeat refine ob2 ?_
       exact hQ
      apply Exec.regionL te_ok
      ·intro o Q hQ
       simp only [go_sem, hex]
       repeat refine ob2 ?_
       refine kcallM 900 hR.inv te_ok rfl rfl rfl rfl rfl rfl rfl rfl rfl (rstep_ok l q hk hql) ?_
       simp only [go_sem, hex]
       repeat refine ob2 ?_
       exact hQ
      refine Exec.inBlock ?_
      refine Exec.back (ih0 (q.step l, .mk 6 [] [x]) ?_ ?_) ?_ ?_ ?_ ?_ ?_ ?_ ?_
      ·try simp only
       exact ⟨⟨by omega, by omega⟩, by rw [hx.2, hz, if_pos hst]; simp only [he]; congr 1; omega⟩
      ·try simp only
       omega
      ·rfl
      ·rfl
      ·(simp only [go_sem])
      ·(simp only [go_sem]; exact ⟨rfl, rfl, le_oneR _ x⟩)
      ·simp only [go_sem]
      ·simp only [go_sem, hex]
      ·rfl
     ·have he : (if isR l [63] q = true then (6 : Int) else if isR l [43] q = true then 5 else 4) = 5 := by rw [if_neg (by rw [h3]; decide), if_pos h2]
      refine sk ?_
      refine sq ?_
      apply Exec.regionL te_ok
      ·intro o Q hQ
       simp only [go_sem, hex]
       repeat refine ob2 ?_
       refine kfreeze 32 rfl (by simp only [go_sem, hex]; rfl) ?_
       refine runL_walk te_ok ?_
       simp only [go_sem, hex]
       repeat refine ob2 ?_
       exact hQ
      apply Exec.regionL te_ok
      ·intro o Q hQ
       simp only [go_sem, hex]
       repeat refine ob2 ?_
       refine kcallM 900 hR.inv te_ok rfl rfl rfl rfl rfl rfl rfl rfl rfl (rstep_ok l q hk hql) ?_
       simp only [go_sem, hex]
       repeat refine ob2 ?_
       exact hQ
      refine Exec.inBlock ?_
      refine Exec.back (ih0 (q.step l, .mk 5 [] [x]) ?_ ?_) ?_ ?_ ?_ ?_ ?_ ?_ ?_
      ·try simp only
       exact ⟨⟨by omega, by omega⟩, by rw [hx.2, hz, if_pos hst]; simp only [he]; congr 1; omega⟩
      ·try simp only
       omega
      ·rfl
      ·rfl
      ·(simp only [go_sem])
      ·(simp only [go_sem]; exact ⟨rfl, rfl, le_oneR _ x⟩)
      ·simp only [go_sem]
      ·simp only [go_sem, hex]
      ·rfl
    ·refine sk ?_
     refine sq ?_
     refine sq ?_
     apply Exec.regionL te_ok
     ·intro o Q hQ
      simp only [go_sem, hex]
      repeat refine ob2 ?_
      refine kcallM 900 hR.inv te_ok rfl rfl rfl rfl rfl rfl rfl rfl rfl (ris_ok l q _ hk hql) ?_
      simp only [go_sem, hex]
      repeat refine ob2 ?_
      exact hQ
     refine Exec.cond_split rfl (fun h4 => ?_) (fun h4 => ?_)
     ·have he : (if isR l [63] q = true then (6 : Int) else if isR l [43] q = true then 5 else 4) = 6 := by rw [if_pos h4]
      apply Exec.regionL te_ok
      ·intro o Q hQ
       simp only [go_sem, hex]
       repeat refine ob2 ?_
       exact hQ
      refine sq ?_
      apply Exec.regionL te_ok
      ·intro o Q hQ
       simp only [go_sem, hex]
       repeat refine ob2 ?_
       refine kfreeze 32 rfl (by simp only [go_sem, hex]; rfl) ?_
       refine runL_walk te_ok ?_
       simp only [go_sem, hex]
       repeat refine ob2 ?_
       exact hQ
      apply Exec.regionL te_ok
      ·intro o Q hQ
       simp only [go_sem, hex]
       repeat refine ob2 ?_
       refine kcallM 900 hR.inv te_ok rfl rfl rfl rfl rfl rfl rfl rfl rfl (rstep_ok l q hk hql) ?_
       simp only [go_sem, hex]
       repeat refine ob2 ?_
       exact hQ
      refine Exec.inBlock ?_
      refine Exec.back (ih0 (q.step l, .mk 6 [] [x]) ?_ ?_) ?_ ?_ ?_ ?_ ?_ ?_ ?_
      ·try simp only
       exact ⟨⟨by omega, by omega⟩, by rw [hx.2, hz, if_pos hst]; simp only [he]; congr 1; omega⟩
      ·try simp only
       omega
      ·rfl
      ·rfl
      ·(simp only [go_sem])
      ·(simp only [go_sem]; exact ⟨rfl, rfl, le_oneR _ x⟩)
      ·simp only [go_sem]
      ·simp only [go_sem, hex]
      ·rfl
     ·have he : (if isR l [63] q = true then (6 : Int) else if isR l [43] q = true then 5 else 4) = 4 := by rw [if_neg (by rw [h4]; decide), if_neg (by rw [h2]; decide)]
      refine sk ?_
      refine sq ?_
      apply Exec.regionL te_ok
      ·intro o Q hQ
       simp only [go_sem, hex]
       repeat refine ob2 ?_
       refine kfreeze 32 rfl (by simp only [go_sem, hex]; rfl) ?_
       refine runL_walk te_ok ?_
       simp only [go_sem, hex]
       repeat refine ob2 ?_
       exact hQ
      apply Exec.regionL te_ok
      ·intro o Q hQ
       simp only [go_sem, hex]
       repeat refine ob2 ?_
       refine kcallM 900 hR.inv te_ok rfl rfl rfl rfl rfl rfl rfl rfl rfl (rstep_ok l q hk hql) ?_
       simp only [go_sem, hex]
       repeat refine ob2 ?_
       exact hQ
      refine Exec.inBlock ?_
      refine Exec.back (ih0 (q.step l, .mk 4 [] [x]) ?_ ?_) ?_ ?_ ?_ ?_ ?_ ?_ ?_
      ·try simp only
       exact ⟨⟨by omega, by omega⟩, by rw [hx.2, hz, if_pos hst]; simp only [he]; congr 1; omega⟩
      ·try simp only
       omega
      ·rfl
      ·rfl
      ·(simp only [go_sem])
      ·(simp only [go_sem]; exact ⟨rfl, rfl, le_oneR _ x⟩)
      ·simp only [go_sem]
      ·simp only [go_sem, hex]
      ·rfl
   ·have hst : ¬ ((isR l [42] q || isR l [43] q || isR l [63] q) = true) := by intro h9; rw [← Bool.not_eq_false] at h9; exact h9 (by simpa [Bool.or_assoc] using h1)
    rw [if_neg hst] at hz
    refine Exec.exit rfl ?_
    refine sq ?_
    apply Exec.regionL te_ok
    ·intro o Q hQ
     simp only [go_sem, hex]
     repeat refine ob2 ?_
     exact hQ
    refine Exec.retsMu hR te_ok rfl .nil rfl rfl rfl ?_ (.inr ⟨_, rfl⟩)
    have hj : itemR l (f + 1) s = (q, x) := by simp only [itemR, if_pos h0, hx.2, hz]
    rw [hj]
    refine ⟨_, _, rfl, ?_⟩
    simp only [go_sem]
 ·have hbh0 : ¬ (isR l [40] s = true) := by rw [h0]; decide
  have hltb := nameS_lt hn
  apply Exec.regionL te_ok
  ·intro o Q hQ
   simp only [go_sem]
   repeat refine ob2 ?_
   refine kcallM 900 hR.inv te_ok rfl rfl rfl rfl rfl rfl rfl rfl rfl (rname_ok l s hk hn) ?_
   simp only [go_sem]
   repeat refine ob2 ?_
   exact hQ
  refine sq ?_
  refine Exec.block ?_
  apply Exec.loopU [0, 2, 3] (X := RS × Ex) (fun ⟨q, x⟩ => []) (fun ⟨q, x⟩ => [(900, 134, [.d (tksD l), .d (iv q.n), .d (iv q.b), .d (iv q.m)]), (3, 30, [.d (.v (.int .i64 x.k)), .d (sv x.s), .d (kdX x)])]) (fun ⟨q, x⟩ => []) (fun ⟨q, x⟩ => l.length - q.n) (fun ⟨q, x⟩ => ((nameS l s).n ≤ q.n ∧ q.n < l.length) ∧ signR l (l.length + 1) (nameS l s) (.mk 1 (nameT l s) []) = signR l (l.length + 1 - (q.n - (nameS l s).n)) q x) (nameS l s, (.mk 1 (nameT l s) []))
  case h0 =>
   exact ⟨⟨Nat.le_refl _, hltb⟩, by simp⟩
  case hw =>
   simp only [go_sem]; exact ⟨rfl, rfl, by rw [kd_eq]; exact ⟨rfl, rfl⟩⟩
  case body =>
   rintro ⟨q, x⟩ hx ih1
   try simp only at hx
   have hql : q.n < l.length := hx.1.2
   have hf : 0 < l.length + 1 - (q.n - (nameS l s).n) := by omega
   have hz := signR_st (l := l) (s := q) (x := x) hf
   apply Exec.norm
   ·simp only [go_sem]
    rfl
   refine sq ?_
   refine sq ?_
   apply Exec.regionL te_ok
   ·intro o Q hQ
    simp only [go_sem]
    repeat refine ob2 ?_
    refine kcallM 900 hR.inv te_ok rfl rfl rfl rfl rfl rfl rfl rfl rfl (ris_ok l q _ hk hql) ?_
    simp only [go_sem]
    repeat refine ob2 ?_
    refine kcallMG 900 hR.inv te_ok rfl rfl rfl rfl rfl rfl rfl rfl rfl ob1 (fun hq => ris_ok l q _ hk hql) ?_
    simp only [go_sem]
    repeat refine ob2 ?_
    refine kcallMG 900 hR.inv te_ok rfl rfl rfl rfl rfl rfl rfl rfl rfl ob1 (fun hq => ris_ok l q _ hk hql) ?_
    simp only [go_sem]
    repeat refine ob2 ?_
    exact hQ
   refine Exec.cond_split rfl (fun h5 => ?_) (fun h5 => ?_)
   ·have hst : (isR l [42] q || isR l [43] q || isR l [63] q) = true := by simpa [Bool.or_assoc] using h5
    have hqs : (q.step l).n = q.n + 1 ∧ q.n + 1 < l.length := by simp only [Bool.or_eq_true] at hst; rcases hst with (h9 | h9) | h9 <;> exact isR_step hk hql h9
    refine sk ?_
    refine Exec.block ?_
    refine sreg te_ok ?_
    refine sq ?_
    refine sq ?_
    apply Exec.regionL te_ok
    ·intro o Q hQ
     simp only [go_sem]
     repeat refine ob2 ?_
     refine kcallM 900 hR.inv te_ok rfl rfl rfl rfl rfl rfl rfl rfl rfl (ris_ok l q _ hk hql) ?_
     simp only [go_sem]
     repeat refine ob2 ?_
     exact hQ
    refine Exec.cond_split rfl (fun h6 => ?_) (fun h6 => ?_)
    ·refine Exec.reg te_ok ?_
     refine sq ?_
     refine sq ?_
     apply Exec.regionL te_ok
     ·intro o Q hQ
      simp only [go_sem]
      repeat refine ob2 ?_
      refine kcallM 900 hR.inv te_ok rfl rfl rfl rfl rfl rfl rfl rfl rfl (ris_ok l q _ hk hql) ?_
      simp only [go_sem]
      repeat refine ob2 ?_
      exact hQ
     refine Exec.cond_split rfl (fun h7 => ?_) (fun h7 => ?_)
     ·have he : (if isR l [63] q = true then (6 : Int) else if isR l [43] q = true then 5 else 4) = 6 := by rw [if_pos h7]
      refine Exec.reg te_ok ?_
      refine sq ?_
      apply Exec.regionL te_ok
      ·intro o Q hQ
       simp only [go_sem]
       repeat refine ob2 ?_
       refine kfreeze 32 rfl (by simp only [go_sem]; rfl) ?_
       refine runL_walk te_ok ?_
       simp only [go_sem]
       repeat refine ob2 ?_
       exact hQ
      apply Exec.regionL te_ok
      ·intro o Q hQ
       simp only [go_sem]
       repeat refine ob2 ?_
       refine kcallM 900 hR.inv te_ok rfl rfl rfl rfl rfl rfl rfl rfl rfl (rstep_ok l q hk hql) ?_
       simp only [go_sem]
       repeat refine ob2 ?_
       exact hQ
      refine Exec.inBlock ?_
      refine Exec.back (ih1 (q.step l, .mk 6 [] [x]) ?_ ?_) ?_ ?_ ?_ ?_ ?_ ?_ ?_
      ·try simp only
       exact ⟨⟨by omega, by omega⟩, by rw [hx.2, hz, if_pos hst]; simp only [he]; congr 1; omega⟩
      ·try simp only
       omega
      ·rfl
      ·rfl
      ·(simp only [go_sem])
      ·(simp only [go_sem]; exact ⟨rfl, rfl, le_oneR _ x⟩)
      ·simp only [go_sem]
      ·simp only [go_sem]
      ·rfl
     ·have he : (if isR l [63] q = true then (6 : Int) else if isR l [43] q = true then 5 else 4) = 5 := by rw [if_neg (by rw [h7]; decide), if_pos h6]
      refine sk ?_
      refine sq ?_
      apply Exec.regionL te_ok
      ·intro o Q hQ
       simp only [go_sem]
       repeat refine ob2 ?_
       refine kfreeze 32 rfl (by simp only [go_sem]; rfl) ?_
       refine runL_walk te_ok ?_
       simp only [go_sem]
       repeat refine ob2 ?_
       exact hQ
      apply Exec.regionL te_ok
      ·intro o Q hQ
       simp only [go_sem]
       repeat refine ob2 ?_
       refine kcallM 900 hR.inv te_ok rfl rfl rfl rfl rfl rfl rfl rfl rfl (rstep_ok l q hk hql) ?_
       simp only [go_sem]
       repeat refine ob2 ?_
       exact hQ
      refine Exec.inBlock ?_
      refine Exec.back (ih1 (q.step l, .mk 5 [] [x]) ?_ ?_) ?_ ?_ ?_ ?_ ?_ ?_ ?_
      ·try simp only
       exact ⟨⟨by omega, by omega⟩, by rw [hx.2, hz, if_pos hst]; simp only [he]; congr 1; omega⟩
      ·try simp only
       omega
      ·rfl
      ·rfl
      ·(simp only [go_sem])
      ·(simp only [go_sem]; exact ⟨rfl, rfl, le_oneR _ x⟩)
      ·simp only [go_sem]
      ·simp only [go_sem]
      ·rfl
    ·refine sk ?_
     refine sq ?_
     refine sq ?_
     apply Exec.regionL te_ok
     ·intro o Q hQ
      simp only [go_sem]
      repeat refine ob2 ?_
      refine kcallM 900 hR.inv te_ok rfl rfl rfl rfl rfl rfl rfl rfl rfl (ris_ok l q _ hk hql) ?_
      simp only [go_sem]
      repeat refine ob2 ?_
      exact hQ
     refine Exec.cond_split rfl (fun h8 => ?_) (fun h8 => ?_)
     ·have he : (if isR l [63] q = true then (6 : Int) else if isR l [43] q = true then 5 else 4) = 6 := by rw [if_pos h8]
      refine Exec.reg te_ok ?_
      refine sq ?_
      apply Exec.regionL te_ok
      ·intro o Q hQ
       simp only [go_sem]
       repeat refine ob2 ?_
       refine kfreeze 32 rfl (by simp only [go_sem]; rfl) ?_
       refine runL_walk te_ok ?_
       simp only [go_sem]
       repeat refine ob2 ?_
       exact hQ
      apply Exec.regionL te_ok
      ·intro o Q hQ
       simp only [go_sem]
       repeat refine ob2 ?_
       refine kcallM 900 hR.inv te_ok rfl rfl rfl rfl rfl rfl rfl rfl rfl (rstep_ok l q hk hql) ?_
       simp only [go_sem]
       repeat refine ob2 ?_
       exact hQ
      refine Exec.inBlock ?_
      refine Exec.back (ih1 (q.step l, .mk 6 [] [x]) ?_ ?_) ?_ ?_ ?_ ?_ ?_ ?_ ?_
      ·try simp only
       exact ⟨⟨by omega, by omega⟩, by rw [hx.2, hz, if_pos hst]; simp only [he]; congr 1; omega⟩
      ·try simp only
       omega
      ·rfl
      ·rfl
      ·(simp only [go_sem])
      ·(simp only [go_sem]; exact ⟨rfl, rfl, le_oneR _ x⟩)
      ·simp only [go_sem]
      ·simp only [go_sem]
      ·rfl
     ·have he : (if isR l [63] q = true then (6 : Int) else if isR l [43] q = true then 5 else 4) = 4 := by rw [if_neg (by rw [h8]; decide), if_neg (by rw [h6]; decide)]
      refine sk ?_
      refine sq ?_
      apply Exec.regionL te_ok
      ·intro o Q hQ
       simp only [go_sem]
       repeat refine ob2 ?_
       refine kfreeze 32 rfl (by simp only [go_sem]; rfl) ?_
       refine runL_walk te_ok ?_
       simp only [go_sem]
       repeat refine ob2 ?_
       exact hQ
      apply Exec.regionL te_ok
      ·intro o Q hQ
       simp only [go_sem]
       repeat refine ob2 ?_
       refine kcallM 900 hR.inv te_ok rfl rfl rfl rfl rfl rfl rfl rfl rfl (rstep_ok l q hk hql) ?_
       simp only [go_sem]
       repeat refine ob2 ?_
       exact hQ
      refine Exec.inBlock ?_
      refine Exec.back (ih1 (q.step l, .mk 4 [] [x]) ?_ ?_) ?_ ?_ ?_ ?_ ?_ ?_ ?_
      ·try simp only
       exact ⟨⟨by omega, by omega⟩, by rw [hx.2, hz, if_pos hst]; simp only [he]; congr 1; omega⟩
      ·try simp only
       omega
      ·rfl
      ·rfl
      ·(simp only [go_sem])
      ·(simp only [go_sem]; exact ⟨rfl, rfl, le_oneR _ x⟩)
      ·simp only [go_sem]
      ·simp only [go_sem]
      ·rfl
   ·have hst : ¬ ((isR l [42] q || isR l [43] q || isR l [63] q) = true) := by intro h9; rw [← Bool.not_eq_false] at h9; exact h9 (by simpa [Bool.or_assoc] using h5)
    rw [if_neg hst] at hz
    refine Exec.exit rfl ?_
    refine sreg te_ok ?_
    refine Exec.retsMu hR te_ok rfl .nil rfl rfl rfl ?_ (.inr ⟨_, rfl⟩)
    have hj : itemR l (f + 1) s = (q, x) := by simp only [itemR, if_neg hbh0, hx.2, hz]
    rw [hj]
    refine ⟨_, _, rfl, ?_⟩
    simp only [go_sem]
end Go.Proofs.YtonchjamoblioaaGreatDoor
