/- Steps of a function body on data, and contracts of the functions of the seat, walked. -/
import Derived.Test.YtonchjamoblioaaGreatDoorPS
set_option linter.unusedSimpArgs false
set_option linter.unusedVariables false
set_option linter.unusedSectionVars false
namespace Go.Proofs.YtonchjamoblioaaGreatDoor
open Go.Kin
set_option maxRecDepth 100000
set_option maxHeartbeats 0
theorem sign_st {l : List Tk} {s : PS} {x : Ex} {f : Nat} (hf : 0 < f) : signP l f s x =
  if isP l [42] s = true then signP l (f - 1) s.adv (.mk 4 [] [x])
  else if isP l [43] s = true then signP l (f - 1) s.adv (.mk 5 [] [x])
  else if isP l [63] s = true then signP l (f - 1) s.adv (.mk 6 [] [x])
  else .ok s x := by
 obtain ⟨g, rfl⟩ : ∃ g, f = g + 1 := ⟨f - 1, by omega⟩
 simp only [signP, Nat.add_sub_cancel]
theorem kd_one (x : Ex) (i : Nat) (h : i < 1) : lstR [exC x] i = kdR [x] i := by
 have : i = 0 := by omega
 subst this
 rw [kdR_at (by simp)]; rfl
theorem le_one (k : Int) (x : Ex) : LeX (.sl 3 1 1 (lstR [exC x])) (kdX (.mk k [] [x])) := by
 rw [kd_eq]; simp only [LeX, Ex.kids]; exact ⟨rfl, .inl rfl, .inl ⟨trivial, kd_one x⟩⟩
theorem pitem_step (l : List Tk) (n : Nat) (m : Int) (hk : TkOk l) (hn : n < l.length) (f : Nat) (hit : ∀ (i : Nat) (q : Int), n < i → i < l.length → FnM Laid Tryz.prog 200 157 [tksD l, iv i, iv q] [.lp 900 0] (outP 152 l exD (itemP l f ⟨i, q⟩))) : FnM Laid Tryz.prog 200 157 [tksD l, iv n, iv m] [.lp 900 0] (outP 152 l exD (itemP l (f + 1) ⟨n, m⟩)) := by
 refine FnM_of Tryz.func200 Tryz.ntmps200 rfl (by as_aux_lemma => kernel_rfl) (Nat.le_of_ble_eq_true rfl) (fun R b0 hR => ?_)
 obtain ⟨_, b, cs, T, C⟩ := R
 obtain rfl : _ = Tryz.prog := hR.p
 refine sreg te_ok ?_
 refine Exec.scope ?_
 refine sq ?_
 refine sq ?_
 apply Exec.regionL te_ok
 ·intro u' Q hQ
  simp only [go_sem]
  repeat refine ob2 ?_
  refine kcallM 900 hR.inv te_ok rfl rfl rfl rfl rfl rfl rfl rfl rfl (is_ok _ _ _ _ (by assumption) hk.len) ?_
  simp only [go_sem]
  repeat refine ob2 ?_
  exact hQ
 refine Exec.cond_split rfl (fun h0 => ?_) (fun h0 => ?_)
 ·have hsh0 : isS l [40] ⟨n, m⟩ = ⟨n + 1, m⟩ := by rw [isS, if_pos h0]; rfl
  have hnh0 : n + 1 < l.length := is_adv hk (s := ⟨n, m⟩) (by assumption) h0
  refine sq ?_
  rcases hq2 : exprP l (itemP l f) ⟨n + 1, m⟩ with ⟨⟨n2, m2⟩, x2⟩ | at2
  ·have ha2 := AdvX.adv (expr_adv hk (s := ⟨n + 1, m⟩) (by assumption) fun s _ h4 => item_adv hk f s h4) _ _ hq2
   have hn2 : n2 < l.length := ha2.2
   apply Exec.regionL te_ok
   ·intro u' Q hQ
    simp only [go_sem, hsh0]
    repeat refine ob2 ?_
    refine kcallM 900 hR.inv te_ok rfl rfl rfl rfl rfl rfl rfl rfl rfl (fOk (pexpr_ok l (n + 1) m hk (by assumption) (itemP l f) (fun i q h3 h4 => hit i q (by omega) h4) (fun s _ h4 => item_adv hk f s h4)) hq2) ?_
    simp only [go_sem, hsh0]
    repeat refine ob2 ?_
    exact hQ
   rcases hq3 : mustP l [41] ⟨n2, m2⟩ with ⟨⟨n3, m3⟩, x3⟩ | at3
   ·have ha3 := must_adv hk (s := ⟨n2, m2⟩) (by assumption) _ _ hq3
    have hn3 : n3 < l.length := ha3.2
    apply Exec.regionL te_ok
    ·intro u' Q hQ
     simp only [go_sem, hsh0]
     repeat refine ob2 ?_
     refine kcallM 900 hR.inv te_ok rfl rfl rfl rfl rfl rfl rfl rfl rfl (fOk (must_ok l n2 m2 [41] (by assumption) hk.len) hq3) ?_
     simp only [go_sem, hsh0]
     repeat refine ob2 ?_
     exact hQ
    refine sq ?_
    refine Exec.label ?_
    refine sq ?_
    refine Exec.block ?_
    apply Exec.loopU [0, 2] (X := Nat × Ex) (fun ⟨i, x⟩ => []) (fun ⟨i, x⟩ => [(900, 157, [.d (tksD l), .d (iv i), .d (iv m3)]), (2, 30, [.d (.v (.int .i64 x.k)), .d (sv x.s), .d (kdX x)])]) (fun ⟨i, x⟩ => []) (fun ⟨i, x⟩ => l.length - i) (fun ⟨i, x⟩ => (n3 ≤ i ∧ i < l.length) ∧ signP l (l.length + 1) ⟨n3, m3⟩ x2 = signP l (l.length + 1 - (i - n3)) ⟨i, m3⟩ x) (n3, x2)
    case h0 =>
     exact ⟨⟨Nat.le_refl _, by assumption⟩, by simp⟩
    case hw =>
     simp only [go_sem, hsh0]
    case body =>
     rintro ⟨i, x⟩ hx ih0
     try simp only at hx
     have hil : i < l.length := hx.1.2
     have hf : 0 < l.length + 1 - (i - n3) := by omega
     apply Exec.norm
     ·simp only [go_sem, hsh0]
      rfl
     refine Exec.block ?_
     refine Exec.block ?_
     refine sq ?_
     apply Exec.regionL te_ok
     ·intro u' Q hQ
      simp only [go_sem, hsh0]
      repeat refine ob2 ?_
      refine kcallM 900 hR.inv te_ok rfl rfl rfl rfl rfl rfl rfl rfl rfl (is_ok _ _ _ _ (by assumption) hk.len) ?_
      simp only [go_sem, hsh0]
      repeat refine ob2 ?_
      exact hQ
     refine Exec.cond_split rfl (fun h1 => ?_) (fun h1 => ?_)
     ·have hz := sign_st (l := l) (s := ⟨i, m3⟩) (x := x) hf
      rw [if_pos h1] at hz
      have hsh1 : isS l [42] ⟨i, m3⟩ = ⟨i + 1, m3⟩ := by rw [isS, if_pos h1]; rfl
      have hnh1 : i + 1 < l.length := is_adv hk (s := ⟨i, m3⟩) (by assumption) h1
      apply Exec.regionL te_ok
      ·intro u' Q hQ
       simp only [go_sem, hsh0, hsh1]
       repeat refine ob2 ?_
       refine kfreeze 16 rfl (by simp only [go_sem, hsh0, hsh1]; rfl) ?_
       refine runL_walk te_ok ?_
       simp only [go_sem, hsh0, hsh1]
       repeat refine ob2 ?_
       exact hQ
      refine Exec.inBlock ?_
      refine Exec.inBlock ?_
      refine Exec.back (ih0 (i + 1, .mk 4 [] [x]) ?_ ?_) ?_ ?_ ?_ ?_ ?_ ?_ ?_
      ·try simp only
       exact ⟨⟨by omega, by omega⟩, by rw [hx.2, hz]; congr 1; omega⟩
      ·try simp only
       omega
      ·rfl
      ·rfl
      ·(simp only [go_sem])
      ·(simp only [go_sem]; exact ⟨rfl, rfl, le_one _ x⟩)
      ·simp only [go_sem]
      ·simp only [go_sem, hsh0, hsh1]
      ·rfl
     ·have hsh1 : isS l [42] ⟨i, m3⟩ = ⟨i, m3⟩ := by rw [isS, if_neg (by rw [h1]; decide)]
      have hbh1 : ¬ (isP l [42] ⟨i, m3⟩ = true) := by rw [h1]; decide
      refine sq ?_
      apply Exec.regionL te_ok
      ·intro u' Q hQ
       simp only [go_sem, hsh0, hsh1]
       repeat refine ob2 ?_
       refine kcallM 900 hR.inv te_ok rfl rfl rfl rfl rfl rfl rfl rfl rfl (is_ok _ _ _ _ (by assumption) hk.len) ?_
       simp only [go_sem, hsh0, hsh1]
       repeat refine ob2 ?_
       exact hQ
      refine Exec.cond_split rfl (fun h2 => ?_) (fun h2 => ?_)
      ·have hz := sign_st (l := l) (s := ⟨i, m3⟩) (x := x) hf
       rw [if_neg hbh1, if_pos h2] at hz
       have hsh2 : isS l [43] ⟨i, m3⟩ = ⟨i + 1, m3⟩ := by rw [isS, if_pos h2]; rfl
       have hnh2 : i + 1 < l.length := is_adv hk (s := ⟨i, m3⟩) (by assumption) h2
       apply Exec.regionL te_ok
       ·intro u' Q hQ
        simp only [go_sem, hsh0, hsh1, hsh2]
        repeat refine ob2 ?_
        refine kfreeze 22 rfl (by simp only [go_sem, hsh0, hsh1, hsh2]; rfl) ?_
        refine runL_walk te_ok ?_
        simp only [go_sem, hsh0, hsh1, hsh2]
        repeat refine ob2 ?_
        exact hQ
       refine Exec.inBlock ?_
       refine Exec.inBlock ?_
       refine Exec.back (ih0 (i + 1, .mk 5 [] [x]) ?_ ?_) ?_ ?_ ?_ ?_ ?_ ?_ ?_
       ·try simp only
        exact ⟨⟨by omega, by omega⟩, by rw [hx.2, hz]; congr 1; omega⟩
       ·try simp only
        omega
       ·rfl
       ·rfl
       ·(simp only [go_sem])
       ·(simp only [go_sem]; exact ⟨rfl, rfl, le_one _ x⟩)
       ·simp only [go_sem]
       ·simp only [go_sem, hsh0, hsh1, hsh2]
       ·rfl
      ·have hsh2 : isS l [43] ⟨i, m3⟩ = ⟨i, m3⟩ := by rw [isS, if_neg (by rw [h2]; decide)]
       have hbh2 : ¬ (isP l [43] ⟨i, m3⟩ = true) := by rw [h2]; decide
       refine sq ?_
       apply Exec.regionL te_ok
       ·intro u' Q hQ
        simp only [go_sem, hsh0, hsh1, hsh2]
        repeat refine ob2 ?_
        refine kcallM 900 hR.inv te_ok rfl rfl rfl rfl rfl rfl rfl rfl rfl (is_ok _ _ _ _ (by assumption) hk.len) ?_
        simp only [go_sem, hsh0, hsh1, hsh2]
        repeat refine ob2 ?_
        exact hQ
       refine Exec.cond_split rfl (fun h3 => ?_) (fun h3 => ?_)
       ·have hz := sign_st (l := l) (s := ⟨i, m3⟩) (x := x) hf
        rw [if_neg hbh1, if_neg hbh2, if_pos h3] at hz
        have hsh3 : isS l [63] ⟨i, m3⟩ = ⟨i + 1, m3⟩ := by rw [isS, if_pos h3]; rfl
        have hnh3 : i + 1 < l.length := is_adv hk (s := ⟨i, m3⟩) (by assumption) h3
        apply Exec.regionL te_ok
        ·intro u' Q hQ
         simp only [go_sem, hsh0, hsh1, hsh2, hsh3]
         repeat refine ob2 ?_
         refine kfreeze 28 rfl (by simp only [go_sem, hsh0, hsh1, hsh2, hsh3]; rfl) ?_
         refine runL_walk te_ok ?_
         simp only [go_sem, hsh0, hsh1, hsh2, hsh3]
         repeat refine ob2 ?_
         exact hQ
        refine Exec.inBlock ?_
        refine Exec.inBlock ?_
        refine Exec.back (ih0 (i + 1, .mk 6 [] [x]) ?_ ?_) ?_ ?_ ?_ ?_ ?_ ?_ ?_
        ·try simp only
         exact ⟨⟨by omega, by omega⟩, by rw [hx.2, hz]; congr 1; omega⟩
        ·try simp only
         omega
        ·rfl
        ·rfl
        ·(simp only [go_sem])
        ·(simp only [go_sem]; exact ⟨rfl, rfl, le_one _ x⟩)
        ·simp only [go_sem]
        ·simp only [go_sem, hsh0, hsh1, hsh2, hsh3]
        ·rfl
       ·have hz := sign_st (l := l) (s := ⟨i, m3⟩) (x := x) hf
        have hsh3 : isS l [63] ⟨i, m3⟩ = ⟨i, m3⟩ := by rw [isS, if_neg (by rw [h3]; decide)]
        have hbh3 : ¬ (isP l [63] ⟨i, m3⟩ = true) := by rw [h3]; decide
        rw [if_neg hbh1, if_neg hbh2, if_neg hbh3] at hz
        refine Exec.exit rfl ?_
        refine sq ?_
        apply Exec.regionL te_ok
        ·intro u' Q hQ
         simp only [go_sem, hsh0, hsh1, hsh2, hsh3]
         repeat refine ob2 ?_
         exact hQ
        refine Exec.retsMu hR te_ok rfl .nil rfl rfl rfl ?_ (.inr ⟨_, rfl⟩)
        refine ⟨_, _, outP_ok (s := ⟨i, m3⟩) (x := x) (by simp only [itemP, PR.bind, h0, if_true, PS.adv, hq2, hq3, hx.2, hz]), ?_⟩
        simp only [go_sem]
   ·refine Exec.regStart 2 rfl ?_
    apply Exec.regPart 0 1 1 te_ok rfl
    ·intro u' Q hQ
     simp only [go_sem, hsh0]
     repeat refine ob2 ?_
     exact hQ
    refine Exec.callP 900 hR.inv rfl rfl rfl rfl rfl rfl rfl rfl rfl (fEr (must_ok l n2 m2 [41] (by assumption) hk.len) hq3) ?_
    refine ExecP.endM hR .nil ?_
    exact ⟨_, outP_err (a := at3) (by simp only [itemP, PR.bind, h0, if_true, PS.adv, hq2, hq3]), by simp only [go_sem]⟩
  ·refine Exec.regStart 3 rfl ?_
   apply Exec.regPart 0 1 2 te_ok rfl
   ·intro u' Q hQ
    simp only [go_sem, hsh0]
    repeat refine ob2 ?_
    exact hQ
   refine Exec.callP 900 hR.inv rfl rfl rfl rfl rfl rfl rfl rfl rfl (fEr (pexpr_ok l (n + 1) m hk (by assumption) (itemP l f) (fun i q h3 h4 => hit i q (by omega) h4) (fun s _ h4 => item_adv hk f s h4)) hq2) ?_
   refine ExecP.endM hR .nil ?_
   exact ⟨_, outP_err (a := at2) (by simp only [itemP, PR.bind, h0, if_true, PS.adv, hq2]), by simp only [go_sem]⟩
 ·have hsh0 : isS l [40] ⟨n, m⟩ = ⟨n, m⟩ := by rw [isS, if_neg (by rw [h0]; decide)]
  have hbh0 : ¬ (isP l [40] ⟨n, m⟩ = true) := by rw [h0]; decide
  rcases hq4 : nameP l ⟨n, m⟩ with ⟨⟨n4, m4⟩, x4⟩ | at4
  ·have ha4 := name_adv hk (s := ⟨n, m⟩) (by assumption) _ _ hq4
   have hn4 : n4 < l.length := ha4.2
   apply Exec.regionL te_ok
   ·intro u' Q hQ
    simp only [go_sem, hsh0]
    repeat refine ob2 ?_
    refine kcallM 900 hR.inv te_ok rfl rfl rfl rfl rfl rfl rfl rfl rfl (fOk (name_ok l n m (by assumption) hk.len (hk.tx _ (by assumption))) hq4) ?_
    simp only [go_sem, hsh0]
    repeat refine ob2 ?_
    exact hQ
   refine sq ?_
   refine Exec.label ?_
   refine sq ?_
   refine Exec.block ?_
   apply Exec.loopU [0, 2] (X := Nat × Ex) (fun ⟨i, x⟩ => []) (fun ⟨i, x⟩ => [(900, 157, [.d (tksD l), .d (iv i), .d (iv m4)]), (2, 30, [.d (.v (.int .i64 x.k)), .d (sv x.s), .d (kdX x)])]) (fun ⟨i, x⟩ => []) (fun ⟨i, x⟩ => l.length - i) (fun ⟨i, x⟩ => (n4 ≤ i ∧ i < l.length) ∧ signP l (l.length + 1) ⟨n4, m4⟩ (.mk 1 x4 []) = signP l (l.length + 1 - (i - n4)) ⟨i, m4⟩ x) (n4, (.mk 1 x4 []))
   case h0 =>
    exact ⟨⟨Nat.le_refl _, by assumption⟩, by simp⟩
   case hw =>
    simp only [go_sem, hsh0]; exact ⟨rfl, rfl, by rw [kd_eq]; exact ⟨rfl, rfl⟩⟩
   case body =>
    rintro ⟨i, x⟩ hx ih1
    try simp only at hx
    have hil : i < l.length := hx.1.2
    have hf : 0 < l.length + 1 - (i - n4) := by omega
    apply Exec.norm
    ·simp only [go_sem, hsh0]
     rfl
    refine Exec.block ?_
    refine Exec.block ?_
    refine sq ?_
    apply Exec.regionL te_ok
    ·intro u' Q hQ
     simp only [go_sem, hsh0]
     repeat refine ob2 ?_
     refine kcallM 900 hR.inv te_ok rfl rfl rfl rfl rfl rfl rfl rfl rfl (is_ok _ _ _ _ (by assumption) hk.len) ?_
     simp only [go_sem, hsh0]
     repeat refine ob2 ?_
     exact hQ
    refine Exec.cond_split rfl (fun h4 => ?_) (fun h4 => ?_)
    ·have hz := sign_st (l := l) (s := ⟨i, m4⟩) (x := x) hf
     rw [if_pos h4] at hz
     have hsh4 : isS l [42] ⟨i, m4⟩ = ⟨i + 1, m4⟩ := by rw [isS, if_pos h4]; rfl
     have hnh4 : i + 1 < l.length := is_adv hk (s := ⟨i, m4⟩) (by assumption) h4
     apply Exec.regionL te_ok
     ·intro u' Q hQ
      simp only [go_sem, hsh0, hsh4]
      repeat refine ob2 ?_
      refine kfreeze 16 rfl (by simp only [go_sem, hsh0, hsh4]; rfl) ?_
      refine runL_walk te_ok ?_
      simp only [go_sem, hsh0, hsh4]
      repeat refine ob2 ?_
      exact hQ
     refine Exec.inBlock ?_
     refine Exec.inBlock ?_
     refine Exec.back (ih1 (i + 1, .mk 4 [] [x]) ?_ ?_) ?_ ?_ ?_ ?_ ?_ ?_ ?_
     ·try simp only
      exact ⟨⟨by omega, by omega⟩, by rw [hx.2, hz]; congr 1; omega⟩
     ·try simp only
      omega
     ·rfl
     ·rfl
     ·(simp only [go_sem])
     ·(simp only [go_sem]; exact ⟨rfl, rfl, le_one _ x⟩)
     ·simp only [go_sem]
     ·simp only [go_sem, hsh0, hsh4]
     ·rfl
    ·have hsh4 : isS l [42] ⟨i, m4⟩ = ⟨i, m4⟩ := by rw [isS, if_neg (by rw [h4]; decide)]
     have hbh4 : ¬ (isP l [42] ⟨i, m4⟩ = true) := by rw [h4]; decide
     refine sq ?_
     apply Exec.regionL te_ok
     ·intro u' Q hQ
      simp only [go_sem, hsh0, hsh4]
      repeat refine ob2 ?_
      refine kcallM 900 hR.inv te_ok rfl rfl rfl rfl rfl rfl rfl rfl rfl (is_ok _ _ _ _ (by assumption) hk.len) ?_
      simp only [go_sem, hsh0, hsh4]
      repeat refine ob2 ?_
      exact hQ
     refine Exec.cond_split rfl (fun h5 => ?_) (fun h5 => ?_)
     ·have hz := sign_st (l := l) (s := ⟨i, m4⟩) (x := x) hf
      rw [if_neg hbh4, if_pos h5] at hz
      have hsh5 : isS l [43] ⟨i, m4⟩ = ⟨i + 1, m4⟩ := by rw [isS, if_pos h5]; rfl
      have hnh5 : i + 1 < l.length := is_adv hk (s := ⟨i, m4⟩) (by assumption) h5
      apply Exec.regionL te_ok
      ·intro u' Q hQ
       simp only [go_sem, hsh0, hsh4, hsh5]
       repeat refine ob2 ?_
       refine kfreeze 22 rfl (by simp only [go_sem, hsh0, hsh4, hsh5]; rfl) ?_
       refine runL_walk te_ok ?_
       simp only [go_sem, hsh0, hsh4, hsh5]
       repeat refine ob2 ?_
       exact hQ
      refine Exec.inBlock ?_
      refine Exec.inBlock ?_
      refine Exec.back (ih1 (i + 1, .mk 5 [] [x]) ?_ ?_) ?_ ?_ ?_ ?_ ?_ ?_ ?_
      ·try simp only
       exact ⟨⟨by omega, by omega⟩, by rw [hx.2, hz]; congr 1; omega⟩
      ·try simp only
       omega
      ·rfl
      ·rfl
      ·(simp only [go_sem])
      ·(simp only [go_sem]; exact ⟨rfl, rfl, le_one _ x⟩)
      ·simp only [go_sem]
      ·simp only [go_sem, hsh0, hsh4, hsh5]
      ·rfl
     ·have hsh5 : isS l [43] ⟨i, m4⟩ = ⟨i, m4⟩ := by rw [isS, if_neg (by rw [h5]; decide)]
      have hbh5 : ¬ (isP l [43] ⟨i, m4⟩ = true) := by rw [h5]; decide
      refine sq ?_
      apply Exec.regionL te_ok
      ·intro u' Q hQ
       simp only [go_sem, hsh0, hsh4, hsh5]
       repeat refine ob2 ?_
       refine kcallM 900 hR.inv te_ok rfl rfl rfl rfl rfl rfl rfl rfl rfl (is_ok _ _ _ _ (by assumption) hk.len) ?_
       simp only [go_sem, hsh0, hsh4, hsh5]
       repeat refine ob2 ?_
       exact hQ
      refine Exec.cond_split rfl (fun h6 => ?_) (fun h6 => ?_)
      ·have hz := sign_st (l := l) (s := ⟨i, m4⟩) (x := x) hf
       rw [if_neg hbh4, if_neg hbh5, if_pos h6] at hz
       have hsh6 : isS l [63] ⟨i, m4⟩ = ⟨i + 1, m4⟩ := by rw [isS, if_pos h6]; rfl
       have hnh6 : i + 1 < l.length := is_adv hk (s := ⟨i, m4⟩) (by assumption) h6
       apply Exec.regionL te_ok
       ·intro u' Q hQ
        simp only [go_sem, hsh0, hsh4, hsh5, hsh6]
        repeat refine ob2 ?_
        refine kfreeze 28 rfl (by simp only [go_sem, hsh0, hsh4, hsh5, hsh6]; rfl) ?_
        refine runL_walk te_ok ?_
        simp only [go_sem, hsh0, hsh4, hsh5, hsh6]
        repeat refine ob2 ?_
        exact hQ
       refine Exec.inBlock ?_
       refine Exec.inBlock ?_
       refine Exec.back (ih1 (i + 1, .mk 6 [] [x]) ?_ ?_) ?_ ?_ ?_ ?_ ?_ ?_ ?_
       ·try simp only
        exact ⟨⟨by omega, by omega⟩, by rw [hx.2, hz]; congr 1; omega⟩
       ·try simp only
        omega
       ·rfl
       ·rfl
       ·(simp only [go_sem])
       ·(simp only [go_sem]; exact ⟨rfl, rfl, le_one _ x⟩)
       ·simp only [go_sem]
       ·simp only [go_sem, hsh0, hsh4, hsh5, hsh6]
       ·rfl
      ·have hz := sign_st (l := l) (s := ⟨i, m4⟩) (x := x) hf
       have hsh6 : isS l [63] ⟨i, m4⟩ = ⟨i, m4⟩ := by rw [isS, if_neg (by rw [h6]; decide)]
       have hbh6 : ¬ (isP l [63] ⟨i, m4⟩ = true) := by rw [h6]; decide
       rw [if_neg hbh4, if_neg hbh5, if_neg hbh6] at hz
       refine Exec.exit rfl ?_
       refine sq ?_
       apply Exec.regionL te_ok
       ·intro u' Q hQ
        simp only [go_sem, hsh0, hsh4, hsh5, hsh6]
        repeat refine ob2 ?_
        exact hQ
       refine Exec.retsMu hR te_ok rfl .nil rfl rfl rfl ?_ (.inr ⟨_, rfl⟩)
       refine ⟨_, _, outP_ok (s := ⟨i, m4⟩) (x := x) (by simp only [itemP, PR.bind, h0, Bool.false_eq_true, if_false, hq4, hx.2, hz]), ?_⟩
       simp only [go_sem]
  ·refine Exec.regStart 4 rfl ?_
   apply Exec.regPart 0 1 3 te_ok rfl
   ·intro u' Q hQ
    simp only [go_sem, hsh0]
    repeat refine ob2 ?_
    exact hQ
   refine Exec.callP 900 hR.inv rfl rfl rfl rfl rfl rfl rfl rfl rfl (fEr (name_ok l n m (by assumption) hk.len (hk.tx _ (by assumption))) hq4) ?_
   refine ExecP.endM hR .nil ?_
   exact ⟨_, outP_err (a := at4) (by simp only [itemP, PR.bind, h0, Bool.false_eq_true, if_false, hq4]), by simp only [go_sem]⟩
theorem pitem_ok {l : List Tk} (hk : TkOk l) : ∀ (f n : Nat) (m : Int), n < l.length → l.length ≤ n + f → FnM Laid Tryz.prog 200 157 [tksD l, iv n, iv m] [.lp 900 0] (outP 152 l exD (itemP l f ⟨n, m⟩))
 | 0, n, m, hn, h => by omega
 | f + 1, n, m, hn, h => pitem_step l n m hk hn f fun i q h1 h2 => pitem_ok hk f i q h2 (by omega)
theorem pexp_ok {l : List Tk} (hk : TkOk l) (n : Nat) (m : Int) (hn : n < l.length) : FnM Laid Tryz.prog 134 157 [tksD l, iv n, iv m] [.lp 900 0] (outP 152 l exD (exP l ⟨n, m⟩)) :=
 pexpr_ok l n m hk hn _ (fun i q _ h => pitem_ok hk _ i q h (by omega)) fun s _ h => item_adv hk _ s h
theorem pwhole_ok (l : List Tk) (n : Nat) (m : Int) (hk : TkOk l) (hn : n < l.length) : FnM Laid Tryz.prog 67 157 [tksD l, iv n, iv m] [.lp 900 0] (outP 152 l exD (wholeP l ⟨n, m⟩)) := by
 refine FnM_of Tryz.func67 Tryz.ntmps67 rfl (by as_aux_lemma => kernel_rfl) (Nat.le_of_ble_eq_true rfl) (fun R b0 hR => ?_)
 obtain ⟨_, b, cs, T, C⟩ := R
 obtain rfl : _ = Tryz.prog := hR.p
 refine sreg te_ok ?_
 refine sq ?_
 apply Exec.regionL te_ok
 ·intro u' Q hQ
  simp only [go_sem]
  repeat refine ob2 ?_
  refine kcallM 900 hR.inv te_ok rfl rfl rfl rfl rfl rfl rfl rfl rfl (token_ok _ _ _ (by assumption)) ?_
  simp only [go_sem]
  repeat refine ob2 ?_
  exact hQ
 refine sq ?_
 rcases hq2 : exP l ⟨n, m⟩ with ⟨⟨n2, m2⟩, x2⟩ | at2
 ·have ha2 := AdvX.adv (exP_adv hk (s := ⟨n, m⟩) hn) _ _ hq2
  have hn2 : n2 < l.length := ha2.2
  have hxs := exP_adv hk (s := ⟨n, m⟩) hn _ _ hq2
  have hx24 : x2.size ≤ 1000000 := by have := hk.few; simp only at hxs; omega
  apply Exec.regionL te_ok
  ·intro u' Q hQ
   simp only [go_sem]
   repeat refine ob2 ?_
   refine kcallM 900 hR.inv te_ok rfl rfl rfl rfl rfl rfl rfl rfl rfl (fOk (pexp_ok hk n m hn) hq2) ?_
   simp only [go_sem]
   repeat refine ob2 ?_
   exact hQ
  refine sq ?_
  apply Exec.regionL te_ok
  ·intro u' Q hQ
   simp only [go_sem]
   repeat refine ob2 ?_
   refine kcall hR.inv te_ok rfl rfl rfl rfl rfl rfl (xsize_ok _ hx24) ?_
   simp only [go_sem]
   repeat refine ob2 ?_
   refine kcallM 900 hR.inv te_ok rfl rfl rfl rfl rfl rfl rfl rfl rfl (limit_ok _ _ _ _ _) ?_
   simp only [go_sem]
   repeat refine ob2 ?_
   exact hQ
  refine sreg te_ok ?_
  refine Exec.retsMu hR te_ok rfl .nil rfl rfl rfl ?_ (.inr ⟨_, rfl⟩)
  refine ⟨_, _, outP_ok (s := limS (decide (24 < x2.size)) (nth l n).a ⟨n2, m2⟩) (x := x2) (by simp only [wholeP, PR.bind, hq2]), ?_⟩
  have hd24 : decide ((24 : Int) < (x2.size : Int)) = decide (24 < x2.size) := decide_eq_decide.2 (by omega)
  simp only [go_sem, limS_n, hd24]
 ·refine Exec.regStart 4 rfl ?_
  apply Exec.regPart 0 1 3 te_ok rfl
  ·intro u' Q hQ
   simp only [go_sem]
   repeat refine ob2 ?_
   exact hQ
  refine Exec.callP 900 hR.inv rfl rfl rfl rfl rfl rfl rfl rfl rfl (fEr (pexp_ok hk n m hn) hq2) ?_
  refine ExecP.endM hR .nil ?_
  exact ⟨_, outP_err (a := at2) (by simp only [wholeP, PR.bind, hq2]), by simp only [go_sem]⟩
end Go.Proofs.YtonchjamoblioaaGreatDoor
namespace Go.Proofs.YtonchjamoblioaaGreatDoor
open Go.Kin
set_option maxRecDepth 100000
set_option maxHeartbeats 0
section
variable {α : Type} {l : List Tk} {rd : PS → PR α} {w : List UInt8} {mx : Nat}
theorem many_end {f : Nat} {s s1 : PS} {x : α} {acc : List α} (hf : 0 < f) (hr : rd (limS (decide (acc.length = mx)) (nth l s.n).a s) = .ok s1 x) (hi : isP l w s1 = false) : manyP l rd w mx f s acc = .ok s1 (acc ++ [x]) := by
 obtain ⟨g, rfl⟩ : ∃ g, f = g + 1 := ⟨f - 1, by omega⟩
 simp only [manyP, hr, PR.bind, hi]; rfl
theorem many_on {f : Nat} {s s1 : PS} {x : α} {acc : List α} (hf : 0 < f) (hr : rd (limS (decide (acc.length = mx)) (nth l s.n).a s) = .ok s1 x) (hi : isP l w s1 = true) : manyP l rd w mx f s acc = manyP l rd w mx (f - 1) s1.adv (acc ++ [x]) := by
 obtain ⟨g, rfl⟩ : ∃ g, f = g + 1 := ⟨f - 1, by omega⟩
 simp only [manyP, hr, PR.bind, hi, if_true, Nat.add_sub_cancel]
theorem many_err {f : Nat} {s : PS} {a : Int} {acc : List α} (hf : 0 < f) (hr : rd (limS (decide (acc.length = mx)) (nth l s.n).a s) = .err a) : manyP l rd w mx f s acc = .err a := by
 obtain ⟨g, rfl⟩ : ∃ g, f = g + 1 := ⟨f - 1, by omega⟩
 simp only [manyP, hr, PR.bind]
end
theorem pat_adv {l : List Tk} (hk : TkOk l) {s : PS} (hn : s.n < l.length) : AdvP l s (patP l s) := by
 intro s9 x h
 obtain ⟨s1, _, h1, h⟩ := bind_ok h
 have a1 := vertex_adv hk hn _ _ h1
 split at h
 ·rename_i hp
  have a2 := is_adv hk a1.2 hp
  obtain ⟨s2, _, h2, h⟩ := bind_ok h
  have a3 := (whole_adv hk (s := s1.adv) a2 _ _ h2).1
  obtain ⟨s3, _, h3, h⟩ := bind_ok h
  have a4 := must_adv hk a3.2 _ _ h3
  obtain ⟨s4, _, h4, h⟩ := bind_ok h
  have a5 := vertex_adv hk a4.2 _ _ h4
  cases h
  simp [PS.adv] at a3; exact ⟨by omega, a5.2⟩
 ·obtain ⟨s2, _, h2, h⟩ := bind_ok h
  have a2 := must_adv hk a1.2 _ _ h2
  obtain ⟨s3, _, h3, h⟩ := bind_ok h
  have a3 := name_adv hk a2.2 _ _ h3
  split at h
  ·rename_i hp
   have a4 := is_adv hk a3.2 hp
   obtain ⟨s4, _, h4, h⟩ := bind_ok h
   have a5 := name_adv hk (s := s3.adv) a4 _ _ h4
   obtain ⟨s5, _, h5, h⟩ := bind_ok h
   have a6 := must_adv hk a5.2 _ _ h5
   obtain ⟨s6, _, h6, h⟩ := bind_ok h
   have a7 := vertex_adv hk a6.2 _ _ h6
   cases h
   simp [PS.adv] at a5; exact ⟨by omega, a7.2⟩
  ·obtain ⟨s5, _, h5, h⟩ := bind_ok h
   have a6 := must_adv hk a3.2 _ _ h5
   obtain ⟨s6, _, h6, h⟩ := bind_ok h
   have a7 := vertex_adv hk a6.2 _ _ h6
   cases h
   exact ⟨by omega, a7.2⟩
theorem ppat_ok (l : List Tk) (n : Nat) (m : Int) (hk : TkOk l) (hn : n < l.length) : FnM Laid Tryz.prog 128 157 [tksD l, iv n, iv m] [.lp 900 0] (outP 152 l (fun p => .ag (ptC p)) (patP l ⟨n, m⟩)) :=
 ppattern_ok (pwhole_ok := pwhole_ok) (whole_adv := fun {_} hk {_} hn => (whole_adv hk hn).adv) l n m hk hn
theorem lim_eta (b : Bool) (a : Int) (n : Nat) (m : Int) : limS b a ⟨n, m⟩ = ⟨n, (limS b a ⟨n, m⟩).m⟩ := by
 have := limS_n b a ⟨n, m⟩
 cases h : limS b a ⟨n, m⟩; rw [h] at this; simp only at this; rw [this]
end Go.Proofs.YtonchjamoblioaaGreatDoor
