/- Steps of a function body on data, and contracts of the functions of the seat, walked. -/
import Derived.Test.YtonchjamoblioaaGreatDoorPS
import Derived.Test.YtonchjamoblioaaGreatDoorPDef
set_option linter.unusedSimpArgs false
set_option linter.unusedVariables false
set_option linter.unusedSectionVars false
namespace Go.Proofs.YtonchjamoblioaaGreatDoor
open Go.Kin
set_option maxRecDepth 100000
set_option maxHeartbeats 0
theorem sign_st {l : List Tk} {s : PS} {x : Ex} {f : Nat} (hf : 0 < f) : signP l f s x =
  if isP l [42] s = true then signP l (f - 1) s.adv (.mk 4 [] [x])
  else if isP l [43] s = true then signP l (f - 1) s.adv (.mk 5 [] [x])
  else if isP l [63] s = true then signP l (f - 1) s.adv (.mk 6 [] [x])
  else .ok s x := by
 obtain ⟨g, rfl⟩ : ∃ g, f = g + 1 := ⟨f - 1, by omega⟩
 simp only [signP, Nat.add_sub_cancel]
theorem kd_one (x : Ex) (i : Nat) (h : i < 1) : lstR [exC x] i = kdR [x] i := by
 have : i = 0 := by omega
 subst this
 rw [kdR_at (by simp)]; rfl
theorem le_one (k : Int) (x : Ex) : LeX (.sl 3 1 1 (lstR [exC x])) (kdX (.mk k [] [x])) := by
 rw [kd_eq]; simp only [LeX, Ex.kids]; exact ⟨rfl, .inl rfl, .inl ⟨trivial, kd_one x⟩⟩
theorem pitem_step (l : List Tk) (n : Nat) (m : Int) (hk : TkOk l) (hn : n < l.length) (f : Nat) (hit : ∀ (i : Nat) (q : Int), n < i → i < l.length → FnM Laid Tryz.prog 200 157 [tksD l, iv i, iv q] [.lp 900 0] (outP 152 l exD (itemP l f ⟨i, q⟩))) : FnM Laid Tryz.prog 200 157 [tksD l, iv n, iv m] [.lp 900 0] (outP 152 l exD (itemP l (f + 1) ⟨n, m⟩)) := by
 refine FnM_of Tryz.func200 Tryz.ntmps200 rfl (by as_aux_lemma => kernel_rfl) (Nat.le_of_ble_eq_true rfl) (fun R b0 hR => ?_)
 obtain ⟨_, b, cs, T, C⟩ := R
 obtain rfl : _ = Tryz.prog := hR.p
 refine sreg te_ok ?_
 refine Exec.scope ?_
 refine sq ?_
 refine sq ?_
 apply Exec.regionL te_ok
 ·intro u' Q hQ
  simp only [go_sem]
  repeat refine ob2 ?_
  refine kcallM 900 hR.inv te_ok rfl rfl rfl rfl rfl rfl rfl rfl rfl (is_ok _ _ _ _ (by assumption) hk.len) ?_
  simp only [go_sem]
  repeat refine ob2 ?_
  exact hQ
 refine Exec.cond_split rfl (fun h0 => ?_) (fun h0 => ?_)
 ·have hsh0 : isS l [40] ⟨n, m⟩ = ⟨n + 1, m⟩ := by rw [isS, if_pos h0]; rfl
  have hnh0 : n + 1 < l.length := is_adv hk (s := ⟨n, m⟩) (by assumption) h0
  refine sq ?_
  rcases hq2 : exprP l (itemP l f) ⟨n + 1, m⟩ with ⟨⟨n2, m2⟩, x2⟩ | at2
  ·have ha2 := AdvX.adv (expr_adv hk (s := ⟨n + 1, m⟩) (by assumption) fun s _ h4 => item_adv hk f s h4) _ _ hq2
   have hn2 : n2 < l.length := ha2.2
   apply Exec.regionL te_ok
   ·intro u' Q hQ
    simp only [go_sem, hsh0]
    repeat refine ob2 ?_
    refine kcallM 900 hR.inv te_ok rfl rfl rfl rfl rfl rfl rfl rfl rfl (fOk (pexpr_ok l (n + 1) m hk (by assumption) (itemP l f) (fun i q h3 h4 => hit i q (by omega) h4) (fun s _ h4 => item_adv hk f s h4)) hq2) ?_
    simp only [go_sem, hsh0]
    repeat refine ob2 ?_
    exact hQ
   rcases hq3 : mustP l [41] ⟨n2, m2⟩ with ⟨⟨n3, m3⟩, x3⟩ | at3
   ·have ha3 := must_adv hk (s := ⟨n2, m2⟩) (by assumption) _ _ hq3
    have hn3 : n3 < l.length := ha3.2
    apply Exec.regionL te_ok
    ·intro u' Q hQ
     simp only [go_sem, hsh0]
     repeat refine ob2 ?_
     refine kcallM 900 hR.inv te_ok rfl rfl rfl rfl rfl rfl rfl rfl rfl (fOk (must_ok l n2 m2 [41] (by assumption) hk.len) hq3) ?_
     simp only [go_sem, hsh0]
     repeat refine ob2 ?_
     exact hQ
    refine sq ?_
    refine Exec.label ?_
    refine sq ?_
    refine Exec.block ?_
    apply Exec.loopU [0, 2] (X := Nat × Ex) (fun ⟨i, x⟩ => []) (fun ⟨i, x⟩ => [(900, 157, [.d (tksD l), .d (iv i), .d (iv m3)]), (2, 30, [.d (.v (.int .i64 x.k)), .d (sv x.s), .d (kdX x)])]) (fun ⟨i, x⟩ => []) (fun ⟨i, x⟩ => l.length - i) (fun ⟨i, x⟩ => (n3 ≤ i ∧ i < l.length) ∧ signP l (l.length + 1) ⟨n3, m3⟩ x2 = signP l (l.length + 1 - (i - n3)) ⟨i, m3⟩ x) (n3, x2)
    case h0 =>
     exact ⟨⟨Nat.le_refl _, by assumption⟩, by simp⟩
    case hw =>
     simp only [go_sem, hsh0]
    case body =>
     rintro ⟨i, x⟩ hx ih0
     try simp only at hx
     have hil : i < l.length := hx.1.2
     have hf : 0 < l.length + 1 - (i - n3) := by omega
     apply Exec.norm
     ·simp only [go_sem, hsh0]
      rfl
     refine Exec.block ?_
     refine Exec.block ?_
     refine sq ?_
     apply Exec.regionL te_ok
     ·intro u' Q hQ
      simp only [go_sem, hsh0]
      repeat refine ob2 ?_
      refine kcallM 900 hR.inv te_ok rfl rfl rfl rfl rfl rfl rfl rfl rfl (is_ok _ _ _ _ (by assumption) hk.len) ?_
      simp only [go_sem, hsh0]
      repeat refine ob2 ?_
      exact hQ
     refine Exec.cond_split rfl (fun h1 => ?_) (fun h1 => ?_)
     ·have hz := sign_st (l := l) (s := ⟨i, m3⟩) (x := x) hf
      rw [if_pos h1] at hz
      have hsh1 : isS l [42] ⟨i, m3⟩ = ⟨i + 1, m3⟩ := by rw [isS, if_pos h1]; rfl
      have hnh1 : i + 1 < l.length := is_adv hk (s := ⟨i, m3⟩) (by assumption) h1
      apply Exec.regionL te_ok
      ·intro u' Q hQ
       simp only [go_sem, hsh0, hsh1]
       repeat refine ob2 ?_
       refine kfreeze 16 rfl (by simp only [go_sem, hsh0, hsh1]; rfl) ?_
       refine runL_walk te_ok ?_
       simp only [go_sem, hsh0, hsh1]
       repeat refine ob2 ?_
       exact hQ
      refine Exec.inBlock ?_
      refine Exec.inBlock ?_
      refine Exec.back (ih0 (i + 1, .mk 4 [] [x]) ?_ ?_) ?_ ?_ ?_ ?_ ?_ ?_ ?_
      ·try simp only
       exact ⟨⟨by omega, by omega⟩, by rw [hx.2, hz]; congr 1; omega⟩
      ·try simp only
       omega
      ·rfl
      ·rfl
      ·(simp only [go_sem])
      ·(simp only [go_sem]; exact ⟨rfl, rfl, le_one _ x⟩)
      ·simp only [go_sem]
      ·simp only [go_sem, hsh0, hsh1]
      ·rfl
     ·have hsh1 : isS l [42] ⟨i, m3⟩ = ⟨i, m3⟩ := by rw [isS, if_neg (by rw [h1]; decide)]
      have hbh1 : ¬ (isP l [42] ⟨i, m3⟩ = true) := by rw [h1]; decide
      refine sq ?_
      apply Exec.regionL te_ok
      ·intro u' Q hQ
       simp only [go_sem, hsh0, hsh1]
       repeat refine ob2 ?_
       refine kcallM 900 hR.inv te_ok rfl rfl rfl rfl rfl rfl rfl rfl rfl (is_ok _ _ _ _ (by assumption) hk.len) ?_
       simp only [go_sem, hsh0, hsh1]
       repeat refine ob2 ?_
       exact hQ
      refine Exec.cond_split rfl (fun h2 => ?_) (fun h2 => ?_)
      ·have hz := sign_st (l := l) (s := ⟨i, m3⟩) (x := x) hf
       rw [if_neg hbh1, if_pos h2] at hz
       have hsh2 : isS l [43] ⟨i, m3⟩ = ⟨i + 1, m3⟩ := by rw [isS, if_pos h2]; rfl
       have hnh2 : i + 1 < l.length := is_adv hk (s := ⟨i, m3⟩) (by assumption) h2
       apply Exec.regionL te_ok
       ·intro u' Q hQ
        simp only [go_sem, hsh0, hsh1, hsh2]
        repeat refine ob2 ?_
        refine kfreeze 22 rfl (by simp only [go_sem, hsh0, hsh1, hsh2]; rfl) ?_
        refine runL_walk te_ok ?_
        simp only [go_sem, hsh0, hsh1, hsh2]
        repeat refine ob2 ?_
        exact hQ
       refine Exec.inBlock ?_
       refine Exec.inBlock ?_
       refine Exec.back (ih0 (i + 1, .mk 5 [] [x]) ?_ ?_) ?_ ?_ ?_ ?_ ?_ ?_ ?_
       ·try simp only
        exact ⟨⟨by omega, by omega⟩, by rw [hx.2, hz]; congr 1; omega⟩
       ·try simp only
        omega
       ·rfl
       ·rfl
       ·(simp only [go_sem])
       ·(simp only [go_sem]; exact ⟨rfl, rfl, le_one _ x⟩)
       ·simp only [go_sem]
       ·simp only [go_sem, hsh0, hsh1, hsh2]
       ·rfl
      ·have hsh2 : isS l [43] ⟨i, m3⟩ = ⟨i, m3⟩ := by rw [isS, if_neg (by rw [h2]; decide)]
       have hbh2 : ¬ (isP l [43] ⟨i, m3⟩ = true) := by rw [h2]; decide
       refine sq ?_
       apply Exec.regionL te_ok
       ·intro u' Q hQ
        simp only [go_sem, hsh0, hsh1, hsh2]
        repeat refine ob2 ?_
        refine kcallM 900 hR.inv te_ok rfl rfl rfl rfl rfl rfl rfl rfl rfl (is_ok _ _ _ _ (by assumption) hk.len) ?_
        simp only [go_sem, hsh0, hsh1, hsh2]
        repeat refine ob2 ?_
        exact hQ
       refine Exec.cond_split rfl (fun h3 => ?_) (fun h3 => ?_)
       ·have hz := sign_st (l := l) (s := ⟨i, m3⟩) (x := x) hf
        rw [if_neg hbh1, if_neg hbh2, if_pos h3] at hz
        have hsh3 : isS l [63] ⟨i, m3⟩ = ⟨i + 1, m3⟩ := by rw [isS, if_pos h3]; rfl
        have hnh3 : i + 1 < l.length := is_adv hk (s := ⟨i, m3⟩) (by assumption) h3
        apply Exec.regionL te_ok
        ·intro u' Q hQ
         simp only [go_sem, hsh0, hsh1, hsh2, hsh3]
         repeat refine ob2 ?_
         refine kfreeze 28 rfl (by simp only [go_sem, hsh0, hsh1, hsh2, hsh3]; rfl) ?_
         refine runL_walk te_ok ?_
         simp only [go_sem, hsh0, hsh1, hsh2, hsh3]
         repeat refine ob2 ?_
         exact hQ
        refine Exec.inBlock ?_
        refine Exec.inBlock ?_
        refine Exec.back (ih0 (i + 1, .mk 6 [] [x]) ?_ ?_) ?_ ?_ ?_ ?_ ?_ ?_ ?_
        ·try simp only
         exact ⟨⟨by omega, by omega⟩, by rw [hx.2, hz]; congr 1; omega⟩
        ·try simp only
         omega
        ·rfl
        ·rfl
        ·(simp only [go_sem])
        ·(simp only [go_sem]; exact ⟨rfl, rfl, le_one _ x⟩)
        ·simp only [go_sem]
        ·simp only [go_sem, hsh0, hsh1, hsh2, hsh3]
        ·rfl
       ·have hz := sign_st (l := l) (s := ⟨i, m3⟩) (x := x) hf
        have hsh3 : isS l [63] ⟨i, m3⟩ = ⟨i, m3⟩ := by rw [isS, if_neg (by rw [h3]; decide)]
        have hbh3 : ¬ (isP l [63] ⟨i, m3⟩ = true) := by rw [h3]; decide
        rw [if_neg hbh1, if_neg hbh2, if_neg hbh3] at hz
        refine Exec.exit rfl ?_
        refine sq ?_
        apply Exec.regionL te_ok
        ·intro u' Q hQ
         simp only [go_sem, hsh0, hsh1, hsh2, hsh3]
         repeat refine ob2 ?_
         exact hQ
        refine Exec.retsMu hR te_ok rfl .nil rfl rfl rfl ?_ (.inr ⟨_, rfl⟩)
        refine ⟨_, _, outP_ok (s := ⟨i, m3⟩) (x := x) (by simp only [itemP, PR.bind, h0, if_true, PS.adv, hq2, hq3, hx.2, hz]), ?_⟩
        simp only [go_sem]
   ·refine Exec.regStart 2 rfl ?_
    apply Exec.regPart 0 1 1 te_ok rfl
    ·intro u' Q hQ
     simp only [go_sem, hsh0]
     repeat refine ob2 ?_
     exact hQ
    refine Exec.callP 900 hR.inv rfl rfl rfl rfl rfl rfl rfl rfl rfl (fEr (must_ok l n2 m2 [41] (by assumption) hk.len) hq3) ?_
    refine ExecP.endM hR .nil ?_
    exact ⟨_, outP_err (a := at3) (by simp only [itemP, PR.bind, h0, if_true, PS.adv, hq2, hq3]), by simp only [go_sem]⟩
  ·refine Exec.regStart 3 rfl ?_
   apply Exec.regPart 0 1 2 te_ok rfl
   ·intro u' Q hQ
    simp only [go_sem, hsh0]
    repeat refine ob2 ?_
    exact hQ
   refine Exec.callP 900 hR.inv rfl rfl rfl rfl rfl rfl rfl rfl rfl (fEr (pexpr_ok l (n + 1) m hk (by assumption) (itemP l f) (fun i q h3 h4 => hit i q (by omega) h4) (fun s _ h4 => item_adv hk f s h4)) hq2) ?_
   refine ExecP.endM hR .nil ?_
   exact ⟨_, outP_err (a := at2) (by simp only [itemP, PR.bind, h0, if_true, PS.adv, hq2]), by simp only [go_sem]⟩
 ·have hsh0 : isS l [40] ⟨n, m⟩ = ⟨n, m⟩ := by rw [isS, if_neg (by rw [h0]; decide)]
  have hbh0 : ¬ (isP l [40] ⟨n, m⟩ = true) := by rw [h0]; decide
  rcases hq4 : nameP l ⟨n, m⟩ with ⟨⟨n4, m4⟩, x4⟩ | at4
  ·have ha4 := name_adv hk (s := ⟨n, m⟩) (by assumption) _ _ hq4
   have hn4 : n4 < l.length := ha4.2
   apply Exec.regionL te_ok
   ·intro u' Q hQ
    simp only [go_sem, hsh0]
    repeat refine ob2 ?_
    refine kcallM 900 hR.inv te_ok rfl rfl rfl rfl rfl rfl rfl rfl rfl (fOk (name_ok l n m (by assumption) hk.len (hk.tx _ (by assumption))) hq4) ?_
    simp only [go_sem, hsh0]
    repeat refine ob2 ?_
    exact hQ
   refine sq ?_
   refine Exec.label ?_
   refine sq ?_
   refine Exec.block ?_
   apply Exec.loopU [0, 2] (X := Nat × Ex) (fun ⟨i, x⟩ => []) (fun ⟨i, x⟩ => [(900, 157, [.d (tksD l), .d (iv i), .d (iv m4)]), (2, 30, [.d (.v (.int .i64 x.k)), .d (sv x.s), .d (kdX x)])]) (fun ⟨i, x⟩ => []) (fun ⟨i, x⟩ => l.length - i) (fun ⟨i, x⟩ => (n4 ≤ i ∧ i < l.length) ∧ signP l (l.length + 1) ⟨n4, m4⟩ (.mk 1 x4 []) = signP l (l.length + 1 - (i - n4)) ⟨i, m4⟩ x) (n4, (.mk 1 x4 []))
   case h0 =>
    exact ⟨⟨Nat.le_refl _, by assumption⟩, by simp⟩
   case hw =>
    simp only [go_sem, hsh0]; exact ⟨rfl, rfl, by rw [kd_eq]; exact ⟨rfl, rfl⟩⟩
   case body =>
    rintro ⟨i, x⟩ hx ih1
    try simp only at hx
    have hil : i < l.length := hx.1.2
    have hf : 0 < l.length + 1 - (i - n4) := by omega
    apply Exec.norm
    ·simp only [go_sem, hsh0]
     rfl
    refine Exec.block ?_
    refine Exec.block ?_
    refine sq ?_
    apply Exec.regionL te_ok
    ·intro u' Q hQ
     simp only [go_sem, hsh0]
     repeat refine ob2 ?_
     refine kcallM 900 hR.inv te_ok rfl rfl rfl rfl rfl rfl rfl rfl rfl (is_ok _ _ _ _ (by assumption) hk.len) ?_
     simp only [go_sem, hsh0]
     repeat refine ob2 ?_
     exact hQ
    refine Exec.cond_split rfl (fun h4 => ?_) (fun h4 => ?_)
    ·have hz := sign_st (l := l) (s := ⟨i, m4⟩) (x := x) hf
     rw [if_pos h4] at hz
     have hsh4 : isS l [42] ⟨i, m4⟩ = ⟨i + 1, m4⟩ := by rw [isS, if_pos h4]; rfl
     have hnh4 : i + 1 < l.length := is_adv hk (s := ⟨i, m4⟩) (by assumption) h4
     apply Exec.regionL te_ok
     ·intro u' Q hQ
      simp only [go_sem, hsh0, hsh4]
      repeat refine ob2 ?_
      refine kfreeze 16 rfl (by simp only [go_sem, hsh0, hsh4]; rfl) ?_
      refine runL_walk te_ok ?_
      simp only [go_sem, hsh0, hsh4]
      repeat refine ob2 ?_
      exact hQ
     refine Exec.inBlock ?_
     refine Exec.inBlock ?_
     refine Exec.back (ih1 (i + 1, .mk 4 [] [x]) ?_ ?_) ?_ ?_ ?_ ?_ ?_ ?_ ?_
     ·try simp only
      exact ⟨⟨by omega, by omega⟩, by rw [hx.2, hz]; congr 1; omega⟩
     ·try simp only
      omega
     ·rfl
     ·rfl
     ·(simp only [go_sem])
     ·(simp only [go_sem]; exact ⟨rfl, rfl, le_one _ x⟩)
     ·simp only [go_sem]
     ·simp only [go_sem, hsh0, hsh4]
     ·rfl
    ·have hsh4 : isS l [42] ⟨i, m4⟩ = ⟨i, m4⟩ := by rw [isS, if_neg (by rw [h4]; decide)]
     have hbh4 : ¬ (isP l [42] ⟨i, m4⟩ = true) := by rw [h4]; decide
     refine sq ?_
     apply Exec.regionL te_ok
     ·intro u' Q hQ
      simp only [go_sem, hsh0, hsh4]
      repeat refine ob2 ?_
      refine kcallM 900 hR.inv te_ok rfl rfl rfl rfl rfl rfl rfl rfl rfl (is_ok _ _ _ _ (by assumption) hk.len) ?_
      simp only [go_sem, hsh0, hsh4]
      repeat refine ob2 ?_
      exact hQ
     refine Exec.cond_split rfl (fun h5 => ?_) (fun h5 => ?_)
     ·have hz := sign_st (l := l) (s := ⟨i, m4⟩) (x := x) hf
      rw [if_neg hbh4, if_pos h5] at hz
      have hsh5 : isS l [43] ⟨i, m4⟩ = ⟨i + 1, m4⟩ := by rw [isS, if_pos h5]; rfl
      have hnh5 : i + 1 < l.length := is_adv hk (s := ⟨i, m4⟩) (by assumption) h5
      apply Exec.regionL te_ok
      ·intro u' Q hQ
       simp only [go_sem, hsh0, hsh4, hsh5]
       repeat refine ob2 ?_
       refine kfreeze 22 rfl (by simp only [go_sem, hsh0, hsh4, hsh5]; rfl) ?_
       refine runL_walk te_ok ?_
       simp only [go_sem, hsh0, hsh4, hsh5]
       repeat refine ob2 ?_
       exact hQ
      refine Exec.inBlock ?_
      refine Exec.inBlock ?_
      refine Exec.back (ih1 (i + 1, .mk 5 [] [x]) ?_ ?_) ?_ ?_ ?_ ?_ ?_ ?_ ?_
      ·try simp only
       exact ⟨⟨by omega, by omega⟩, by rw [hx.2, hz]; congr 1; omega⟩
      ·try simp only
       omega
      ·rfl
      ·rfl
      ·(simp only [go_sem])
      ·(simp only [go_sem]; exact ⟨rfl, rfl, le_one _ x⟩)
      ·simp only [go_sem]
      ·simp only [go_sem, hsh0, hsh4, hsh5]
      ·rfl
     ·have hsh5 : isS l [43] ⟨i, m4⟩ = ⟨i, m4⟩ := by rw [isS, if_neg (by rw [h5]; decide)]
      have hbh5 : ¬ (isP l [43] ⟨i, m4⟩ = true) := by rw [h5]; decide
      refine sq ?_
      apply Exec.regionL te_ok
      ·intro u' Q hQ
       simp only [go_sem, hsh0, hsh4, hsh5]
       repeat refine ob2 ?_
       refine kcallM 900 hR.inv te_ok rfl rfl rfl rfl rfl rfl rfl rfl rfl (is_ok _ _ _ _ (by assumption) hk.len) ?_
       simp only [go_sem, hsh0, hsh4, hsh5]
       repeat refine ob2 ?_
       exact hQ
      refine Exec.cond_split rfl (fun h6 => ?_) (fun h6 => ?_)
      ·have hz := sign_st (l := l) (s := ⟨i, m4⟩) (x := x) hf
       rw [if_neg hbh4, if_neg hbh5, if_pos h6] at hz
       have hsh6 : isS l [63] ⟨i, m4⟩ = ⟨i + 1, m4⟩ := by rw [isS, if_pos h6]; rfl
       have hnh6 : i + 1 < l.length := is_adv hk (s := ⟨i, m4⟩) (by assumption) h6
       apply Exec.regionL te_ok
       ·intro u' Q hQ
        simp only [go_sem, hsh0, hsh4, hsh5, hsh6]
        repeat refine ob2 ?_
        refine kfreeze 28 rfl (by simp only [go_sem, hsh0, hsh4, hsh5, hsh6]; rfl) ?_
        refine runL_walk te_ok ?_
        simp only [go_sem, hsh0, hsh4, hsh5, hsh6]
        repeat refine ob2 ?_
        exact hQ
       refine Exec.inBlock ?_
       refine Exec.inBlock ?_
       refine Exec.back (ih1 (i + 1, .mk 6 [] [x]) ?_ ?_) ?_ ?_ ?_ ?_ ?_ ?_ ?_
       ·try simp only
        exact ⟨⟨by omega, by omega⟩, by rw [hx.2, hz]; congr 1; omega⟩
       ·try simp only
        omega
       ·rfl
       ·rfl
       ·(simp only [go_sem])
       ·(simp only [go_sem]; exact ⟨rfl, rfl, le_one _ x⟩)
       ·simp only [go_sem]
       ·simp only [go_sem, hsh0, hsh4, hsh5, hsh6]
       ·rfl
      ·have hz := sign_st (l := l) (s := ⟨i, m4⟩) (x := x) hf
       have hsh6 : isS l [63] ⟨i, m4⟩ = ⟨i, m4⟩ := by rw [isS, if_neg (by rw [h6]; decide)]
       have hbh6 : ¬ (isP l [63] ⟨i, m4⟩ = true) := by rw [h6]; decide
       rw [if_neg hbh4, if_neg hbh5, if_neg hbh6] at hz
       refine Exec.exit rfl ?_
       refine sq ?_
       apply Exec.regionL te_ok
       ·intro u' Q hQ
        simp only [go_sem, hsh0, hsh4, hsh5, hsh6]
        repeat refine ob2 ?_
        exact hQ
       refine Exec.retsMu hR te_ok rfl .nil rfl rfl rfl ?_ (.inr ⟨_, rfl⟩)
       refine ⟨_, _, outP_ok (s := ⟨i, m4⟩) (x := x) (by simp only [itemP, PR.bind, h0, Bool.false_eq_true, if_false, hq4, hx.2, hz]), ?_⟩
       simp only [go_sem]
  ·refine Exec.regStart 4 rfl ?_
   apply Exec.regPart 0 1 3 te_ok rfl
   ·intro u' Q hQ
    simp only [go_sem, hsh0]
    repeat refine ob2 ?_
    exact hQ
   refine Exec.callP 900 hR.inv rfl rfl rfl rfl rfl rfl rfl rfl rfl (fEr (name_ok l n m (by assumption) hk.len (hk.tx _ (by assumption))) hq4) ?_
   refine ExecP.endM hR .nil ?_
   exact ⟨_, outP_err (a := at4) (by simp only [itemP, PR.bind, h0, Bool.false_eq_true, if_false, hq4]), by simp only [go_sem]⟩
theorem pitem_ok {l : List Tk} (hk : TkOk l) : ∀ (f n : Nat) (m : Int), n < l.length → l.length ≤ n + f → FnM Laid Tryz.prog 200 157 [tksD l, iv n, iv m] [.lp 900 0] (outP 152 l exD (itemP l f ⟨n, m⟩))
 | 0, n, m, hn, h => by omega
 | f + 1, n, m, hn, h => pitem_step l n m hk hn f fun i q h1 h2 => pitem_ok hk f i q h2 (by omega)
theorem pexp_ok {l : List Tk} (hk : TkOk l) (n : Nat) (m : Int) (hn : n < l.length) : FnM Laid Tryz.prog 134 157 [tksD l, iv n, iv m] [.lp 900 0] (outP 152 l exD (exP l ⟨n, m⟩)) :=
 pexpr_ok l n m hk hn _ (fun i q _ h => pitem_ok hk _ i q h (by omega)) fun s _ h => item_adv hk _ s h
theorem pwhole_ok (l : List Tk) (n : Nat) (m : Int) (hk : TkOk l) (hn : n < l.length) : FnM Laid Tryz.prog 67 157 [tksD l, iv n, iv m] [.lp 900 0] (outP 152 l exD (wholeP l ⟨n, m⟩)) := by
 refine FnM_of Tryz.func67 Tryz.ntmps67 rfl (by as_aux_lemma => kernel_rfl) (Nat.le_of_ble_eq_true rfl) (fun R b0 hR => ?_)
 obtain ⟨_, b, cs, T, C⟩ := R
 obtain rfl : _ = Tryz.prog := hR.p
 refine sreg te_ok ?_
 refine sq ?_
 apply Exec.regionL te_ok
 ·intro u' Q hQ
  simp only [go_sem]
  repeat refine ob2 ?_
  refine kcallM 900 hR.inv te_ok rfl rfl rfl rfl rfl rfl rfl rfl rfl (token_ok _ _ _ (by assumption)) ?_
  simp only [go_sem]
  repeat refine ob2 ?_
  exact hQ
 refine sq ?_
 rcases hq2 : exP l ⟨n, m⟩ with ⟨⟨n2, m2⟩, x2⟩ | at2
 ·have ha2 := AdvX.adv (exP_adv hk (s := ⟨n, m⟩) hn) _ _ hq2
  have hn2 : n2 < l.length := ha2.2
  have hxs := exP_adv hk (s := ⟨n, m⟩) hn _ _ hq2
  have hx24 : x2.size ≤ 1000000 := by have := hk.few; simp only at hxs; omega
  apply Exec.regionL te_ok
  ·intro u' Q hQ
   simp only [go_sem]
   repeat refine ob2 ?_
   refine kcallM 900 hR.inv te_ok rfl rfl rfl rfl rfl rfl rfl rfl rfl (fOk (pexp_ok hk n m hn) hq2) ?_
   simp only [go_sem]
   repeat refine ob2 ?_
   exact hQ
  refine sq ?_
  apply Exec.regionL te_ok
  ·intro u' Q hQ
   simp only [go_sem]
   repeat refine ob2 ?_
   refine kcall hR.inv te_ok rfl rfl rfl rfl rfl rfl (xsize_ok _ hx24) ?_
   simp only [go_sem]
   repeat refine ob2 ?_
   refine kcallM 900 hR.inv te_ok rfl rfl rfl rfl rfl rfl rfl rfl rfl (limit_ok _ _ _ _ _) ?_
   simp only [go_sem]
   repeat refine ob2 ?_
   exact hQ
  refine sreg te_ok ?_
  refine Exec.retsMu hR te_ok rfl .nil rfl rfl rfl ?_ (.inr ⟨_, rfl⟩)
  refine ⟨_, _, outP_ok (s := limS (decide (24 < x2.size)) (nth l n).a ⟨n2, m2⟩) (x := x2) (by simp only [wholeP, PR.bind, hq2]), ?_⟩
  have hd24 : decide ((24 : Int) < (x2.size : Int)) = decide (24 < x2.size) := decide_eq_decide.2 (by omega)
  simp only [go_sem, limS_n, hd24]
 ·refine Exec.regStart 4 rfl ?_
  apply Exec.regPart 0 1 3 te_ok rfl
  ·intro u' Q hQ
   simp only [go_sem]
   repeat refine ob2 ?_
   exact hQ
  refine Exec.callP 900 hR.inv rfl rfl rfl rfl rfl rfl rfl rfl rfl (fEr (pexp_ok hk n m hn) hq2) ?_
  refine ExecP.endM hR .nil ?_
  exact ⟨_, outP_err (a := at2) (by simp only [wholeP, PR.bind, hq2]), by simp only [go_sem]⟩
end Go.Proofs.YtonchjamoblioaaGreatDoor
namespace Go.Proofs.YtonchjamoblioaaGreatDoor
open Go.Kin
set_option maxRecDepth 100000
set_option maxHeartbeats 0
section
variable {α : Type} {l : List Tk} {rd : PS → PR α} {w : List UInt8} {mx : Nat}
theorem many_end {f : Nat} {s s1 : PS} {x : α} {acc : List α} (hf : 0 < f) (hr : rd (limS (decide (acc.length = mx)) (nth l s.n).a s) = .ok s1 x) (hi : isP l w s1 = false) : manyP l rd w mx f s acc = .ok s1 (acc ++ [x]) := by
 obtain ⟨g, rfl⟩ : ∃ g, f = g + 1 := ⟨f - 1, by omega⟩
 simp only [manyP, hr, PR.bind, hi]; rfl
theorem many_on {f : Nat} {s s1 : PS} {x : α} {acc : List α} (hf : 0 < f) (hr : rd (limS (decide (acc.length = mx)) (nth l s.n).a s) = .ok s1 x) (hi : isP l w s1 = true) : manyP l rd w mx f s acc = manyP l rd w mx (f - 1) s1.adv (acc ++ [x]) := by
 obtain ⟨g, rfl⟩ : ∃ g, f = g + 1 := ⟨f - 1, by omega⟩
 simp only [manyP, hr, PR.bind, hi, if_true, Nat.add_sub_cancel]
theorem many_err {f : Nat} {s : PS} {a : Int} {acc : List α} (hf : 0 < f) (hr : rd (limS (decide (acc.length = mx)) (nth l s.n).a s) = .err a) : manyP l rd w mx f s acc = .err a := by
 obtain ⟨g, rfl⟩ : ∃ g, f = g + 1 := ⟨f - 1, by omega⟩
 simp only [manyP, hr, PR.bind]
end
theorem pat_adv {l : List Tk} (hk : TkOk l) {s : PS} (hn : s.n < l.length) : AdvP l s (patP l s) := by
 intro s9 x h
 obtain ⟨s1, _, h1, h⟩ := bind_ok h
 have a1 := vertex_adv hk hn _ _ h1
 split at h
 ·rename_i hp
  have a2 := is_adv hk a1.2 hp
  obtain ⟨s2, _, h2, h⟩ := bind_ok h
  have a3 := (whole_adv hk (s := s1.adv) a2 _ _ h2).1
  obtain ⟨s3, _, h3, h⟩ := bind_ok h
  have a4 := must_adv hk a3.2 _ _ h3
  obtain ⟨s4, _, h4, h⟩ := bind_ok h
  have a5 := vertex_adv hk a4.2 _ _ h4
  cases h
  simp [PS.adv] at a3; exact ⟨by omega, a5.2⟩
 ·obtain ⟨s2, _, h2, h⟩ := bind_ok h
  have a2 := must_adv hk a1.2 _ _ h2
  obtain ⟨s3, _, h3, h⟩ := bind_ok h
  have a3 := name_adv hk a2.2 _ _ h3
  split at h
  ·rename_i hp
   have a4 := is_adv hk a3.2 hp
   obtain ⟨s4, _, h4, h⟩ := bind_ok h
   have a5 := name_adv hk (s := s3.adv) a4 _ _ h4
   obtain ⟨s5, _, h5, h⟩ := bind_ok h
   have a6 := must_adv hk a5.2 _ _ h5
   obtain ⟨s6, _, h6, h⟩ := bind_ok h
   have a7 := vertex_adv hk a6.2 _ _ h6
   cases h
   simp [PS.adv] at a5; exact ⟨by omega, a7.2⟩
  ·obtain ⟨s5, _, h5, h⟩ := bind_ok h
   have a6 := must_adv hk a3.2 _ _ h5
   obtain ⟨s6, _, h6, h⟩ := bind_ok h
   have a7 := vertex_adv hk a6.2 _ _ h6
   cases h
   exact ⟨by omega, a7.2⟩
theorem ppat_ok (l : List Tk) (n : Nat) (m : Int) (hk : TkOk l) (hn : n < l.length) : FnM Laid Tryz.prog 128 157 [tksD l, iv n, iv m] [.lp 900 0] (outP 152 l (fun p => .ag (ptC p)) (patP l ⟨n, m⟩)) :=
 ppattern_ok (pwhole_ok := pwhole_ok) (whole_adv := fun {_} hk {_} hn => (whole_adv hk hn).adv) l n m hk hn
theorem lim_eta (b : Bool) (a : Int) (n : Nat) (m : Int) : limS b a ⟨n, m⟩ = ⟨n, (limS b a ⟨n, m⟩).m⟩ := by
 have := limS_n b a ⟨n, m⟩
 cases h : limS b a ⟨n, m⟩; rw [h] at this; simp only at this; rw [this]
end Go.Proofs.YtonchjamoblioaaGreatDoor
namespace Go.Proofs.YtonchjamoblioaaGreatDoor
open Go.Kin
/-! ### what is shown, as tokens: parsed, it is the same -/
abbrev Pc := Bool × Tk
def wd (w : List UInt8) : Tk := ⟨1, w, 0, v0⟩
def sg (w : List UInt8) : Tk := ⟨4, w, 0, v0⟩
def At (l : List Tk) : Nat → List Pc → Prop
 | _, [] => True
 | n, p :: r => ((nth l n).k = p.2.k ∧ (nth l n).t = p.2.t ∧ (nth l n).v = p.2.v) ∧ At l (n + 1) r
theorem At_app {l : List Tk} : ∀ (x y : List Pc) (n : Nat), At l n (x ++ y) ↔ At l n x ∧ At l (n + x.length) y
 | [], y, n => by simp [At]
 | p :: x, y, n => by
  simp only [List.cons_append, At, At_app x y (n + 1), List.length_cons, and_assoc]
  rw [show n + 1 + x.length = n + (x.length + 1) by omega]
theorem tk_out {l : List Tk} {n : Nat} (h : (nth l n).k ≠ 0) : n < l.length := by
 rcases Nat.lt_or_ge n l.length with h1 | h1
 ·exact h1
 ·have : nth l n = default := by simp [nth, List.getD_eq_getElem?_getD, List.getElem?_eq_none h1]
  rw [this] at h; exact absurd rfl h
def isN (l : List Tk) (w : List UInt8) (n : Nat) : Bool := isP l w ⟨n, 0⟩
theorem isP_N {l : List Tk} {w : List UInt8} {s : PS} : isP l w s = isN l w s.n := rfl
def Stp (l : List Tk) (n : Nat) (S : List (List UInt8)) : Prop := ∀ w ∈ S, isN l w n = false
section
variable {l : List Tk} {n : Nat} {m : Int} {g : Bool} {r : List Pc} {w : List UInt8}
theorem at_sg (h : At l n ((g, sg w) :: r)) (v : List UInt8) : isN l v n = (w == v) := by
 unfold isN isP; rw [h.1.1, h.1.2.1]; rfl
theorem at_wd (h : At l n ((g, wd w) :: r)) (v : List UInt8) : isN l v n = (w == v) := by
 unfold isN isP; rw [h.1.1, h.1.2.1]; rfl
theorem at_sgL (h : At l n ((g, sg w) :: r)) : n < l.length := tk_out (by rw [h.1.1]; simp [sg, wd])
theorem at_wdL (h : At l n ((g, wd w) :: r)) : n < l.length := tk_out (by rw [h.1.1]; simp [sg, wd])
theorem must_yes (h : isN l w n = true) : mustP l w ⟨n, m⟩ = .ok ⟨n + 1, m⟩ () := by unfold mustP; rw [isP_N]; rw [if_pos h]; rfl
theorem name_yes (h : At l n ((g, wd w) :: r)) (hw : freeB w = true) : nameP l ⟨n, m⟩ = .ok ⟨n + 1, m⟩ w := by
 have e : nameB l ⟨n, m⟩ = true := by unfold nameB; simp only; rw [h.1.1, h.1.2.1]; simp [wd, hw]
 unfold nameP; rw [if_pos e]; simp only; rw [h.1.2.1]; rfl
theorem free_no {s : List UInt8} (h : freeB s = true) {v : List UInt8} (hv : freeB v = false) : (s == v) = false := by
 rw [beq_eq_false_iff_ne]; rintro rfl; rw [h] at hv; cases hv
end
def grpPc (pk k : Int) (ps : List Pc) : List Pc := if k = 3 ∨ (k = 2 ∧ ¬ pk = 3) then (false, sg [40]) :: (ps ++ [(false, sg [41])]) else ps
def joinPc (p : Pc) : List (List Pc) → List Pc
 | [] => []
 | x :: r => x ++ (match r with | [] => [] | _ :: _ => p :: joinPc p r)
mutual
def exPc : Ex → List Pc
 | .mk k s ks => if k = 1 then [(false, wd s)] else if k = 2 then joinPc (false, sg [46]) (exPcs k ks) else if k = 3 then joinPc (false, sg [124]) (exPcs k ks) else nth (exPcs k ks) 0 ++ [(false, sg [sgn k])]
def exPcs (pk : Int) : List Ex → List (List Pc)
 | [] => []
 | y :: r => grpPc pk y.k (exPc y) :: exPcs pk r
end
theorem exPcs_map (pk : Int) : ∀ l : List Ex, exPcs pk l = l.map fun y => grpPc pk y.k (exPc y)
 | [] => by simp [exPcs]
 | y :: r => by simp [exPcs, exPcs_map pk r]
theorem exPc_eq (x : Ex) : exPc x = if x.k = 1 then [(false, wd x.s)] else if x.k = 2 then joinPc (false, sg [46]) (exPcs x.k x.kids) else if x.k = 3 then joinPc (false, sg [124]) (exPcs x.k x.kids) else nth (exPcs x.k x.kids) 0 ++ [(false, sg [sgn x.k])] := by
 cases x; simp only [exPc, Ex.k, Ex.s, Ex.kids]; rfl
def sS : List (List UInt8) := [[42], [43], [63]]
def sR : List (List UInt8) := [46] :: sS
def sE : List (List UInt8) := [124] :: sR
section
variable {l : List Tk}
theorem Stp.sub {n : Nat} {S T : List (List UInt8)} (h : Stp l n T) (hs : ∀ w ∈ S, w ∈ T) : Stp l n S := fun w hw => h w (hs w hw)
theorem sign_stop {n : Nat} {m : Int} {x : Ex} (h : Stp l n sS) : ∀ F : Nat, signP l F ⟨n, m⟩ x = .ok ⟨n, m⟩ x
 | 0 => rfl
 | F + 1 => by
  unfold signP
  simp only [isP_N, h [42] (by simp [sS]), h [43] (by simp [sS]), h [63] (by simp [sS]), Bool.false_eq_true, if_false]
theorem sign_go {n : Nat} {m : Int} {y : Ex} {k : Int} (hk : k = 4 ∨ k = 5 ∨ k = 6) {g : Bool} {r : List Pc} (h : At l n ((g, sg [sgn k]) :: r)) {F : Nat} (hF : 0 < F) : signP l F ⟨n, m⟩ y = signP l (F - 1) ⟨n + 1, m⟩ (.mk k [] [y]) := by
 obtain ⟨F, rfl⟩ : ∃ q, F = q + 1 := ⟨F - 1, by omega⟩
 have h1 := at_sg h [42]
 have h2 := at_sg h [43]
 have h3 := at_sg h [63]
 conv => lhs; unfold signP
 simp only [isP_N, h1, h2, h3, Nat.add_sub_cancel]
 rcases hk with rfl | rfl | rfl
 ·rw [if_pos (by decide)]; rfl
 ·rw [if_neg (by decide), if_pos (by decide)]; rfl
 ·rw [if_neg (by decide), if_neg (by decide), if_pos (by decide)]; rfl
theorem sep_at {α : Type} {rd : PS → PR α} {w : List UInt8} {p : Pc} (hp : p.2 = sg w ∨ p.2 = wd w) {S : List (List UInt8)} {n0 : Nat} (pc : α → List Pc) (hw : ∀ v ∈ S, (w == v) = false) : ∀ (ks : List α) (n : Nat) (m : Int) (F : Nat) (acc : List α), ks ≠ [] → n0 ≤ n → l.length - n < F →
  (∀ y ∈ ks, ∀ (n : Nat) (m : Int), n0 ≤ n → At l n (pc y) → Stp l (n + (pc y).length) S → rd ⟨n, m⟩ = .ok ⟨n + (pc y).length, m⟩ y) → At l n (joinPc p (ks.map pc)) → Stp l (n + (joinPc p (ks.map pc)).length) (w :: S) →
  sepP l rd w F ⟨n, m⟩ acc = .ok ⟨n + (joinPc p (ks.map pc)).length, m⟩ (acc ++ ks)
 | [], _, _, _, _, h, _, _, _, _, _ => absurd rfl h
 | [y], n, m, F, acc, _, h0, hF, hr, ha, hs => by
  simp only [List.map, joinPc, List.append_nil] at ha hs ⊢
  exact sep_end (by omega) (hr y List.mem_cons_self n m h0 ha (hs.sub fun v hv => List.mem_cons_of_mem _ hv)) (by rw [isP_N]; exact hs w List.mem_cons_self)
 | y :: z :: r, n, m, F, acc, _, h0, hF, hr, ha, hs => by
  have e : joinPc p ((y :: z :: r).map pc) = pc y ++ p :: joinPc p ((z :: r).map pc) := rfl
  rw [e] at ha hs ⊢
  obtain ⟨ha1, ha2⟩ := (At_app _ _ _).1 ha
  have hq : ∀ v, isN l v (n + (pc y).length) = (w == v) := fun v => by
   rcases hp with hp | hp
   ·exact at_sg (g := p.1) (w := w) (r := joinPc p ((z :: r).map pc)) (by rw [← hp]; exact ha2) v
   ·exact at_wd (g := p.1) (w := w) (r := joinPc p ((z :: r).map pc)) (by rw [← hp]; exact ha2) v
  have hl : n + (pc y).length < l.length := by
   rcases hp with hp | hp
   ·exact at_sgL (g := p.1) (w := w) (r := joinPc p ((z :: r).map pc)) (by rw [← hp]; exact ha2)
   ·exact at_wdL (g := p.1) (w := w) (r := joinPc p ((z :: r).map pc)) (by rw [← hp]; exact ha2)
  rw [sep_on (by omega) (hr y List.mem_cons_self n m h0 ha1 fun v hv => by rw [hq]; exact hw v hv) (by rw [isP_N]; simp only; rw [hq]; simp)]
  have el : n + (pc y ++ p :: joinPc p ((z :: r).map pc)).length = n + (pc y).length + 1 + (joinPc p ((z :: r).map pc)).length := by simp; omega
  rw [el] at hs ⊢
  have := sep_at hp pc hw (z :: r) (n + (pc y).length + 1) m (F - 1) (acc ++ [y]) (by simp) (by omega) (by omega) (fun q hq => hr q (List.mem_cons_of_mem _ hq)) ha2.2 hs
  show sepP l rd w (F - 1) ⟨n + (pc y).length + 1, m⟩ (acc ++ [y]) = _
  rw [this]; simp
/-- how an expression is parsed, behind which stands what ends it -/
structure PC (l : List Tk) (x : Ex) : Prop where
 i : ∀ (n : Nat) (m : Int) (f : Nat), l.length - n < f → At l n (grpPc 2 x.k (exPc x)) → ∃ F, l.length - (n + (grpPc 2 x.k (exPc x)).length) < F ∧ itemP l f ⟨n, m⟩ = signP l F ⟨n + (grpPc 2 x.k (exPc x)).length, m⟩ x
 r : ∀ (n : Nat) (m : Int) (f : Nat), l.length - n < f → At l n (grpPc 3 x.k (exPc x)) → Stp l (n + (grpPc 3 x.k (exPc x)).length) sR → rowP l (itemP l f) ⟨n, m⟩ = .ok ⟨n + (grpPc 3 x.k (exPc x)).length, m⟩ x
 e : ∀ (n : Nat) (m : Int) (f : Nat), l.length - n < f → At l n (exPc x) → Stp l (n + (exPc x).length) sE → exprP l (itemP l f) ⟨n, m⟩ = .ok ⟨n + (exPc x).length, m⟩ x
abbrev Ri (l : List Tk) (x : Ex) : Prop := ∀ (n : Nat) (m : Int) (f : Nat), l.length - n < f → At l n (grpPc 3 x.k (exPc x)) → Stp l (n + (grpPc 3 x.k (exPc x)).length) sR → rowP l (itemP l f) ⟨n, m⟩ = .ok ⟨n + (grpPc 3 x.k (exPc x)).length, m⟩ x
abbrev It (l : List Tk) (x : Ex) : Prop := ∀ (n : Nat) (m : Int) (f : Nat), l.length - n < f → At l n (grpPc 2 x.k (exPc x)) → ∃ F, l.length - (n + (grpPc 2 x.k (exPc x)).length) < F ∧ itemP l f ⟨n, m⟩ = signP l F ⟨n + (grpPc 2 x.k (exPc x)).length, m⟩ x
abbrev Ep (l : List Tk) (x : Ex) : Prop := ∀ (n : Nat) (m : Int) (f : Nat), l.length - n < f → At l n (exPc x) → Stp l (n + (exPc x).length) sE → exprP l (itemP l f) ⟨n, m⟩ = .ok ⟨n + (exPc x).length, m⟩ x
theorem It.one {x : Ex} (h : It l x) {n : Nat} {m : Int} {f : Nat} (hf : l.length - n < f) (ha : At l n (grpPc 2 x.k (exPc x))) (hs : Stp l (n + (grpPc 2 x.k (exPc x)).length) sS) : itemP l f ⟨n, m⟩ = .ok ⟨n + (grpPc 2 x.k (exPc x)).length, m⟩ x := by
 obtain ⟨F, _, e⟩ := h n m f hf ha
 rw [e, sign_stop hs]
/-- a part that is one item is a row of it -/
theorem It.row {x : Ex} (h : It l x) (hk : x.k ≠ 2) : Ri l x := by
 intro n m f hf ha hs
 have e : grpPc 3 x.k (exPc x) = grpPc 2 x.k (exPc x) := by unfold grpPc; simp [hk]
 rw [e] at ha hs ⊢
 unfold rowP joinP
 have := sep_at (l := l) (rd := itemP l f) (w := [46]) (p := (false, sg [46])) (.inl rfl) (S := sS) (n0 := n) (fun y : Ex => grpPc 2 y.k (exPc y)) (by decide) [x] n m (l.length + 1) [] (by simp) (Nat.le_refl _) (by omega) (fun y hy n1 m1 h1 h2 h3 => by
  obtain rfl : y = x := by simpa using hy
  exact h.one (by omega) h2 h3) (by simp only [List.map, joinPc, List.append_nil]; exact ha) (by simp only [List.map, joinPc, List.append_nil]; exact hs)
 rw [this]
 simp [PR.bind, joinPc, oneEx, nth]
/-- what is no choice is an expression by itself -/
theorem Ri.exp {x : Ex} (h : Ri l x) (hk : x.k ≠ 3) : Ep l x := by
 intro n m f hf ha hs
 have e : grpPc 3 x.k (exPc x) = exPc x := by unfold grpPc; simp [hk]
 unfold exprP joinP
 have := sep_at (l := l) (rd := rowP l (itemP l f)) (w := [124]) (p := (false, sg [124])) (.inl rfl) (S := sR) (n0 := n) (fun y : Ex => exPc y) (by decide) [x] n m (l.length + 1) [] (by simp) (Nat.le_refl _) (by omega) (fun y hy n1 m1 h1 h2 h3 => by
  obtain rfl : y = x := by simpa using hy
  have := h n1 m1 f (by omega) (by rw [e]; exact h2) (by rw [e]; exact h3)
  rw [e] at this; exact this) (by simp only [List.map, joinPc, List.append_nil]; exact ha) (by simp only [List.map, joinPc, List.append_nil]; exact hs)
 rw [this]
 simp [PR.bind, joinPc, oneEx, nth]
/-- in brackets it is an item -/
theorem Ep.item {x : Ex} (h : Ep l x) (hk : x.k = 2 ∨ x.k = 3) : It l x := by
 intro n m f hf ha
 have e : ∀ ps, grpPc 2 x.k ps = (false, sg [40]) :: (ps ++ [(false, sg [41])]) := fun ps => by unfold grpPc; rw [if_pos (by omega)]
 rw [e] at ha ⊢
 have hl := at_sgL ha
 obtain ⟨f, rfl⟩ : ∃ q, f = q + 1 := ⟨f - 1, by omega⟩
 obtain ⟨h1, h2⟩ := (At_app _ _ _).1 ha.2
 have h3 := at_sg h2
 have hl2 := at_sgL h2
 have e2 := h (n + 1) m f (by omega) h1 (fun v hv => by rw [h3]; exact (show ∀ v ∈ sE, (([41] : List UInt8) == v) = false by decide) v hv)
 refine ⟨l.length + 1, by omega, ?_⟩
 unfold itemP
 rw [if_pos (by rw [isP_N]; exact at_sg ha [40])]
 show ((exprP l (itemP l f) ⟨n + 1, m⟩).bind _) = _
 rw [e2]
 simp only [PR.bind]
 rw [must_yes (by rw [h3]; rfl)]
 simp only [PR.bind]
 congr 2
 simp; omega
theorem kid_mem {x : Ex} (h : exOk x = true) : ∀ y ∈ x.kids, exOk y = true := exOk_kids h
theorem pc_ok : ∀ x : Ex, exOk x = true → PC l x := fun x => by
 refine Ex.ind (p := fun x => exOk x = true → PC l x) (fun x ih h => ?_) x
 by_cases h1 : x.k = 1
 ·have h' := h
  rw [partR_1 h1, Bool.and_eq_true] at h'
  have hk : x.kids = [] := by simpa using h'.2
  have ex : x = .mk 1 x.s [] := by rw [← h1, ← hk]; exact x.eta
  have e : exPc x = [(false, wd x.s)] := by rw [exPc_eq, if_pos h1]
  have e2 : grpPc 2 x.k (exPc x) = exPc x := by unfold grpPc; rw [if_neg (by omega)]
  have hi : It l x := by
   intro n m f hf ha
   rw [e2, e] at ha ⊢
   have hl := at_wdL ha
   obtain ⟨f, rfl⟩ : ∃ q, f = q + 1 := ⟨f - 1, by omega⟩
   refine ⟨l.length + 1, by omega, ?_⟩
   unfold itemP
   rw [if_neg (by rw [isP_N, at_wd ha [40], free_no h'.1 (by decide)]; decide), name_yes ha h'.1]
   simp only [PR.bind]
   rw [← ex]; rfl
  have hr := It.row hi (by omega)
  exact ⟨hi, hr, Ri.exp hr (by omega)⟩
 ·by_cases h4 : x.k = 4 ∨ x.k = 5 ∨ x.k = 6
  ·have h' := h
   rw [partR_4 h4] at h'
   simp only [Bool.and_eq_true, beq_iff_eq] at h'
   obtain ⟨y, hy⟩ : ∃ y, x.kids = [y] := List.length_eq_one_iff.1 h'.1
   have ex : x = .mk x.k [] [y] := by rw [← h'.2.1, ← hy]; exact x.eta
   have py := ih y (by rw [hy]; simp) (kid_mem h y (by rw [hy]; simp))
   have e : exPc x = grpPc 2 y.k (exPc y) ++ [(false, sg [sgn x.k])] := by
    rw [exPc_eq, if_neg h1, if_neg (by omega), if_neg (by omega), exPcs_map, hy]
    show grpPc x.k y.k (exPc y) ++ _ = _
    congr 1
    unfold grpPc
    have : ¬ x.k = 3 := by omega
    simp [this]
   have e2 : grpPc 2 x.k (exPc x) = exPc x := by unfold grpPc; rw [if_neg (by omega)]
   have hi : It l x := by
    intro n m f hf ha
    rw [e2, e] at ha ⊢
    obtain ⟨ha1, ha2⟩ := (At_app _ _ _).1 ha
    obtain ⟨F, hF, e3⟩ := py.i n m f hf ha1
    have hl := at_sgL ha2
    rw [e3, sign_go h4 ha2 (by omega), ← ex]
    refine ⟨F - 1, by simp; omega, ?_⟩
    simp [Nat.add_assoc]
   have hr := It.row hi (by omega)
   exact ⟨hi, hr, Ri.exp hr (by omega)⟩
  ·by_cases h2 : x.k = 2
   ·have h' := h
    rw [partR_2 (.inl h2)] at h'
    simp only [Bool.and_eq_true, beq_iff_eq, decide_eq_true_eq] at h'
    have ex : x = .mk 2 [] x.kids := by rw [← h'.2.1, ← h2]; exact x.eta
    have e : exPc x = joinPc (false, sg [46]) (x.kids.map fun y => grpPc 2 y.k (exPc y)) := by rw [exPc_eq, if_neg h1, if_pos h2, exPcs_map, h2]
    have e3 : grpPc 3 x.k (exPc x) = exPc x := by unfold grpPc; rw [if_neg (by omega)]
    have hne : x.kids ≠ [] := by intro e; rw [e] at h'; simp at h'
    have hr : Ri l x := by
     intro n m f hf ha hs
     rw [e3, e] at ha hs ⊢
     unfold rowP joinP
     have := sep_at (l := l) (rd := itemP l f) (w := [46]) (p := (false, sg [46])) (.inl rfl) (S := sS) (n0 := n) (fun y : Ex => grpPc 2 y.k (exPc y)) (by decide) x.kids n m (l.length + 1) [] hne (Nat.le_refl _) (by omega) (fun y hy n1 m1 h1 h2 h3 => It.one (ih y hy (kid_mem h y hy)).i (by omega) h2 h3) ha hs
     rw [this]
     simp only [PR.bind, List.nil_append]
     unfold oneEx
     rw [if_neg (by omega), ← ex]
    have he := Ri.exp hr (by omega)
    exact ⟨Ep.item he (.inl h2), hr, he⟩
   ·by_cases h3 : x.k = 3
    ·have h' := h
     rw [partR_2 (.inr h3)] at h'
     simp only [Bool.and_eq_true, beq_iff_eq, decide_eq_true_eq] at h'
     have ex : x = .mk 3 [] x.kids := by rw [← h'.2.1, ← h3]; exact x.eta
     have e : exPc x = joinPc (false, sg [124]) (x.kids.map fun y => grpPc 3 y.k (exPc y)) := by rw [exPc_eq, if_neg h1, if_neg h2, if_pos h3, exPcs_map, h3]
     have hne : x.kids ≠ [] := by intro e; rw [e] at h'; simp at h'
     have he : Ep l x := by
      intro n m f hf ha hs
      rw [e] at ha hs ⊢
      unfold exprP joinP
      have := sep_at (l := l) (rd := rowP l (itemP l f)) (w := [124]) (p := (false, sg [124])) (.inl rfl) (S := sR) (n0 := n) (fun y : Ex => grpPc 3 y.k (exPc y)) (by decide) x.kids n m (l.length + 1) [] hne (Nat.le_refl _) (by omega) (fun y hy n1 m1 h1 h2 h3 => (ih y hy (kid_mem h y hy)).r n1 m1 f (by omega) h2 h3) ha hs
      rw [this]
      simp only [PR.bind, List.nil_append]
      unfold oneEx
      rw [if_neg (by omega), ← ex]
     have hi := Ep.item he (.inr h3)
     exact ⟨hi, It.row hi h2, he⟩
    ·rw [partR_0 h1 (by omega) h4] at h; cases h
theorem whole_at {x : Ex} (h : exRight x = true) {n : Nat} {m : Int} (ha : At l n (exPc x)) (hs : Stp l (n + (exPc x).length) sE) : wholeP l ⟨n, m⟩ = .ok ⟨n + (exPc x).length, m⟩ x := by
 unfold exRight at h
 rw [Bool.and_eq_true] at h
 have h1 := of_decide_eq_true h.1
 unfold wholeP exP
 rw [(pc_ok x h.2).e n m _ (by omega) ha hs]
 simp only [PR.bind]
 rw [decide_eq_false (by omega)]; rfl
end
end Go.Proofs.YtonchjamoblioaaGreatDoor
