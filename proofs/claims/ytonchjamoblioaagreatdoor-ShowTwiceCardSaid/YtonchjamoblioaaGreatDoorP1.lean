/- Steps of a function body on data, and contracts of the functions of the seat, walked. -/
import Derived.Test.YtonchjamoblioaaGreatDoorP0
set_option linter.unusedSimpArgs false
set_option linter.unusedVariables false
set_option linter.unusedSectionVars false
namespace Go.Proofs.YtonchjamoblioaaGreatDoor
open Go.Kin
set_option maxRecDepth 100000
set_option maxHeartbeats 0
attribute [go_sem] opC cdC ptC exC te_45 te_46 te_47 te_49 te_51 te_53 te_56 te_174
theorem pvertex_ok (l : List Tk) (n : Nat) (m : Int) (hk : TkOk l) (hn : n < l.length) : FnM Laid Tryz.prog 167 157 [tksD l, iv n, iv m] [.lp 900 0] (outP 152 l sv (vertexP l ⟨n, m⟩)) := by
 refine FnM_of Tryz.func167 Tryz.ntmps167 rfl (by as_aux_lemma => kernel_rfl) (Nat.le_of_ble_eq_true rfl) (fun R b0 hR => ?_)
 obtain ⟨_, b, cs, T, C⟩ := R
 obtain rfl : _ = Tryz.prog := hR.p
 refine sreg te_ok ?_
 refine sq ?_
 rcases hq1 : mustP l [40] ⟨n, m⟩ with ⟨⟨n1, m1⟩, x1⟩ | at1
 ·have ha1 := must_adv hk (s := ⟨n, m⟩) (by assumption) _ _ hq1
  have hn1 : n1 < l.length := ha1.2
  apply Exec.regionL te_ok
  ·intro u' Q hQ
   simp only [go_sem]
   repeat refine ob2 ?_
   refine kcallM 900 hR.inv te_ok rfl rfl rfl rfl rfl rfl rfl rfl rfl (fOk (must_ok l n m [40] (by assumption) hk.len) hq1) ?_
   simp only [go_sem]
   repeat refine ob2 ?_
   exact hQ
  refine sq ?_
  rcases hq2 : nameP l ⟨n1, m1⟩ with ⟨⟨n2, m2⟩, x2⟩ | at2
  ·have ha2 := name_adv hk (s := ⟨n1, m1⟩) (by assumption) _ _ hq2
   have hn2 : n2 < l.length := ha2.2
   apply Exec.regionL te_ok
   ·intro u' Q hQ
    simp only [go_sem]
    repeat refine ob2 ?_
    refine kcallM 900 hR.inv te_ok rfl rfl rfl rfl rfl rfl rfl rfl rfl (fOk (name_ok l n1 m1 (by assumption) hk.len (hk.tx _ (by assumption))) hq2) ?_
    simp only [go_sem]
    repeat refine ob2 ?_
    exact hQ
   refine sq ?_
   rcases hq3 : mustP l [41] ⟨n2, m2⟩ with ⟨⟨n3, m3⟩, x3⟩ | at3
   ·have ha3 := must_adv hk (s := ⟨n2, m2⟩) (by assumption) _ _ hq3
    have hn3 : n3 < l.length := ha3.2
    apply Exec.regionL te_ok
    ·intro u' Q hQ
     simp only [go_sem]
     repeat refine ob2 ?_
     refine kcallM 900 hR.inv te_ok rfl rfl rfl rfl rfl rfl rfl rfl rfl (fOk (must_ok l n2 m2 [41] (by assumption) hk.len) hq3) ?_
     simp only [go_sem]
     repeat refine ob2 ?_
     exact hQ
    refine sreg te_ok ?_
    refine Exec.retsMu hR te_ok rfl .nil rfl rfl rfl ?_ (.inr ⟨_, rfl⟩)
    refine ⟨_, _, outP_ok (by simp only [vertexP, PR.bind, hq1, hq2, hq3]; rfl), ?_⟩
    simp only [go_sem]
   ·refine Exec.regStart 2 rfl ?_
    apply Exec.regPart 0 1 1 te_ok rfl
    ·intro u' Q hQ
     simp only [go_sem]
     repeat refine ob2 ?_
     exact hQ
    refine Exec.callP 900 hR.inv rfl rfl rfl rfl rfl rfl rfl rfl rfl (fEr (must_ok l n2 m2 [41] (by assumption) hk.len) hq3) ?_
    refine ExecP.endM hR .nil ?_
    exact ⟨_, outP_err (a := at3) (by simp only [vertexP, PR.bind, hq1, hq2, hq3]), by simp only [go_sem]⟩
  ·refine Exec.regStart 3 rfl ?_
   apply Exec.regPart 0 1 2 te_ok rfl
   ·intro u' Q hQ
    simp only [go_sem]
    repeat refine ob2 ?_
    exact hQ
   refine Exec.callP 900 hR.inv rfl rfl rfl rfl rfl rfl rfl rfl rfl (fEr (name_ok l n1 m1 (by assumption) hk.len (hk.tx _ (by assumption))) hq2) ?_
   refine ExecP.endM hR .nil ?_
   exact ⟨_, outP_err (a := at2) (by simp only [vertexP, PR.bind, hq1, hq2]), by simp only [go_sem]⟩
 ·refine Exec.regStart 2 rfl ?_
  apply Exec.regPart 0 1 1 te_ok rfl
  ·intro u' Q hQ
   simp only [go_sem]
   repeat refine ob2 ?_
   exact hQ
  refine Exec.callP 900 hR.inv rfl rfl rfl rfl rfl rfl rfl rfl rfl (fEr (must_ok l n m [40] (by assumption) hk.len) hq1) ?_
  refine ExecP.endM hR .nil ?_
  exact ⟨_, outP_err (a := at1) (by simp only [vertexP, PR.bind, hq1]), by simp only [go_sem]⟩
theorem bind_ok {α β : Type} {r : PR α} {f : PS → α → PR β} {s : PS} {y : β} (h : r.bind f = .ok s y) : ∃ s1 x, r = .ok s1 x ∧ f s1 x = .ok s y := by
 cases r with
 | ok s1 x => exact ⟨s1, x, rfl, h⟩
 | err a => cases h
theorem limS_n (b : Bool) (a : Int) (s : PS) : (limS b a s).n = s.n := by unfold limS; split <;> rfl
theorem vertex_adv {l : List Tk} (hk : TkOk l) {s : PS} (hn : s.n < l.length) : AdvP l s (vertexP l s) := by
 intro s4 x h
 obtain ⟨s1, _, h1, h⟩ := bind_ok h
 obtain ⟨s2, _, h2, h⟩ := bind_ok h
 obtain ⟨s3, _, h3, h⟩ := bind_ok h
 cases h
 have a1 := must_adv hk hn _ _ h1
 have a2 := name_adv hk a1.2 _ _ h2
 have a3 := must_adv hk a2.2 _ _ h3
 exact ⟨by omega, a3.2⟩
theorem told_adv {l : List Tk} (hk : TkOk l) {s : PS} (hn : s.n < l.length) : AdvP l s (toldP l s) := by
 intro s4 x h
 obtain ⟨s1, _, h1, h⟩ := bind_ok h
 have a1 := name_adv hk hn _ _ h1
 split at h
 ·rename_i hp
  have hp2 := is_adv hk a1.2 hp
  obtain ⟨s2, _, h2, h⟩ := bind_ok h
  have a2 := name_adv hk (s := s1.adv) hp2 _ _ h2
  cases h
  exact ⟨by have := a2.1; simp [PS.adv] at this; omega, a2.2⟩
 ·cases h; exact a1
theorem num_adv {l : List Tk} (hk : TkOk l) {s : PS} (hn : s.n < l.length) : AdvP l s (numP l s) := by
 intro s4 x h
 unfold numP at h
 split at h
 ·rename_i hp; cases h
  have := hk.on _ hn (by omega)
  simp only [PS.adv, limS_n]; omega
 ·cases h
theorem opd_adv {l : List Tk} (hk : TkOk l) {s : PS} (hn : s.n < l.length) : AdvP l s (opdP l s) := by
 intro s4 x h
 unfold opdP at h
 split at h
 ·rename_i hp; cases h
  exact ⟨by simp [PS.adv], hk.on _ hn (by unfold opdB at hp; simp at hp; omega)⟩
 ·exact told_adv hk hn _ _ h
theorem ptold_ok (l : List Tk) (n : Nat) (m : Int) (hk : TkOk l) (hn : n < l.length) : FnM Laid Tryz.prog 131 157 [tksD l, iv n, iv m] [.lp 900 0] (outP 152 l (fun o => .ag (opC o)) (toldP l ⟨n, m⟩)) := by
 refine FnM_of Tryz.func131 Tryz.ntmps131 rfl (by as_aux_lemma => kernel_rfl) (Nat.le_of_ble_eq_true rfl) (fun R b0 hR => ?_)
 obtain ⟨_, b, cs, T, C⟩ := R
 obtain rfl : _ = Tryz.prog := hR.p
 refine sreg te_ok ?_
 refine sq ?_
 rcases hq1 : nameP l ⟨n, m⟩ with ⟨⟨n1, m1⟩, x1⟩ | at1
 ·have ha1 := name_adv hk (s := ⟨n, m⟩) (by assumption) _ _ hq1
  have hn1 : n1 < l.length := ha1.2
  apply Exec.regionL te_ok
  ·intro u' Q hQ
   simp only [go_sem]
   repeat refine ob2 ?_
   refine kcallM 900 hR.inv te_ok rfl rfl rfl rfl rfl rfl rfl rfl rfl (fOk (name_ok l n m (by assumption) hk.len (hk.tx _ (by assumption))) hq1) ?_
   simp only [go_sem]
   repeat refine ob2 ?_
   exact hQ
  refine sq ?_
  refine sq ?_
  apply Exec.regionL te_ok
  ·intro u' Q hQ
   simp only [go_sem]
   repeat refine ob2 ?_
   refine kcallM 900 hR.inv te_ok rfl rfl rfl rfl rfl rfl rfl rfl rfl (is_ok _ _ _ _ (by assumption) hk.len) ?_
   simp only [go_sem]
   repeat refine ob2 ?_
   exact hQ
  refine Exec.cond_split rfl (fun h0 => ?_) (fun h0 => ?_)
  ·have hsh0 : isS l [46] ⟨n1, m1⟩ = ⟨n1 + 1, m1⟩ := by rw [isS, if_pos h0]; rfl
   have hnh0 : n1 + 1 < l.length := is_adv hk (s := ⟨n1, m1⟩) (by assumption) h0
   rcases hq3 : nameP l ⟨(n1 + 1), m1⟩ with ⟨⟨n3, m3⟩, x3⟩ | at3
   ·have ha3 := name_adv hk (s := ⟨(n1 + 1), m1⟩) (by assumption) _ _ hq3
    have hn3 : n3 < l.length := ha3.2
    apply Exec.regionL te_ok
    ·intro u' Q hQ
     simp only [go_sem, hsh0]
     repeat refine ob2 ?_
     refine kcallM 900 hR.inv te_ok rfl rfl rfl rfl rfl rfl rfl rfl rfl (fOk (name_ok l (n1 + 1) m1 (by assumption) hk.len (hk.tx _ (by assumption))) hq3) ?_
     simp only [go_sem, hsh0]
     repeat refine ob2 ?_
     exact hQ
    refine sq ?_
    apply Exec.regionL te_ok
    ·intro u' Q hQ
     simp only [go_sem, hsh0]
     repeat refine ob2 ?_
     exact hQ
    refine Exec.retsMu hR te_ok rfl .nil rfl rfl rfl ?_ (.inr ⟨_, rfl⟩)
    refine ⟨_, _, outP_ok (by simp only [toldP, PR.bind, hq1, h0, reduceIte, PS.adv, hq3]; rfl), ?_⟩
    simp only [go_sem]
   ·refine Exec.regStart 6 rfl ?_
    apply Exec.regPart 0 1 5 te_ok rfl
    ·intro u' Q hQ
     simp only [go_sem, hsh0]
     repeat refine ob2 ?_
     exact hQ
    refine Exec.callP 900 hR.inv rfl rfl rfl rfl rfl rfl rfl rfl rfl (fEr (name_ok l (n1 + 1) m1 (by assumption) hk.len (hk.tx _ (by assumption))) hq3) ?_
    refine ExecP.endM hR .nil ?_
    exact ⟨_, outP_err (a := at3) (by simp only [toldP, PR.bind, hq1, h0, reduceIte, PS.adv, hq3]), by simp only [go_sem]⟩
  ·have hsh0 : isS l [46] ⟨n1, m1⟩ = ⟨n1, m1⟩ := by rw [isS, if_neg (by rw [h0]; decide)]
   have hbh0 : ¬ (isP l [46] ⟨n1, m1⟩ = true) := by rw [h0]; decide
   refine sk ?_
   refine sq ?_
   apply Exec.regionL te_ok
   ·intro u' Q hQ
    simp only [go_sem, hsh0]
    repeat refine ob2 ?_
    exact hQ
   refine Exec.retsMu hR te_ok rfl .nil rfl rfl rfl ?_ (.inr ⟨_, rfl⟩)
   refine ⟨_, _, outP_ok (by simp only [toldP, PR.bind, hq1, h0, reduceIte, Bool.false_eq_true]; rfl), ?_⟩
   simp only [go_sem]
 ·refine Exec.regStart 5 rfl ?_
  apply Exec.regPart 0 1 4 te_ok rfl
  ·intro u' Q hQ
   simp only [go_sem]
   repeat refine ob2 ?_
   exact hQ
  refine Exec.callP 900 hR.inv rfl rfl rfl rfl rfl rfl rfl rfl rfl (fEr (name_ok l n m (by assumption) hk.len (hk.tx _ (by assumption))) hq1) ?_
  refine ExecP.endM hR .nil ?_
  exact ⟨_, outP_err (a := at1) (by simp only [toldP, PR.bind, hq1]), by simp only [go_sem]⟩
theorem poperand_ok (l : List Tk) (n : Nat) (m : Int) (hk : TkOk l) (hn : n < l.length) : FnM Laid Tryz.prog 169 157 [tksD l, iv n, iv m] [.lp 900 0] (outP 152 l (fun o => .ag (opC o)) (opdP l ⟨n, m⟩)) := by
 refine FnM_of Tryz.func169 Tryz.ntmps169 rfl (by as_aux_lemma => kernel_rfl) (Nat.le_of_ble_eq_true rfl) (fun R b0 hR => ?_)
 obtain ⟨_, b, cs, T, C⟩ := R
 obtain rfl : _ = Tryz.prog := hR.p
 have hw : IntKind.i64.wrap ((n : Int) + 1) = ((n + 1 : Nat) : Int) := by have := hk.len; rw [wrap_id (by constructor <;> omega)]; simp
 refine sq ?_
 apply Exec.regionL te_ok
 ·intro u' Q hQ
  simp only [go_sem, hw]
  repeat refine ob2 ?_
  exact hQ
 refine sq ?_
 apply Exec.regionL te_ok
 ·intro u' Q hQ
  simp only [go_sem, hw]
  repeat refine ob2 ?_
  refine kcallM 900 hR.inv te_ok rfl rfl rfl rfl rfl rfl rfl rfl rfl (token_ok _ _ _ (by assumption)) ?_
  simp only [go_sem, hw]
  repeat refine ob2 ?_
  exact hQ
 refine sq ?_
 refine sq ?_
 apply Exec.regionL te_ok
 ·intro u' Q hQ
  simp only [go_sem, hw]
  repeat refine ob2 ?_
  exact hQ
 refine Exec.cond_split rfl (fun h0 => ?_) (fun h0 => ?_)
 ·have hb : opdB l ⟨n, m⟩ = false := by simp [opdB] at h0 ⊢; omega
  refine sq ?_
  rcases hq3 : toldP l ⟨n, m⟩ with ⟨⟨n3, m3⟩, x3⟩ | at3
  ·have ha3 := told_adv hk (s := ⟨n, m⟩) (by assumption) _ _ hq3
   have hn3 : n3 < l.length := ha3.2
   apply Exec.regionL te_ok
   ·intro u' Q hQ
    simp only [go_sem, hw]
    repeat refine ob2 ?_
    refine kcallM 900 hR.inv te_ok rfl rfl rfl rfl rfl rfl rfl rfl rfl (fOk (ptold_ok l n m hk (by assumption)) hq3) ?_
    simp only [go_sem, hw]
    repeat refine ob2 ?_
    exact hQ
   refine Exec.retsMu hR te_ok rfl .nil rfl rfl rfl ?_ (.inr ⟨_, rfl⟩)
   refine ⟨_, _, outP_ok (by simp only [opdP, PR.bind, hb, Bool.false_eq_true, reduceIte, hq3]; rfl), ?_⟩
   simp only [go_sem]
  ·refine Exec.regStart 3 rfl ?_
   apply Exec.regPart 0 1 2 te_ok rfl
   ·intro u' Q hQ
    simp only [go_sem, hw]
    repeat refine ob2 ?_
    exact hQ
   refine Exec.callP 900 hR.inv rfl rfl rfl rfl rfl rfl rfl rfl rfl (fEr (ptold_ok l n m hk (by assumption)) hq3) ?_
   refine ExecP.endM hR .nil ?_
   exact ⟨_, outP_err (a := at3) (by simp only [opdP, PR.bind, hb, Bool.false_eq_true, reduceIte, hq3]), by simp only [go_sem]⟩
 ·have hb : opdB l ⟨n, m⟩ = true := by simp [opdB] at h0 ⊢; omega
  refine sk ?_
  refine sq ?_
  apply Exec.regionL te_ok
  ·intro u' Q hQ
   simp only [go_sem, hw]
   repeat refine ob2 ?_
   exact hQ
  refine sq ?_
  apply Exec.regionL te_ok
  ·intro u' Q hQ
   simp only [go_sem, hw]
   repeat refine ob2 ?_
   exact hQ
  refine Exec.retsMu hR te_ok rfl .nil rfl rfl rfl ?_ (.inr ⟨_, rfl⟩)
  refine ⟨_, _, outP_ok (by simp only [opdP, PR.bind, hb, reduceIte]; rfl), ?_⟩
  simp only [go_sem]
theorem pnumber_ok (l : List Tk) (n : Nat) (m : Int) (hk : TkOk l) (hn : n < l.length) : FnM Laid Tryz.prog 132 157 [tksD l, iv n, iv m] [.lp 900 0] (outP 152 l (fun x => iv x) (numP l ⟨n, m⟩)) := by
 refine FnM_of Tryz.func132 Tryz.ntmps132 rfl (by as_aux_lemma => kernel_rfl) (Nat.le_of_ble_eq_true rfl) (fun R b0 hR => ?_)
 obtain ⟨_, b, cs, T, C⟩ := R
 obtain rfl : _ = Tryz.prog := hR.p
 have hw : IntKind.i64.wrap ((n : Int) + 1) = ((n + 1 : Nat) : Int) := by have := hk.len; rw [wrap_id (by constructor <;> omega)]; simp
 refine sq ?_
 apply Exec.regionL te_ok
 ·intro u' Q hQ
  simp only [go_sem, hw, limS_n]
  repeat refine ob2 ?_
  exact hQ
 refine sq ?_
 apply Exec.regionL te_ok
 ·intro u' Q hQ
  simp only [go_sem, hw, limS_n]
  repeat refine ob2 ?_
  refine kcallM 900 hR.inv te_ok rfl rfl rfl rfl rfl rfl rfl rfl rfl (token_ok _ _ _ (by assumption)) ?_
  simp only [go_sem, hw, limS_n]
  repeat refine ob2 ?_
  exact hQ
 refine sq ?_
 refine sq ?_
 apply Exec.regionL te_ok
 ·intro u' Q hQ
  simp only [go_sem, hw, limS_n]
  repeat refine ob2 ?_
  exact hQ
 refine Exec.cond_split rfl (fun h0 => ?_) (fun h0 => ?_)
 ·have hb : ¬ (nth l n).k = 2 := by simpa using h0
  refine Exec.regStart 2 rfl ?_
  apply Exec.regPart 0 1 1 te_ok rfl
  ·intro u' Q hQ
   simp only [go_sem, hw, limS_n]
   repeat refine ob2 ?_
   exact hQ
  refine Exec.callP 900 hR.inv rfl rfl rfl rfl rfl rfl rfl rfl rfl (fail_ok _ _ _ (by assumption)) ?_
  refine ExecP.endM hR .nil ?_
  exact ⟨_, outP_err (a := (nth l n).a) (by simp only [numP, if_neg hb]), by simp only [go_sem]⟩
 ·have hb : (nth l n).k = 2 := by simpa using h0
  refine sk ?_
  refine sq ?_
  apply Exec.regionL te_ok
  ·intro u' Q hQ
   simp only [go_sem, hw, limS_n]
   repeat refine ob2 ?_
   refine kcallM 900 hR.inv te_ok rfl rfl rfl rfl rfl rfl rfl rfl rfl (limit_ok _ _ _ _ _) ?_
   simp only [go_sem, hw, limS_n]
   repeat refine ob2 ?_
   exact hQ
  refine sq ?_
  apply Exec.regionL te_ok
  ·intro u' Q hQ
   simp only [go_sem, hw, limS_n]
   repeat refine ob2 ?_
   exact hQ
  refine sq ?_
  apply Exec.regionL te_ok
  ·intro u' Q hQ
   simp only [go_sem, hw, limS_n]
   repeat refine ob2 ?_
   exact hQ
  refine Exec.retsMu hR te_ok rfl .nil rfl rfl rfl ?_ (.inr ⟨_, rfl⟩)
  refine ⟨_, _, outP_ok (s := (limS (numB (nth l n).v.n) (nth l n).a ⟨n, m⟩).adv) (x := (nth l n).v.n) (by simp only [numP, if_pos hb]), ?_⟩
  simp only [go_sem, limS_n, numB]
theorem cdP_at {l : List Tk} {a : Opd} {s : PS} {i : Nat} {w : List UInt8} {r : List (List UInt8)} : cmpP l a s i (w :: r) = if isP l w s = true then (opdP l s.adv).bind fun s1 b => .ok s1 ⟨1 + i, a, b⟩ else cmpP l a s (i + 1) r := rfl
theorem cmp_adv {l : List Tk} (hk : TkOk l) {a : Opd} {s : PS} (hn : s.n < l.length) : ∀ (r : List (List UInt8)) (i : Nat), AdvP l s (cmpP l a s i r)
 | [], i => fun s4 x h => by cases h
 | w :: r, i => fun s4 x h => by
  rw [cdP_at] at h
  split at h
  ·rename_i hp
   have hp2 := is_adv hk hn hp
   obtain ⟨s2, _, h2, h⟩ := bind_ok h
   have a2 := opd_adv hk (s := s.adv) hp2 _ _ h2
   cases h
   exact ⟨by have := a2.1; simp [PS.adv] at this; omega, a2.2⟩
  ·exact cmp_adv hk hn r (i + 1) _ _ h
theorem cd_adv {l : List Tk} (hk : TkOk l) {s : PS} (hn : s.n < l.length) : AdvP l s (cdP l s) := by
 intro s4 x h
 obtain ⟨s1, _, h1, h⟩ := bind_ok h
 have a1 := opd_adv hk hn _ _ h1
 have a2 := cmp_adv hk a1.2 _ _ _ _ h
 exact ⟨by omega, a2.2⟩
theorem wa0 : IntKind.i64.wrap (0 + 1) = 1 := by decide
theorem wb0 : IntKind.i64.wrap (1 + 0) = 1 := by decide
theorem wa1 : IntKind.i64.wrap (1 + 1) = 2 := by decide
theorem wb1 : IntKind.i64.wrap (1 + 1) = 2 := by decide
theorem wa2 : IntKind.i64.wrap (2 + 1) = 3 := by decide
theorem wb2 : IntKind.i64.wrap (1 + 2) = 3 := by decide
theorem wa3 : IntKind.i64.wrap (3 + 1) = 4 := by decide
theorem wb3 : IntKind.i64.wrap (1 + 3) = 4 := by decide
theorem wa4 : IntKind.i64.wrap (4 + 1) = 5 := by decide
theorem wb4 : IntKind.i64.wrap (1 + 4) = 5 := by decide
theorem wa5 : IntKind.i64.wrap (5 + 1) = 6 := by decide
theorem wb5 : IntKind.i64.wrap (1 + 5) = 6 := by decide
theorem pcond_ok (l : List Tk) (n : Nat) (m : Int) (hk : TkOk l) (hn : n < l.length) : FnM Laid Tryz.prog 130 157 [tksD l, iv n, iv m] [.lp 900 0] (outP 152 l (fun c => .ag (cdC c)) (cdP l ⟨n, m⟩)) := by
 refine FnM_of Tryz.func130 Tryz.ntmps130 rfl (by as_aux_lemma => kernel_rfl) (Nat.le_of_ble_eq_true rfl) (fun R b0 hR => ?_)
 obtain ⟨_, b, cs, T, C⟩ := R
 obtain rfl : _ = Tryz.prog := hR.p
 refine sq ?_
 apply Exec.regionL te_ok
 ·intro u' Q hQ
  simp only [go_sem, wa0, wb0, wa1, wb1, wa2, wb2, wa3, wb3, wa4, wb4, wa5, wb5]
  repeat refine ob2 ?_
  exact hQ
 refine sq ?_
 rcases hq1 : opdP l ⟨n, m⟩ with ⟨⟨n1, m1⟩, x1⟩ | at1
 ·have ha1 := opd_adv hk (s := ⟨n, m⟩) (by assumption) _ _ hq1
  have hn1 : n1 < l.length := ha1.2
  apply Exec.regionL te_ok
  ·intro u' Q hQ
   simp only [go_sem, wa0, wb0, wa1, wb1, wa2, wb2, wa3, wb3, wa4, wb4, wa5, wb5]
   repeat refine ob2 ?_
   refine kcallM 900 hR.inv te_ok rfl rfl rfl rfl rfl rfl rfl rfl rfl (fOk (poperand_ok l n m hk (by assumption)) hq1) ?_
   simp only [go_sem, wa0, wb0, wa1, wb1, wa2, wb2, wa3, wb3, wa4, wb4, wa5, wb5]
   repeat refine ob2 ?_
   exact hQ
  refine sq ?_
  refine sq ?_
  apply Exec.regionL te_ok
  ·intro u' Q hQ
   simp only [go_sem, wa0, wb0, wa1, wb1, wa2, wb2, wa3, wb3, wa4, wb4, wa5, wb5]
   repeat refine ob2 ?_
   exact hQ
  refine Exec.block ?_
  refine Exec.loop1 ?_
  refine sq ?_
  apply Exec.regionL te_ok
  ·intro u' Q hQ
   simp only [go_sem, wa0, wb0, wa1, wb1, wa2, wb2, wa3, wb3, wa4, wb4, wa5, wb5]
   repeat refine ob2 ?_
   exact hQ
  refine sq ?_
  refine Exec.cond (t := true) rfl ?_
  simp only [reduceIte, Bool.false_eq_true]
  refine sk ?_
  refine sq ?_
  refine Exec.block ?_
  refine sq ?_
  apply Exec.regionL te_ok
  ·intro u' Q hQ
   simp only [go_sem, wa0, wb0, wa1, wb1, wa2, wb2, wa3, wb3, wa4, wb4, wa5, wb5]
   repeat refine ob2 ?_
   exact hQ
  refine sq ?_
  apply Exec.regionL te_ok
  ·intro u' Q hQ
   simp only [go_sem, wa0, wb0, wa1, wb1, wa2, wb2, wa3, wb3, wa4, wb4, wa5, wb5]
   repeat refine ob2 ?_
   refine kcallM 900 hR.inv te_ok rfl rfl rfl rfl rfl rfl rfl rfl rfl (is_ok _ _ _ _ (by assumption) hk.len) ?_
   simp only [go_sem, wa0, wb0, wa1, wb1, wa2, wb2, wa3, wb3, wa4, wb4, wa5, wb5]
   repeat refine ob2 ?_
   exact hQ
  refine Exec.cond_split rfl (fun h1 => ?_) (fun h1 => ?_)
  ·have hsh1 : isS l [61] ⟨n1, m1⟩ = ⟨n1 + 1, m1⟩ := by rw [isS, if_pos h1]; rfl
   have hnh1 : n1 + 1 < l.length := is_adv hk (s := ⟨n1, m1⟩) (by assumption) h1
   refine sq ?_
   apply Exec.regionL te_ok
   ·intro u' Q hQ
    simp only [go_sem, wa0, wb0, wa1, wb1, wa2, wb2, wa3, wb3, wa4, wb4, wa5, wb5, hsh1]
    repeat refine ob2 ?_
    exact hQ
   refine sq ?_
   rcases hq7 : opdP l ⟨(n1 + 1), m1⟩ with ⟨⟨n7, m7⟩, x7⟩ | at7
   ·have ha7 := opd_adv hk (s := ⟨(n1 + 1), m1⟩) (by assumption) _ _ hq7
    have hn7 : n7 < l.length := ha7.2
    apply Exec.regionL te_ok
    ·intro u' Q hQ
     simp only [go_sem, wa0, wb0, wa1, wb1, wa2, wb2, wa3, wb3, wa4, wb4, wa5, wb5, hsh1]
     repeat refine ob2 ?_
     refine kcallM 900 hR.inv te_ok rfl rfl rfl rfl rfl rfl rfl rfl rfl (fOk (poperand_ok l (n1 + 1) m1 hk (by assumption)) hq7) ?_
     simp only [go_sem, wa0, wb0, wa1, wb1, wa2, wb2, wa3, wb3, wa4, wb4, wa5, wb5, hsh1]
     repeat refine ob2 ?_
     exact hQ
    refine sq ?_
    apply Exec.regionL te_ok
    ·intro u' Q hQ
     simp only [go_sem, wa0, wb0, wa1, wb1, wa2, wb2, wa3, wb3, wa4, wb4, wa5, wb5, hsh1]
     repeat refine ob2 ?_
     exact hQ
    refine Exec.retsMu hR te_ok rfl .nil rfl rfl rfl ?_ (.inr ⟨_, rfl⟩)
    refine ⟨_, _, outP_ok (s := ⟨n7, m7⟩) (x := ⟨1, x1, x7⟩) (by simp only [cdP, cmpsW, cmpP, PR.bind, hq1, h1, reduceIte, PS.adv, Bool.false_eq_true, if_false, if_true, hq7]; rfl), ?_⟩
    simp only [go_sem]
   ·refine Exec.regStart 4 rfl ?_
    apply Exec.regPart 0 1 3 te_ok rfl
    ·intro u' Q hQ
     simp only [go_sem, wa0, wb0, wa1, wb1, wa2, wb2, wa3, wb3, wa4, wb4, wa5, wb5, hsh1]
     repeat refine ob2 ?_
     exact hQ
    refine Exec.callP 900 hR.inv rfl rfl rfl rfl rfl rfl rfl rfl rfl (fEr (poperand_ok l (n1 + 1) m1 hk (by assumption)) hq7) ?_
    refine ExecP.endM hR .nil ?_
    exact ⟨_, outP_err (a := at7) (by simp only [cdP, cmpsW, cmpP, PR.bind, hq1, h1, reduceIte, PS.adv, Bool.false_eq_true, if_false, if_true, hq7]), by simp only [go_sem]⟩
  ·have hsh1 : isS l [61] ⟨n1, m1⟩ = ⟨n1, m1⟩ := by rw [isS, if_neg (by rw [h1]; decide)]
   have hbh1 : ¬ (isP l [61] ⟨n1, m1⟩ = true) := by rw [h1]; decide
   refine sk ?_
   refine Exec.inBlock ?_
   apply Exec.regionL te_ok
   ·intro u' Q hQ
    simp only [go_sem, wa0, wb0, wa1, wb1, wa2, wb2, wa3, wb3, wa4, wb4, wa5, wb5, hsh1]
    repeat refine ob2 ?_
    exact hQ
   refine Exec.inLoop ?_
   refine sq ?_
   apply Exec.regionL te_ok
   ·intro u' Q hQ
    simp only [go_sem, wa0, wb0, wa1, wb1, wa2, wb2, wa3, wb3, wa4, wb4, wa5, wb5, hsh1]
    repeat refine ob2 ?_
    exact hQ
   refine sq ?_
   refine Exec.cond (t := true) rfl ?_
   simp only [reduceIte, Bool.false_eq_true]
   refine sk ?_
   refine sq ?_
   refine Exec.block ?_
   refine sq ?_
   apply Exec.regionL te_ok
   ·intro u' Q hQ
    simp only [go_sem, wa0, wb0, wa1, wb1, wa2, wb2, wa3, wb3, wa4, wb4, wa5, wb5, hsh1]
    repeat refine ob2 ?_
    exact hQ
   refine sq ?_
   apply Exec.regionL te_ok
   ·intro u' Q hQ
    simp only [go_sem, wa0, wb0, wa1, wb1, wa2, wb2, wa3, wb3, wa4, wb4, wa5, wb5, hsh1]
    repeat refine ob2 ?_
    refine kcallM 900 hR.inv te_ok rfl rfl rfl rfl rfl rfl rfl rfl rfl (is_ok _ _ _ _ (by assumption) hk.len) ?_
    simp only [go_sem, wa0, wb0, wa1, wb1, wa2, wb2, wa3, wb3, wa4, wb4, wa5, wb5, hsh1]
    repeat refine ob2 ?_
    exact hQ
   refine Exec.cond_split rfl (fun h3 => ?_) (fun h3 => ?_)
   ·have hsh3 : isS l [33, 61] ⟨n1, m1⟩ = ⟨n1 + 1, m1⟩ := by rw [isS, if_pos h3]; rfl
    have hnh3 : n1 + 1 < l.length := is_adv hk (s := ⟨n1, m1⟩) (by assumption) h3
    refine sq ?_
    apply Exec.regionL te_ok
    ·intro u' Q hQ
     simp only [go_sem, wa0, wb0, wa1, wb1, wa2, wb2, wa3, wb3, wa4, wb4, wa5, wb5, hsh1, hsh3]
     repeat refine ob2 ?_
     exact hQ
    refine sq ?_
    rcases hq7 : opdP l ⟨(n1 + 1), m1⟩ with ⟨⟨n7, m7⟩, x7⟩ | at7
    ·have ha7 := opd_adv hk (s := ⟨(n1 + 1), m1⟩) (by assumption) _ _ hq7
     have hn7 : n7 < l.length := ha7.2
     apply Exec.regionL te_ok
     ·intro u' Q hQ
      simp only [go_sem, wa0, wb0, wa1, wb1, wa2, wb2, wa3, wb3, wa4, wb4, wa5, wb5, hsh1, hsh3]
      repeat refine ob2 ?_
      refine kcallM 900 hR.inv te_ok rfl rfl rfl rfl rfl rfl rfl rfl rfl (fOk (poperand_ok l (n1 + 1) m1 hk (by assumption)) hq7) ?_
      simp only [go_sem, wa0, wb0, wa1, wb1, wa2, wb2, wa3, wb3, wa4, wb4, wa5, wb5, hsh1, hsh3]
      repeat refine ob2 ?_
      exact hQ
     refine sq ?_
     apply Exec.regionL te_ok
     ·intro u' Q hQ
      simp only [go_sem, wa0, wb0, wa1, wb1, wa2, wb2, wa3, wb3, wa4, wb4, wa5, wb5, hsh1, hsh3]
      repeat refine ob2 ?_
      exact hQ
     refine Exec.retsMu hR te_ok rfl .nil rfl rfl rfl ?_ (.inr ⟨_, rfl⟩)
     refine ⟨_, _, outP_ok (s := ⟨n7, m7⟩) (x := ⟨2, x1, x7⟩) (by simp only [cdP, cmpsW, cmpP, PR.bind, hq1, h1, h3, reduceIte, PS.adv, Bool.false_eq_true, if_false, if_true, hq7]; rfl), ?_⟩
     simp only [go_sem]
    ·refine Exec.regStart 4 rfl ?_
     apply Exec.regPart 0 1 3 te_ok rfl
     ·intro u' Q hQ
      simp only [go_sem, wa0, wb0, wa1, wb1, wa2, wb2, wa3, wb3, wa4, wb4, wa5, wb5, hsh1, hsh3]
      repeat refine ob2 ?_
      exact hQ
     refine Exec.callP 900 hR.inv rfl rfl rfl rfl rfl rfl rfl rfl rfl (fEr (poperand_ok l (n1 + 1) m1 hk (by assumption)) hq7) ?_
     refine ExecP.endM hR .nil ?_
     exact ⟨_, outP_err (a := at7) (by simp only [cdP, cmpsW, cmpP, PR.bind, hq1, h1, h3, reduceIte, PS.adv, Bool.false_eq_true, if_false, if_true, hq7]), by simp only [go_sem]⟩
   ·have hsh3 : isS l [33, 61] ⟨n1, m1⟩ = ⟨n1, m1⟩ := by rw [isS, if_neg (by rw [h3]; decide)]
    have hbh3 : ¬ (isP l [33, 61] ⟨n1, m1⟩ = true) := by rw [h3]; decide
    refine sk ?_
    refine Exec.inBlock ?_
    apply Exec.regionL te_ok
    ·intro u' Q hQ
     simp only [go_sem, wa0, wb0, wa1, wb1, wa2, wb2, wa3, wb3, wa4, wb4, wa5, wb5, hsh1, hsh3]
     repeat refine ob2 ?_
     exact hQ
    refine Exec.inLoop ?_
    refine sq ?_
    apply Exec.regionL te_ok
    ·intro u' Q hQ
     simp only [go_sem, wa0, wb0, wa1, wb1, wa2, wb2, wa3, wb3, wa4, wb4, wa5, wb5, hsh1, hsh3]
     repeat refine ob2 ?_
     exact hQ
    refine sq ?_
    refine Exec.cond (t := true) rfl ?_
    simp only [reduceIte, Bool.false_eq_true]
    refine sk ?_
    refine sq ?_
    refine Exec.block ?_
    refine sq ?_
    apply Exec.regionL te_ok
    ·intro u' Q hQ
     simp only [go_sem, wa0, wb0, wa1, wb1, wa2, wb2, wa3, wb3, wa4, wb4, wa5, wb5, hsh1, hsh3]
     repeat refine ob2 ?_
     exact hQ
    refine sq ?_
    apply Exec.regionL te_ok
    ·intro u' Q hQ
     simp only [go_sem, wa0, wb0, wa1, wb1, wa2, wb2, wa3, wb3, wa4, wb4, wa5, wb5, hsh1, hsh3]
     repeat refine ob2 ?_
     refine kcallM 900 hR.inv te_ok rfl rfl rfl rfl rfl rfl rfl rfl rfl (is_ok _ _ _ _ (by assumption) hk.len) ?_
     simp only [go_sem, wa0, wb0, wa1, wb1, wa2, wb2, wa3, wb3, wa4, wb4, wa5, wb5, hsh1, hsh3]
     repeat refine ob2 ?_
     exact hQ
    refine Exec.cond_split rfl (fun h5 => ?_) (fun h5 => ?_)
    ·have hsh5 : isS l [60] ⟨n1, m1⟩ = ⟨n1 + 1, m1⟩ := by rw [isS, if_pos h5]; rfl
     have hnh5 : n1 + 1 < l.length := is_adv hk (s := ⟨n1, m1⟩) (by assumption) h5
     refine sq ?_
     apply Exec.regionL te_ok
     ·intro u' Q hQ
      simp only [go_sem, wa0, wb0, wa1, wb1, wa2, wb2, wa3, wb3, wa4, wb4, wa5, wb5, hsh1, hsh3, hsh5]
      repeat refine ob2 ?_
      exact hQ
     refine sq ?_
     rcases hq7 : opdP l ⟨(n1 + 1), m1⟩ with ⟨⟨n7, m7⟩, x7⟩ | at7
     ·have ha7 := opd_adv hk (s := ⟨(n1 + 1), m1⟩) (by assumption) _ _ hq7
      have hn7 : n7 < l.length := ha7.2
      apply Exec.regionL te_ok
      ·intro u' Q hQ
       simp only [go_sem, wa0, wb0, wa1, wb1, wa2, wb2, wa3, wb3, wa4, wb4, wa5, wb5, hsh1, hsh3, hsh5]
       repeat refine ob2 ?_
       refine kcallM 900 hR.inv te_ok rfl rfl rfl rfl rfl rfl rfl rfl rfl (fOk (poperand_ok l (n1 + 1) m1 hk (by assumption)) hq7) ?_
       simp only [go_sem, wa0, wb0, wa1, wb1, wa2, wb2, wa3, wb3, wa4, wb4, wa5, wb5, hsh1, hsh3, hsh5]
       repeat refine ob2 ?_
       exact hQ
      refine sq ?_
      apply Exec.regionL te_ok
      ·intro u' Q hQ
       simp only [go_sem, wa0, wb0, wa1, wb1, wa2, wb2, wa3, wb3, wa4, wb4, wa5, wb5, hsh1, hsh3, hsh5]
       repeat refine ob2 ?_
       exact hQ
      refine Exec.retsMu hR te_ok rfl .nil rfl rfl rfl ?_ (.inr ⟨_, rfl⟩)
      refine ⟨_, _, outP_ok (s := ⟨n7, m7⟩) (x := ⟨3, x1, x7⟩) (by simp only [cdP, cmpsW, cmpP, PR.bind, hq1, h1, h3, h5, reduceIte, PS.adv, Bool.false_eq_true, if_false, if_true, hq7]; rfl), ?_⟩
      simp only [go_sem]
     ·refine Exec.regStart 4 rfl ?_
      apply Exec.regPart 0 1 3 te_ok rfl
      ·intro u' Q hQ
       simp only [go_sem, wa0, wb0, wa1, wb1, wa2, wb2, wa3, wb3, wa4, wb4, wa5, wb5, hsh1, hsh3, hsh5]
       repeat refine ob2 ?_
       exact hQ
      refine Exec.callP 900 hR.inv rfl rfl rfl rfl rfl rfl rfl rfl rfl (fEr (poperand_ok l (n1 + 1) m1 hk (by assumption)) hq7) ?_
      refine ExecP.endM hR .nil ?_
      exact ⟨_, outP_err (a := at7) (by simp only [cdP, cmpsW, cmpP, PR.bind, hq1, h1, h3, h5, reduceIte, PS.adv, Bool.false_eq_true, if_false, if_true, hq7]), by simp only [go_sem]⟩
    ·have hsh5 : isS l [60] ⟨n1, m1⟩ = ⟨n1, m1⟩ := by rw [isS, if_neg (by rw [h5]; decide)]
     have hbh5 : ¬ (isP l [60] ⟨n1, m1⟩ = true) := by rw [h5]; decide
     refine sk ?_
     refine Exec.inBlock ?_
     apply Exec.regionL te_ok
     ·intro u' Q hQ
      simp only [go_sem, wa0, wb0, wa1, wb1, wa2, wb2, wa3, wb3, wa4, wb4, wa5, wb5, hsh1, hsh3, hsh5]
      repeat refine ob2 ?_
      exact hQ
     refine Exec.inLoop ?_
     refine sq ?_
     apply Exec.regionL te_ok
     ·intro u' Q hQ
      simp only [go_sem, wa0, wb0, wa1, wb1, wa2, wb2, wa3, wb3, wa4, wb4, wa5, wb5, hsh1, hsh3, hsh5]
      repeat refine ob2 ?_
      exact hQ
     refine sq ?_
     refine Exec.cond (t := true) rfl ?_
     simp only [reduceIte, Bool.false_eq_true]
     refine sk ?_
     refine sq ?_
     refine Exec.block ?_
     refine sq ?_
     apply Exec.regionL te_ok
     ·intro u' Q hQ
      simp only [go_sem, wa0, wb0, wa1, wb1, wa2, wb2, wa3, wb3, wa4, wb4, wa5, wb5, hsh1, hsh3, hsh5]
      repeat refine ob2 ?_
      exact hQ
     refine sq ?_
     apply Exec.regionL te_ok
     ·intro u' Q hQ
      simp only [go_sem, wa0, wb0, wa1, wb1, wa2, wb2, wa3, wb3, wa4, wb4, wa5, wb5, hsh1, hsh3, hsh5]
      repeat refine ob2 ?_
      refine kcallM 900 hR.inv te_ok rfl rfl rfl rfl rfl rfl rfl rfl rfl (is_ok _ _ _ _ (by assumption) hk.len) ?_
      simp only [go_sem, wa0, wb0, wa1, wb1, wa2, wb2, wa3, wb3, wa4, wb4, wa5, wb5, hsh1, hsh3, hsh5]
      repeat refine ob2 ?_
      exact hQ
     refine Exec.cond_split rfl (fun h7 => ?_) (fun h7 => ?_)
     ·have hsh7 : isS l [60, 61] ⟨n1, m1⟩ = ⟨n1 + 1, m1⟩ := by rw [isS, if_pos h7]; rfl
      have hnh7 : n1 + 1 < l.length := is_adv hk (s := ⟨n1, m1⟩) (by assumption) h7
      refine sq ?_
      apply Exec.regionL te_ok
      ·intro u' Q hQ
       simp only [go_sem, wa0, wb0, wa1, wb1, wa2, wb2, wa3, wb3, wa4, wb4, wa5, wb5, hsh1, hsh3, hsh5, hsh7]
       repeat refine ob2 ?_
       exact hQ
      refine sq ?_
      rcases hq7 : opdP l ⟨(n1 + 1), m1⟩ with ⟨⟨n7, m7⟩, x7⟩ | at7
      ·have ha7 := opd_adv hk (s := ⟨(n1 + 1), m1⟩) (by assumption) _ _ hq7
       have hn7 : n7 < l.length := ha7.2
       apply Exec.regionL te_ok
       ·intro u' Q hQ
        simp only [go_sem, wa0, wb0, wa1, wb1, wa2, wb2, wa3, wb3, wa4, wb4, wa5, wb5, hsh1, hsh3, hsh5, hsh7]
        repeat refine ob2 ?_
        refine kcallM 900 hR.inv te_ok rfl rfl rfl rfl rfl rfl rfl rfl rfl (fOk (poperand_ok l (n1 + 1) m1 hk (by assumption)) hq7) ?_
        simp only [go_sem, wa0, wb0, wa1, wb1, wa2, wb2, wa3, wb3, wa4, wb4, wa5, wb5, hsh1, hsh3, hsh5, hsh7]
        repeat refine ob2 ?_
        exact hQ
       refine sq ?_
       apply Exec.regionL te_ok
       ·intro u' Q hQ
        simp only [go_sem, wa0, wb0, wa1, wb1, wa2, wb2, wa3, wb3, wa4, wb4, wa5, wb5, hsh1, hsh3, hsh5, hsh7]
        repeat refine ob2 ?_
        exact hQ
       refine Exec.retsMu hR te_ok rfl .nil rfl rfl rfl ?_ (.inr ⟨_, rfl⟩)
       refine ⟨_, _, outP_ok (s := ⟨n7, m7⟩) (x := ⟨4, x1, x7⟩) (by simp only [cdP, cmpsW, cmpP, PR.bind, hq1, h1, h3, h5, h7, reduceIte, PS.adv, Bool.false_eq_true, if_false, if_true, hq7]; rfl), ?_⟩
       simp only [go_sem]
      ·refine Exec.regStart 4 rfl ?_
       apply Exec.regPart 0 1 3 te_ok rfl
       ·intro u' Q hQ
        simp only [go_sem, wa0, wb0, wa1, wb1, wa2, wb2, wa3, wb3, wa4, wb4, wa5, wb5, hsh1, hsh3, hsh5, hsh7]
        repeat refine ob2 ?_
        exact hQ
       refine Exec.callP 900 hR.inv rfl rfl rfl rfl rfl rfl rfl rfl rfl (fEr (poperand_ok l (n1 + 1) m1 hk (by assumption)) hq7) ?_
       refine ExecP.endM hR .nil ?_
       exact ⟨_, outP_err (a := at7) (by simp only [cdP, cmpsW, cmpP, PR.bind, hq1, h1, h3, h5, h7, reduceIte, PS.adv, Bool.false_eq_true, if_false, if_true, hq7]), by simp only [go_sem]⟩
     ·have hsh7 : isS l [60, 61] ⟨n1, m1⟩ = ⟨n1, m1⟩ := by rw [isS, if_neg (by rw [h7]; decide)]
      have hbh7 : ¬ (isP l [60, 61] ⟨n1, m1⟩ = true) := by rw [h7]; decide
      refine sk ?_
      refine Exec.inBlock ?_
      apply Exec.regionL te_ok
      ·intro u' Q hQ
       simp only [go_sem, wa0, wb0, wa1, wb1, wa2, wb2, wa3, wb3, wa4, wb4, wa5, wb5, hsh1, hsh3, hsh5, hsh7]
       repeat refine ob2 ?_
       exact hQ
      refine Exec.inLoop ?_
      refine sq ?_
      apply Exec.regionL te_ok
      ·intro u' Q hQ
       simp only [go_sem, wa0, wb0, wa1, wb1, wa2, wb2, wa3, wb3, wa4, wb4, wa5, wb5, hsh1, hsh3, hsh5, hsh7]
       repeat refine ob2 ?_
       exact hQ
      refine sq ?_
      refine Exec.cond (t := true) rfl ?_
      simp only [reduceIte, Bool.false_eq_true]
      refine sk ?_
      refine sq ?_
      refine Exec.block ?_
      refine sq ?_
      apply Exec.regionL te_ok
      ·intro u' Q hQ
       simp only [go_sem, wa0, wb0, wa1, wb1, wa2, wb2, wa3, wb3, wa4, wb4, wa5, wb5, hsh1, hsh3, hsh5, hsh7]
       repeat refine ob2 ?_
       exact hQ
      refine sq ?_
      apply Exec.regionL te_ok
      ·intro u' Q hQ
       simp only [go_sem, wa0, wb0, wa1, wb1, wa2, wb2, wa3, wb3, wa4, wb4, wa5, wb5, hsh1, hsh3, hsh5, hsh7]
       repeat refine ob2 ?_
       refine kcallM 900 hR.inv te_ok rfl rfl rfl rfl rfl rfl rfl rfl rfl (is_ok _ _ _ _ (by assumption) hk.len) ?_
       simp only [go_sem, wa0, wb0, wa1, wb1, wa2, wb2, wa3, wb3, wa4, wb4, wa5, wb5, hsh1, hsh3, hsh5, hsh7]
       repeat refine ob2 ?_
       exact hQ
      refine Exec.cond_split rfl (fun h9 => ?_) (fun h9 => ?_)
      ·have hsh9 : isS l [62] ⟨n1, m1⟩ = ⟨n1 + 1, m1⟩ := by rw [isS, if_pos h9]; rfl
       have hnh9 : n1 + 1 < l.length := is_adv hk (s := ⟨n1, m1⟩) (by assumption) h9
       refine sq ?_
       apply Exec.regionL te_ok
       ·intro u' Q hQ
        simp only [go_sem, wa0, wb0, wa1, wb1, wa2, wb2, wa3, wb3, wa4, wb4, wa5, wb5, hsh1, hsh3, hsh5, hsh7, hsh9]
        repeat refine ob2 ?_
        exact hQ
       refine sq ?_
       rcases hq7 : opdP l ⟨(n1 + 1), m1⟩ with ⟨⟨n7, m7⟩, x7⟩ | at7
       ·have ha7 := opd_adv hk (s := ⟨(n1 + 1), m1⟩) (by assumption) _ _ hq7
        have hn7 : n7 < l.length := ha7.2
        apply Exec.regionL te_ok
        ·intro u' Q hQ
         simp only [go_sem, wa0, wb0, wa1, wb1, wa2, wb2, wa3, wb3, wa4, wb4, wa5, wb5, hsh1, hsh3, hsh5, hsh7, hsh9]
         repeat refine ob2 ?_
         refine kcallM 900 hR.inv te_ok rfl rfl rfl rfl rfl rfl rfl rfl rfl (fOk (poperand_ok l (n1 + 1) m1 hk (by assumption)) hq7) ?_
         simp only [go_sem, wa0, wb0, wa1, wb1, wa2, wb2, wa3, wb3, wa4, wb4, wa5, wb5, hsh1, hsh3, hsh5, hsh7, hsh9]
         repeat refine ob2 ?_
         exact hQ
        refine sq ?_
        apply Exec.regionL te_ok
        ·intro u' Q hQ
         simp only [go_sem, wa0, wb0, wa1, wb1, wa2, wb2, wa3, wb3, wa4, wb4, wa5, wb5, hsh1, hsh3, hsh5, hsh7, hsh9]
         repeat refine ob2 ?_
         exact hQ
        refine Exec.retsMu hR te_ok rfl .nil rfl rfl rfl ?_ (.inr ⟨_, rfl⟩)
        refine ⟨_, _, outP_ok (s := ⟨n7, m7⟩) (x := ⟨5, x1, x7⟩) (by simp only [cdP, cmpsW, cmpP, PR.bind, hq1, h1, h3, h5, h7, h9, reduceIte, PS.adv, Bool.false_eq_true, if_false, if_true, hq7]; rfl), ?_⟩
        simp only [go_sem]
       ·refine Exec.regStart 4 rfl ?_
        apply Exec.regPart 0 1 3 te_ok rfl
        ·intro u' Q hQ
         simp only [go_sem, wa0, wb0, wa1, wb1, wa2, wb2, wa3, wb3, wa4, wb4, wa5, wb5, hsh1, hsh3, hsh5, hsh7, hsh9]
         repeat refine ob2 ?_
         exact hQ
        refine Exec.callP 900 hR.inv rfl rfl rfl rfl rfl rfl rfl rfl rfl (fEr (poperand_ok l (n1 + 1) m1 hk (by assumption)) hq7) ?_
        refine ExecP.endM hR .nil ?_
        exact ⟨_, outP_err (a := at7) (by simp only [cdP, cmpsW, cmpP, PR.bind, hq1, h1, h3, h5, h7, h9, reduceIte, PS.adv, Bool.false_eq_true, if_false, if_true, hq7]), by simp only [go_sem]⟩
      ·have hsh9 : isS l [62] ⟨n1, m1⟩ = ⟨n1, m1⟩ := by rw [isS, if_neg (by rw [h9]; decide)]
       have hbh9 : ¬ (isP l [62] ⟨n1, m1⟩ = true) := by rw [h9]; decide
       refine sk ?_
       refine Exec.inBlock ?_
       apply Exec.regionL te_ok
       ·intro u' Q hQ
        simp only [go_sem, wa0, wb0, wa1, wb1, wa2, wb2, wa3, wb3, wa4, wb4, wa5, wb5, hsh1, hsh3, hsh5, hsh7, hsh9]
        repeat refine ob2 ?_
        exact hQ
       refine Exec.inLoop ?_
       refine sq ?_
       apply Exec.regionL te_ok
       ·intro u' Q hQ
        simp only [go_sem, wa0, wb0, wa1, wb1, wa2, wb2, wa3, wb3, wa4, wb4, wa5, wb5, hsh1, hsh3, hsh5, hsh7, hsh9]
        repeat refine ob2 ?_
        exact hQ
       refine sq ?_
       refine Exec.cond (t := true) rfl ?_
       simp only [reduceIte, Bool.false_eq_true]
       refine sk ?_
       refine sq ?_
       refine Exec.block ?_
       refine sq ?_
       apply Exec.regionL te_ok
       ·intro u' Q hQ
        simp only [go_sem, wa0, wb0, wa1, wb1, wa2, wb2, wa3, wb3, wa4, wb4, wa5, wb5, hsh1, hsh3, hsh5, hsh7, hsh9]
        repeat refine ob2 ?_
        exact hQ
       refine sq ?_
       apply Exec.regionL te_ok
       ·intro u' Q hQ
        simp only [go_sem, wa0, wb0, wa1, wb1, wa2, wb2, wa3, wb3, wa4, wb4, wa5, wb5, hsh1, hsh3, hsh5, hsh7, hsh9]
        repeat refine ob2 ?_
        refine kcallM 900 hR.inv te_ok rfl rfl rfl rfl rfl rfl rfl rfl rfl (is_ok _ _ _ _ (by assumption) hk.len) ?_
        simp only [go_sem, wa0, wb0, wa1, wb1, wa2, wb2, wa3, wb3, wa4, wb4, wa5, wb5, hsh1, hsh3, hsh5, hsh7, hsh9]
        repeat refine ob2 ?_
        exact hQ
       refine Exec.cond_split rfl (fun h11 => ?_) (fun h11 => ?_)
       ·have hsh11 : isS l [62, 61] ⟨n1, m1⟩ = ⟨n1 + 1, m1⟩ := by rw [isS, if_pos h11]; rfl
        have hnh11 : n1 + 1 < l.length := is_adv hk (s := ⟨n1, m1⟩) (by assumption) h11
        refine sq ?_
        apply Exec.regionL te_ok
        ·intro u' Q hQ
         simp only [go_sem, wa0, wb0, wa1, wb1, wa2, wb2, wa3, wb3, wa4, wb4, wa5, wb5, hsh1, hsh3, hsh5, hsh7, hsh9, hsh11]
         repeat refine ob2 ?_
         exact hQ
        refine sq ?_
        rcases hq7 : opdP l ⟨(n1 + 1), m1⟩ with ⟨⟨n7, m7⟩, x7⟩ | at7
        ·have ha7 := opd_adv hk (s := ⟨(n1 + 1), m1⟩) (by assumption) _ _ hq7
         have hn7 : n7 < l.length := ha7.2
         apply Exec.regionL te_ok
         ·intro u' Q hQ
          simp only [go_sem, wa0, wb0, wa1, wb1, wa2, wb2, wa3, wb3, wa4, wb4, wa5, wb5, hsh1, hsh3, hsh5, hsh7, hsh9, hsh11]
          repeat refine ob2 ?_
          refine kcallM 900 hR.inv te_ok rfl rfl rfl rfl rfl rfl rfl rfl rfl (fOk (poperand_ok l (n1 + 1) m1 hk (by assumption)) hq7) ?_
          simp only [go_sem, wa0, wb0, wa1, wb1, wa2, wb2, wa3, wb3, wa4, wb4, wa5, wb5, hsh1, hsh3, hsh5, hsh7, hsh9, hsh11]
          repeat refine ob2 ?_
          exact hQ
         refine sq ?_
         apply Exec.regionL te_ok
         ·intro u' Q hQ
          simp only [go_sem, wa0, wb0, wa1, wb1, wa2, wb2, wa3, wb3, wa4, wb4, wa5, wb5, hsh1, hsh3, hsh5, hsh7, hsh9, hsh11]
          repeat refine ob2 ?_
          exact hQ
         refine Exec.retsMu hR te_ok rfl .nil rfl rfl rfl ?_ (.inr ⟨_, rfl⟩)
         refine ⟨_, _, outP_ok (s := ⟨n7, m7⟩) (x := ⟨6, x1, x7⟩) (by simp only [cdP, cmpsW, cmpP, PR.bind, hq1, h1, h3, h5, h7, h9, h11, reduceIte, PS.adv, Bool.false_eq_true, if_false, if_true, hq7]; rfl), ?_⟩
         simp only [go_sem]
        ·refine Exec.regStart 4 rfl ?_
         apply Exec.regPart 0 1 3 te_ok rfl
         ·intro u' Q hQ
          simp only [go_sem, wa0, wb0, wa1, wb1, wa2, wb2, wa3, wb3, wa4, wb4, wa5, wb5, hsh1, hsh3, hsh5, hsh7, hsh9, hsh11]
          repeat refine ob2 ?_
          exact hQ
         refine Exec.callP 900 hR.inv rfl rfl rfl rfl rfl rfl rfl rfl rfl (fEr (poperand_ok l (n1 + 1) m1 hk (by assumption)) hq7) ?_
         refine ExecP.endM hR .nil ?_
         exact ⟨_, outP_err (a := at7) (by simp only [cdP, cmpsW, cmpP, PR.bind, hq1, h1, h3, h5, h7, h9, h11, reduceIte, PS.adv, Bool.false_eq_true, if_false, if_true, hq7]), by simp only [go_sem]⟩
       ·have hsh11 : isS l [62, 61] ⟨n1, m1⟩ = ⟨n1, m1⟩ := by rw [isS, if_neg (by rw [h11]; decide)]
        have hbh11 : ¬ (isP l [62, 61] ⟨n1, m1⟩ = true) := by rw [h11]; decide
        refine sk ?_
        refine Exec.inBlock ?_
        apply Exec.regionL te_ok
        ·intro u' Q hQ
         simp only [go_sem, wa0, wb0, wa1, wb1, wa2, wb2, wa3, wb3, wa4, wb4, wa5, wb5, hsh1, hsh3, hsh5, hsh7, hsh9, hsh11]
         repeat refine ob2 ?_
         exact hQ
        refine Exec.inLoop ?_
        refine sq ?_
        apply Exec.regionL te_ok
        ·intro u' Q hQ
         simp only [go_sem, wa0, wb0, wa1, wb1, wa2, wb2, wa3, wb3, wa4, wb4, wa5, wb5, hsh1, hsh3, hsh5, hsh7, hsh9, hsh11]
         repeat refine ob2 ?_
         exact hQ
        refine sq ?_
        refine Exec.cond (t := false) rfl ?_
        simp only [reduceIte, Bool.false_eq_true]
        refine Exec.exit rfl ?_
        refine sq ?_
        refine Exec.regStart 2 rfl ?_
        apply Exec.regPart 0 1 1 te_ok rfl
        ·intro u' Q hQ
         simp only [go_sem, wa0, wb0, wa1, wb1, wa2, wb2, wa3, wb3, wa4, wb4, wa5, wb5, hsh1, hsh3, hsh5, hsh7, hsh9, hsh11]
         repeat refine ob2 ?_
         exact hQ
        refine Exec.callP 900 hR.inv rfl rfl rfl rfl rfl rfl rfl rfl rfl (fail_ok _ _ _ (by assumption)) ?_
        refine ExecP.endM hR .nil ?_
        exact ⟨_, outP_err (a := (nth l n1).a) (by simp only [cdP, cmpsW, cmpP, PR.bind, hq1, h1, h3, h5, h7, h9, h11, reduceIte, Bool.false_eq_true]), by simp only [go_sem]⟩
 ·refine Exec.regStart 4 rfl ?_
  apply Exec.regPart 0 1 3 te_ok rfl
  ·intro u' Q hQ
   simp only [go_sem, wa0, wb0, wa1, wb1, wa2, wb2, wa3, wb3, wa4, wb4, wa5, wb5]
   repeat refine ob2 ?_
   exact hQ
  refine Exec.callP 900 hR.inv rfl rfl rfl rfl rfl rfl rfl rfl rfl (fEr (poperand_ok l n m hk (by assumption)) hq1) ?_
  refine ExecP.endM hR .nil ?_
  exact ⟨_, outP_err (a := at1) (by simp only [cdP, cmpsW, cmpP, PR.bind, hq1]), by simp only [go_sem]⟩
theorem kz : kdX (.mk 0 [] []) = .sl 3 0 0 (kdR []) := kd_eq _
section
variable {size_ok : ∀ (x : Ex), x.size ≤ 1000000 → FnOK Laid Tryz.prog 135 [exD x] (iv x.size)}
variable {pwhole_ok : ∀ (l : List Tk) (n : Nat) (m : Int), TkOk l → n < l.length → FnM Laid Tryz.prog 67 157 [tksD l, iv n, iv m] [.lp 900 0] (outP 152 l exD (wholeP l ⟨n, m⟩))}
variable {whole_adv : ∀ {l : List Tk}, TkOk l → ∀ {s : PS}, s.n < l.length → AdvP l s (wholeP l s)}
include pwhole_ok whole_adv
theorem ppattern_ok (l : List Tk) (n : Nat) (m : Int) (hk : TkOk l) (hn : n < l.length) : FnM Laid Tryz.prog 128 157 [tksD l, iv n, iv m] [.lp 900 0] (outP 152 l (fun p => .ag (ptC p)) (patP l ⟨n, m⟩)) := by
 refine FnM_of Tryz.func128 Tryz.ntmps128 rfl (by as_aux_lemma => kernel_rfl) (Nat.le_of_ble_eq_true rfl) (fun R b0 hR => ?_)
 obtain ⟨_, b, cs, T, C⟩ := R
 obtain rfl : _ = Tryz.prog := hR.p
 refine sreg te_ok ?_
 refine sq ?_
 rcases hq1 : vertexP l ⟨n, m⟩ with ⟨⟨n1, m1⟩, x1⟩ | at1
 ·have ha1 := vertex_adv hk (s := ⟨n, m⟩) (by assumption) _ _ hq1
  have hn1 : n1 < l.length := ha1.2
  apply Exec.regionL te_ok
  ·intro u' Q hQ
   simp only [go_sem]
   repeat refine ob2 ?_
   refine kcallM 900 hR.inv te_ok rfl rfl rfl rfl rfl rfl rfl rfl rfl (fOk (pvertex_ok l n m hk (by assumption)) hq1) ?_
   simp only [go_sem]
   repeat refine ob2 ?_
   exact hQ
  refine sq ?_
  refine sq ?_
  apply Exec.regionL te_ok
  ·intro u' Q hQ
   simp only [go_sem]
   repeat refine ob2 ?_
   refine kcallM 900 hR.inv te_ok rfl rfl rfl rfl rfl rfl rfl rfl rfl (is_ok _ _ _ _ (by assumption) hk.len) ?_
   simp only [go_sem]
   repeat refine ob2 ?_
   exact hQ
  refine sreg te_ok ?_
  refine Exec.cond_split rfl (fun h0 => ?_) (fun h0 => ?_)
  ·have hsh0 : isS l [61, 91] ⟨n1, m1⟩ = ⟨n1 + 1, m1⟩ := by rw [isS, if_pos h0]; rfl
   have hnh0 : n1 + 1 < l.length := is_adv hk (s := ⟨n1, m1⟩) (by assumption) h0
   refine sq ?_
   rcases hq4 : wholeP l ⟨(n1 + 1), m1⟩ with ⟨⟨n4, m4⟩, x4⟩ | at4
   ·have ha4 := whole_adv hk (s := ⟨(n1 + 1), m1⟩) (by assumption) _ _ hq4
    have hn4 : n4 < l.length := ha4.2
    apply Exec.regionL te_ok
    ·intro u' Q hQ
     simp only [go_sem, hsh0]
     repeat refine ob2 ?_
     refine kcallM 900 hR.inv te_ok rfl rfl rfl rfl rfl rfl rfl rfl rfl (fOk (pwhole_ok l (n1 + 1) m1 hk (by assumption)) hq4) ?_
     simp only [go_sem, hsh0]
     repeat refine ob2 ?_
     exact hQ
    rcases hq5 : mustP l [93, 61, 62] ⟨n4, m4⟩ with ⟨⟨n5, m5⟩, x5⟩ | at5
    ·have ha5 := must_adv hk (s := ⟨n4, m4⟩) (by assumption) _ _ hq5
     have hn5 : n5 < l.length := ha5.2
     apply Exec.regionL te_ok
     ·intro u' Q hQ
      simp only [go_sem, hsh0]
      repeat refine ob2 ?_
      refine kcallM 900 hR.inv te_ok rfl rfl rfl rfl rfl rfl rfl rfl rfl (fOk (must_ok l n4 m4 [93, 61, 62] (by assumption) hk.len) hq5) ?_
      simp only [go_sem, hsh0]
      repeat refine ob2 ?_
      exact hQ
     refine sq ?_
     rcases hq11 : vertexP l ⟨n5, m5⟩ with ⟨⟨n11, m11⟩, x11⟩ | at11
     ·have ha11 := vertex_adv hk (s := ⟨n5, m5⟩) (by assumption) _ _ hq11
      have hn11 : n11 < l.length := ha11.2
      apply Exec.regionL te_ok
      ·intro u' Q hQ
       simp only [go_sem, hsh0]
       repeat refine ob2 ?_
       refine kcallM 900 hR.inv te_ok rfl rfl rfl rfl rfl rfl rfl rfl rfl (fOk (pvertex_ok l n5 m5 hk (by assumption)) hq11) ?_
       simp only [go_sem, hsh0]
       repeat refine ob2 ?_
       exact hQ
      refine sq ?_
      apply Exec.regionL te_ok
      ·intro u' Q hQ
       simp only [go_sem, hsh0]
       repeat refine ob2 ?_
       exact hQ
      refine Exec.retsMu hR te_ok rfl .nil rfl rfl rfl ?_ (.inr ⟨_, rfl⟩)
      refine ⟨_, _, outP_ok (s := ⟨n11, m11⟩) (x := ⟨x1, x11, true, [], [], x4⟩) (by simp only [patP, PR.bind, hq1, h0, reduceIte, PS.adv, hq4, hq5, hq11]), ?_⟩
      simp only [go_sem, kz]
      exact h0
     ·refine Exec.regStart 4 rfl ?_
      apply Exec.regPart 0 1 3 te_ok rfl
      ·intro u' Q hQ
       simp only [go_sem, hsh0]
       repeat refine ob2 ?_
       exact hQ
      refine Exec.callP 900 hR.inv rfl rfl rfl rfl rfl rfl rfl rfl rfl (fEr (pvertex_ok l n5 m5 hk (by assumption)) hq11) ?_
      refine ExecP.endM hR .nil ?_
      exact ⟨_, outP_err (a := at11) (by simp only [patP, PR.bind, hq1, h0, reduceIte, PS.adv, hq4, hq5, hq11]), by simp only [go_sem]⟩
    ·refine Exec.regStart 2 rfl ?_
     apply Exec.regPart 0 1 1 te_ok rfl
     ·intro u' Q hQ
      simp only [go_sem, hsh0]
      repeat refine ob2 ?_
      exact hQ
     refine Exec.callP 900 hR.inv rfl rfl rfl rfl rfl rfl rfl rfl rfl (fEr (must_ok l n4 m4 [93, 61, 62] (by assumption) hk.len) hq5) ?_
     refine ExecP.endM hR .nil ?_
     exact ⟨_, outP_err (a := at5) (by simp only [patP, PR.bind, hq1, h0, reduceIte, PS.adv, hq4, hq5]), by simp only [go_sem]⟩
   ·refine Exec.regStart 4 rfl ?_
    apply Exec.regPart 0 1 3 te_ok rfl
    ·intro u' Q hQ
     simp only [go_sem, hsh0]
     repeat refine ob2 ?_
     exact hQ
    refine Exec.callP 900 hR.inv rfl rfl rfl rfl rfl rfl rfl rfl rfl (fEr (pwhole_ok l (n1 + 1) m1 hk (by assumption)) hq4) ?_
    refine ExecP.endM hR .nil ?_
    exact ⟨_, outP_err (a := at4) (by simp only [patP, PR.bind, hq1, h0, reduceIte, PS.adv, hq4]), by simp only [go_sem]⟩
  ·have hsh0 : isS l [61, 91] ⟨n1, m1⟩ = ⟨n1, m1⟩ := by rw [isS, if_neg (by rw [h0]; decide)]
   have hbh0 : ¬ (isP l [61, 91] ⟨n1, m1⟩ = true) := by rw [h0]; decide
   refine sq ?_
   rcases hq6 : mustP l [45, 91] ⟨n1, m1⟩ with ⟨⟨n6, m6⟩, x6⟩ | at6
   ·have ha6 := must_adv hk (s := ⟨n1, m1⟩) (by assumption) _ _ hq6
    have hn6 : n6 < l.length := ha6.2
    apply Exec.regionL te_ok
    ·intro u' Q hQ
     simp only [go_sem, hsh0]
     repeat refine ob2 ?_
     refine kcallM 900 hR.inv te_ok rfl rfl rfl rfl rfl rfl rfl rfl rfl (fOk (must_ok l n1 m1 [45, 91] (by assumption) hk.len) hq6) ?_
     simp only [go_sem, hsh0]
     repeat refine ob2 ?_
     exact hQ
    refine sq ?_
    rcases hq7 : nameP l ⟨n6, m6⟩ with ⟨⟨n7, m7⟩, x7⟩ | at7
    ·have ha7 := name_adv hk (s := ⟨n6, m6⟩) (by assumption) _ _ hq7
     have hn7 : n7 < l.length := ha7.2
     apply Exec.regionL te_ok
     ·intro u' Q hQ
      simp only [go_sem, hsh0]
      repeat refine ob2 ?_
      refine kcallM 900 hR.inv te_ok rfl rfl rfl rfl rfl rfl rfl rfl rfl (fOk (name_ok l n6 m6 (by assumption) hk.len (hk.tx _ (by assumption))) hq7) ?_
      simp only [go_sem, hsh0]
      repeat refine ob2 ?_
      exact hQ
     refine sq ?_
     refine sq ?_
     apply Exec.regionL te_ok
     ·intro u' Q hQ
      simp only [go_sem, hsh0]
      repeat refine ob2 ?_
      refine kcallM 900 hR.inv te_ok rfl rfl rfl rfl rfl rfl rfl rfl rfl (is_ok _ _ _ _ (by assumption) hk.len) ?_
      simp only [go_sem, hsh0]
      repeat refine ob2 ?_
      exact hQ
     refine Exec.cond_split rfl (fun h1 => ?_) (fun h1 => ?_)
     ·have hsh1 : isS l [97, 115] ⟨n7, m7⟩ = ⟨n7 + 1, m7⟩ := by rw [isS, if_pos h1]; rfl
      have hnh1 : n7 + 1 < l.length := is_adv hk (s := ⟨n7, m7⟩) (by assumption) h1
      rcases hq9 : nameP l ⟨(n7 + 1), m7⟩ with ⟨⟨n9, m9⟩, x9⟩ | at9
      ·have ha9 := name_adv hk (s := ⟨(n7 + 1), m7⟩) (by assumption) _ _ hq9
       have hn9 : n9 < l.length := ha9.2
       apply Exec.regionL te_ok
       ·intro u' Q hQ
        simp only [go_sem, hsh0, hsh1]
        repeat refine ob2 ?_
        refine kcallM 900 hR.inv te_ok rfl rfl rfl rfl rfl rfl rfl rfl rfl (fOk (name_ok l (n7 + 1) m7 (by assumption) hk.len (hk.tx _ (by assumption))) hq9) ?_
        simp only [go_sem, hsh0, hsh1]
        repeat refine ob2 ?_
        exact hQ
       rcases hq10 : mustP l [93, 45, 62] ⟨n9, m9⟩ with ⟨⟨n10, m10⟩, x10⟩ | at10
       ·have ha10 := must_adv hk (s := ⟨n9, m9⟩) (by assumption) _ _ hq10
        have hn10 : n10 < l.length := ha10.2
        apply Exec.regionL te_ok
        ·intro u' Q hQ
         simp only [go_sem, hsh0, hsh1]
         repeat refine ob2 ?_
         refine kcallM 900 hR.inv te_ok rfl rfl rfl rfl rfl rfl rfl rfl rfl (fOk (must_ok l n9 m9 [93, 45, 62] (by assumption) hk.len) hq10) ?_
         simp only [go_sem, hsh0, hsh1]
         repeat refine ob2 ?_
         exact hQ
        refine sq ?_
        rcases hq11 : vertexP l ⟨n10, m10⟩ with ⟨⟨n11, m11⟩, x11⟩ | at11
        ·have ha11 := vertex_adv hk (s := ⟨n10, m10⟩) (by assumption) _ _ hq11
         have hn11 : n11 < l.length := ha11.2
         apply Exec.regionL te_ok
         ·intro u' Q hQ
          simp only [go_sem, hsh0, hsh1]
          repeat refine ob2 ?_
          refine kcallM 900 hR.inv te_ok rfl rfl rfl rfl rfl rfl rfl rfl rfl (fOk (pvertex_ok l n10 m10 hk (by assumption)) hq11) ?_
          simp only [go_sem, hsh0, hsh1]
          repeat refine ob2 ?_
          exact hQ
         refine sq ?_
         apply Exec.regionL te_ok
         ·intro u' Q hQ
          simp only [go_sem, hsh0, hsh1]
          repeat refine ob2 ?_
          exact hQ
         refine Exec.retsMu hR te_ok rfl .nil rfl rfl rfl ?_ (.inr ⟨_, rfl⟩)
         refine ⟨_, _, outP_ok (s := ⟨n11, m11⟩) (x := ⟨x1, x11, false, x7, x9, .mk 0 [] []⟩) (by simp only [patP, PR.bind, hq1, h0, reduceIte, Bool.false_eq_true, PS.adv, hq6, hq7, h1, hq9, hq10, hq11]), ?_⟩
         simp only [go_sem, kz]
         exact ⟨h0, rfl, rfl⟩
        ·refine Exec.regStart 4 rfl ?_
         apply Exec.regPart 0 1 3 te_ok rfl
         ·intro u' Q hQ
          simp only [go_sem, hsh0, hsh1]
          repeat refine ob2 ?_
          exact hQ
         refine Exec.callP 900 hR.inv rfl rfl rfl rfl rfl rfl rfl rfl rfl (fEr (pvertex_ok l n10 m10 hk (by assumption)) hq11) ?_
         refine ExecP.endM hR .nil ?_
         exact ⟨_, outP_err (a := at11) (by simp only [patP, PR.bind, hq1, h0, reduceIte, Bool.false_eq_true, PS.adv, hq6, hq7, h1, hq9, hq10, hq11]), by simp only [go_sem]⟩
       ·refine Exec.regStart 2 rfl ?_
        apply Exec.regPart 0 1 1 te_ok rfl
        ·intro u' Q hQ
         simp only [go_sem, hsh0, hsh1]
         repeat refine ob2 ?_
         exact hQ
        refine Exec.callP 900 hR.inv rfl rfl rfl rfl rfl rfl rfl rfl rfl (fEr (must_ok l n9 m9 [93, 45, 62] (by assumption) hk.len) hq10) ?_
        refine ExecP.endM hR .nil ?_
        exact ⟨_, outP_err (a := at10) (by simp only [patP, PR.bind, hq1, h0, reduceIte, Bool.false_eq_true, PS.adv, hq6, hq7, h1, hq9, hq10]), by simp only [go_sem]⟩
      ·refine Exec.regStart 4 rfl ?_
       apply Exec.regPart 0 1 3 te_ok rfl
       ·intro u' Q hQ
        simp only [go_sem, hsh0, hsh1]
        repeat refine ob2 ?_
        exact hQ
       refine Exec.callP 900 hR.inv rfl rfl rfl rfl rfl rfl rfl rfl rfl (fEr (name_ok l (n7 + 1) m7 (by assumption) hk.len (hk.tx _ (by assumption))) hq9) ?_
       refine ExecP.endM hR .nil ?_
       exact ⟨_, outP_err (a := at9) (by simp only [patP, PR.bind, hq1, h0, reduceIte, Bool.false_eq_true, PS.adv, hq6, hq7, h1, hq9]), by simp only [go_sem]⟩
     ·have hsh1 : isS l [97, 115] ⟨n7, m7⟩ = ⟨n7, m7⟩ := by rw [isS, if_neg (by rw [h1]; decide)]
      have hbh1 : ¬ (isP l [97, 115] ⟨n7, m7⟩ = true) := by rw [h1]; decide
      refine sk ?_
      rcases hq10 : mustP l [93, 45, 62] ⟨n7, m7⟩ with ⟨⟨n10, m10⟩, x10⟩ | at10
      ·have ha10 := must_adv hk (s := ⟨n7, m7⟩) (by assumption) _ _ hq10
       have hn10 : n10 < l.length := ha10.2
       apply Exec.regionL te_ok
       ·intro u' Q hQ
        simp only [go_sem, hsh0, hsh1]
        repeat refine ob2 ?_
        refine kcallM 900 hR.inv te_ok rfl rfl rfl rfl rfl rfl rfl rfl rfl (fOk (must_ok l n7 m7 [93, 45, 62] (by assumption) hk.len) hq10) ?_
        simp only [go_sem, hsh0, hsh1]
        repeat refine ob2 ?_
        exact hQ
       refine sq ?_
       rcases hq11 : vertexP l ⟨n10, m10⟩ with ⟨⟨n11, m11⟩, x11⟩ | at11
       ·have ha11 := vertex_adv hk (s := ⟨n10, m10⟩) (by assumption) _ _ hq11
        have hn11 : n11 < l.length := ha11.2
        apply Exec.regionL te_ok
        ·intro u' Q hQ
         simp only [go_sem, hsh0, hsh1]
         repeat refine ob2 ?_
         refine kcallM 900 hR.inv te_ok rfl rfl rfl rfl rfl rfl rfl rfl rfl (fOk (pvertex_ok l n10 m10 hk (by assumption)) hq11) ?_
         simp only [go_sem, hsh0, hsh1]
         repeat refine ob2 ?_
         exact hQ
        refine sq ?_
        apply Exec.regionL te_ok
        ·intro u' Q hQ
         simp only [go_sem, hsh0, hsh1]
         repeat refine ob2 ?_
         exact hQ
        refine Exec.retsMu hR te_ok rfl .nil rfl rfl rfl ?_ (.inr ⟨_, rfl⟩)
        refine ⟨_, _, outP_ok (s := ⟨n11, m11⟩) (x := ⟨x1, x11, false, x7, [], .mk 0 [] []⟩) (by simp only [patP, PR.bind, hq1, h0, reduceIte, Bool.false_eq_true, PS.adv, hq6, hq7, h1, hq10, hq11]), ?_⟩
        simp only [go_sem, kz]
        exact ⟨h0, rfl, rfl⟩
       ·refine Exec.regStart 4 rfl ?_
        apply Exec.regPart 0 1 3 te_ok rfl
        ·intro u' Q hQ
         simp only [go_sem, hsh0, hsh1]
         repeat refine ob2 ?_
         exact hQ
        refine Exec.callP 900 hR.inv rfl rfl rfl rfl rfl rfl rfl rfl rfl (fEr (pvertex_ok l n10 m10 hk (by assumption)) hq11) ?_
        refine ExecP.endM hR .nil ?_
        exact ⟨_, outP_err (a := at11) (by simp only [patP, PR.bind, hq1, h0, reduceIte, Bool.false_eq_true, PS.adv, hq6, hq7, h1, hq10, hq11]), by simp only [go_sem]⟩
      ·refine Exec.regStart 2 rfl ?_
       apply Exec.regPart 0 1 1 te_ok rfl
       ·intro u' Q hQ
        simp only [go_sem, hsh0, hsh1]
        repeat refine ob2 ?_
        exact hQ
       refine Exec.callP 900 hR.inv rfl rfl rfl rfl rfl rfl rfl rfl rfl (fEr (must_ok l n7 m7 [93, 45, 62] (by assumption) hk.len) hq10) ?_
       refine ExecP.endM hR .nil ?_
       exact ⟨_, outP_err (a := at10) (by simp only [patP, PR.bind, hq1, h0, reduceIte, Bool.false_eq_true, PS.adv, hq6, hq7, h1, hq10]), by simp only [go_sem]⟩
    ·refine Exec.regStart 4 rfl ?_
     apply Exec.regPart 0 1 3 te_ok rfl
     ·intro u' Q hQ
      simp only [go_sem, hsh0]
      repeat refine ob2 ?_
      exact hQ
     refine Exec.callP 900 hR.inv rfl rfl rfl rfl rfl rfl rfl rfl rfl (fEr (name_ok l n6 m6 (by assumption) hk.len (hk.tx _ (by assumption))) hq7) ?_
     refine ExecP.endM hR .nil ?_
     exact ⟨_, outP_err (a := at7) (by simp only [patP, PR.bind, hq1, h0, reduceIte, Bool.false_eq_true, PS.adv, hq6, hq7]), by simp only [go_sem]⟩
   ·refine Exec.regStart 2 rfl ?_
    apply Exec.regPart 0 1 1 te_ok rfl
    ·intro u' Q hQ
     simp only [go_sem, hsh0]
     repeat refine ob2 ?_
     exact hQ
    refine Exec.callP 900 hR.inv rfl rfl rfl rfl rfl rfl rfl rfl rfl (fEr (must_ok l n1 m1 [45, 91] (by assumption) hk.len) hq6) ?_
    refine ExecP.endM hR .nil ?_
    exact ⟨_, outP_err (a := at6) (by simp only [patP, PR.bind, hq1, h0, reduceIte, Bool.false_eq_true, PS.adv, hq6]), by simp only [go_sem]⟩
 ·refine Exec.regStart 4 rfl ?_
  apply Exec.regPart 0 1 3 te_ok rfl
  ·intro u' Q hQ
   simp only [go_sem]
   repeat refine ob2 ?_
   exact hQ
  refine Exec.callP 900 hR.inv rfl rfl rfl rfl rfl rfl rfl rfl rfl (fEr (pvertex_ok l n m hk (by assumption)) hq1) ?_
  refine ExecP.endM hR .nil ?_
  exact ⟨_, outP_err (a := at1) (by simp only [patP, PR.bind, hq1]), by simp only [go_sem]⟩
end
end Go.Proofs.YtonchjamoblioaaGreatDoor
