/- Steps of a function body on data, and contracts of the functions of the seat, walked. -/
import Derived.Test.YtonchjamoblioaaGreatDoorKOb2
import Derived.Test.YtonchjamoblioaaGreatDoorVDef
import Derived.Stop.Joined
import Derived.Test.YtonchjamoblioaaGreatDoorExLent
import Derived.Test.YtonchjamoblioaaGreatDoorTie
import Derived.Test.YtonchjamoblioaaGreatDoorCards
import Derived.Test.YtonchjamoblioaaGreatDoorChecked
import Derived.ProofKit
import Derived.LaidMore
import Derived.OpenShut
import Derived.Stop.LaidErr
import Derived.Lib.LaidTab
set_option linter.unusedSimpArgs false
set_option linter.unusedVariables false
set_option linter.unusedSectionVars false
namespace Go.Proofs.YtonchjamoblioaaGreatDoor
open Go.Kin
set_option maxRecDepth 100000
set_option maxHeartbeats 0
theorem lst_kd : ∀ l : List Ex, kdR l = lstR (l.map exC)
 | [] => by funext i; simp [kdR, lstR]
 | x :: r => by
  funext i
  cases i with
  | zero => cases x; simp [kdR, lstR, exC, Ex.k, Ex.s, kdX]
  | succ i => cases x; rw [kdR, lst_kd r]; simp [lstR]
theorem mk_kd (k : Int) (s : List UInt8) (l : List Ex) : kdX (.mk k s l) = .sl 3 l.length l.length (lstR (l.map exC)) := by rw [kd_eq, lst_kd]; rfl
theorem FnOK.res {I : World → Prop} {P : Program} {f : FuncId} {args : List D} {r r' : D} (h : FnOK I P f args r) (hle : LeD r r') : FnOK I P f args r' :=
 ⟨h.1, fun w Z vs hi hz hr => Calls.mono (h.2 w Z vs hi hz hr) fun e w' ⟨v, Z', h1, h2, h3, h4⟩ => ⟨v, Z', h1, h2, h3, hle _ _ _ h4⟩⟩
theorem label_x (s : List UInt8) : FnOK Laid Tryz.prog 24 [sv s] (exD (.mk 1 s [])) :=
 FnOK.res (label_ok s) (LeD.ag ⟨LeD.refl _, LeD.refl _, by rw [kd_eq]; exact LeD.nil 3 _, trivial⟩)
theorem of_x (k : Int) (l : List Ex) : FnOK Laid Tryz.prog 25 [iv k, .sl 3 l.length l.length (lstR (l.map exC))] (exD (.mk k [] l)) :=
 FnOK.res (of_ok k l.length (lstR (l.map exC))) (LeD.ag ⟨LeD.refl _, LeD.refl _, by rw [mk_kd]; exact LeD.refl _, trivial⟩)
def abW : List (List UInt8) := [[97], [98]]
def abL (n : Nat) : Ex := .mk 1 (nth abW (n % 2)) []
/-- small expressions -/
def smX : Nat → Nat → Ex
 | 0, n => abL n
 | d + 1, n => if n % 8 < 2 then abL n else if n % 8 = 2 then .mk 2 [] [smX d (n / 8), smX d (n / 64)] else if n % 8 = 3 then .mk 2 [] [smX d (n / 8), smX d (n / 64), .mk 1 [99] []] else if n % 8 = 4 then .mk 3 [] [smX d (n / 8), smX d (n / 64)]
  else if n % 8 = 5 then .mk 4 [] [smX d (n / 8)] else if n % 8 = 6 then .mk 5 [] [smX d (n / 8)] else .mk 6 [] [smX d (n / 8)]
theorem ab_fit (n : Nat) : FitX (abL n) := by
 refine .mk ?_ (by simp [abL, Ex.kids]) fun y hy => by cases hy
 have h : n % 2 < 2 := Nat.mod_lt _ (by decide)
 have : ∀ i, i < 2 → (nth abW i).length ≤ 1 := by decide
 have := this _ h
 show (nth abW (n % 2)).length ≤ _; omega
theorem mk_fit {k : Int} {l : List Ex} (hl : l.length ≤ 30) (h : ∀ y ∈ l, FitX y) : FitX (.mk k [] l) := .mk (by simp [Ex.s]) (by show l.length ≤ _; omega) h
theorem sm_fit : ∀ d n, FitX (smX d n)
 | 0, n => ab_fit n
 | d + 1, n => by
  have h1 := sm_fit d (n / 8)
  have h2 := sm_fit d (n / 64)
  have h3 : FitX (.mk 1 [99] []) := .mk (by simp [Ex.s]) (by simp [Ex.kids]) fun y hy => by cases hy
  unfold smX
  repeat' split
  ·exact ab_fit n
  all_goals refine mk_fit (by simp) fun y hy => ?_
  all_goals simp only [List.mem_cons, List.not_mem_nil, or_false] at hy
  all_goals first | (rcases hy with rfl | rfl | rfl <;> assumption) | (rcases hy with rfl | rfl <;> assumption) | (subst hy; assumption)
theorem nmod (n m : Nat) : ((n : Int)).tmod (m : Int) = ((n % m : Nat) : Int) := rfl
theorem ndiv (n m : Nat) : ((n : Int)).tdiv (m : Int) = ((n / m : Nat) : Int) := rfl
theorem abRow (n : Nat) : lstR [[D.v (Value.string (mkS [97]))], [D.v (Value.string (mkS [98]))]] (n % 2) = [D.v (Value.string (mkS (nth abW (n % 2))))] := lst_row (fun x => [sv x]) abW (i := n % 2) (Nat.mod_lt _ (by decide))
theorem of_sl (k : Int) (a : Option Addr) (n c : Nat) : FnOK Laid Tryz.prog 25 [iv k, .v (.slice a n c)] (.ag [iv k, sv [], .v (.slice a n c)]) := by
 refine FnOK_of laid_stable Tryz.func25 Tryz.ntmps25 rfl (by as_aux_lemma => kernel_rfl) (Nat.le_of_ble_eq_true rfl) (fun R hR => ?_)
 obtain ⟨_, b, cs, T, C⟩ := R
 obtain rfl : _ = Tryz.prog := hR.p
 refine sreg te_ok ?_
 refine sreg te_ok ?_
 refine Exec.rets hR te_ok rfl rfl rfl (LeX.le ?_) (.inr ⟨_, rfl⟩)
 simp only [go_sem]
theorem sm_lab {d n : Nat} (h : d = 0 ∨ n % 8 < 2) : smX d n = abL n := by
 cases d with
 | zero => rfl
 | succ d => unfold smX; rw [if_pos (h.resolve_left (by omega))]
theorem sm_on {d n : Nat} (h : ¬ d = 0) (h2 : ¬ n % 8 < 2) : smX d n = if n % 8 = 2 then .mk 2 [] [smX (d - 1) (n / 8), smX (d - 1) (n / 64)] else if n % 8 = 3 then .mk 2 [] [smX (d - 1) (n / 8), smX (d - 1) (n / 64), .mk 1 [99] []] else if n % 8 = 4 then .mk 3 [] [smX (d - 1) (n / 8), smX (d - 1) (n / 64)]
  else if n % 8 = 5 then .mk 4 [] [smX (d - 1) (n / 8)] else if n % 8 = 6 then .mk 5 [] [smX (d - 1) (n / 8)] else .mk 6 [] [smX (d - 1) (n / 8)] := by
 cases d with
 | zero => exact absurd rfl h
 | succ d => exact (if_neg h2 : (if n % 8 < 2 then abL n else _) = _)
theorem small_step (d n : Nat) (hd : d ≤ 4) (hn : n ≤ 1000000) (ih : ∀ m : Nat, m ≤ 1000000 → 0 < d → FnOK Laid Tryz.prog 22 [iv m, iv ((d : Int) - 1)] (exD (smX (d - 1) m))) : FnOK Laid Tryz.prog 22 [iv n, iv d] (exD (smX d n)) := by
 refine FnOK_of laid_stable Tryz.func22 Tryz.ntmps22 rfl (by as_aux_lemma => kernel_rfl) (Nat.le_of_ble_eq_true rfl) (fun R hR => ?_)
 obtain ⟨_, b, cs, T, C⟩ := R
 obtain rfl : _ = Tryz.prog := hR.p
 have hm8 := Nat.mod_lt n (show 0 < 8 by decide)
 have e1 : ((n : Int)).tmod 8 = ((n % 8 : Nat) : Int) := rfl
 have e2 : ((n : Int)).tmod 2 = ((n % 2 : Nat) : Int) := rfl
 have e3 : ((n : Int)).tdiv 8 = ((n / 8 : Nat) : Int) := rfl
 have e4 : ((n : Int)).tdiv 64 = ((n / 64 : Nat) : Int) := rfl
 have har := abRow n
 have w8 : IntKind.i64.wrap ((n / 8 : Nat) : Int) = ((n / 8 : Nat) : Int) := wrap_id (by constructor <;> omega)
 have w64 : IntKind.i64.wrap ((n / 64 : Nat) : Int) = ((n / 64 : Nat) : Int) := wrap_id (by constructor <;> omega)
 refine sq ?_
 apply Exec.regionL te_ok
 ·intro u' Q hQ
  simp only [go_sem, e1, e2, e3, e4, har, w8, w64]
  repeat refine ob2 ?_
  exact hQ
 refine sq ?_
 refine sq ?_
 apply Exec.regionL te_ok
 ·intro u' Q hQ
  simp only [go_sem, e1, e2, e3, e4, har, w8, w64]
  repeat refine ob2 ?_
  exact hQ
 refine Exec.cond_split rfl (fun h0 => ?_) (fun h0 => ?_)
 ·refine sq ?_
  apply Exec.regionL te_ok
  ·intro u' Q hQ
   simp only [go_sem, e1, e2, e3, e4, har, w8, w64]
   repeat refine ob2 ?_
   refine kcall hR.inv te_ok rfl rfl rfl rfl rfl rfl (label_x _) ?_
   simp only [go_sem, e1, e2, e3, e4, har, w8, w64]
   repeat refine ob2 ?_
   exact hQ
  refine Exec.rets hR te_ok rfl rfl rfl (LeX.le ?_) (.inr ⟨_, rfl⟩)
  rw [sm_lab (by simp at h0; omega)]
  simp only [go_sem, e1, e2, e3, e4, har, abL]
 ·have hd0 : ¬ d = 0 ∧ ¬ n % 8 < 2 := by simp at h0; omega
  have hsm := sm_on hd0.1 hd0.2
  have wd1 : IntKind.i64.wrap ((d : Int) - 1) = (d : Int) - 1 := wrap_id (by constructor <;> omega)
  refine sk ?_
  refine sq ?_
  apply Exec.regionL te_ok
  ·intro u' Q hQ
   simp only [go_sem, e1, e2, e3, e4, har, w8, w64, wd1]
   repeat refine ob2 ?_
   refine kcall hR.inv te_ok rfl rfl rfl rfl rfl rfl (ih (n / 8) (by omega) (by omega)) ?_
   simp only [go_sem, e1, e2, e3, e4, har, w8, w64, wd1]
   repeat refine ob2 ?_
   refine kcall hR.inv te_ok rfl rfl rfl rfl rfl rfl (ih (n / 64) (by omega) (by omega)) ?_
   simp only [go_sem, e1, e2, e3, e4, har, w8, w64, wd1]
   repeat refine ob2 ?_
   exact hQ
  refine sq ?_
  refine sq ?_
  apply Exec.regionL te_ok
  ·intro u' Q hQ
   simp only [go_sem, e1, e2, e3, e4, har, w8, w64, wd1]
   repeat refine ob2 ?_
   exact hQ
  refine Exec.block ?_
  refine sq ?_
  apply Exec.regionL te_ok
  ·intro u' Q hQ
   simp only [go_sem, e1, e2, e3, e4, har, w8, w64, wd1]
   repeat refine ob2 ?_
   exact hQ
  refine Exec.cond_split rfl (fun h1 => ?_) (fun h1 => ?_)
  ·refine sq ?_
   apply Exec.regionL te_ok
   ·intro u' Q hQ
    simp only [go_sem, e1, e2, e3, e4, har, w8, w64, wd1]
    repeat refine ob2 ?_
    refine kcallP (rs := [iv 2, sv []]) hR.inv te_ok rfl rfl rfl rfl rfl rfl rfl rfl (fun a m c => of_sl 2 a m c) ?_
    simp only [go_sem, e1, e2, e3, e4, har, w8, w64, wd1]
    repeat refine ob2 ?_
    exact hQ
   refine Exec.rets hR te_ok rfl rfl rfl (LeX.le ?_) (.inr ⟨_, rfl⟩)
   have k2 : n % 8 = 2 := by simp at h1; omega
   rw [hsm, if_pos k2]
   simp only [go_sem, e1, e2, e3, e4, har, w8, w64, wd1, mk_kd, exC]
   try rw [mk_kd]
   first | (refine ⟨rfl, rfl, rfl, .inl rfl, .inl ⟨rfl, fun i _ => ?_⟩⟩; rfl) | trivial
  ·refine sq ?_
   apply Exec.regionL te_ok
   ·intro u' Q hQ
    simp only [go_sem, e1, e2, e3, e4, har, w8, w64, wd1]
    repeat refine ob2 ?_
    exact hQ
   refine Exec.cond_split rfl (fun h2 => ?_) (fun h2 => ?_)
   ·refine sq ?_
    apply Exec.free (st := _) 7 6 [(0, 1), (0, 2), (1, 2)] te_ok (by as_aux_lemma => kernel_rfl) rfl (by as_aux_lemma => kernel_rfl)
    ·intro u' Q hQ
     simp only [go_sem, e1, e2, e3, e4, har, w8, w64, wd1]
     repeat refine ob2 ?_
     refine kfcall hR.inv te_ok rfl rfl rfl rfl rfl rfl (label_x _) ?_
     simp only [go_sem, e1, e2, e3, e4, har, w8, w64, wd1]
     repeat refine ob2 ?_
     refine kfcall hR.inv te_ok rfl rfl rfl rfl rfl rfl (of_ok 2 3 _) ?_
     simp only [go_sem, e1, e2, e3, e4, har, w8, w64, wd1]
     repeat refine ob2 ?_
     exact hQ
    ·rfl
    refine Exec.rets hR te_ok rfl rfl rfl (LeX.le ?_) (.inr ⟨_, rfl⟩)
    have k2 : ¬ n % 8 = 2 := by simp at h1; omega
    have k3 : n % 8 = 3 := by simp at h2; omega
    rw [hsm, if_neg k2, if_pos k3]
    simp only [go_sem, e1, e2, e3, e4, har, w8, w64, wd1, mk_kd, exC]
    try rw [mk_kd]
    first | (refine ⟨rfl, rfl, rfl, .inl rfl, .inl ⟨rfl, fun i _ => ?_⟩⟩; rfl) | trivial
   ·refine sq ?_
    apply Exec.regionL te_ok
    ·intro u' Q hQ
     simp only [go_sem, e1, e2, e3, e4, har, w8, w64, wd1]
     repeat refine ob2 ?_
     exact hQ
    refine Exec.cond_split rfl (fun h3 => ?_) (fun h3 => ?_)
    ·refine sq ?_
     apply Exec.regionL te_ok
     ·intro u' Q hQ
      simp only [go_sem, e1, e2, e3, e4, har, w8, w64, wd1]
      repeat refine ob2 ?_
      refine kcallP (rs := [iv 3, sv []]) hR.inv te_ok rfl rfl rfl rfl rfl rfl rfl rfl (fun a m c => of_sl 3 a m c) ?_
      simp only [go_sem, e1, e2, e3, e4, har, w8, w64, wd1]
      repeat refine ob2 ?_
      exact hQ
     refine Exec.rets hR te_ok rfl rfl rfl (LeX.le ?_) (.inr ⟨_, rfl⟩)
     have k2 : ¬ n % 8 = 2 := by simp at h1; omega
     have k3 : ¬ n % 8 = 3 := by simp at h2; omega
     have k4 : n % 8 = 4 := by simp at h3; omega
     rw [hsm, if_neg k2, if_neg k3, if_pos k4]
     simp only [go_sem, e1, e2, e3, e4, har, w8, w64, wd1, mk_kd, exC]
     try rw [mk_kd]
     first | (refine ⟨rfl, rfl, rfl, .inl rfl, .inl ⟨rfl, fun i _ => ?_⟩⟩; rfl) | trivial
    ·refine sq ?_
     apply Exec.regionL te_ok
     ·intro u' Q hQ
      simp only [go_sem, e1, e2, e3, e4, har, w8, w64, wd1]
      repeat refine ob2 ?_
      exact hQ
     refine Exec.cond_split rfl (fun h4 => ?_) (fun h4 => ?_)
     ·refine sq ?_
      apply Exec.regionL te_ok
      ·intro u' Q hQ
       simp only [go_sem, e1, e2, e3, e4, har, w8, w64, wd1]
       repeat refine ob2 ?_
       refine kcallP (rs := [iv 4, sv []]) hR.inv te_ok rfl rfl rfl rfl rfl rfl rfl rfl (fun a m c => of_sl 4 a m c) ?_
       simp only [go_sem, e1, e2, e3, e4, har, w8, w64, wd1]
       repeat refine ob2 ?_
       exact hQ
      refine Exec.rets hR te_ok rfl rfl rfl (LeX.le ?_) (.inr ⟨_, rfl⟩)
      have k2 : ¬ n % 8 = 2 := by simp at h1; omega
      have k3 : ¬ n % 8 = 3 := by simp at h2; omega
      have k4 : ¬ n % 8 = 4 := by simp at h3; omega
      have k5 : n % 8 = 5 := by simp at h4; omega
      rw [hsm, if_neg k2, if_neg k3, if_neg k4, if_pos k5]
      simp only [go_sem, e1, e2, e3, e4, har, w8, w64, wd1, mk_kd, exC]
      try rw [mk_kd]
      first | (refine ⟨rfl, rfl, rfl, .inl rfl, .inl ⟨rfl, fun i _ => ?_⟩⟩; rfl) | trivial
     ·refine sq ?_
      apply Exec.regionL te_ok
      ·intro u' Q hQ
       simp only [go_sem, e1, e2, e3, e4, har, w8, w64, wd1]
       repeat refine ob2 ?_
       exact hQ
      refine Exec.cond_split rfl (fun h5 => ?_) (fun h5 => ?_)
      ·refine sq ?_
       apply Exec.regionL te_ok
       ·intro u' Q hQ
        simp only [go_sem, e1, e2, e3, e4, har, w8, w64, wd1]
        repeat refine ob2 ?_
        refine kcallP (rs := [iv 5, sv []]) hR.inv te_ok rfl rfl rfl rfl rfl rfl rfl rfl (fun a m c => of_sl 5 a m c) ?_
        simp only [go_sem, e1, e2, e3, e4, har, w8, w64, wd1]
        repeat refine ob2 ?_
        exact hQ
       refine Exec.rets hR te_ok rfl rfl rfl (LeX.le ?_) (.inr ⟨_, rfl⟩)
       have k2 : ¬ n % 8 = 2 := by simp at h1; omega
       have k3 : ¬ n % 8 = 3 := by simp at h2; omega
       have k4 : ¬ n % 8 = 4 := by simp at h3; omega
       have k5 : ¬ n % 8 = 5 := by simp at h4; omega
       have k6 : n % 8 = 6 := by simp at h5; omega
       rw [hsm, if_neg k2, if_neg k3, if_neg k4, if_neg k5, if_pos k6]
       simp only [go_sem, e1, e2, e3, e4, har, w8, w64, wd1, mk_kd, exC]
       try rw [mk_kd]
       first | (refine ⟨rfl, rfl, rfl, .inl rfl, .inl ⟨rfl, fun i _ => ?_⟩⟩; rfl) | trivial
      ·refine sk ?_
       refine Exec.inBlock ?_
       refine sq ?_
       apply Exec.regionL te_ok
       ·intro u' Q hQ
        simp only [go_sem, e1, e2, e3, e4, har, w8, w64, wd1]
        repeat refine ob2 ?_
        refine kcallP (rs := [iv 6, sv []]) hR.inv te_ok rfl rfl rfl rfl rfl rfl rfl rfl (fun a m c => of_sl 6 a m c) ?_
        simp only [go_sem, e1, e2, e3, e4, har, w8, w64, wd1]
        repeat refine ob2 ?_
        exact hQ
       refine Exec.rets hR te_ok rfl rfl rfl (LeX.le ?_) (.inr ⟨_, rfl⟩)
       have k2 : ¬ n % 8 = 2 := by simp at h1; omega
       have k3 : ¬ n % 8 = 3 := by simp at h2; omega
       have k4 : ¬ n % 8 = 4 := by simp at h3; omega
       have k5 : ¬ n % 8 = 5 := by simp at h4; omega
       have k6 : ¬ n % 8 = 6 := by simp at h5; omega
       rw [hsm, if_neg k2, if_neg k3, if_neg k4, if_neg k5, if_neg k6]
       simp only [go_sem, e1, e2, e3, e4, har, w8, w64, wd1, mk_kd, exC]
       try rw [mk_kd]
       first | (refine ⟨rfl, rfl, rfl, .inl rfl, .inl ⟨rfl, fun i _ => ?_⟩⟩; rfl) | trivial
end Go.Proofs.YtonchjamoblioaaGreatDoor
namespace Go.Kin
open Go.RowKit
section
variable {H : Type} {enc : TypeId × Value → H} {P : Program} {W : World} {te : TE}
/-- **A law's row, where variables are laid.** Its function answers true at data of the parameters' shapes; its arguments read as before. -/
theorem law_rowL {I : World → Prop} {X : World → Array Value → Prop} (hX : ∀ (w w' : World) (args : Array Value), w.heap = w'.heap → X w args → X w' args) (hXI : ∀ W args, X W args → I W) {C : _root_.Go.Checked} {os : Os} {f : FuncId} {fn : Func} {s : ChangeSpec} {tb : TypeId} (us : List TypeId) (hts : okAll te us = true) (hC : C.prog = P) (hte : TEok P te) (own : ownKnob P.godebug = none) (hlaid : laidOutB P = true) (started : os.Started) (noInit : P.inits.idxOf? f = none) (hfn : P.funcs[f]? = some fn)
    (witness : ∃ (w : World) (tape : Tape) (i : Input), w.os = os ∧ (w.forCall tape i).Shaped C.prog ∧ i.vars = [] ∧ Input.okWide C.prog (w.forCall tape i) .any w.heap.size f i ∧
      ((s.pre enc C.prog fn [] false (w.forCall tape i).memory i.args ∧ X (w.forCall tape i).memory i.args) ∧ sizedMet enc C.prog fn (OpenSpec.ofChange s) false (w.forCall tape i).memory i.args) ∧ ({} : Assume).holds C.prog (lone (Frame.enter C.prog f i.args .normal) [] (w.forCall tape i)))
    (hvars : s.vars = []) (hres : fn.resultTypes = #[tb]) (htb : P.underlying tb = some .bool)
    (hs : ∀ (ds : List (DataW H)), ds.length = fn.params.size → (s.fn H ds).results = [.lit (.bool true)] ∧ (s.fn H ds).args = ds ∧ (s.fn H ds).vars = [])
    (hok : (fn.params.toList.all fun t => us.contains t && P.readableRec t && decide (t < P.types.size)) = true)
    (h : ∀ xs, ArgsShp te fn.params.toList xs → FnOK I P f xs (.v (.bool true))) :
    ReturnsInHanded {} C os f .any (fun w args => (s.pre enc C.prog fn [] false w args ∧ X w args) ∧ sizedMet enc C.prog fn (OpenSpec.ofChange s) false w args) (s.post enc C.prog fn false true false false) := by
  subst hC
  refine returnsInHanded_of_change_and (X := X) hX own started noInit hfn witness ?_
  intro W base args ds gs before hval hW _ hwt hXW _
  have hW' := hW
  obtain ⟨p, q, hA, hV, rfl, hfz, hnd⟩ := hW
  rw [hvars] at hV
  have hgs : gs = [] ∧ q = [] := by
    cases gs with
    | nil => exact ⟨rfl, hV⟩
    | cons g gs => exact hV.elim
  obtain ⟨rfl, rfl⟩ := hgs
  have hall : ∀ t ∈ fn.params.toList, us.contains t = true ∧ C.prog.readableRec t = true ∧ t < C.prog.types.size := fun t ht => by
    have := List.all_eq_true.1 hok t ht
    simpa [and_assoc] using this
  have hwt' : ∀ x ∈ DataW.weightsEach C.prog fn.params.toList ds, x ≤ reachBytes := fun x hx => by
    have hv0 : s.plain.varTypes C.prog = [] := by simp [DataSpec.varTypes, ChangeSpec.plain, hvars]
    rw [hv0, List.append_nil, List.append_nil] at hwt
    simpa using List.all_eq_true.1 hwt x hx
  obtain ⟨xs, hx1, hx2⟩ := args_rd hte hts (fun t ht => (hall t ht).1) (fun j t v h1 h2 => hval j t v (by simpa using h1) (by simpa using h2)) hA hwt'
  have hc := (h xs hx1).2 W (fun b => b < W.heap.size) args.toList (hXI _ _ hXW) (fun b hb => hb) hx2
  rw [Array.toArray_toList] at hc
  refine Calls.mono hc fun e W' he => ?_
  obtain ⟨v, Z', rfl, hb, _, hv⟩ := he
  simp only [RdV] at hv
  subst hv
  have hlen : ds.length = fn.params.size := by
    have : ∀ {ts : List TypeId} {vs : List Value} {ds : List (DataW H)} {ps : List MemPlace}, DataW.TrodAll enc C.prog W 0 (fun _ => true) true ts vs ds ps → ds.length = ts.length := by
      intro ts
      induction ts with
      | nil => intro vs ds ps h; cases vs <;> cases ds <;> first | rfl | exact h.elim
      | cons t ts ih =>
        intro vs ds ps h
        cases vs with
        | nil => exact h.elim
        | cons v vs => cases ds with
          | nil => exact h.elim
          | cons d ds => obtain ⟨_, _, _, h2, _⟩ := h; simp [ih h2]
    simpa using this hA
  obtain ⟨e1, e2, e3⟩ := hs ds hlen
  refine ⟨.bool true, rfl, post_of_below (pa := p) (pv := []) hW' (fun b sp hd => ?_) (fun sp hsp => ?_) (fun sp _ => ?_) rfl hb ?_⟩
  · rw [List.append_nil, e1, hres]
    exact ⟨[], [], ⟨1, by simp [DataW.trod, htb, Value.cells]⟩, rfl, rfl⟩
  · rw [List.append_nil, e2]
    exact trodAll_stays hlaid (fun t ht => (hall t ht).2) hA (fun x hx => hb.same (hW'.lt x (by simpa using hx))) (fun x hx => hsp x (by simpa using hx))
  · rw [List.append_nil, e3, hvars]; rfl
  · intro j t r hj hr
    rw [hres] at hj hr
    match j, hj, hr with
    | 0, hj, hr =>
      simp [Value.resultList] at hj hr
      subst hj; subst hr
      simp [Value.okWide, Cell.okWide, Cell.ok, htb]
end
end Go.Kin
namespace Go.Proofs.YtonchjamoblioaaGreatDoor
open Go.Kin
set_option maxRecDepth 100000
theorem own_ok : ownKnob Tryz.prog.godebug = none := by kernel_rfl
theorem laid_ok : laidOutB Tryz.prog = true := by kernel_rfl
def tys : List TypeId := [3, 4, 9, 22, 23, 24, 26, 27, 28, 30, 45, 46, 47, 49, 51, 53, 56]
theorem tys_ok : okAll te tys = true := by kernel_rfl
/-! ### the arguments of a law, as data -/
/-! ### what the rows lay -/
theorem gPow : Tryz.prog.globalNamed powName = some 0 := by kernel_rfl
def laidV : List (String × DataW Unit) := Rows.showTellsRow.laid
theorem tPow : (Tryz.prog.globals[0]?).map (·.type) = some 206 := by kernel_rfl
theorem laidV_laid {W : World} (h : laidMetH Tryz.prog laidV W) : Laid W := by
 rw [MakeChecks.laidMetH_plain _ _ _ (by kernel_rfl)] at h
 exact ⟨Lib.tabIs_of_head gPow tPow Tryz.underlying206 Tryz.underlying191 (by kernel_rfl) (by kernel_rfl) h.tail.tail⟩
theorem doorV (os : Os) (args : Array Value) : laidMetH Tryz.prog laidV ((World.doorLaid Tryz.prog 200 os).forCall (fun _ _ => 0) ⟨#[], args, []⟩).memory :=
 laidMetH_of_parts3 (fuel := 8) (laidMet_of_run' 8 (by kernel_rfl) (by kernel_rfl)) (by kernel_rfl) (by kernel_rfl)
end Go.Proofs.YtonchjamoblioaaGreatDoor
namespace Go.Proofs.YtonchjamoblioaaGreatDoor
open Go.Kin
set_option maxRecDepth 100000
set_option maxHeartbeats 0
theorem small_ok : ∀ d n : Nat, d ≤ 4 → n ≤ 1000000 → FnOK Laid Tryz.prog 22 [iv n, iv d] (exD (smX d n))
 | 0, n, hd, hn => small_step 0 n hd hn fun _ _ h => absurd h (by decide)
 | d + 1, n, hd, hn => small_step (d + 1) n hd hn fun m hm _ => by
  have h := small_ok d m (by omega) hm
  have e : (((d + 1 : Nat) : Int) - 1) = (d : Int) := by omega
  rw [e]; exact h
/-- a slice of such things -/
def LstD {α : Type} [Inhabited α] (k : Nat) (C : α → List D) (R : α → Prop) (d : D) : Prop := ∃ l : List α, l.length ≤ 100 ∧ (∀ p ∈ l, R p) ∧ LeD d (.sl k l.length l.length fun i => C (nth l i))
theorem LstD.nil {α : Type} [Inhabited α] {k : Nat} {C : α → List D} {R : α → Prop} : LstD k C R (.v (.slice none 0 0)) := ⟨[], by simp, by simp, LeD.nil k _⟩
theorem rows_list {α : Type} [Inhabited α] {C : α → List D} {R : α → Prop} : ∀ (n : Nat) (row : Nat → List D), (∀ i, i < n → ∃ p, LeDs (row i) (C p) ∧ R p) → ∃ l : List α, l.length = n ∧ (∀ p ∈ l, R p) ∧ ∀ i, i < n → LeDs (row i) (C (nth l i))
 | 0, _, _ => ⟨[], rfl, by simp, fun i h => by omega⟩
 | n + 1, row, h => by
  obtain ⟨p, h1, h2⟩ := h 0 (by omega)
  obtain ⟨l, rfl, h4, h5⟩ := rows_list (C := C) (R := R) n (fun i => row (i + 1)) fun i hi => h (i + 1) (by omega)
  refine ⟨p :: l, rfl, fun q hq => ?_, fun i hi => ?_⟩
  ·rcases List.mem_cons.1 hq with rfl | hq
   ·exact h2
   ·exact h4 q hq
  ·cases i with
   | zero => exact h1
   | succ i => exact h5 i (by omega)
theorem LstD.rows {α : Type} [Inhabited α] {k n : Nat} {C : α → List D} {R : α → Prop} {row : Nat → List D} (hn : n ≤ 100) (hlf : ∀ p, lfR (C p) = true) (h : ∀ i, i < n → ∃ p, LeDs (row i) (C p) ∧ R p) : LstD k C R (.sl k n n row) := by
 obtain ⟨l, rfl, h1, h2⟩ := rows_list n row h
 exact ⟨l, hn, h1, LeD.rows fun i hi => ⟨h2 i hi, hlf _⟩⟩
theorem tells_any {dp dc dr : D} {a b : Int} {x : Ex} (hp : LstD 8 ptC RawP dp) (hc : LstD 13 cdC FitC dc) (hr : LstD 6 opC FitO dr) (hx : FitX x) : FnOK Laid Tryz.prog 3 [.ag [dp, dc, dr, iv a, iv b], exD x] (bv true) := by
 obtain ⟨lp, p1, p2, p3⟩ := hp
 obtain ⟨lc, c1, c2, c3⟩ := hc
 obtain ⟨lr, r1, r2, r3⟩ := hr
 exact (tells_ok ⟨lp, lc, lr, a, b⟩ x ⟨by show lp.length ≤ _; omega, by show lc.length ≤ _; omega, by show lr.length ≤ _; omega, p2, c2, r2⟩ hx).args ⟨LeD.ag ⟨p3, c3, r3, LeD.refl _, LeD.refl _, trivial⟩, LeD.refl _, trivial⟩
theorem tells0 {x : Ex} (hx : FitX x) : FnOK Laid Tryz.prog 3 [.ag [.v (.slice none 0 0), .v (.slice none 0 0), .v (.slice none 0 0), iv 0, iv 0], exD x] (bv true) := tells_any .nil .nil .nil hx
theorem pt_any {a z lab name : List UInt8} {b : Bool} {x : Ex} {d : D} (ha : a.length ≤ 100) (hz : z.length ≤ 100) (hl : lab.length ≤ 100) (hn : name.length ≤ 100) (hx : FitX x) (hd : LeD d (kdX x)) : ∃ p, LeDs [sv a, sv z, bv b, sv lab, sv name, iv x.k, sv x.s, d] (ptC p) ∧ RawP p :=
 ⟨⟨a, z, b, lab, name, x⟩, ⟨LeD.refl _, LeD.refl _, LeD.refl _, LeD.refl _, LeD.refl _, LeD.refl _, LeD.refl _, hd, trivial⟩, ⟨by show a.length ≤ _; omega, by show z.length ≤ _; omega, by show lab.length ≤ _; omega, by show name.length ≤ _; omega, hx⟩⟩
theorem op_any {k vk vn : Int} {n key vs : List UInt8} (h1 : n.length ≤ 100) (h2 : key.length ≤ 100) (h3 : vs.length ≤ 100) : FitO ⟨k, n, key, vk, vn, vs⟩ := ⟨by show n.length ≤ _; omega, by show key.length ≤ _; omega, by show vs.length ≤ _; omega⟩
theorem lab_fit {k : Int} {s : List UInt8} (h : s.length ≤ 100) : FitX (.mk k s []) := .mk (by show s.length ≤ _; omega) (by simp [Ex.kids]) fun y hy => by cases hy
theorem zx_fit : FitX (.mk 0 [] []) := lab_fit (by simp)
/-- labels, one behind the other -/
theorem kids_any {n : Nat} {row : Nat → List D} {k : Int} {s : List UInt8} (hs : s.length ≤ 100) (hn : n ≤ 100) (h : ∀ i, i < n → ∃ t : List UInt8, LeDs (row i) (exC (.mk 1 t [])) ∧ t.length ≤ 100) : ∃ x : Ex, x.k = k ∧ x.s = s ∧ FitX x ∧ LeD (.sl 3 n n row) (kdX x) := by
 obtain ⟨l, rfl, h1, h2⟩ := rows_list (C := exC) (R := FitX) n row fun i hi => (h i hi).elim fun t ht => ⟨_, ht.1, lab_fit ht.2⟩
 refine ⟨.mk k s l, rfl, rfl, .mk (by show s.length ≤ _; omega) (by show l.length ≤ _; omega) h1, ?_⟩
 rw [mk_kd]
 refine LeD.rows fun i hi => ?_
 have e : lstR (l.map exC) i = exC (nth l i) := lst_row exC l hi
 rw [e]
 exact ⟨h2 i hi, exD_lf _⟩
theorem of_nil (k : Int) : FnOK Laid Tryz.prog 25 [iv k, .v (.slice none 0 0)] (exD (.mk k [] [])) := (of_x k []).args ⟨LeD.refl _, LeD.nil 3 _, trivial⟩
theorem catR_const (i : Nat) (r : List D) : ∀ j, j < i + 1 → catR i (fun _ => r) (lstR [r]) j = r := fun j hj => by
 unfold catR
 split
 ·rfl
 ·have : j - i = 0 := by omega
  rw [this]; rfl
theorem patK {a z : List UInt8} {row : Nat → List D} (ha : a.length ≤ 100) (hz : z.length ≤ 100) (h : ∀ j, j < 23 → ∃ t : List UInt8, LeDs (row j) (exC (.mk 1 t [])) ∧ t.length ≤ 100) : ∃ p, LeDs [sv a, sv z, bv true, sv [], sv [], iv 2, sv [], .sl 3 23 23 row] (ptC p) ∧ RawP p := by
 obtain ⟨x, h1, h2, h3, h4⟩ := kids_any (k := 2) (s := []) (n := 23) (by decide) (by decide) h
 have := pt_any (a := a) (z := z) (lab := []) (name := []) (b := true) ha hz (by decide) (by decide) h3 h4
 rw [h1, h2] at this; exact this
theorem kidsR {t0 t1 t : List UInt8} (h0 : t0.length ≤ 100) (h1 : t1.length ≤ 100) (h : t.length ≤ 100) : ∀ j, j < 23 → ∃ s : List UInt8, LeDs (setR 1 (exC (.mk 1 t1 [])) (setR 0 (exC (.mk 1 t0 [])) fun _ => exC (.mk 1 t [])) j) (exC (.mk 1 s [])) ∧ s.length ≤ 100
 | 0, _ => ⟨t0, LeDs.refl _, h0⟩
 | 1, _ => ⟨t1, LeDs.refl _, h1⟩
 | _ + 2, _ => ⟨t, LeDs.refl _, h⟩
theorem take_le (k : Nat) : (List.take k [97, 97, 97, 97, 97, 97, 97, 97, 97, 97, 97, 97, 97, 97, 97, 97, 97, 97, 97, 97] : List UInt8).length ≤ 100 := Nat.le_trans (List.length_take_le' _ _) (by decide)
def longS : List UInt8 := [97, 97, 97, 97, 97, 97, 97, 97, 97, 97, 97, 97, 97, 97, 97, 97, 97, 97, 97, 97]
end Go.Proofs.YtonchjamoblioaaGreatDoor
