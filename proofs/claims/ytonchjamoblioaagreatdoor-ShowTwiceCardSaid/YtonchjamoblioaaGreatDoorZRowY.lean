/- Steps of a function body on data, and contracts of the functions of the seat, walked. -/
import Derived.Test.YtonchjamoblioaaGreatDoorKOb2
import Derived.Test.YtonchjamoblioaaGreatDoorVDef
import Derived.Stop.Joined
import Derived.Test.YtonchjamoblioaaGreatDoorZ5
import Derived.Test.YtonchjamoblioaaGreatDoorTie
import Derived.Test.YtonchjamoblioaaGreatDoorCards
import Derived.Test.YtonchjamoblioaaGreatDoorChecked
import Derived.ProofKit
import Derived.LaidMore
import Derived.OpenShut
import Derived.Stop.LaidErr
import Derived.Lib.LaidTab
set_option linter.unusedSimpArgs false
set_option linter.unusedVariables false
set_option linter.unusedSectionVars false
namespace Go.Proofs.YtonchjamoblioaaGreatDoor
open Go.Kin
set_option maxRecDepth 100000
set_option maxHeartbeats 0
theorem pQuery_at {s : List UInt8} {q : Qu} (hs : s.length ≤ 140737488351232) (h : readV qz queryP s = (q, 0, 0)) : FnOK LaidX Tryz.prog 32 [sv s] (.tup [quD q, iv 0, iv 0]) := by
 have := pQuery_ok s hs
 rw [h] at this; exact this
theorem pExpr_at {s : List UInt8} {x : Ex} (hs : s.length ≤ 140737488351232) (h : readV xz wholeP s = (x, 0, 0)) : FnOK LaidX Tryz.prog 34 [sv s] (.tup [exD x, iv 0, iv 0]) := by
 have := pExpr_ok s hs
 rw [h] at this; exact this
def rq (s : List UInt8) : Qu × Int × Int := readV qz queryP s
def rx (s : List UInt8) : Ex × Int × Int := readV xz wholeP s
theorem pQuery_r (s : List UInt8) (hs : s.length ≤ 140737488351232) : FnOK LaidX Tryz.prog 32 [sv s] (.tup [quD (rq s).1, iv (rq s).2.1, iv (rq s).2.2]) := pQuery_ok s hs
theorem pExpr_r (s : List UInt8) (hs : s.length ≤ 140737488351232) : FnOK LaidX Tryz.prog 34 [sv s] (.tup [exD (rx s).1, iv (rx s).2.1, iv (rx s).2.2]) := pExpr_ok s hs
theorem rq_either {s : List UInt8} (hl : s.length ≤ 2000) : ((rq s).2.2 = 0 → quR (rq s).1 = true) ∧ FitQ (rq s).1 ∧ (rq s).1.p.length ≤ 4 ∧ (rq s).1.c.length ≤ 6 ∧ (rq s).1.r.length ≤ 4 := by
 have qe := query_either hl
 have hf := qu_fit (q := (rq s).1) (by
  by_cases he : (rq s).2.2 = 0
  ·exact .inl (qe.1 he).2
  ·exact .inr (qe.2 he).2.2.2)
 exact ⟨fun h => (qe.1 h).2, hf.1, hf.2.2⟩
theorem rx_either {s : List UInt8} (hl : s.length ≤ 2000) : ((rx s).2.2 = 0 → exRight (rx s).1 = true) ∧ FitX (rx s).1 := by
 have xe := expr_either hl
 have hf := exr_fit (x := (rx s).1) (by
  by_cases he : (rx s).2.2 = 0
  ·exact .inl (xe.1 he).2
  ·exact .inr (xe.2 he).2.2.2)
 exact ⟨fun h => (xe.1 h).2, hf.1⟩
theorem rx_short {s : List UInt8} (h : (rx s).2.2 = 0) : (exT (rx s).1).length ≤ s.length := expr_short h
theorem tsame_self (x : Qu) (h : FitQ x) (h1 : x.p.length ≤ 1000000) (h2 : x.c.length ≤ 1000000) (h3 : x.r.length ≤ 1000000) : FnOK LaidX Tryz.prog 33 [quD x, quD x] (bv true) := by
 have := (tsame_ok x x h1 h2 h3 fun p hp => (h.pa p hp).e).weak laidX_laid
 rwa [decide_eq_true rfl] at this
theorem xsame_self (x : Ex) (h : FitX x) : FnOK LaidX Tryz.prog 37 [exD x, exD x] (bv true) := by
 have := (xsame_ok x x h).weak laidX_laid
 rwa [decide_eq_true rfl] at this
theorem showTwice_ok (s : List UInt8) (hs : s.length ≤ 140737488355328) : FnOK LaidX Tryz.prog 10 [sv s] (bv true) := by
 refine FnOK_of laidX_stable Tryz.func10 Tryz.ntmps10 rfl (by as_aux_lemma => kernel_rfl) (Nat.le_of_ble_eq_true rfl) (fun R hR => ?_)
 obtain ⟨_, b, cs, T, C⟩ := R
 obtain rfl : _ = Tryz.prog := hR.p
 refine sreg te_ok ?_
 refine sq ?_
 refine sq ?_
 apply Exec.regionL te_ok
 ·intro u' Q hQ
  simp only [go_sem]
  repeat refine ob2 ?_
  refine kcall hR.inv te_ok rfl rfl rfl rfl rfl rfl ((awake_ok).weak laidX_laid) ?_
  simp only [go_sem]
  repeat refine ob2 ?_
  exact hQ
 refine Exec.cond (t := false) rfl ?_
 simp only [reduceIte, Bool.false_eq_true]
 refine sk ?_
 refine sq ?_
 refine sreg te_ok ?_
 refine Exec.cond_split rfl (fun h1 => ?_) (fun h1 => ?_)
 ·refine sreg te_ok ?_
  refine Exec.rets hR te_ok rfl rfl rfl (LeX.le ?_) (.inr ⟨_, rfl⟩)
  simp only [go_sem]
 ·have hl : s.length ≤ 2000 := by have := of_decide_eq_false h1; omega
  have qe := rq_either hl
  have xe := rx_either hl
  obtain ⟨qe, hf1, hn1, hn2, hn3⟩ := qe
  obtain ⟨xe, hf2⟩ := xe
  refine sk ?_
  refine sq ?_
  apply Exec.regionL te_ok
  ·intro u' Q hQ
   simp only [go_sem]
   repeat refine ob2 ?_
   refine kcall hR.inv te_ok rfl rfl rfl rfl rfl rfl (pQuery_r s (by omega)) ?_
   simp only [go_sem]
   repeat refine ob2 ?_
   exact hQ
  refine sq ?_
  refine sreg te_ok ?_
  refine Exec.cond_split rfl (fun h2 => ?_) (fun h2 => ?_)
  ·have he : (rq s).2.2 = 0 := by simpa using h2
   have hqr := qe he
   refine sq ?_
   apply Exec.regionL te_ok
   ·intro u' Q hQ
    simp only [go_sem]
    repeat refine ob2 ?_
    refine kcall hR.inv te_ok rfl rfl rfl rfl rfl rfl ((xquery_ok (rq s).1 hf1).weak laidX_laid) ?_
    simp only [go_sem]
    repeat refine ob2 ?_
    exact hQ
   refine sq ?_
   refine sreg te_ok ?_
   refine Exec.cond_split rfl (fun h3 => ?_) (fun h3 => ?_)
   ·refine sreg te_ok ?_
    refine Exec.rets hR te_ok rfl rfl rfl (LeX.le ?_) (.inr ⟨_, rfl⟩)
    simp only [go_sem]
   ·have h9 : quE (rq s).1 = 0 := by
     rcases quE_cases (rq s).1 with ⟨e, _⟩ | ⟨_, _, e⟩ | ⟨_, _, e, _⟩
     ·rw [hqr] at e; cases e
     ·rw [e] at h3; exact absurd h3 (by decide)
     ·exact e
    have hb1 := sq_back h9
    refine sk ?_
    refine sq ?_
    apply Exec.regionL te_ok
    ·intro u' Q hQ
     simp only [go_sem, h9]
     repeat refine ob2 ?_
     refine kcall hR.inv te_ok rfl rfl rfl rfl rfl rfl (pQuery_at (by omega) hb1.1) ?_
     simp only [go_sem, h9]
     repeat refine ob2 ?_
     exact hQ
    refine sq ?_
    apply Exec.regionL te_ok
    ·intro u' Q hQ
     simp only [go_sem, h9]
     repeat refine ob2 ?_
     refine kcall hR.inv te_ok rfl rfl rfl rfl rfl rfl ((xquery_ok (rq s).1 hf1).weak laidX_laid) ?_
     simp only [go_sem, h9]
     repeat refine ob2 ?_
     exact hQ
    refine sq ?_
    apply Exec.regionL te_ok
    ·intro u' Q hQ
     simp only [go_sem, h9]
     repeat refine ob2 ?_
     refine kcallG hR.inv te_ok rfl rfl rfl rfl rfl rfl ob1 (fun hq => tsame_self (rq s).1 hf1 (by omega) (by omega) (by omega)) ?_
     simp only [go_sem, h9]
     repeat refine ob2 ?_
     exact hQ
    refine Exec.cond (t := false) rfl ?_
    simp only [reduceIte, Bool.false_eq_true]
    refine sk ?_
    refine sq ?_
    apply Exec.regionL te_ok
    ·intro u' Q hQ
     simp only [go_sem, h9]
     repeat refine ob2 ?_
     refine kcall hR.inv te_ok rfl rfl rfl rfl rfl rfl (pExpr_r s (by omega)) ?_
     simp only [go_sem, h9]
     repeat refine ob2 ?_
     exact hQ
    refine sq ?_
    refine sq ?_
    apply Exec.regionL te_ok
    ·intro u' Q hQ
     simp only [go_sem, h9]
     repeat refine ob2 ?_
     exact hQ
    refine Exec.cond_split rfl (fun h5 => ?_) (fun h5 => ?_)
    ·refine sq ?_
     apply Exec.regionL te_ok
     ·intro u' Q hQ
      simp only [go_sem, h9]
      repeat refine ob2 ?_
      exact hQ
     refine Exec.rets hR te_ok rfl rfl rfl (LeX.le ?_) (.inr ⟨_, rfl⟩)
     simp only [go_sem, h9]
    ·have hf : (rx s).2.2 = 0 := by simpa using h5
     have hxr := xe hf
     have h10 : exE (rx s).1 = 0 := by unfold exE; rw [if_pos hxr]
     have h11 : exS (rx s).1 = exT (rx s).1 := by unfold exS; rw [if_pos hxr]
     have hb2 := sx_back h10
     have hsh := rx_short hf
     rw [← h11] at hsh
     refine sk ?_
     refine sq ?_
     apply Exec.regionL te_ok
     ·intro u' Q hQ
      simp only [go_sem, h9, h10]
      repeat refine ob2 ?_
      refine kcall hR.inv te_ok rfl rfl rfl rfl rfl rfl ((xexpr_ok (rx s).1 hf2).weak laidX_laid) ?_
      simp only [go_sem, h9, h10]
      repeat refine ob2 ?_
      exact hQ
     refine sq ?_
     apply Exec.regionL te_ok
     ·intro u' Q hQ
      simp only [go_sem, h9, h10]
      repeat refine ob2 ?_
      refine kcall hR.inv te_ok rfl rfl rfl rfl rfl rfl (pExpr_at (by omega) hb2.1) ?_
      simp only [go_sem, h9, h10]
      repeat refine ob2 ?_
      exact hQ
     refine sq ?_
     apply Exec.regionL te_ok
     ·intro u' Q hQ
      simp only [go_sem, h9, h10]
      repeat refine ob2 ?_
      refine kcall hR.inv te_ok rfl rfl rfl rfl rfl rfl ((xexpr_ok (rx s).1 hf2).weak laidX_laid) ?_
      simp only [go_sem, h9, h10]
      repeat refine ob2 ?_
      exact hQ
     refine sq ?_
     apply Exec.regionL te_ok
     ·intro u' Q hQ
      simp only [go_sem, h9, h10]
      repeat refine ob2 ?_
      refine kcallG hR.inv te_ok rfl rfl rfl rfl rfl rfl ob1 (fun hq => xsame_self (rx s).1 hf2) ?_
      simp only [go_sem, h9, h10]
      repeat refine ob2 ?_
      exact hQ
     refine Exec.rets hR te_ok rfl rfl rfl (LeX.le ?_) (.inr ⟨_, rfl⟩)
     simp only [go_sem]
     have hd : decide (((exS (rx s).1).length : Int) ≤ (s.length : Int)) = true := decide_eq_true (by omega)
     simpa using hsh
  ·refine sk ?_
   refine sq ?_
   apply Exec.regionL te_ok
   ·intro u' Q hQ
    simp only [go_sem]
    repeat refine ob2 ?_
    refine kcall hR.inv te_ok rfl rfl rfl rfl rfl rfl (pExpr_r s (by omega)) ?_
    simp only [go_sem]
    repeat refine ob2 ?_
    exact hQ
   refine sq ?_
   refine sreg te_ok ?_
   refine Exec.cond_split rfl (fun h6 => ?_) (fun h6 => ?_)
   ·refine sreg te_ok ?_
    refine Exec.rets hR te_ok rfl rfl rfl (LeX.le ?_) (.inr ⟨_, rfl⟩)
    simp only [go_sem]
   ·have hf : (rx s).2.2 = 0 := by simpa using h6
    have hxr := xe hf
    have h10 : exE (rx s).1 = 0 := by unfold exE; rw [if_pos hxr]
    have h11 : exS (rx s).1 = exT (rx s).1 := by unfold exS; rw [if_pos hxr]
    have hb2 := sx_back h10
    have hsh := rx_short hf
    rw [← h11] at hsh
    refine sk ?_
    refine sq ?_
    apply Exec.regionL te_ok
    ·intro u' Q hQ
     simp only [go_sem, h10]
     repeat refine ob2 ?_
     refine kcall hR.inv te_ok rfl rfl rfl rfl rfl rfl ((xexpr_ok (rx s).1 hf2).weak laidX_laid) ?_
     simp only [go_sem, h10]
     repeat refine ob2 ?_
     exact hQ
    refine sq ?_
    apply Exec.regionL te_ok
    ·intro u' Q hQ
     simp only [go_sem, h10]
     repeat refine ob2 ?_
     refine kcall hR.inv te_ok rfl rfl rfl rfl rfl rfl (pExpr_at (by omega) hb2.1) ?_
     simp only [go_sem, h10]
     repeat refine ob2 ?_
     exact hQ
    refine sq ?_
    apply Exec.regionL te_ok
    ·intro u' Q hQ
     simp only [go_sem, h10]
     repeat refine ob2 ?_
     refine kcall hR.inv te_ok rfl rfl rfl rfl rfl rfl ((xexpr_ok (rx s).1 hf2).weak laidX_laid) ?_
     simp only [go_sem, h10]
     repeat refine ob2 ?_
     exact hQ
    refine sq ?_
    apply Exec.regionL te_ok
    ·intro u' Q hQ
     simp only [go_sem, h10]
     repeat refine ob2 ?_
     refine kcallG hR.inv te_ok rfl rfl rfl rfl rfl rfl ob1 (fun hq => xsame_self (rx s).1 hf2) ?_
     simp only [go_sem, h10]
     repeat refine ob2 ?_
     exact hQ
    refine Exec.rets hR te_ok rfl rfl rfl (LeX.le ?_) (.inr ⟨_, rfl⟩)
    simp only [go_sem]
    have hd : decide (((exS (rx s).1).length : Int) ≤ (s.length : Int)) = true := decide_eq_true (by omega)
    simpa using hsh
end Go.Proofs.YtonchjamoblioaaGreatDoor
namespace Go.Kin
open Go.RowKit
section
variable {H : Type} {enc : TypeId × Value → H} {P : Program} {W : World} {te : TE}
/-- **A law's row, where variables are laid.** Its function answers true at data of the parameters' shapes; its arguments read as before. -/
theorem law_rowL {I : World → Prop} {X : World → Array Value → Prop} (hX : ∀ (w w' : World) (args : Array Value), w.heap = w'.heap → X w args → X w' args) (hXI : ∀ W args, X W args → I W) {C : _root_.Go.Checked} {os : Os} {f : FuncId} {fn : Func} {s : ChangeSpec} {tb : TypeId} (us : List TypeId) (hts : okAll te us = true) (hC : C.prog = P) (hte : TEok P te) (own : ownKnob P.godebug = none) (hlaid : laidOutB P = true) (started : os.Started) (noInit : P.inits.idxOf? f = none) (hfn : P.funcs[f]? = some fn)
    (witness : ∃ (w : World) (tape : Tape) (i : Input), w.os = os ∧ (w.forCall tape i).Shaped C.prog ∧ i.vars = [] ∧ Input.okWide C.prog (w.forCall tape i) .any w.heap.size f i ∧
      ((s.pre enc C.prog fn [] false (w.forCall tape i).memory i.args ∧ X (w.forCall tape i).memory i.args) ∧ sizedMet enc C.prog fn (OpenSpec.ofChange s) false (w.forCall tape i).memory i.args) ∧ ({} : Assume).holds C.prog (lone (Frame.enter C.prog f i.args .normal) [] (w.forCall tape i)))
    (hvars : s.vars = []) (hres : fn.resultTypes = #[tb]) (htb : P.underlying tb = some .bool)
    (hs : ∀ (ds : List (DataW H)), ds.length = fn.params.size → (s.fn H ds).results = [.lit (.bool true)] ∧ (s.fn H ds).args = ds ∧ (s.fn H ds).vars = [])
    (hok : (fn.params.toList.all fun t => us.contains t && P.readableRec t && decide (t < P.types.size)) = true)
    (h : ∀ xs, ArgsShp te fn.params.toList xs → FnOK I P f xs (.v (.bool true))) :
    ReturnsInHanded {} C os f .any (fun w args => (s.pre enc C.prog fn [] false w args ∧ X w args) ∧ sizedMet enc C.prog fn (OpenSpec.ofChange s) false w args) (s.post enc C.prog fn false true false false) := by
  subst hC
  refine returnsInHanded_of_change_and (X := X) hX own started noInit hfn witness ?_
  intro W base args ds gs before hval hW _ hwt hXW _
  have hW' := hW
  obtain ⟨p, q, hA, hV, rfl, hfz, hnd⟩ := hW
  rw [hvars] at hV
  have hgs : gs = [] ∧ q = [] := by
    cases gs with
    | nil => exact ⟨rfl, hV⟩
    | cons g gs => exact hV.elim
  obtain ⟨rfl, rfl⟩ := hgs
  have hall : ∀ t ∈ fn.params.toList, us.contains t = true ∧ C.prog.readableRec t = true ∧ t < C.prog.types.size := fun t ht => by
    have := List.all_eq_true.1 hok t ht
    simpa [and_assoc] using this
  have hwt' : ∀ x ∈ DataW.weightsEach C.prog fn.params.toList ds, x ≤ reachBytes := fun x hx => by
    have hv0 : s.plain.varTypes C.prog = [] := by simp [DataSpec.varTypes, ChangeSpec.plain, hvars]
    rw [hv0, List.append_nil, List.append_nil] at hwt
    simpa using List.all_eq_true.1 hwt x hx
  obtain ⟨xs, hx1, hx2⟩ := args_rd hte hts (fun t ht => (hall t ht).1) (fun j t v h1 h2 => hval j t v (by simpa using h1) (by simpa using h2)) hA hwt'
  have hc := (h xs hx1).2 W (fun b => b < W.heap.size) args.toList (hXI _ _ hXW) (fun b hb => hb) hx2
  rw [Array.toArray_toList] at hc
  refine Calls.mono hc fun e W' he => ?_
  obtain ⟨v, Z', rfl, hb, _, hv⟩ := he
  simp only [RdV] at hv
  subst hv
  have hlen : ds.length = fn.params.size := by
    have : ∀ {ts : List TypeId} {vs : List Value} {ds : List (DataW H)} {ps : List MemPlace}, DataW.TrodAll enc C.prog W 0 (fun _ => true) true ts vs ds ps → ds.length = ts.length := by
      intro ts
      induction ts with
      | nil => intro vs ds ps h; cases vs <;> cases ds <;> first | rfl | exact h.elim
      | cons t ts ih =>
        intro vs ds ps h
        cases vs with
        | nil => exact h.elim
        | cons v vs => cases ds with
          | nil => exact h.elim
          | cons d ds => obtain ⟨_, _, _, h2, _⟩ := h; simp [ih h2]
    simpa using this hA
  obtain ⟨e1, e2, e3⟩ := hs ds hlen
  refine ⟨.bool true, rfl, post_of_below (pa := p) (pv := []) hW' (fun b sp hd => ?_) (fun sp hsp => ?_) (fun sp _ => ?_) rfl hb ?_⟩
  · rw [List.append_nil, e1, hres]
    exact ⟨[], [], ⟨1, by simp [DataW.trod, htb, Value.cells]⟩, rfl, rfl⟩
  · rw [List.append_nil, e2]
    exact trodAll_stays hlaid (fun t ht => (hall t ht).2) hA (fun x hx => hb.same (hW'.lt x (by simpa using hx))) (fun x hx => hsp x (by simpa using hx))
  · rw [List.append_nil, e3, hvars]; rfl
  · intro j t r hj hr
    rw [hres] at hj hr
    match j, hj, hr with
    | 0, hj, hr =>
      simp [Value.resultList] at hj hr
      subst hj; subst hr
      simp [Value.okWide, Cell.okWide, Cell.ok, htb]
end
end Go.Kin
namespace Go.Proofs.YtonchjamoblioaaGreatDoor
open Go.Kin
set_option maxRecDepth 100000
theorem own_ok : ownKnob Tryz.prog.godebug = none := by kernel_rfl
theorem laid_ok : laidOutB Tryz.prog = true := by kernel_rfl
def tysX : List TypeId := [3, 4, 9, 22, 23, 24, 26, 27, 28, 30, 45, 46, 47, 49, 51, 53, 56]
theorem tysX_ok : okAll te tysX = true := by kernel_rfl
theorem shp_str {x : D} (h : ArgShp te 9 x) : ∃ s, x = sv s ∧ s.length ≤ 140737488355328 := by
 obtain ⟨m, ds, h1, h2⟩ := h
 cases m with
 | zero => exact h1.elim
 | succ m =>
  simp only [Shp, te_9] at h1
  obtain ⟨s, rfl, h3⟩ := h1
  simp [aggT, te_9, aggD] at h2
  exact ⟨s, h2.symm, by unfold reachBytes at h3; omega⟩
/-! ### what the rows lay -/
/-! ### the arguments of a law, as data -/
/-! ### what the rows lay -/
def laidX : List (String × DataW Unit) := Rows.parseTellsRow.laid
theorem gPow : Tryz.prog.globalNamed powName = some 0 := by kernel_rfl
theorem gSpc : Tryz.prog.globalNamed "strings.asciiSpace" = some 1 := by kernel_rfl
theorem gSyn : Tryz.prog.globalNamed "strconv.ErrSyntax" = some 6 := by kernel_rfl
theorem gRng : Tryz.prog.globalNamed "strconv.ErrRange" = some 7 := by kernel_rfl
theorem tPow : (Tryz.prog.globals[0]?).map (·.type) = some 206 := by kernel_rfl
theorem tSpc : (Tryz.prog.globals[1]?).map (·.type) = some 216 := by kernel_rfl
theorem tSyn : (Tryz.prog.globals[6]?).map (·.type) = some 186 := by kernel_rfl
theorem tRng : (Tryz.prog.globals[7]?).map (·.type) = some 186 := by kernel_rfl
theorem cells258 : Tryz.prog.cellsOf 258 = 1 := by kernel_rfl
theorem cells9 : Tryz.prog.cellsOf 9 = 1 := by kernel_rfl
/-- the name of the type of the library's errors -/
def errName : String := match (Rows.laid_strconv_ErrSyntax : DataW Unit) with
 | .iface n _ => n
 | _ => default
theorem row256 (u : TypeId) (h : Tryz.prog.typeName? 3 u = some errName) : u = 256 :=
 typeName_ptr_named (nm := "errors.errorString") (by kernel_rfl) (by kernel_rfl) (by decide) u (h.trans (congrArg some (by decide)))
theorem laidX_met {W : World} (h : laidMetH Tryz.prog laidX W) : LaidX W := by
 rw [MakeChecks.laidMetH_plain _ _ _ (by kernel_rfl)] at h
 have h3 := h.tail.tail
 obtain ⟨a1, s1, hv1, -, -, -⟩ := laid_sentinel h3.tail gRng tRng Tryz.underlying186 row256 Tryz.underlying256 Tryz.underlying258 rfl rfl Tryz.underlying9 cells258 cells9
 obtain ⟨a0, s0, hv0, -, -, -⟩ := laid_sentinel h3.tail.tail gSyn tSyn Tryz.underlying186 row256 Tryz.underlying256 Tryz.underlying258 rfl rfl Tryz.underlying9 cells258 cells9
 have h6 : laidMet Tryz.prog [("strings.asciiSpace", Lib.tabData .u8 Lib.asciiSpaceTab)] W := by
  have := h3.tail.tail.tail.tail
  exact this
 exact ⟨⟨Lib.tabIs_of_head gPow tPow Tryz.underlying206 Tryz.underlying191 (by kernel_rfl) (by kernel_rfl) h3⟩, ⟨_, _, hv0⟩, ⟨_, _, hv1⟩,
  Lib.tabIs_of_head gSpc tSpc Tryz.underlying216 Tryz.underlying5 (by kernel_rfl) (by kernel_rfl) h6⟩
theorem doorX (os : Os) (args : Array Value) : laidMetH Tryz.prog laidX ((World.doorLaid Tryz.prog 200 os).forCall (fun _ _ => 0) ⟨#[], args, []⟩).memory :=
 laidMetH_of_parts3 (fuel := 8) (laidMet_of_run' 8 (by kernel_rfl) (by kernel_rfl)) (by kernel_rfl) (by kernel_rfl)
end Go.Proofs.YtonchjamoblioaaGreatDoor
