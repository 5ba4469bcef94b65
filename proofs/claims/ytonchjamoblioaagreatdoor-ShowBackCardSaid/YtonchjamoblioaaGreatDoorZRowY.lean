/- Steps of a function body on data, and contracts of the functions of the seat, walked. -/
import Derived.Test.YtonchjamoblioaaGreatDoorVDef
import Derived.Stop.Joined
import Derived.Test.YtonchjamoblioaaGreatDoorQT1
import Derived.Test.YtonchjamoblioaaGreatDoorZ5
import Derived.Test.YtonchjamoblioaaGreatDoorTie
import Derived.Test.YtonchjamoblioaaGreatDoorCards
import Derived.Test.YtonchjamoblioaaGreatDoorChecked
import Derived.ProofKit
import Derived.LaidMore
import Derived.OpenShut
import Derived.Stop.LaidErr
import Derived.Lib.LaidTab
set_option linter.unusedSimpArgs false
set_option linter.unusedVariables false
set_option linter.unusedSectionVars false
namespace Go.Kin
open Go.RowKit
section
variable {H : Type} {enc : TypeId × Value → H} {P : Program} {W : World} {te : TE}
/-- **A law's row, where variables are laid.** Its function answers true at data of the parameters' shapes; its arguments read as before. -/
theorem law_rowL {I : World → Prop} {X : World → Array Value → Prop} (hX : ∀ (w w' : World) (args : Array Value), w.heap = w'.heap → X w args → X w' args) (hXI : ∀ W args, X W args → I W) {C : _root_.Go.Checked} {os : Os} {f : FuncId} {fn : Func} {s : ChangeSpec} {tb : TypeId} (us : List TypeId) (hts : okAll te us = true) (hC : C.prog = P) (hte : TEok P te) (own : ownKnob P.godebug = none) (hlaid : laidOutB P = true) (started : os.Started) (noInit : P.inits.idxOf? f = none) (hfn : P.funcs[f]? = some fn)
    (witness : ∃ (w : World) (tape : Tape) (i : Input), w.os = os ∧ (w.forCall tape i).Shaped C.prog ∧ i.vars = [] ∧ Input.okWide C.prog (w.forCall tape i) .any w.heap.size f i ∧
      ((s.pre enc C.prog fn [] false (w.forCall tape i).memory i.args ∧ X (w.forCall tape i).memory i.args) ∧ sizedMet enc C.prog fn (OpenSpec.ofChange s) false (w.forCall tape i).memory i.args) ∧ ({} : Assume).holds C.prog (lone (Frame.enter C.prog f i.args .normal) [] (w.forCall tape i)))
    (hvars : s.vars = []) (hres : fn.resultTypes = #[tb]) (htb : P.underlying tb = some .bool)
    (hs : ∀ (ds : List (DataW H)), ds.length = fn.params.size → (s.fn H ds).results = [.lit (.bool true)] ∧ (s.fn H ds).args = ds ∧ (s.fn H ds).vars = [])
    (hok : (fn.params.toList.all fun t => us.contains t && P.readableRec t && decide (t < P.types.size)) = true)
    (h : ∀ xs, ArgsShp te fn.params.toList xs → FnOK I P f xs (.v (.bool true))) :
    ReturnsInHanded {} C os f .any (fun w args => (s.pre enc C.prog fn [] false w args ∧ X w args) ∧ sizedMet enc C.prog fn (OpenSpec.ofChange s) false w args) (s.post enc C.prog fn false true false false) := by
  subst hC
  refine returnsInHanded_of_change_and (X := X) hX own started noInit hfn witness ?_
  intro W base args ds gs before hval hW _ hwt hXW _
  have hW' := hW
  obtain ⟨p, q, hA, hV, rfl, hfz, hnd⟩ := hW
  rw [hvars] at hV
  have hgs : gs = [] ∧ q = [] := by
    cases gs with
    | nil => exact ⟨rfl, hV⟩
    | cons g gs => exact hV.elim
  obtain ⟨rfl, rfl⟩ := hgs
  have hall : ∀ t ∈ fn.params.toList, us.contains t = true ∧ C.prog.readableRec t = true ∧ t < C.prog.types.size := fun t ht => by
    have := List.all_eq_true.1 hok t ht
    simpa [and_assoc] using this
  have hwt' : ∀ x ∈ DataW.weightsEach C.prog fn.params.toList ds, x ≤ reachBytes := fun x hx => by
    have hv0 : s.plain.varTypes C.prog = [] := by simp [DataSpec.varTypes, ChangeSpec.plain, hvars]
    rw [hv0, List.append_nil, List.append_nil] at hwt
    simpa using List.all_eq_true.1 hwt x hx
  obtain ⟨xs, hx1, hx2⟩ := args_rd hte hts (fun t ht => (hall t ht).1) (fun j t v h1 h2 => hval j t v (by simpa using h1) (by simpa using h2)) hA hwt'
  have hc := (h xs hx1).2 W (fun b => b < W.heap.size) args.toList (hXI _ _ hXW) (fun b hb => hb) hx2
  rw [Array.toArray_toList] at hc
  refine Calls.mono hc fun e W' he => ?_
  obtain ⟨v, Z', rfl, hb, _, hv⟩ := he
  simp only [RdV] at hv
  subst hv
  have hlen : ds.length = fn.params.size := by
    have : ∀ {ts : List TypeId} {vs : List Value} {ds : List (DataW H)} {ps : List MemPlace}, DataW.TrodAll enc C.prog W 0 (fun _ => true) true ts vs ds ps → ds.length = ts.length := by
      intro ts
      induction ts with
      | nil => intro vs ds ps h; cases vs <;> cases ds <;> first | rfl | exact h.elim
      | cons t ts ih =>
        intro vs ds ps h
        cases vs with
        | nil => exact h.elim
        | cons v vs => cases ds with
          | nil => exact h.elim
          | cons d ds => obtain ⟨_, _, _, h2, _⟩ := h; simp [ih h2]
    simpa using this hA
  obtain ⟨e1, e2, e3⟩ := hs ds hlen
  refine ⟨.bool true, rfl, post_of_below (pa := p) (pv := []) hW' (fun b sp hd => ?_) (fun sp hsp => ?_) (fun sp _ => ?_) rfl hb ?_⟩
  · rw [List.append_nil, e1, hres]
    exact ⟨[], [], ⟨1, by simp [DataW.trod, htb, Value.cells]⟩, rfl, rfl⟩
  · rw [List.append_nil, e2]
    exact trodAll_stays hlaid (fun t ht => (hall t ht).2) hA (fun x hx => hb.same (hW'.lt x (by simpa using hx))) (fun x hx => hsp x (by simpa using hx))
  · rw [List.append_nil, e3, hvars]; rfl
  · intro j t r hj hr
    rw [hres] at hj hr
    match j, hj, hr with
    | 0, hj, hr =>
      simp [Value.resultList] at hj hr
      subst hj; subst hr
      simp [Value.okWide, Cell.okWide, Cell.ok, htb]
end
end Go.Kin
namespace Go.Proofs.YtonchjamoblioaaGreatDoor
open Go.Kin
set_option maxRecDepth 100000
theorem own_ok : ownKnob Tryz.prog.godebug = none := by kernel_rfl
theorem laid_ok : laidOutB Tryz.prog = true := by kernel_rfl
def tysX : List TypeId := [3, 4, 9, 22, 23, 24, 26, 27, 28, 30, 45, 46, 47, 49, 51, 53, 56]
theorem tysX_ok : okAll te tysX = true := by kernel_rfl
theorem shp_str {x : D} (h : ArgShp te 9 x) : ∃ s, x = sv s ∧ s.length ≤ 140737488355328 := by
 obtain ⟨m, ds, h1, h2⟩ := h
 cases m with
 | zero => exact h1.elim
 | succ m =>
  simp only [Shp, te_9] at h1
  obtain ⟨s, rfl, h3⟩ := h1
  simp [aggT, te_9, aggD] at h2
  exact ⟨s, h2.symm, by unfold reachBytes at h3; omega⟩
/-! ### what the rows lay -/
/-! ### the arguments of a law, as data -/
theorem shp1_intT {t m : Nat} {i : TyI} (hi : klook t te = some i) (hu : i.u = .int .i64) {ds : List D} (h : Shp te m t ds) : ∃ n, ds = [iv n] ∧ I64 n := by
 cases m with
 | zero => exact h.elim
 | succ m =>
  simp only [Shp, hi, hu] at h
  obtain ⟨n, rfl, h⟩ := h
  exact ⟨n, rfl, h⟩
theorem shp1_bool {m : Nat} {ds : List D} (h : Shp te m 4 ds) : ∃ n, ds = [bv n] := by
 cases m with
 | zero => exact h.elim
 | succ m =>
  simp only [Shp, te_4] at h
  obtain ⟨n, rfl⟩ := h
  exact ⟨n, rfl⟩
theorem shp1_str {m : Nat} {ds : List D} (h : Shp te m 9 ds) : ∃ s, ds = [sv s] ∧ s.length ≤ 140737488355328 := by
 cases m with
 | zero => exact h.elim
 | succ m =>
  simp only [Shp, te_9] at h
  obtain ⟨s, rfl, h⟩ := h
  exact ⟨s, rfl, by unfold reachBytes at h; omega⟩
theorem leds_one {ds : List D} {e : D} (h : LeDs ds [e]) : ∃ d, ds = [d] ∧ LeD d e := by
 match ds, h with
 | [d], h => exact ⟨d, rfl, h.1⟩
theorem leds_app : ∀ {a b c d : List D}, LeDs a b → LeDs c d → LeDs (a ++ c) (b ++ d)
 | [], [], _, _, _, h => h
 | x :: a, y :: b, _, _, h1, h => ⟨h1.1, leds_app h1.2 h⟩
 | [], _ :: _, _, _, h, _ => h.elim
 | _ :: _, [], _, _, h, _ => h.elim
theorem kids_le (l : List Ex) (k : Int) (s : List UInt8) : LeD (.sl 3 l.length l.length fun i => exC (nth l i)) (kdX (.mk k s l)) := by
 rw [kd_eq]
 exact LeD.slice (Nat.le_refl _) (Nat.le_refl _) fun i hi => (kdR_at hi).symm
theorem shp1_ex : ∀ (m : Nat) (ds : List D), Shp te m 30 ds → ∃ x : Ex, LeDs ds (exC x) ∧ FitX x := fun m => by
 induction m using Nat.strongRecOn with
 | ind m ih =>
  intro ds h
  cases m with
  | zero => exact h.elim
  | succ m =>
   simp only [Shp, te_30, ShpFs] at h
   obtain ⟨d1, d2, rfl, h1, d3, d4, rfl, h2, d5, d6, rfl, h3, rfl⟩ := h
   obtain ⟨k, rfl, _⟩ := shp1_intT te_27 rfl h1
   obtain ⟨s, rfl, hs⟩ := shp1_str h2
   obtain ⟨l, g1, g2, g3, _⟩ := shp1_slice (f := exC) (p := FitX) te_28 rfl te_30 exD_lf (fun m' ds hm h => ih m' (by omega) ds h) h3
   obtain ⟨d, rfl, hd⟩ := leds_one g1
   exact ⟨.mk k s l, ⟨LeD.refl _, LeD.refl _, hd.trans (kids_le l k s), trivial⟩, .mk hs g3 g2⟩
theorem shp1_val {m : Nat} {ds : List D} (h : Shp te m 49 ds) : ∃ (k n : Int) (s : List UInt8), ds = [iv k, iv n, sv s] ∧ s.length ≤ 140737488355328 := by
 cases m with
 | zero => exact h.elim
 | succ m =>
  simp only [Shp, te_49, ShpFs] at h
  obtain ⟨d1, d2, rfl, h1, d3, d4, rfl, h2, d5, d6, rfl, h3, rfl⟩ := h
  obtain ⟨k, rfl, _⟩ := shp1_intT te_47 rfl h1
  obtain ⟨n, rfl, _⟩ := shp1_intT te_3 rfl h2
  obtain ⟨s, rfl, hs⟩ := shp1_str h3
  exact ⟨k, n, s, rfl, hs⟩
theorem shp1_op {m : Nat} {ds : List D} (h : Shp te m 51 ds) : ∃ o : Opd, ds = opC o ∧ FitO o := by
 cases m with
 | zero => exact h.elim
 | succ m =>
  simp only [Shp, te_51, ShpFs] at h
  obtain ⟨d1, d2, rfl, h1, d3, d4, rfl, h2, d5, d6, rfl, h3, d7, d8, rfl, h4, rfl⟩ := h
  obtain ⟨k, rfl, _⟩ := shp1_intT te_46 rfl h1
  obtain ⟨s, rfl, hs⟩ := shp1_str h2
  obtain ⟨s2, rfl, hs2⟩ := shp1_str h3
  obtain ⟨vk, vn, vs, rfl, hv⟩ := shp1_val h4
  exact ⟨⟨k, s, s2, vk, vn, vs⟩, rfl, hs, hs2, hv⟩
theorem shp1_cd {m : Nat} {ds : List D} (h : Shp te m 53 ds) : ∃ c : Cd, ds = cdC c ∧ FitC c := by
 cases m with
 | zero => exact h.elim
 | succ m =>
  simp only [Shp, te_53, ShpFs] at h
  obtain ⟨d1, d2, rfl, h1, d3, d4, rfl, h2, d5, d6, rfl, h3, rfl⟩ := h
  obtain ⟨k, rfl, _⟩ := shp1_intT te_45 rfl h1
  obtain ⟨l, rfl, hl⟩ := shp1_op h2
  obtain ⟨r, rfl, hr⟩ := shp1_op h3
  exact ⟨⟨k, l, r⟩, rfl, hl, hr⟩
theorem shp1_pt {m : Nat} {ds : List D} (h : Shp te m 56 ds) : ∃ p : Pt, LeDs ds (ptC p) ∧ RawP p := by
 cases m with
 | zero => exact h.elim
 | succ m =>
  simp only [Shp, te_56, ShpFs] at h
  obtain ⟨d1, d2, rfl, h1, d3, d4, rfl, h2, d5, d6, rfl, h3, d7, d8, rfl, h4, d9, d10, rfl, h5, d11, d12, rfl, h6, rfl⟩ := h
  obtain ⟨s1, rfl, q1⟩ := shp1_str h1
  obtain ⟨s2, rfl, q2⟩ := shp1_str h2
  obtain ⟨b, rfl⟩ := shp1_bool h3
  obtain ⟨s4, rfl, q4⟩ := shp1_str h4
  obtain ⟨s5, rfl, q5⟩ := shp1_str h5
  obtain ⟨e, le, q6⟩ := shp1_ex _ _ h6
  refine ⟨⟨s1, s2, b, s4, s5, e⟩, ?_, q1, q2, q4, q5, q6⟩
  have := leds_app le (show LeDs [] [] from trivial)
  exact ⟨LeD.refl _, LeD.refl _, LeD.refl _, LeD.refl _, LeD.refl _, this⟩
theorem shp_ex {x : D} (h : ArgShp te 30 x) : ∃ e : Ex, LeD x (exD e) ∧ FitX e := by
 obtain ⟨m, ds, h1, h2⟩ := h
 obtain ⟨e, le, q⟩ := shp1_ex m ds h1
 simp [aggT, te_30, aggD] at h2
 subst h2
 exact ⟨e, LeD.ag le, q⟩
theorem shp_qu {x : D} (h : ArgShp te 26 x) : ∃ q : Qu, LeD x (quD q) ∧ RawQ q := by
 obtain ⟨m, ds, h1, h2⟩ := h
 simp [aggT, te_26, aggD] at h2
 subst h2
 cases m with
 | zero => exact h1.elim
 | succ m =>
  simp only [Shp, te_26, ShpFs] at h1
  obtain ⟨d1, d2, rfl, h1, d3, d4, rfl, h2, d5, d6, rfl, h3, d7, d8, rfl, h4, d9, d10, rfl, h5, rfl⟩ := h1
  obtain ⟨lp, p1, p2, p3, _⟩ := shp1_slice (f := ptC) (p := RawP) te_22 rfl te_56 ptC_lf (fun m' ds _ h => shp1_pt h) h1
  obtain ⟨lc, c1, c2, c3, _⟩ := shp1_slice (f := cdC) (p := FitC) te_23 rfl te_53 (fun _ => rfl) (fun m' ds _ h => by
   obtain ⟨c, rfl, hc⟩ := shp1_cd h
   exact ⟨c, LeDs.refl _, hc⟩) h2
  obtain ⟨lr, r1, r2, r3, _⟩ := shp1_slice (f := opC) (p := FitO) te_24 rfl te_51 (fun _ => rfl) (fun m' ds _ h => by
   obtain ⟨c, rfl, hc⟩ := shp1_op h
   exact ⟨c, LeDs.refl _, hc⟩) h3
  obtain ⟨e1, rfl, g1⟩ := leds_one p1
  obtain ⟨e2, rfl, g2⟩ := leds_one c1
  obtain ⟨e3, rfl, g3⟩ := leds_one r1
  obtain ⟨n1, rfl, _⟩ := shp1_intT te_3 rfl h4
  obtain ⟨n2, rfl, _⟩ := shp1_intT te_3 rfl h5
  exact ⟨⟨lp, lc, lr, n1, n2⟩, LeD.ag ⟨g1, g2, g3, LeD.refl _, LeD.refl _, trivial⟩, p3, c3, r3, p2, c2, r2⟩
/-! ### what the rows lay -/
def laidX : List (String × DataW Unit) := Rows.parseTellsRow.laid
theorem gPow : Tryz.prog.globalNamed powName = some 0 := by kernel_rfl
theorem gSpc : Tryz.prog.globalNamed "strings.asciiSpace" = some 1 := by kernel_rfl
theorem gSyn : Tryz.prog.globalNamed "strconv.ErrSyntax" = some 6 := by kernel_rfl
theorem gRng : Tryz.prog.globalNamed "strconv.ErrRange" = some 7 := by kernel_rfl
theorem tPow : (Tryz.prog.globals[0]?).map (·.type) = some 206 := by kernel_rfl
theorem tSpc : (Tryz.prog.globals[1]?).map (·.type) = some 216 := by kernel_rfl
theorem tSyn : (Tryz.prog.globals[6]?).map (·.type) = some 186 := by kernel_rfl
theorem tRng : (Tryz.prog.globals[7]?).map (·.type) = some 186 := by kernel_rfl
theorem cells258 : Tryz.prog.cellsOf 258 = 1 := by kernel_rfl
theorem cells9 : Tryz.prog.cellsOf 9 = 1 := by kernel_rfl
/-- the name of the type of the library's errors -/
def errName : String := match (Rows.laid_strconv_ErrSyntax : DataW Unit) with
 | .iface n _ => n
 | _ => default
theorem row256 (u : TypeId) (h : Tryz.prog.typeName? 3 u = some errName) : u = 256 :=
 typeName_ptr_named (nm := "errors.errorString") (by kernel_rfl) (by kernel_rfl) (by decide) u (h.trans (congrArg some (by decide)))
theorem laidX_met {W : World} (h : laidMetH Tryz.prog laidX W) : LaidX W := by
 rw [MakeChecks.laidMetH_plain _ _ _ (by kernel_rfl)] at h
 have h3 := h.tail.tail
 obtain ⟨a1, s1, hv1, -, -, -⟩ := laid_sentinel h3.tail gRng tRng Tryz.underlying186 row256 Tryz.underlying256 Tryz.underlying258 rfl rfl Tryz.underlying9 cells258 cells9
 obtain ⟨a0, s0, hv0, -, -, -⟩ := laid_sentinel h3.tail.tail gSyn tSyn Tryz.underlying186 row256 Tryz.underlying256 Tryz.underlying258 rfl rfl Tryz.underlying9 cells258 cells9
 have h6 : laidMet Tryz.prog [("strings.asciiSpace", Lib.tabData .u8 Lib.asciiSpaceTab)] W := by
  have := h3.tail.tail.tail.tail
  exact this
 exact ⟨⟨Lib.tabIs_of_head gPow tPow Tryz.underlying206 Tryz.underlying191 (by kernel_rfl) (by kernel_rfl) h3⟩, ⟨_, _, hv0⟩, ⟨_, _, hv1⟩,
  Lib.tabIs_of_head gSpc tSpc Tryz.underlying216 Tryz.underlying5 (by kernel_rfl) (by kernel_rfl) h6⟩
theorem doorX (os : Os) (args : Array Value) : laidMetH Tryz.prog laidX ((World.doorLaid Tryz.prog 200 os).forCall (fun _ _ => 0) ⟨#[], args, []⟩).memory :=
 laidMetH_of_parts3 (fuel := 8) (laidMet_of_run' 8 (by kernel_rfl) (by kernel_rfl)) (by kernel_rfl) (by kernel_rfl)
end Go.Proofs.YtonchjamoblioaaGreatDoor
