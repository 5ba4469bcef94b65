/- Steps of a function body on data, and contracts of the functions of the seat, walked. -/
import Derived.Test.YtonchjamoblioaaGreatDoorPT3
import Derived.Test.YtonchjamoblioaaGreatDoorKRow2
import Derived.Stop.Joined
import Derived.Test.YtonchjamoblioaaGreatDoorTie
import Derived.Test.YtonchjamoblioaaGreatDoorCards
import Derived.Test.YtonchjamoblioaaGreatDoorChecked
import Derived.ProofKit
import Derived.LaidMore
import Derived.OpenShut
import Derived.Stop.LaidErr
import Derived.Lib.LaidTab
set_option linter.unusedSimpArgs false
set_option linter.unusedVariables false
set_option linter.unusedSectionVars false
namespace Go.Proofs.YtonchjamoblioaaGreatDoor
open Go.Kin
set_option maxRecDepth 100000
set_option maxHeartbeats 0
attribute [go_sem] te_62 te_66 te_69
theorem pick3_w {x : Int} (h : x.tmod 3 < 0) : IntKind.i64.wrap (x.tmod 3 + 3) = x.tmod 3 + 3 := by
 have h2 := Int.lt_tmod_of_pos x (show (0 : Int) < 3 by decide)
 exact wrap_id (by constructor <;> omega)
theorem gapRow (n : Int) : lstR [[D.v (Value.string (mkS [32]))], [D.v (Value.string (mkS [10]))], [D.v (Value.string (mkS [9, 32]))]] (pick3 n).toNat = [D.v (Value.string (mkS (gP n)))] := lst_row (fun x => [sv x]) gapsW (i := (pick3 n).toNat) (by have := pick3_in n; show _ < 3; omega)
/-- places, so far -/
def atR (g : List UInt8) (l : List Tk) (i : Nat) : Nat → List D := fun j => [iv (if j < i then ((othB g l j).length : Int) else 0)]
theorem atR_0 (g : List UInt8) (l : List Tk) (j : Nat) : atR g l 0 j = [iv 0] := by simp [atR]
theorem atR_put (g : List UInt8) (l : List Tk) (i j : Nat) : setR i [iv ((othB g l i).length : Int)] (atR g l i) j = atR g l (i + 1) j := by
 unfold setR atR
 by_cases h : j = i
 ·rw [if_pos h, h, if_pos (by omega)]
 ·rw [if_neg h]
  by_cases h2 : j < i
  ·rw [if_pos h2, if_pos (by omega)]
  ·rw [if_neg h2, if_neg (by omega)]
theorem blanks_cond {q p : Qu × Int × Int} (a1 : q.1 = p.1) (a2 : q.2.2 = p.2.2) (a3 : q.2.2 = 0 → q.2.1 = 0 ∧ p.2.1 = 0) : (q.2.2 != p.2.2 || !decide (p.1 = q.1) || (q.2.2 == 0 && IntKind.i64.wrap (q.2.1 + p.2.1) != 0)) = false := by
 rw [a1, decide_eq_true rfl]
 by_cases he : q.2.2 = 0
 ·obtain ⟨h1, h2⟩ := a3 he
  rw [h1, h2, ← a2, he]; decide
 ·rw [← a2]; simp [he]
theorem atR_at {g : List UInt8} {l : List Tk} {i j : Nat} (h : j < i) : atR g l i j = [iv ((othB g l j).length : Int)] := by unfold atR; rw [if_pos h]
theorem pick3_ok (x : Int) : FnOK LaidX Tryz.prog 31 [iv x, iv 3] (iv (pick3 x)) := by
 refine FnOK_of laidX_stable Tryz.func31 Tryz.ntmps31 rfl (by as_aux_lemma => kernel_rfl) (Nat.le_of_ble_eq_true rfl) (fun R hR => ?_)
 obtain ⟨_, b, cs, T, C⟩ := R
 obtain rfl : _ = Tryz.prog := hR.p
 refine sreg te_ok ?_
 refine sq ?_
 refine sreg te_ok ?_
 refine Exec.cond (t := false) rfl ?_
 simp only [reduceIte, Bool.false_eq_true]
 refine sk ?_
 refine sreg te_ok ?_
 refine sq ?_
 refine sreg te_ok ?_
 refine Exec.cond_split rfl (fun h1 => ?_) (fun h1 => ?_)
 ·have h2 := of_decide_eq_true h1
  have w := pick3_w h2
  apply Exec.regionL te_ok
  ·intro o Q hQ
   simp only [go_sem, w]
   repeat refine ob2 ?_
   exact hQ
  refine sq ?_
  apply Exec.regionL te_ok
  ·intro o Q hQ
   simp only [go_sem, w]
   repeat refine ob2 ?_
   exact hQ
  refine Exec.rets hR te_ok rfl rfl rfl (LeX.le ?_) (.inr ⟨_, rfl⟩)
  simp only [go_sem, w, pick3, if_pos h2]
 ·have h2 := of_decide_eq_false h1
  refine sk ?_
  refine sreg te_ok ?_
  refine Exec.rets hR te_ok rfl rfl rfl (LeX.le ?_) (.inr ⟨_, rfl⟩)
  simp only [go_sem, pick3, if_neg h2]
theorem parseBlanks_ok (s : List UInt8) (n : Int) (hs : s.length ≤ 140737488355328) : FnOK LaidX Tryz.prog 7 [sv s, iv n] (bv true) := by
 refine FnOK_of laidX_stable Tryz.func7 Tryz.ntmps7 rfl (by as_aux_lemma => kernel_rfl) (Nat.le_of_ble_eq_true rfl) (fun R hR => ?_)
 obtain ⟨_, b, cs, T, C⟩ := R
 obtain rfl : _ = Tryz.prog := hR.p
 have pk := pick3_in n
 have hgr := gapRow n
 obtain ⟨hgap, hgl⟩ := gP_ok n
 refine sq ?_
 apply Exec.regionL te_ok
 ·intro o Q hQ
  simp only [go_sem, hgr]
  repeat refine ob2 ?_
  exact hQ
 refine sq ?_
 refine sq ?_
 apply Exec.regionL te_ok
 ·intro o Q hQ
  simp only [go_sem, hgr]
  repeat refine ob2 ?_
  refine kcall hR.inv te_ok rfl rfl rfl rfl rfl rfl (pawake_ok) ?_
  simp only [go_sem, hgr]
  repeat refine ob2 ?_
  exact hQ
 refine Exec.cond (t := false) rfl ?_
 simp only [reduceIte, Bool.false_eq_true]
 refine sk ?_
 refine sq ?_
 apply Exec.regionL te_ok
 ·intro o Q hQ
  simp only [go_sem, hgr]
  repeat refine ob2 ?_
  refine kcall hR.inv te_ok rfl rfl rfl rfl rfl rfl (lex_ok s hs) ?_
  simp only [go_sem, hgr]
  repeat refine ob2 ?_
  exact hQ
 refine sq ?_
 refine sq ?_
 apply Exec.regionL te_ok
 ·intro o Q hQ
  simp only [go_sem, hgr]
  repeat refine ob2 ?_
  exact hQ
 refine Exec.cond_split rfl (fun h1 => ?_) (fun h1 => ?_)
 ·refine sq ?_
  apply Exec.regionL te_ok
  ·intro o Q hQ
   simp only [go_sem, hgr]
   repeat refine ob2 ?_
   exact hQ
  refine Exec.rets hR te_ok rfl rfl rfl (LeX.le ?_) (.inr ⟨_, rfl⟩)
  simp only [go_sem, hgr]
 ·have hE : lexE s = 0 ∧ s.length ≤ 600 := by simp at h1; omega
  obtain ⟨hE, h600⟩ := hE
  have lx := lxT hE
  have hlen := lx.few
  have hn0 := lx.n0
  obtain ⟨o1, o2, o3⟩ := oth_all (g := gP n) lx.n0
  obtain ⟨n1, n2, n3⟩ := lex_anew hE h600 hgap hgl
  have lx2 := lxT n1
  have hlen2 := lx2.len
  obtain ⟨a1, a2, a3, a4⟩ := query_anew hE h600 hgap hgl
  obtain ⟨b1, b2⟩ := query_either (s := ffG (gP n) (lexT s)) hlen2
  have hf2 := qu_fit (q := (readV qz queryP (ffG (gP n) (lexT s))).1) (by by_cases he : (readV qz queryP (ffG (gP n) (lexT s))).2.2 = 0; exact .inl (b1 he).2; exact .inr (b2 he).2.2.2)
  refine sk ?_
  refine sq ?_
  apply Exec.regionL te_ok
  ·intro o Q hQ
   simp only [go_sem, hgr]
   repeat refine ob2 ?_
   refine kcall hR.inv te_ok rfl rfl rfl rfl rfl rfl (pick3_ok n) ?_
   simp only [go_sem, hgr]
   repeat refine ob2 ?_
   exact hQ
  refine sq ?_
  apply Exec.regionL te_ok
  ·intro o Q hQ
   simp only [go_sem, hgr]
   repeat refine ob2 ?_
   exact hQ
  refine sq ?_
  apply Exec.regionL te_ok
  ·intro o Q hQ
   simp only [go_sem, hgr]
   repeat refine ob2 ?_
   exact hQ
  refine sq ?_
  refine sq ?_
  apply Exec.regionL te_ok
  ·intro o Q hQ
   simp only [go_sem, hgr]
   repeat refine ob2 ?_
   exact hQ
  refine Exec.block ?_
  apply Exec.loopU [0, 5, 8, 10] (X := Nat) (fun i => [(11, .d (iv i)), (9, .d (sv (othK (gP n) (lexT s) i)))]) (fun i => []) (fun i => [(41, ⟨3, 1, (lexT s).length, (lexT s).length, atR (gP n) (lexT s) i⟩)]) (fun i => (lexT s).length - i) (fun i => i ≤ (lexT s).length) 0
  case h0 =>
   omega
  case hw =>
   simp only [go_sem]; exact ⟨rfl, fun j _ => (atR_0 _ _ j).symm⟩
  case body =>
   rintro i hx ih0
   try simp only at hx
   apply Exec.norm
   ·simp only [go_sem, hgr]
    rfl
   refine sq ?_
   refine sq ?_
   apply Exec.regionL te_ok
   ·intro o Q hQ
    simp only [go_sem, hgr]
    repeat refine ob2 ?_
    exact hQ
   refine Exec.cond_split rfl (fun h2 => ?_) (fun h2 => ?_)
   ·have hi : i < (lexT s).length := by have := of_decide_eq_true h2; omega
    have ho := o3 i hi
    have htx := lx.tk.tx i hi
    have hwi : IntKind.i64.wrap ((i : Int) + 1) = ((i + 1 : Nat) : Int) := by rw [wrap_id (by constructor <;> omega)]; simp
    refine sk ?_
    refine sq ?_
    refine Exec.block ?_
    refine sq ?_
    refine sq ?_
    apply Exec.regionL te_ok
    ·intro o Q hQ
     simp only [go_sem, hgr, hwi]
     repeat refine ob2 ?_
     exact hQ
    refine Exec.cond_split rfl (fun h3 => ?_) (fun h3 => ?_)
    ·have hi0 : 0 < i := by have := of_decide_eq_true h3; omega
     have hB : othB (gP n) (lexT s) i = othK (gP n) (lexT s) i ++ gP n := if_pos hi0
     have hK := othK_on (gP n) (lexT s) i
     rw [hB] at hK ho
     have hp := atR_put (gP n) (lexT s) i
     rw [hB] at hp
     apply Exec.regionL te_ok
     ·intro o Q hQ
      simp only [go_sem, hgr, hwi]
      repeat refine ob2 ?_
      exact hQ
     refine sq ?_
     apply Exec.regionL te_ok
     ·intro o Q hQ
      simp only [go_sem, hgr, hwi]
      repeat refine ob2 ?_
      exact hQ
     apply Exec.regionL te_ok
     ·intro o Q hQ
      simp only [go_sem, hgr, hwi]
      repeat refine ob2 ?_
      exact hQ
     refine Exec.inBlock ?_
     apply Exec.regionL te_ok
     ·intro o Q hQ
      simp only [go_sem, hgr, hwi]
      repeat refine ob2 ?_
      exact hQ
     refine Exec.back (ih0 (i + 1) ?_ ?_) ?_ ?_ ?_ ?_ ?_ ?_ ?_
     ·try simp only
      omega
     ·try simp only
      omega
     ·rfl
     ·rfl
     ·simp only [go_sem]
      exact congrArg mkS hK.symm
     ·(simp only [go_sem])
     ·simp only [go_sem]
      exact fun j _ => hp j
     ·simp only [go_sem, hgr, hwi]
     ·rfl
    ·have hi0 : ¬ 0 < i := by have := of_decide_eq_false h3; omega
     have hB : othB (gP n) (lexT s) i = othK (gP n) (lexT s) i := if_neg hi0
     have hK := othK_on (gP n) (lexT s) i
     rw [hB] at hK ho
     have hp := atR_put (gP n) (lexT s) i
     rw [hB] at hp
     refine sk ?_
     refine sq ?_
     apply Exec.regionL te_ok
     ·intro o Q hQ
      simp only [go_sem, hgr, hwi]
      repeat refine ob2 ?_
      exact hQ
     apply Exec.regionL te_ok
     ·intro o Q hQ
      simp only [go_sem, hgr, hwi]
      repeat refine ob2 ?_
      exact hQ
     refine Exec.inBlock ?_
     apply Exec.regionL te_ok
     ·intro o Q hQ
      simp only [go_sem, hgr, hwi]
      repeat refine ob2 ?_
      exact hQ
     refine Exec.back (ih0 (i + 1) ?_ ?_) ?_ ?_ ?_ ?_ ?_ ?_ ?_
     ·try simp only
      omega
     ·try simp only
      omega
     ·rfl
     ·rfl
     ·simp only [go_sem]
      exact congrArg mkS hK.symm
     ·(simp only [go_sem])
     ·simp only [go_sem]
      exact fun j _ => hp j
     ·simp only [go_sem, hgr, hwi]
     ·rfl
   ·obtain rfl : i = (lexT s).length := by have := of_decide_eq_false h2; omega
    rw [o1] at *
    refine Exec.exit rfl ?_
    refine sq ?_
    apply Exec.regionL te_ok
    ·intro o Q hQ
     simp only [go_sem, hgr]
     repeat refine ob2 ?_
     refine kcall hR.inv te_ok rfl rfl rfl rfl rfl rfl (pQuery_ok s (by omega)) ?_
     simp only [go_sem, hgr]
     repeat refine ob2 ?_
     exact hQ
    refine sq ?_
    apply Exec.regionL te_ok
    ·intro o Q hQ
     simp only [go_sem, hgr]
     repeat refine ob2 ?_
     refine kcall hR.inv te_ok rfl rfl rfl rfl rfl rfl (pQuery_ok (ffG (gP n) (lexT s)) (by omega)) ?_
     simp only [go_sem, hgr]
     repeat refine ob2 ?_
     exact hQ
    refine sq ?_
    refine sq ?_
    apply Exec.regionL te_ok
    ·intro o Q hQ
     simp only [go_sem, hgr]
     repeat refine ob2 ?_
     refine kcallG hR.inv te_ok rfl rfl rfl rfl rfl rfl ob1 (fun hq => (tsame_ok (readV qz queryP (ffG (gP n) (lexT s))).1 (readV qz queryP s).1 (by omega) (by omega) (by omega) hf2.2.1).weak laidX_laid) ?_
     simp only [go_sem, hgr]
     repeat refine ob2 ?_
     exact hQ
    refine Exec.cond_split rfl (fun h4 => ?_) (fun h4 => ?_)
    ·exfalso
     exact absurd (h4.symm.trans (blanks_cond a1 a2 a3)) (by decide)
    refine sk ?_
    refine sq ?_
    refine sq ?_
    apply Exec.regionL te_ok
    ·intro o Q hQ
     simp only [go_sem, hgr]
     repeat refine ob2 ?_
     exact hQ
    refine Exec.block ?_
    apply Exec.loopU [5, 10, 13, 14, 16] (X := Nat) (fun k => [(18, .d (iv k))]) (fun k => []) (fun k => []) (fun k => (lexT s).length - k) (fun k => k ≤ (lexT s).length ∧ ∀ j, j < k → ((readV qz queryP s).2.2 != 0 && (nth (lexT s) j).a == (readV qz queryP s).2.1 && ((othB (gP n) (lexT s) j).length : Int) == (readV qz queryP (ffG (gP n) (lexT s))).2.1) = false) 0
    case h0 =>
     exact ⟨by omega, fun j hj => by omega⟩
    case hw =>
     simp only [go_sem, hgr]
    case body =>
     rintro k hx ih1
     try simp only at hx
     apply Exec.norm
     ·simp only [go_sem, hgr]
      rfl
     refine sq ?_
     refine sq ?_
     apply Exec.regionL te_ok
     ·intro o Q hQ
      simp only [go_sem, hgr]
      repeat refine ob2 ?_
      exact hQ
     refine Exec.cond_split rfl (fun h5 => ?_) (fun h5 => ?_)
     ·have hk : k < (lexT s).length := by have := of_decide_eq_true h5; omega
      have hat := atR_at (g := gP n) (l := lexT s) hk
      have hwk : IntKind.i64.wrap ((k : Int) + 1) = ((k + 1 : Nat) : Int) := by rw [wrap_id (by constructor <;> omega)]; simp
      refine sk ?_
      refine sq ?_
      refine Exec.block ?_
      refine sq ?_
      apply Exec.regionL te_ok
      ·intro o Q hQ
       simp only [go_sem, hgr, hat, hwk]
       repeat refine ob2 ?_
       exact hQ
      refine Exec.cond_split rfl (fun h6 => ?_) (fun h6 => ?_)
      ·refine sq ?_
       apply Exec.regionL te_ok
       ·intro o Q hQ
        simp only [go_sem, hgr, hat, hwk]
        repeat refine ob2 ?_
        exact hQ
       refine Exec.rets hR te_ok rfl rfl rfl (LeX.le ?_) (.inr ⟨_, rfl⟩)
       simp only [go_sem, hgr, hat, hwk]
      ·refine sk ?_
       refine Exec.inBlock ?_
       apply Exec.regionL te_ok
       ·intro o Q hQ
        simp only [go_sem, hgr, hat, hwk]
        repeat refine ob2 ?_
        exact hQ
       refine Exec.back (ih1 (k + 1) ?_ ?_) ?_ ?_ ?_ ?_ ?_ ?_ ?_
       ·try simp only
        refine ⟨by omega, fun j hj => ?_⟩
        rcases Nat.lt_or_ge j k with h9 | h9
        ·exact hx.2 j h9
        ·obtain rfl : j = k := by omega
         exact h6
       ·try simp only
        omega
       ·rfl
       ·rfl
       ·(simp only [go_sem, hgr, hat, hwk])
       ·(simp only [go_sem, hgr, hat, hwk])
       ·(simp only [go_sem, hgr, hat, hwk])
       ·simp only [go_sem, hgr, hat, hwk]
       ·rfl
     ·refine Exec.exit rfl ?_
      refine sq ?_
      apply Exec.regionL te_ok
      ·intro o Q hQ
       simp only [go_sem, hgr]
       repeat refine ob2 ?_
       exact hQ
      refine Exec.rets hR te_ok rfl rfl rfl (LeX.le ?_) (.inr ⟨_, rfl⟩)
      simp only [go_sem]
      have hE0 : (readV qz queryP s).2.2 = 0 := Classical.byContradiction fun he => by obtain ⟨j, j1, j2, j3⟩ := a4 he; have h9 := hx.2 j (by have := of_decide_eq_false h5; omega); rw [o2 j j1] at j3; rw [j2, j3] at h9; simp [he] at h9
      show ((readV qz queryP s).2.2 == 0) = true
      rw [hE0]; rfl
end Go.Proofs.YtonchjamoblioaaGreatDoor
namespace Go.Proofs.YtonchjamoblioaaGreatDoor
open Go.Kin
set_option maxRecDepth 100000
set_option maxHeartbeats 0
end Go.Proofs.YtonchjamoblioaaGreatDoor
namespace Go.Kin
open Go.RowKit
section
variable {H : Type} {enc : TypeId × Value → H} {P : Program} {W : World} {te : TE}
/-- **A law's row, where variables are laid.** Its function answers true at data of the parameters' shapes; its arguments read as before. -/
theorem law_rowL {I : World → Prop} {X : World → Array Value → Prop} (hX : ∀ (w w' : World) (args : Array Value), w.heap = w'.heap → X w args → X w' args) (hXI : ∀ W args, X W args → I W) {C : _root_.Go.Checked} {os : Os} {f : FuncId} {fn : Func} {s : ChangeSpec} {tb : TypeId} (us : List TypeId) (hts : okAll te us = true) (hC : C.prog = P) (hte : TEok P te) (own : ownKnob P.godebug = none) (hlaid : laidOutB P = true) (started : os.Started) (noInit : P.inits.idxOf? f = none) (hfn : P.funcs[f]? = some fn)
    (witness : ∃ (w : World) (tape : Tape) (i : Input), w.os = os ∧ (w.forCall tape i).Shaped C.prog ∧ i.vars = [] ∧ Input.okWide C.prog (w.forCall tape i) .any w.heap.size f i ∧
      ((s.pre enc C.prog fn [] false (w.forCall tape i).memory i.args ∧ X (w.forCall tape i).memory i.args) ∧ sizedMet enc C.prog fn (OpenSpec.ofChange s) false (w.forCall tape i).memory i.args) ∧ ({} : Assume).holds C.prog (lone (Frame.enter C.prog f i.args .normal) [] (w.forCall tape i)))
    (hvars : s.vars = []) (hres : fn.resultTypes = #[tb]) (htb : P.underlying tb = some .bool)
    (hs : ∀ (ds : List (DataW H)), ds.length = fn.params.size → (s.fn H ds).results = [.lit (.bool true)] ∧ (s.fn H ds).args = ds ∧ (s.fn H ds).vars = [])
    (hok : (fn.params.toList.all fun t => us.contains t && P.readableRec t && decide (t < P.types.size)) = true)
    (h : ∀ xs, ArgsShp te fn.params.toList xs → FnOK I P f xs (.v (.bool true))) :
    ReturnsInHanded {} C os f .any (fun w args => (s.pre enc C.prog fn [] false w args ∧ X w args) ∧ sizedMet enc C.prog fn (OpenSpec.ofChange s) false w args) (s.post enc C.prog fn false true false false) := by
  subst hC
  refine returnsInHanded_of_change_and (X := X) hX own started noInit hfn witness ?_
  intro W base args ds gs before hval hW _ hwt hXW _
  have hW' := hW
  obtain ⟨p, q, hA, hV, rfl, hfz, hnd⟩ := hW
  rw [hvars] at hV
  have hgs : gs = [] ∧ q = [] := by
    cases gs with
    | nil => exact ⟨rfl, hV⟩
    | cons g gs => exact hV.elim
  obtain ⟨rfl, rfl⟩ := hgs
  have hall : ∀ t ∈ fn.params.toList, us.contains t = true ∧ C.prog.readableRec t = true ∧ t < C.prog.types.size := fun t ht => by
    have := List.all_eq_true.1 hok t ht
    simpa [and_assoc] using this
  have hwt' : ∀ x ∈ DataW.weightsEach C.prog fn.params.toList ds, x ≤ reachBytes := fun x hx => by
    have hv0 : s.plain.varTypes C.prog = [] := by simp [DataSpec.varTypes, ChangeSpec.plain, hvars]
    rw [hv0, List.append_nil, List.append_nil] at hwt
    simpa using List.all_eq_true.1 hwt x hx
  obtain ⟨xs, hx1, hx2⟩ := args_rd hte hts (fun t ht => (hall t ht).1) (fun j t v h1 h2 => hval j t v (by simpa using h1) (by simpa using h2)) hA hwt'
  have hc := (h xs hx1).2 W (fun b => b < W.heap.size) args.toList (hXI _ _ hXW) (fun b hb => hb) hx2
  rw [Array.toArray_toList] at hc
  refine Calls.mono hc fun e W' he => ?_
  obtain ⟨v, Z', rfl, hb, _, hv⟩ := he
  simp only [RdV] at hv
  subst hv
  have hlen : ds.length = fn.params.size := by
    have : ∀ {ts : List TypeId} {vs : List Value} {ds : List (DataW H)} {ps : List MemPlace}, DataW.TrodAll enc C.prog W 0 (fun _ => true) true ts vs ds ps → ds.length = ts.length := by
      intro ts
      induction ts with
      | nil => intro vs ds ps h; cases vs <;> cases ds <;> first | rfl | exact h.elim
      | cons t ts ih =>
        intro vs ds ps h
        cases vs with
        | nil => exact h.elim
        | cons v vs => cases ds with
          | nil => exact h.elim
          | cons d ds => obtain ⟨_, _, _, h2, _⟩ := h; simp [ih h2]
    simpa using this hA
  obtain ⟨e1, e2, e3⟩ := hs ds hlen
  refine ⟨.bool true, rfl, post_of_below (pa := p) (pv := []) hW' (fun b sp hd => ?_) (fun sp hsp => ?_) (fun sp _ => ?_) rfl hb ?_⟩
  · rw [List.append_nil, e1, hres]
    exact ⟨[], [], ⟨1, by simp [DataW.trod, htb, Value.cells]⟩, rfl, rfl⟩
  · rw [List.append_nil, e2]
    exact trodAll_stays hlaid (fun t ht => (hall t ht).2) hA (fun x hx => hb.same (hW'.lt x (by simpa using hx))) (fun x hx => hsp x (by simpa using hx))
  · rw [List.append_nil, e3, hvars]; rfl
  · intro j t r hj hr
    rw [hres] at hj hr
    match j, hj, hr with
    | 0, hj, hr =>
      simp [Value.resultList] at hj hr
      subst hj; subst hr
      simp [Value.okWide, Cell.okWide, Cell.ok, htb]
end
end Go.Kin
namespace Go.Proofs.YtonchjamoblioaaGreatDoor
open Go.Kin
set_option maxRecDepth 100000
theorem own_ok : ownKnob Tryz.prog.godebug = none := by kernel_rfl
theorem laid_ok : laidOutB Tryz.prog = true := by kernel_rfl
def tysX : List TypeId := [3, 4, 9]
theorem tysX_ok : okAll te tysX = true := by kernel_rfl
theorem shp_intT {t : Nat} {x : D} {i : TyI} (hi : klook t te = some i) (hu : i.u = .int .i64) (h : ArgShp te t x) : ∃ n, x = iv n ∧ I64 n := by
 obtain ⟨m, ds, h1, h2⟩ := h
 cases m with
 | zero => exact h1.elim
 | succ m =>
  simp only [Shp, hi, hu] at h1
  obtain ⟨n, rfl, h3⟩ := h1
  simp [aggT, hi, hu, aggD] at h2
  exact ⟨n, h2.symm, h3⟩
theorem shp_str {x : D} (h : ArgShp te 9 x) : ∃ s, x = sv s ∧ s.length ≤ 140737488355328 := by
 obtain ⟨m, ds, h1, h2⟩ := h
 cases m with
 | zero => exact h1.elim
 | succ m =>
  simp only [Shp, te_9] at h1
  obtain ⟨s, rfl, h3⟩ := h1
  simp [aggT, te_9, aggD] at h2
  exact ⟨s, h2.symm, by unfold reachBytes at h3; omega⟩
/-! ### what the rows lay -/
def laidX : List (String × DataW Unit) := Rows.parseTellsRow.laid
theorem gPow : Tryz.prog.globalNamed powName = some 0 := by kernel_rfl
theorem gSpc : Tryz.prog.globalNamed "strings.asciiSpace" = some 1 := by kernel_rfl
theorem gSyn : Tryz.prog.globalNamed "strconv.ErrSyntax" = some 6 := by kernel_rfl
theorem gRng : Tryz.prog.globalNamed "strconv.ErrRange" = some 7 := by kernel_rfl
theorem tPow : (Tryz.prog.globals[0]?).map (·.type) = some 206 := by kernel_rfl
theorem tSpc : (Tryz.prog.globals[1]?).map (·.type) = some 216 := by kernel_rfl
theorem tSyn : (Tryz.prog.globals[6]?).map (·.type) = some 186 := by kernel_rfl
theorem tRng : (Tryz.prog.globals[7]?).map (·.type) = some 186 := by kernel_rfl
theorem cells258 : Tryz.prog.cellsOf 258 = 1 := by kernel_rfl
theorem cells9 : Tryz.prog.cellsOf 9 = 1 := by kernel_rfl
/-- the name of the type of the library's errors -/
def errName : String := match (Rows.laid_strconv_ErrSyntax : DataW Unit) with
 | .iface n _ => n
 | _ => default
theorem row256 (u : TypeId) (h : Tryz.prog.typeName? 3 u = some errName) : u = 256 :=
 typeName_ptr_named (nm := "errors.errorString") (by kernel_rfl) (by kernel_rfl) (by decide) u (h.trans (congrArg some (by decide)))
theorem laidX_met {W : World} (h : laidMetH Tryz.prog laidX W) : LaidX W := by
 rw [MakeChecks.laidMetH_plain _ _ _ (by kernel_rfl)] at h
 have h3 := h.tail.tail
 obtain ⟨a1, s1, hv1, -, -, -⟩ := laid_sentinel h3.tail gRng tRng Tryz.underlying186 row256 Tryz.underlying256 Tryz.underlying258 rfl rfl Tryz.underlying9 cells258 cells9
 obtain ⟨a0, s0, hv0, -, -, -⟩ := laid_sentinel h3.tail.tail gSyn tSyn Tryz.underlying186 row256 Tryz.underlying256 Tryz.underlying258 rfl rfl Tryz.underlying9 cells258 cells9
 have h6 : laidMet Tryz.prog [("strings.asciiSpace", Lib.tabData .u8 Lib.asciiSpaceTab)] W := by
  have := h3.tail.tail.tail.tail
  exact this
 exact ⟨⟨Lib.tabIs_of_head gPow tPow Tryz.underlying206 Tryz.underlying191 (by kernel_rfl) (by kernel_rfl) h3⟩, ⟨_, _, hv0⟩, ⟨_, _, hv1⟩,
  Lib.tabIs_of_head gSpc tSpc Tryz.underlying216 Tryz.underlying5 (by kernel_rfl) (by kernel_rfl) h6⟩
theorem doorX (os : Os) (args : Array Value) : laidMetH Tryz.prog laidX ((World.doorLaid Tryz.prog 200 os).forCall (fun _ _ => 0) ⟨#[], args, []⟩).memory :=
 laidMetH_of_parts3 (fuel := 8) (laidMet_of_run' 8 (by kernel_rfl) (by kernel_rfl)) (by kernel_rfl) (by kernel_rfl)
end Go.Proofs.YtonchjamoblioaaGreatDoor
