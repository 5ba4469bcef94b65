/- Contracts of functions of the seat, walked. -/
import Derived.Test.YtmnponhhmkdcdaaDoorV0
import Derived.Test.YtmnponhhmkdcdaaDoorKRowL
import Derived.Test.YtmnponhhmkdcdaaDoorTie
import Derived.Test.YtmnponhhmkdcdaaDoorCards
import Derived.Test.YtmnponhhmkdcdaaDoorChecked
import Derived.ProofKit
import Derived.LaidMore
import Derived.OpenShut
import Derived.Stop.Joined
import Derived.Stop.LaidErr
import Derived.Lib.LaidTab
import Derived.Test.YtmnponhhmkdcdaaDoorV1
namespace Go.Proofs.YtmnponhhmkdcdaaDoor
open Go.Kin
set_option maxRecDepth 100000
theorem own_ok : ownKnob Tryd.prog.godebug = none := by kernel_rfl
theorem laid_ok : laidOutB Tryd.prog = true := by kernel_rfl
def tys : List TypeId := [3, 4, 9, 22, 24, 34, 39]
theorem tys_ok : okAll te tys = true := by kernel_rfl
/-! ### the arguments of a law, as data -/
theorem shp1_intT {t m : Nat} {i : TyI} (hi : klook t te = some i) (hu : i.u = .int .i64) {ds : List D} (h : Shp te m t ds) : ∃ n, ds = [iv n] ∧ I64 n := by
  cases m with
  | zero => exact h.elim
  | succ m =>
    simp only [Shp, hi, hu] at h
    obtain ⟨n, rfl, h⟩ := h
    exact ⟨n, rfl, h⟩
theorem shp1_str {m : Nat} {ds : List D} (h : Shp te m 9 ds) : ∃ s, ds = [sv s] ∧ s.length ≤ reachBytes := by
  cases m with
  | zero => exact h.elim
  | succ m =>
    simp only [Shp, te_9] at h
    obtain ⟨s, rfl, h⟩ := h
    exact ⟨s, rfl, h⟩
theorem shp1_val {m : Nat} {ds : List D} (h : Shp te m 24 ds) : ∃ v : Vl, ds = vC v ∧ v.s.length ≤ reachBytes := by
  cases m with
  | zero => exact h.elim
  | succ m =>
    simp only [Shp, te_24, ShpFs] at h
    obtain ⟨d1, d2, rfl, h1, d3, d4, rfl, h2, d5, d6, rfl, h3, rfl⟩ := h
    obtain ⟨k, rfl, _⟩ := shp1_intT te_22 rfl h1
    obtain ⟨n, rfl, _⟩ := shp1_intT te_3 rfl h2
    obtain ⟨s, rfl, hs⟩ := shp1_str h3
    exact ⟨⟨k, n, s⟩, rfl, hs⟩
theorem shp_intT {t : Nat} {x : D} {i : TyI} (hi : klook t te = some i) (hu : i.u = .int .i64) (h : ArgShp te t x) : ∃ n, x = iv n ∧ I64 n := by
  obtain ⟨m, ds, h1, h2⟩ := h
  obtain ⟨n, rfl, h3⟩ := shp1_intT hi hu h1
  simp [aggT, hi, hu, aggD] at h2
  exact ⟨n, h2.symm, h3⟩
theorem shp_str {x : D} (h : ArgShp te 9 x) : ∃ s, x = sv s ∧ s.length ≤ 140737488355328 := by
  obtain ⟨m, ds, h1, h2⟩ := h
  obtain ⟨s, rfl, h3⟩ := shp1_str h1
  simp [aggT, te_9, aggD] at h2
  exact ⟨s, h2.symm, by unfold reachBytes at h3; omega⟩
theorem shp_val {x : D} (h : ArgShp te 24 x) : ∃ v : Vl, x = vD v ∧ v.s.length ≤ 140737488355328 := by
  obtain ⟨m, ds, h1, h2⟩ := h
  obtain ⟨v, rfl, h3⟩ := shp1_val h1
  simp [aggT, te_24, aggD] at h2
  exact ⟨v, h2, by unfold reachBytes at h3; omega⟩
theorem shp_slice {t e : Nat} {i j : TyI} {x : D} (hi : klook t te = some i) (hu : i.u = .slice e) (hj : klook e te = some j) {α : Type} [Inhabited α] {f : α → List D} {p : α → Prop} (hf : ∀ m ds, Shp te m e ds → ∃ a, ds = f a ∧ p a) (h : ArgShp te t x) :
    ∃ l : List α, LeX x (.sl j.size l.length l.length fun i => f (nth l i)) ∧ (∀ a ∈ l, p a) ∧ l.length ≤ topLen ∧ l.length * j.bytes ≤ reachBytes := by
  obtain ⟨m, ds, h1, h2⟩ := h
  simp [aggT, hi, hu, aggD] at h2
  subst h2
  cases m with
  | zero => exact h1.elim
  | succ m =>
    simp only [Shp, hi, hu, hj] at h1
    obtain ⟨n, row, h3, h4, h5, h6⟩ := h1
    cases h3
    obtain ⟨l, rfl, h7, h8⟩ := rows_list (fun i hi => hf m (row i) (h6 i hi))
    refine ⟨l, ?_, h8, h4, h5⟩
    unfold LeX
    exact ⟨rfl, .inl rfl, .inl ⟨rfl, h7⟩⟩
/-! ### what the rows lay -/
theorem gSyn : Tryd.prog.globalNamed "strconv.ErrSyntax" = some 0 := by kernel_rfl
theorem gRng : Tryd.prog.globalNamed "strconv.ErrRange" = some 1 := by kernel_rfl
theorem tSyn : (Tryd.prog.globals[0]?).map (·.type) = some 71 := by kernel_rfl
theorem tRng : (Tryd.prog.globals[1]?).map (·.type) = some 71 := by kernel_rfl
theorem gPow : Tryd.prog.globalNamed powName = some 3 := by kernel_rfl
theorem cells149 : Tryd.prog.cellsOf 149 = 1 := by kernel_rfl
theorem cells9 : Tryd.prog.cellsOf 9 = 1 := by kernel_rfl
/-- the name of the type of the library's errors -/
def errName : String := match (Rows.laid_strconv_ErrSyntax : DataW Unit) with
  | .iface n _ => n
  | _ => default
theorem row147 (u : TypeId) (h : Tryd.prog.typeName? 3 u = some errName) : u = 147 :=
  typeName_ptr_named (nm := "errors.errorString") (by kernel_rfl) (by kernel_rfl) (by decide) u (h.trans (congrArg some (by decide)))
def laidV : List (String × DataW Unit) := Rows.valueShowsRow.laid
theorem tPow : (Tryd.prog.globals[3]?).map (·.type) = some 143 := by kernel_rfl
theorem laidV_laid {W : World} (h : laidMetH Tryd.prog laidV W) : Laid W := by
  rw [MakeChecks.laidMetH_plain _ _ _ (by kernel_rfl)] at h
  have h3 := h.tail.tail
  obtain ⟨a1, s1, hv1, -, -, -⟩ := laid_sentinel h3.tail gRng tRng Tryd.underlying71 row147 Tryd.underlying147 Tryd.underlying149 rfl rfl Tryd.underlying9 cells149 cells9
  obtain ⟨a0, s0, hv0, -, -, -⟩ := laid_sentinel h3.tail.tail gSyn tSyn Tryd.underlying71 row147 Tryd.underlying147 Tryd.underlying149 rfl rfl Tryd.underlying9 cells149 cells9
  exact ⟨Lib.tabIs_of_head gPow tPow Tryd.underlying143 Tryd.underlying119 (by kernel_rfl) (by kernel_rfl) h3, ⟨_, _, hv0⟩, ⟨_, _, hv1⟩⟩
theorem doorV (os : Os) (args : Array Value) : laidMetH Tryd.prog laidV ((World.doorLaid Tryd.prog 86 os).forCall (fun _ _ => 0) ⟨#[], args, []⟩).memory :=
  laidMetH_of_parts3 (fuel := 8) (laidMet_of_run' 8 (by kernel_rfl) (by kernel_rfl)) (by kernel_rfl) (by kernel_rfl)
end Go.Proofs.YtmnponhhmkdcdaaDoor
