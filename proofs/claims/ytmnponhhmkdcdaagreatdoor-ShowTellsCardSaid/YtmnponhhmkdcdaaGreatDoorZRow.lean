/- Contracts of functions of the seat, walked. -/
import Derived.Test.YtmnponhhmkdcdaaGreatDoorZ15
import Derived.Test.YtmnponhhmkdcdaaGreatDoorKRowL
import Derived.Test.YtmnponhhmkdcdaaGreatDoorKRow2
import Derived.Test.YtmnponhhmkdcdaaGreatDoorTie
import Derived.Test.YtmnponhhmkdcdaaGreatDoorCards
import Derived.Test.YtmnponhhmkdcdaaGreatDoorChecked
import Derived.ProofKit
import Derived.LaidMore
import Derived.OpenShut
import Derived.Stop.Joined
import Derived.Stop.LaidErr
import Derived.Lib.LaidTab
namespace Go.Proofs.YtmnponhhmkdcdaaGreatDoor
open Go.Kin
set_option maxRecDepth 100000
theorem own_ok : ownKnob Tryz.prog.godebug = none := by kernel_rfl
theorem laid_ok : laidOutB Tryz.prog = true := by kernel_rfl
def tys : List TypeId := [3, 4, 9, 22, 23, 24, 26, 27, 28, 30, 45, 46, 47, 49, 51, 53, 56]
theorem tys_ok : okAll te tys = true := by kernel_rfl
/-! ### the arguments of a law, as data -/
theorem shp1_intT {t m : Nat} {i : TyI} (hi : klook t te = some i) (hu : i.u = .int .i64) {ds : List D} (h : Shp te m t ds) : ∃ n, ds = [iv n] ∧ I64 n := by
  cases m with
  | zero => exact h.elim
  | succ m =>
    simp only [Shp, hi, hu] at h
    obtain ⟨n, rfl, h⟩ := h
    exact ⟨n, rfl, h⟩
theorem shp1_bool {m : Nat} {ds : List D} (h : Shp te m 4 ds) : ∃ n, ds = [bv n] := by
  cases m with
  | zero => exact h.elim
  | succ m =>
    simp only [Shp, te_4] at h
    obtain ⟨n, rfl⟩ := h
    exact ⟨n, rfl⟩
theorem shp1_str {m : Nat} {ds : List D} (h : Shp te m 9 ds) : ∃ s, ds = [sv s] ∧ s.length ≤ 140737488355328 := by
  cases m with
  | zero => exact h.elim
  | succ m =>
    simp only [Shp, te_9] at h
    obtain ⟨s, rfl, h⟩ := h
    exact ⟨s, rfl, by unfold reachBytes at h; omega⟩
theorem leds_one {ds : List D} {e : D} (h : LeDs ds [e]) : ∃ d, ds = [d] ∧ LeD d e := by
  match ds, h with
  | [d], h => exact ⟨d, rfl, h.1⟩
theorem leds_app : ∀ {a b c d : List D}, LeDs a b → LeDs c d → LeDs (a ++ c) (b ++ d)
  | [], [], _, _, _, h => h
  | x :: a, y :: b, _, _, h1, h => ⟨h1.1, leds_app h1.2 h⟩
  | [], _ :: _, _, _, h, _ => h.elim
  | _ :: _, [], _, _, h, _ => h.elim
theorem kids_le (l : List Ex) (k : Int) (s : List UInt8) : LeD (.sl 3 l.length l.length fun i => exC (nth l i)) (kdX (.mk k s l)) := by
  rw [kd_eq]
  exact LeD.slice (Nat.le_refl _) (Nat.le_refl _) fun i hi => (kdR_at hi).symm
theorem shp1_ex : ∀ (m : Nat) (ds : List D), Shp te m 30 ds → ∃ x : Ex, LeDs ds (exC x) ∧ FitX x := fun m => by
  induction m using Nat.strongRecOn with
  | ind m ih =>
    intro ds h
    cases m with
    | zero => exact h.elim
    | succ m =>
      simp only [Shp, te_30, ShpFs] at h
      obtain ⟨d1, d2, rfl, h1, d3, d4, rfl, h2, d5, d6, rfl, h3, rfl⟩ := h
      obtain ⟨k, rfl, _⟩ := shp1_intT te_27 rfl h1
      obtain ⟨s, rfl, hs⟩ := shp1_str h2
      obtain ⟨l, g1, g2, g3, _⟩ := shp1_slice (f := exC) (p := FitX) te_28 rfl te_30 exD_lf (fun m' ds hm h => ih m' (by omega) ds h) h3
      obtain ⟨d, rfl, hd⟩ := leds_one g1
      exact ⟨.mk k s l, ⟨LeD.refl _, LeD.refl _, hd.trans (kids_le l k s), trivial⟩, .mk hs g3 g2⟩
theorem shp1_val {m : Nat} {ds : List D} (h : Shp te m 49 ds) : ∃ (k n : Int) (s : List UInt8), ds = [iv k, iv n, sv s] ∧ s.length ≤ 140737488355328 := by
  cases m with
  | zero => exact h.elim
  | succ m =>
    simp only [Shp, te_49, ShpFs] at h
    obtain ⟨d1, d2, rfl, h1, d3, d4, rfl, h2, d5, d6, rfl, h3, rfl⟩ := h
    obtain ⟨k, rfl, _⟩ := shp1_intT te_47 rfl h1
    obtain ⟨n, rfl, _⟩ := shp1_intT te_3 rfl h2
    obtain ⟨s, rfl, hs⟩ := shp1_str h3
    exact ⟨k, n, s, rfl, hs⟩
theorem shp1_op {m : Nat} {ds : List D} (h : Shp te m 51 ds) : ∃ o : Opd, ds = opC o ∧ FitO o := by
  cases m with
  | zero => exact h.elim
  | succ m =>
    simp only [Shp, te_51, ShpFs] at h
    obtain ⟨d1, d2, rfl, h1, d3, d4, rfl, h2, d5, d6, rfl, h3, d7, d8, rfl, h4, rfl⟩ := h
    obtain ⟨k, rfl, _⟩ := shp1_intT te_46 rfl h1
    obtain ⟨s, rfl, hs⟩ := shp1_str h2
    obtain ⟨s2, rfl, hs2⟩ := shp1_str h3
    obtain ⟨vk, vn, vs, rfl, hv⟩ := shp1_val h4
    exact ⟨⟨k, s, s2, vk, vn, vs⟩, rfl, hs, hs2, hv⟩
theorem shp1_cd {m : Nat} {ds : List D} (h : Shp te m 53 ds) : ∃ c : Cd, ds = cdC c ∧ FitC c := by
  cases m with
  | zero => exact h.elim
  | succ m =>
    simp only [Shp, te_53, ShpFs] at h
    obtain ⟨d1, d2, rfl, h1, d3, d4, rfl, h2, d5, d6, rfl, h3, rfl⟩ := h
    obtain ⟨k, rfl, _⟩ := shp1_intT te_45 rfl h1
    obtain ⟨l, rfl, hl⟩ := shp1_op h2
    obtain ⟨r, rfl, hr⟩ := shp1_op h3
    exact ⟨⟨k, l, r⟩, rfl, hl, hr⟩
theorem shp1_pt {m : Nat} {ds : List D} (h : Shp te m 56 ds) : ∃ p : Pt, LeDs ds (ptC p) ∧ RawP p := by
  cases m with
  | zero => exact h.elim
  | succ m =>
    simp only [Shp, te_56, ShpFs] at h
    obtain ⟨d1, d2, rfl, h1, d3, d4, rfl, h2, d5, d6, rfl, h3, d7, d8, rfl, h4, d9, d10, rfl, h5, d11, d12, rfl, h6, rfl⟩ := h
    obtain ⟨s1, rfl, q1⟩ := shp1_str h1
    obtain ⟨s2, rfl, q2⟩ := shp1_str h2
    obtain ⟨b, rfl⟩ := shp1_bool h3
    obtain ⟨s4, rfl, q4⟩ := shp1_str h4
    obtain ⟨s5, rfl, q5⟩ := shp1_str h5
    obtain ⟨e, le, q6⟩ := shp1_ex _ _ h6
    refine ⟨⟨s1, s2, b, s4, s5, e⟩, ?_, q1, q2, q4, q5, q6⟩
    have := leds_app le (show LeDs [] [] from trivial)
    exact ⟨LeD.refl _, LeD.refl _, LeD.refl _, LeD.refl _, LeD.refl _, this⟩
theorem shp_ex {x : D} (h : ArgShp te 30 x) : ∃ e : Ex, LeD x (exD e) ∧ FitX e := by
  obtain ⟨m, ds, h1, h2⟩ := h
  obtain ⟨e, le, q⟩ := shp1_ex m ds h1
  simp [aggT, te_30, aggD] at h2
  subst h2
  exact ⟨e, LeD.ag le, q⟩
theorem shp_qu {x : D} (h : ArgShp te 26 x) : ∃ q : Qu, LeD x (quD q) ∧ RawQ q := by
  obtain ⟨m, ds, h1, h2⟩ := h
  simp [aggT, te_26, aggD] at h2
  subst h2
  cases m with
  | zero => exact h1.elim
  | succ m =>
    simp only [Shp, te_26, ShpFs] at h1
    obtain ⟨d1, d2, rfl, h1, d3, d4, rfl, h2, d5, d6, rfl, h3, d7, d8, rfl, h4, d9, d10, rfl, h5, rfl⟩ := h1
    obtain ⟨lp, p1, p2, p3, _⟩ := shp1_slice (f := ptC) (p := RawP) te_22 rfl te_56 ptC_lf (fun m' ds _ h => shp1_pt h) h1
    obtain ⟨lc, c1, c2, c3, _⟩ := shp1_slice (f := cdC) (p := FitC) te_23 rfl te_53 (fun _ => rfl) (fun m' ds _ h => by
      obtain ⟨c, rfl, hc⟩ := shp1_cd h
      exact ⟨c, LeDs.refl _, hc⟩) h2
    obtain ⟨lr, r1, r2, r3, _⟩ := shp1_slice (f := opC) (p := FitO) te_24 rfl te_51 (fun _ => rfl) (fun m' ds _ h => by
      obtain ⟨c, rfl, hc⟩ := shp1_op h
      exact ⟨c, LeDs.refl _, hc⟩) h3
    obtain ⟨e1, rfl, g1⟩ := leds_one p1
    obtain ⟨e2, rfl, g2⟩ := leds_one c1
    obtain ⟨e3, rfl, g3⟩ := leds_one r1
    obtain ⟨n1, rfl, _⟩ := shp1_intT te_3 rfl h4
    obtain ⟨n2, rfl, _⟩ := shp1_intT te_3 rfl h5
    exact ⟨⟨lp, lc, lr, n1, n2⟩, LeD.ag ⟨g1, g2, g3, LeD.refl _, LeD.refl _, trivial⟩, p3, c3, r3, p2, c2, r2⟩
/-! ### what the rows lay -/
theorem gPow : Tryz.prog.globalNamed powName = some 0 := by kernel_rfl
def laidV : List (String × DataW Unit) := Rows.showTellsRow.laid
theorem tPow : (Tryz.prog.globals[0]?).map (·.type) = some 206 := by kernel_rfl
theorem laidV_laid {W : World} (h : laidMetH Tryz.prog laidV W) : Laid W := by
  rw [MakeChecks.laidMetH_plain _ _ _ (by kernel_rfl)] at h
  exact ⟨Lib.tabIs_of_head gPow tPow Tryz.underlying206 Tryz.underlying191 (by kernel_rfl) (by kernel_rfl) h.tail.tail⟩
theorem doorV (os : Os) (args : Array Value) : laidMetH Tryz.prog laidV ((World.doorLaid Tryz.prog 200 os).forCall (fun _ _ => 0) ⟨#[], args, []⟩).memory :=
  laidMetH_of_parts3 (fuel := 8) (laidMet_of_run' 8 (by kernel_rfl) (by kernel_rfl)) (by kernel_rfl) (by kernel_rfl)
end Go.Proofs.YtmnponhhmkdcdaaGreatDoor
