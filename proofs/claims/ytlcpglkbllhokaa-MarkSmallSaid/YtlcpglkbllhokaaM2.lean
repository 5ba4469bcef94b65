/- Contracts of functions of the seat, walked. -/
import Derived.Test.YtlcpglkbllhokaaM1
namespace Go.Proofs.Ytlcpglkbllhokaa
open Go.Kin
set_option linter.unusedSimpArgs false
set_option linter.unusedVariables false
set_option maxRecDepth 100000
set_option maxHeartbeats 0
def deedsD (l : List (Bool × Int)) : D := .sl 2 l.length l.length fun i => [.v (.bool (nth l i).1), iv (nth l i).2]
attribute [go_sem] deedsD
def tmB (late : Int) : Bool := isTime late
def lB (late : Int) : Int := if isTime late then late else 0
def nB (late : Int) : Int := if isTime late then -1 else 0
def eB (late : Int) : Int := if isTime late then 0 else 2
theorem new2_ok {late : Int} (h : I64 late) : FnOK Try.prog 9 [iv late] (.tup [mk3 (tmB late) (lB late) (nB late), iv (eB late)]) := new_ok h
theorem rnew2_ok (late : Int) : FnOK Try.prog 14 [iv late] (.tup [refM (tmB late) (lB late) [], iv (eB late)]) := rnew_ok late
/-- both tell the same -/
def Both (tm : Bool) (late n : Int) (p : List Int) : Prop := (tm = true ∧ (0 ≤ late ∧ late ≤ 1099511627776) ∧ n = mx p ∧ -1 ≤ n ∧ n ≤ 1099511627776) ∨ (tm = false ∧ late = 0 ∧ n = 0 ∧ p = [])
theorem both_new (late : Int) : Both (tmB late) (lB late) (nB late) [] := by
  unfold Both tmB lB nB
  by_cases h : isTime late = true
  · refine .inl ⟨h, ?_, ?_⟩ <;> simp_all [isTime, mx]
  · right; simp at h; simp [h]
theorem both_same {tm : Bool} {late n : Int} {p : List Int} (h : Both tm late n p) (t : Int) : sameB tm late n tm late p t = true := by
  rcases h with ⟨rfl, _, rfl, _⟩ | ⟨rfl, rfl, rfl, rfl⟩ <;> simp [sameB, nowD, mx]
theorem both_edge {tm : Bool} {late n : Int} {p : List Int} (h : Both tm late n p) (t : Int) : Both tm late (edgeN tm late n t) (edgeP tm late p t) ∧ edgeE tm n t = edgeR tm p t := by
  rcases h with ⟨rfl, h1, rfl, h2, h3⟩ | ⟨rfl, rfl, rfl, rfl⟩
  · have e : edgeE true (mx p) t = edgeR true p t := by
      simp only [edgeE, edgeR, whyE]
      by_cases ht : isTime t = true <;> simp [ht]
    refine ⟨.inl ⟨rfl, h1, ?_⟩, e⟩
    simp only [edgeN, edgeP, ← e]
    by_cases h4 : edgeE true (mx p) t = 0
    · simp only [if_pos h4, mx_snoc]
      have ht : isTime t = true := by
        cases hh : isTime t with
        | true => rfl
        | false => simp [edgeE, whyE, hh] at h4
      have : 0 ≤ t ∧ t ≤ 1099511627776 := by simpa [isTime] using ht
      rw [wrap_id (by constructor <;> omega)]
      refine ⟨trivial, ?_, ?_⟩ <;> omega
    · simp only [if_neg h4]; exact ⟨trivial, h2, h3⟩
  · simp [edgeN, edgeP, edgeE, edgeR, whyE, Both]
theorem both_point {tm : Bool} {late n : Int} {p : List Int} (h : Both tm late n p) (t : Int) : Both tm late (pointN tm n t) (pointP tm p t) := by
  rcases h with ⟨rfl, h1, rfl, h2, h3⟩ | ⟨rfl, rfl, rfl, rfl⟩
  · refine .inl ⟨rfl, h1, ?_⟩
    simp only [pointN, pointP]
    by_cases h4 : whyE true t = 0
    · simp only [if_pos h4, mx_snoc]
      have ht : isTime t = true := by
        cases hh : isTime t with
        | true => rfl
        | false => simp [whyE, hh] at h4
      have : 0 ≤ t ∧ t ≤ 1099511627776 := by simpa [isTime] using ht
      refine ⟨trivial, ?_, ?_⟩ <;> omega
    · simp only [if_neg h4]; exact ⟨trivial, h2, h3⟩
  · simp [pointN, pointP, whyE, Both]
theorem both_nil {tm : Bool} {late n : Int} {p : List Int} (h : Both tm late n p) : tm = false → late = 0 ∧ p = [] := by
  rcases h with ⟨rfl, _⟩ | ⟨rfl, rfl, rfl, rfl⟩ <;> simp
theorem edgeP_len (tm : Bool) (late : Int) (p : List Int) (t : Int) : (edgeP tm late p t).length ≤ p.length + 1 := by
  unfold edgeP; split <;> simp
theorem pointP_len (tm : Bool) (p : List Int) (t : Int) : (pointP tm p t).length ≤ p.length + 1 := by
  unfold pointP; split <;> simp

theorem does_ok {late : Int} (hl : I64 late) (l : List (Bool × Int)) (hll : ∀ x ∈ l, I64 x.2) (hlen : l.length ≤ topLen) : FnOK Try.prog 5 [iv late, deedsD l] (.v (.bool true)) := by
  refine FnOK_of Try.func5 Try.ntmps5 rfl (by as_aux_lemma => kernel_rfl) (Nat.le_of_ble_eq_true rfl) (fun R hR => ?_)
  obtain ⟨_, b, cs, T, C⟩ := R
  obtain rfl : _ = Try.prog := hR.p
  have hb0 := both_same (both_new late) 0
  have hz0 : ([] : List Int).length ≤ 100000 := by simp
  refine Exec.seq ?_
  apply Exec.regionL te_ok
  · intro ops' Q hQ
    simp only [go_sem]
    repeat (refine And.intro (by first | assumption | omega | (simp; done) | (simp; omega) | (intros; omega) | (simp_all; done) | (simp_all; omega)) ?_)
    exact hQ
  refine Exec.seq ?_
  refine Exec.seq ?_
  apply Exec.regionL te_ok
  · intro ops' Q hQ
    simp only [go_sem]
    repeat (refine And.intro (by first | assumption | omega | (simp; done) | (simp; omega) | (intros; omega) | (simp_all; done) | (simp_all; omega)) ?_)
    exact hQ
  refine Exec.cond_split rfl (fun h0 => ?_) (fun h0 => ?_)
  · skip
    refine Exec.seq ?_
    apply Exec.regionL te_ok
    · intro ops' Q hQ
      simp only [go_sem]
      repeat (refine And.intro (by first | assumption | omega | (simp; done) | (simp; omega) | (intros; omega) | (simp_all; done) | (simp_all; omega)) ?_)
      refine kcall te_ok rfl rfl rfl rfl rfl rfl (awake_ok) ?_
      simp only [go_sem]
      repeat (refine And.intro (by first | assumption | omega | (simp; done) | (simp; omega) | (intros; omega) | (simp_all; done) | (simp_all; omega)) ?_)
      exact hQ
    refine Exec.rets hR te_ok rfl rfl rfl (LeX.le ?_) (.inr ⟨_, rfl⟩)
    simp only [go_sem]
  · skip
    refine Exec.skip ?_
    refine Exec.seq ?_
    apply Exec.regionL te_ok
    · intro ops' Q hQ
      simp only [go_sem]
      repeat (refine And.intro (by first | assumption | omega | (simp; done) | (simp; omega) | (intros; omega) | (simp_all; done) | (simp_all; omega)) ?_)
      refine kcall te_ok rfl rfl rfl rfl rfl rfl (new2_ok (by assumption)) ?_
      simp only [go_sem]
      repeat (refine And.intro (by first | assumption | omega | (simp; done) | (simp; omega) | (intros; omega) | (simp_all; done) | (simp_all; omega)) ?_)
      exact hQ
    refine Exec.seq ?_
    apply Exec.regionL te_ok
    · intro ops' Q hQ
      simp only [go_sem]
      repeat (refine And.intro (by first | assumption | omega | (simp; done) | (simp; omega) | (intros; omega) | (simp_all; done) | (simp_all; omega)) ?_)
      refine kcall te_ok rfl rfl rfl rfl rfl rfl (rnew2_ok _) ?_
      simp only [go_sem]
      repeat (refine And.intro (by first | assumption | omega | (simp; done) | (simp; omega) | (intros; omega) | (simp_all; done) | (simp_all; omega)) ?_)
      exact hQ
    refine Exec.seq ?_
    refine Exec.seq ?_
    apply Exec.regionL te_ok
    · intro ops' Q hQ
      simp only [go_sem]
      repeat (refine And.intro (by first | assumption | omega | (simp; done) | (simp; omega) | (intros; omega) | (simp_all; done) | (simp_all; omega)) ?_)
      refine kcallG te_ok rfl rfl rfl rfl rfl rfl (by simp only [go_sem] <;> (first | assumption | omega | (simp; done) | (simp; omega) | (intros; omega) | (simp_all; done) | (simp_all; omega))) (fun hq => same_ok _ _ _ _ _ [] hz0 _) ?_
      simp only [go_sem]
      repeat (refine And.intro (by first | assumption | omega | (simp; done) | (simp; omega) | (intros; omega) | (simp_all; done) | (simp_all; omega)) ?_)
      exact hQ
    refine Exec.cond_split rfl (fun h1 => ?_) (fun h1 => ?_)
    · exfalso
      simp [hb0] at h1
    refine Exec.skip ?_
    refine Exec.seq ?_
    refine Exec.seq ?_
    apply Exec.regionL te_ok
    · intro ops' Q hQ
      simp only [go_sem]
      repeat (refine And.intro (by first | assumption | omega | (simp; done) | (simp; omega) | (intros; omega) | (simp_all; done) | (simp_all; omega)) ?_)
      exact hQ
    refine Exec.block ?_
    apply Exec.loopU [1, 5, 7] (X := Nat × Int × List Int) (fun ⟨i, n, p⟩ => [(9, .d (iv i))]) (fun ⟨i, n, p⟩ => [(5, 25, [.d (.v (.bool (tmB late))), .d (iv (lB late)), .d (iv n)]), (7, 37, [.d (.v (.bool (tmB late))), .d (iv (lB late)), .d (intsD p)])]) (fun ⟨i, n, p⟩ => []) (fun ⟨i, n, p⟩ => l.length - i) (fun ⟨i, n, p⟩ => i ≤ l.length ∧ p.length ≤ i ∧ Both (tmB late) (lB late) n p) (0, nB late, [])
    case h0 =>
      exact ⟨by simp, by simp, both_new late⟩
    case hw =>
      simp only [go_sem]
    case body =>
      rintro ⟨i, n, p⟩ hx ih0
      try simp only at hx
      apply Exec.norm
      · simp only [go_sem]
        rfl
      refine Exec.seq ?_
      refine Exec.seq ?_
      apply Exec.regionL te_ok
      · intro ops' Q hQ
        simp only [go_sem]
        repeat (refine And.intro (by first | assumption | omega | (simp; done) | (simp; omega) | (intros; omega) | (simp_all; done) | (simp_all; omega)) ?_)
        exact hQ
      refine Exec.cond_split rfl (fun h2 => ?_) (fun h2 => ?_)
      · skip
        have hi : i < l.length := by simp at h2; omega
        have hi3 : l.length ≤ 300 := by simp at h0; omega
        have hta : I64 (nth l i).2 := hll _ (nth_mem hi)
        have hwi : IntKind.i64.wrap ((i : Int) + 1) = ((i + 1 : Nat) : Int) := by rw [wrap_id (by constructor <;> omega)]; simp
        have hp1 : p.length ≤ 100000 := by omega
        have hp2 : (pointP (tmB late) p (nth l i).2).length ≤ 100000 := by have := pointP_len (tmB late) p (nth l i).2; omega
        have hp3 : (edgeP (tmB late) (lB late) p (nth l i).2).length ≤ 100000 := by have := edgeP_len (tmB late) (lB late) p (nth l i).2; omega
        have hn := both_nil hx.2.2
        refine Exec.skip ?_
        refine Exec.seq ?_
        refine Exec.block ?_
        refine Exec.seq ?_
        apply Exec.regionL te_ok
        · intro ops' Q hQ
          simp only [go_sem, hwi]
          repeat (refine And.intro (by first | assumption | omega | (simp; done) | (simp; omega) | (intros; omega) | (simp_all; done) | (simp_all; omega)) ?_)
          exact hQ
        refine Exec.seq ?_
        apply Exec.regionL te_ok
        · intro ops' Q hQ
          simp only [go_sem, hwi]
          repeat (refine And.intro (by first | assumption | omega | (simp; done) | (simp; omega) | (intros; omega) | (simp_all; done) | (simp_all; omega)) ?_)
          refine kcall te_ok rfl rfl rfl rfl rfl rfl (now_ok _ _ _) ?_
          simp only [go_sem, hwi]
          repeat (refine And.intro (by first | assumption | omega | (simp; done) | (simp; omega) | (intros; omega) | (simp_all; done) | (simp_all; omega)) ?_)
          exact hQ
        refine Exec.seq ?_
        apply Exec.regionL te_ok
        · intro ops' Q hQ
          simp only [go_sem, hwi]
          repeat (refine And.intro (by first | assumption | omega | (simp; done) | (simp; omega) | (intros; omega) | (simp_all; done) | (simp_all; omega)) ?_)
          exact hQ
        refine Exec.seq ?_
        apply Exec.regionL te_ok
        · intro ops' Q hQ
          simp only [go_sem, hwi]
          repeat (refine And.intro (by first | assumption | omega | (simp; done) | (simp; omega) | (intros; omega) | (simp_all; done) | (simp_all; omega)) ?_)
          exact hQ
        refine Exec.seq ?_
        apply Exec.regionL te_ok
        · intro ops' Q hQ
          simp only [go_sem, hwi]
          repeat (refine And.intro (by first | assumption | omega | (simp; done) | (simp; omega) | (intros; omega) | (simp_all; done) | (simp_all; omega)) ?_)
          exact hQ
        refine Exec.seq ?_
        refine Exec.seq ?_
        apply Exec.regionL te_ok
        · intro ops' Q hQ
          simp only [go_sem, hwi]
          repeat (refine And.intro (by first | assumption | omega | (simp; done) | (simp; omega) | (intros; omega) | (simp_all; done) | (simp_all; omega)) ?_)
          exact hQ
        refine Exec.cond_split rfl (fun h3 => ?_) (fun h3 => ?_)
        · skip
          refine Exec.seq ?_
          apply Exec.regionL te_ok
          · intro ops' Q hQ
            simp only [go_sem, hwi]
            repeat (refine And.intro (by first | assumption | omega | (simp; done) | (simp; omega) | (intros; omega) | (simp_all; done) | (simp_all; omega)) ?_)
            refine kcall te_ok rfl rfl rfl rfl rfl rfl (point_ok _ _ _ (by assumption)) ?_
            simp only [go_sem, hwi]
            repeat (refine And.intro (by first | assumption | omega | (simp; done) | (simp; omega) | (intros; omega) | (simp_all; done) | (simp_all; omega)) ?_)
            exact hQ
          apply Exec.regionL te_ok
          · intro ops' Q hQ
            simp only [go_sem, hwi]
            repeat (refine And.intro (by first | assumption | omega | (simp; done) | (simp; omega) | (intros; omega) | (simp_all; done) | (simp_all; omega)) ?_)
            refine kcall te_ok rfl rfl rfl rfl rfl rfl (rpoint_ok _ _ _ (by assumption) _ (by assumption)) ?_
            simp only [go_sem, hwi]
            repeat (refine And.intro (by first | assumption | omega | (simp; done) | (simp; omega) | (intros; omega) | (simp_all; done) | (simp_all; omega)) ?_)
            exact hQ
          refine Exec.seq ?_
          refine Exec.seq ?_
          apply Exec.regionL te_ok
          · intro ops' Q hQ
            simp only [go_sem, hwi]
            repeat (refine And.intro (by first | assumption | omega | (simp; done) | (simp; omega) | (intros; omega) | (simp_all; done) | (simp_all; omega)) ?_)
            refine kcallG te_ok rfl rfl rfl rfl rfl rfl (by simp only [go_sem] <;> (first | assumption | omega | (simp; done) | (simp; omega) | (intros; omega) | (simp_all; done) | (simp_all; omega))) (fun hq => same_ok _ _ _ _ _ _ (by assumption) _) ?_
            simp only [go_sem, hwi]
            repeat (refine And.intro (by first | assumption | omega | (simp; done) | (simp; omega) | (intros; omega) | (simp_all; done) | (simp_all; omega)) ?_)
            refine kcallG te_ok rfl rfl rfl rfl rfl rfl (by simp only [go_sem] <;> (first | assumption | omega | (simp; done) | (simp; omega) | (intros; omega) | (simp_all; done) | (simp_all; omega))) (fun hq => now_ok _ _ _) ?_
            simp only [go_sem, hwi]
            repeat (refine And.intro (by first | assumption | omega | (simp; done) | (simp; omega) | (intros; omega) | (simp_all; done) | (simp_all; omega)) ?_)
            exact hQ
          refine Exec.cond_split rfl (fun h4 => ?_) (fun h4 => ?_)
          · exfalso
            simp [both_same (both_point hx.2.2 _)] at h4
          refine Exec.skip ?_
          refine Exec.seq ?_
          apply Exec.regionL te_ok
          · intro ops' Q hQ
            simp only [go_sem, hwi]
            repeat (refine And.intro (by first | assumption | omega | (simp; done) | (simp; omega) | (intros; omega) | (simp_all; done) | (simp_all; omega)) ?_)
            exact hQ
          apply Exec.regionL te_ok
          · intro ops' Q hQ
            simp only [go_sem, hwi]
            repeat (refine And.intro (by first | assumption | omega | (simp; done) | (simp; omega) | (intros; omega) | (simp_all; done) | (simp_all; omega)) ?_)
            exact hQ
          refine Exec.inBlock ?_
          apply Exec.regionL te_ok
          · intro ops' Q hQ
            simp only [go_sem, hwi]
            repeat (refine And.intro (by first | assumption | omega | (simp; done) | (simp; omega) | (intros; omega) | (simp_all; done) | (simp_all; omega)) ?_)
            exact hQ
          refine Exec.back (ih0 (i + 1, pointN (tmB late) n (nth l i).2, pointP (tmB late) p (nth l i).2) ?_ ?_) ?_ ?_ ?_ ?_ ?_ ?_ ?_
          · try simp only
            exact ⟨by omega, by first | (have := pointP_len (tmB late) p (nth l i).2; omega) | (have := edgeP_len (tmB late) (lB late) p (nth l i).2; omega), by first | exact both_point hx.2.2 _ | exact (both_edge hx.2.2 _).1⟩
          · try simp only
            omega
          · rfl
          · rfl
          · (simp only [go_sem, hwi])
          · (simp only [go_sem, hwi])
          · (simp only [go_sem, hwi])
          · simp only [go_sem, hwi]
          · rfl
        · skip
          refine Exec.seq ?_
          apply Exec.regionL te_ok
          · intro ops' Q hQ
            simp only [go_sem, hwi]
            repeat (refine And.intro (by first | assumption | omega | (simp; done) | (simp; omega) | (intros; omega) | (simp_all; done) | (simp_all; omega)) ?_)
            refine kcall te_ok rfl rfl rfl rfl rfl rfl (edge_ok _ _ _ (by assumption)) ?_
            simp only [go_sem, hwi]
            repeat (refine And.intro (by first | assumption | omega | (simp; done) | (simp; omega) | (intros; omega) | (simp_all; done) | (simp_all; omega)) ?_)
            exact hQ
          apply Exec.regionL te_ok
          · intro ops' Q hQ
            simp only [go_sem, hwi]
            repeat (refine And.intro (by first | assumption | omega | (simp; done) | (simp; omega) | (intros; omega) | (simp_all; done) | (simp_all; omega)) ?_)
            refine kcall te_ok rfl rfl rfl rfl rfl rfl (redge_ok _ _ _ (by assumption) _ (by assumption)) ?_
            simp only [go_sem, hwi]
            repeat (refine And.intro (by first | assumption | omega | (simp; done) | (simp; omega) | (intros; omega) | (simp_all; done) | (simp_all; omega)) ?_)
            exact hQ
          refine Exec.seq ?_
          refine Exec.seq ?_
          apply Exec.regionL te_ok
          · intro ops' Q hQ
            simp only [go_sem, hwi]
            repeat (refine And.intro (by first | assumption | omega | (simp; done) | (simp; omega) | (intros; omega) | (simp_all; done) | (simp_all; omega)) ?_)
            refine kcallG te_ok rfl rfl rfl rfl rfl rfl (by simp only [go_sem] <;> (first | assumption | omega | (simp; done) | (simp; omega) | (intros; omega) | (simp_all; done) | (simp_all; omega))) (fun hq => same_ok _ _ _ _ _ _ (by assumption) _) ?_
            simp only [go_sem, hwi]
            repeat (refine And.intro (by first | assumption | omega | (simp; done) | (simp; omega) | (intros; omega) | (simp_all; done) | (simp_all; omega)) ?_)
            refine kcallG te_ok rfl rfl rfl rfl rfl rfl (by simp only [go_sem] <;> (first | assumption | omega | (simp; done) | (simp; omega) | (intros; omega) | (simp_all; done) | (simp_all; omega))) (fun hq => now_ok _ _ _) ?_
            simp only [go_sem, hwi]
            repeat (refine And.intro (by first | assumption | omega | (simp; done) | (simp; omega) | (intros; omega) | (simp_all; done) | (simp_all; omega)) ?_)
            exact hQ
          refine Exec.cond_split rfl (fun h5 => ?_) (fun h5 => ?_)
          · exfalso
            simp [both_same (both_edge hx.2.2 _).1, (both_edge hx.2.2 (nth l i).2).2] at h5
          refine Exec.skip ?_
          refine Exec.seq ?_
          apply Exec.regionL te_ok
          · intro ops' Q hQ
            simp only [go_sem, hwi]
            repeat (refine And.intro (by first | assumption | omega | (simp; done) | (simp; omega) | (intros; omega) | (simp_all; done) | (simp_all; omega)) ?_)
            exact hQ
          apply Exec.regionL te_ok
          · intro ops' Q hQ
            simp only [go_sem, hwi]
            repeat (refine And.intro (by first | assumption | omega | (simp; done) | (simp; omega) | (intros; omega) | (simp_all; done) | (simp_all; omega)) ?_)
            exact hQ
          refine Exec.inBlock ?_
          apply Exec.regionL te_ok
          · intro ops' Q hQ
            simp only [go_sem, hwi]
            repeat (refine And.intro (by first | assumption | omega | (simp; done) | (simp; omega) | (intros; omega) | (simp_all; done) | (simp_all; omega)) ?_)
            exact hQ
          refine Exec.back (ih0 (i + 1, edgeN (tmB late) (lB late) n (nth l i).2, edgeP (tmB late) (lB late) p (nth l i).2) ?_ ?_) ?_ ?_ ?_ ?_ ?_ ?_ ?_
          · try simp only
            exact ⟨by omega, by first | (have := pointP_len (tmB late) p (nth l i).2; omega) | (have := edgeP_len (tmB late) (lB late) p (nth l i).2; omega), by first | exact both_point hx.2.2 _ | exact (both_edge hx.2.2 _).1⟩
          · try simp only
            omega
          · rfl
          · rfl
          · (simp only [go_sem, hwi])
          · (simp only [go_sem, hwi])
          · (simp only [go_sem, hwi])
          · simp only [go_sem, hwi]
          · rfl
      · skip
        refine Exec.exit rfl ?_
        refine Exec.seq ?_
        apply Exec.regionL te_ok
        · intro ops' Q hQ
          simp only [go_sem]
          repeat (refine And.intro (by first | assumption | omega | (simp; done) | (simp; omega) | (intros; omega) | (simp_all; done) | (simp_all; omega)) ?_)
          refine kcall te_ok rfl rfl rfl rfl rfl rfl (awake_ok) ?_
          simp only [go_sem]
          repeat (refine And.intro (by first | assumption | omega | (simp; done) | (simp; omega) | (intros; omega) | (simp_all; done) | (simp_all; omega)) ?_)
          exact hQ
        refine Exec.rets hR te_ok rfl rfl rfl (LeX.le ?_) (.inr ⟨_, rfl⟩)
        simp only [go_sem]
end Go.Proofs.Ytlcpglkbllhokaa
