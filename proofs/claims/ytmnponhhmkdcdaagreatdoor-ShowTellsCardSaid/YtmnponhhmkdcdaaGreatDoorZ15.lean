/- Contracts of functions of the seat, walked. -/
import Derived.Test.YtmnponhhmkdcdaaGreatDoorZ14
namespace Go.Proofs.YtmnponhhmkdcdaaGreatDoor
open Go.Kin
set_option linter.unusedSimpArgs false
set_option linter.unusedVariables false
set_option maxRecDepth 100000
set_option maxHeartbeats 0
structure RawP (p : Pt) : Prop where
  a : p.a.length ≤ 140737488355328
  z : p.z.length ≤ 140737488355328
  lab : p.lab.length ≤ 140737488355328
  name : p.name.length ≤ 140737488355328
  e : FitX p.e
structure RawQ (q : Qu) : Prop where
  p : q.p.length ≤ 140737488355328
  c : q.c.length ≤ 140737488355328
  r : q.r.length ≤ 140737488355328
  pa : ∀ p ∈ q.p, RawP p
  ca : ∀ c ∈ q.c, FitC c
  ra : ∀ o ∈ q.r, FitO o
theorem RawQ.fit {q : Qu} (h : RawQ q) (hs : ∀ p ∈ q.p, p.e.size ≤ 400) : FitQ q :=
  ⟨h.p, h.c, h.r, fun p hp => ⟨(h.pa p hp).a, (h.pa p hp).z, (h.pa p hp).lab, (h.pa p hp).name, (h.pa p hp).e, Nat.le_trans (hs p hp) (by omega)⟩, h.ca, h.ra⟩
theorem fitB : ∀ x, FitX x → x.kids.length ≤ 140737488355328 ∧ ∀ y ∈ x.kids, FitX y := fun x h => ⟨h.k, fun y hy => h.y hy⟩

theorem tells_ok (q : Qu) (x : Ex) (hq : RawQ q) (hfx : FitX x) : FnOK Laid Tryz.prog 3 [quD q, exD x] (bv true) := by
  refine FnOK_of laid_stable Tryz.func3 Tryz.ntmps3 rfl (by as_aux_lemma => kernel_rfl) (Nat.le_of_ble_eq_true rfl) (fun R hR => ?_)
  obtain ⟨_, b, cs, T, C⟩ := R
  obtain rfl : _ = Tryz.prog := hR.p
  refine Exec.seq ?_
  apply Exec.regionL te_ok
  · intro ops' Q hQ
    simp only [go_sem]
    repeat (refine And.intro (by first | assumption | omega | (simp; done) | (simp; omega) | (intros; omega) | (simp_all; done) | (simp_all; omega)) ?_)
    exact hQ
  refine Exec.seq ?_
  refine Exec.seq ?_
  apply Exec.regionL te_ok
  · intro ops' Q hQ
    simp only [go_sem]
    repeat (refine And.intro (by first | assumption | omega | (simp; done) | (simp; omega) | (intros; omega) | (simp_all; done) | (simp_all; omega)) ?_)
    refine kcall hR.inv te_ok rfl rfl rfl rfl rfl rfl (size_ok FitX fitB q hq.p hq.c hq.r (fun p hp => (hq.pa p hp).e)) ?_
    simp only [go_sem]
    repeat (refine And.intro (by first | assumption | omega | (simp; done) | (simp; omega) | (intros; omega) | (simp_all; done) | (simp_all; omega)) ?_)
    refine kcallG hR.inv te_ok rfl rfl rfl rfl rfl rfl (by simp only [go_sem] <;> (first | assumption | omega | (simp; done) | (simp; omega) | (intros; omega) | (simp_all; done) | (simp_all; omega))) (fun hq => esize_ok FitX fitB x hfx 0 (by omega)) ?_
    simp only [go_sem]
    repeat (refine And.intro (by first | assumption | omega | (simp; done) | (simp; omega) | (intros; omega) | (simp_all; done) | (simp_all; omega)) ?_)
    exact hQ
  refine Exec.cond_split rfl (fun h0 => ?_) (fun h0 => ?_)
  · skip
    refine Exec.seq ?_
    apply Exec.regionL te_ok
    · intro ops' Q hQ
      simp only [go_sem]
      repeat (refine And.intro (by first | assumption | omega | (simp; done) | (simp; omega) | (intros; omega) | (simp_all; done) | (simp_all; omega)) ?_)
      refine kcall hR.inv te_ok rfl rfl rfl rfl rfl rfl (awake_ok) ?_
      simp only [go_sem]
      repeat (refine And.intro (by first | assumption | omega | (simp; done) | (simp; omega) | (intros; omega) | (simp_all; done) | (simp_all; omega)) ?_)
      exact hQ
    refine Exec.rets hR te_ok rfl rfl rfl (LeX.le ?_) (.inr ⟨_, rfl⟩)
    simp only [go_sem]
  · skip
    have hlq : q.lim ≤ 400 ∧ x.lim 0 ≤ 400 := by simp at h0; omega
    obtain ⟨hlq, hlx⟩ := hlq
    obtain ⟨l1, l2, l3, l4⟩ := Qu.lim_mem hlq
    have hsx := Ex.lim_size x 0 hlx
    have hfq := hq.fit l4
    refine Exec.skip ?_
    refine Exec.seq ?_
    apply Exec.draw (st := _) 9 6 [5, 6] [] te_ok (by as_aux_lemma => kernel_rfl) (by as_aux_lemma => kernel_rfl) (by as_aux_lemma => kernel_rfl)
    · intro ops' Q hQ
      simp only [go_sem]
      repeat (refine And.intro (by first | assumption | omega | (simp; done) | (simp; omega) | (intros; omega) | (simp_all; done) | (simp_all; omega)) ?_)
      refine kdcall hR.inv te_ok rfl rfl rfl rfl rfl rfl (lentQ_ok q (by omega) (by omega) (by omega) (fun p hp => Nat.le_trans (l4 p hp) (by omega))) ?_
      simp only [go_sem]
      repeat (refine And.intro (by first | assumption | omega | (simp; done) | (simp; omega) | (intros; omega) | (simp_all; done) | (simp_all; omega)) ?_)
      refine kdcall hR.inv te_ok rfl rfl rfl rfl rfl rfl (lentE_ok x (by omega)) ?_
      simp only [go_sem]
      repeat (refine And.intro (by first | assumption | omega | (simp; done) | (simp; omega) | (intros; omega) | (simp_all; done) | (simp_all; omega)) ?_)
      exact hQ
    refine Exec.seq ?_
    apply Exec.regionL te_ok
    · intro ops' Q hQ
      simp only [go_sem]
      repeat (refine And.intro (by first | assumption | omega | (simp; done) | (simp; omega) | (intros; omega) | (simp_all; done) | (simp_all; omega)) ?_)
      refine kcall hR.inv te_ok rfl rfl rfl rfl rfl rfl (FnOK.args (xs := [quLD q]) (xquery_ok q hfq) ⟨quLD_le q, trivial⟩) ?_
      simp only [go_sem]
      repeat (refine And.intro (by first | assumption | omega | (simp; done) | (simp; omega) | (intros; omega) | (simp_all; done) | (simp_all; omega)) ?_)
      exact hQ
    refine Exec.seq ?_
    apply Exec.regionL te_ok
    · intro ops' Q hQ
      simp only [go_sem]
      repeat (refine And.intro (by first | assumption | omega | (simp; done) | (simp; omega) | (intros; omega) | (simp_all; done) | (simp_all; omega)) ?_)
      refine kcall hR.inv te_ok rfl rfl rfl rfl rfl rfl (rquery_ok q hfq) ?_
      simp only [go_sem]
      repeat (refine And.intro (by first | assumption | omega | (simp; done) | (simp; omega) | (intros; omega) | (simp_all; done) | (simp_all; omega)) ?_)
      exact hQ
    refine Exec.seq ?_
    apply Exec.regionL te_ok
    · intro ops' Q hQ
      simp only [go_sem]
      repeat (refine And.intro (by first | assumption | omega | (simp; done) | (simp; omega) | (intros; omega) | (simp_all; done) | (simp_all; omega)) ?_)
      refine kcall hR.inv te_ok rfl rfl rfl rfl rfl rfl (FnOK.args (xs := [exLD x]) (xexpr_ok x hfx) ⟨exLD_le x, trivial⟩) ?_
      simp only [go_sem]
      repeat (refine And.intro (by first | assumption | omega | (simp; done) | (simp; omega) | (intros; omega) | (simp_all; done) | (simp_all; omega)) ?_)
      exact hQ
    refine Exec.seq ?_
    apply Exec.regionL te_ok
    · intro ops' Q hQ
      simp only [go_sem]
      repeat (refine And.intro (by first | assumption | omega | (simp; done) | (simp; omega) | (intros; omega) | (simp_all; done) | (simp_all; omega)) ?_)
      refine kcall hR.inv te_ok rfl rfl rfl rfl rfl rfl (rexprT_ok x hfx (by omega)) ?_
      simp only [go_sem]
      repeat (refine And.intro (by first | assumption | omega | (simp; done) | (simp; omega) | (intros; omega) | (simp_all; done) | (simp_all; omega)) ?_)
      exact hQ
    refine Exec.seq ?_
    apply Exec.regionL te_ok
    · intro ops' Q hQ
      simp only [go_sem]
      repeat (refine And.intro (by first | assumption | omega | (simp; done) | (simp; omega) | (intros; omega) | (simp_all; done) | (simp_all; omega)) ?_)
      refine kcallG hR.inv te_ok rfl rfl rfl rfl rfl rfl (by simp only [go_sem] <;> (first | assumption | omega | (simp; done) | (simp; omega) | (intros; omega) | (simp_all; done) | (simp_all; omega))) (fun hq => keptQ_ok q (by omega) (by omega) (by omega) (fun p hp => Nat.le_trans (l4 p hp) (by omega))) ?_
      simp only [go_sem]
      repeat (refine And.intro (by first | assumption | omega | (simp; done) | (simp; omega) | (intros; omega) | (simp_all; done) | (simp_all; omega)) ?_)
      refine kcallG hR.inv te_ok rfl rfl rfl rfl rfl rfl (by simp only [go_sem] <;> (first | assumption | omega | (simp; done) | (simp; omega) | (intros; omega) | (simp_all; done) | (simp_all; omega))) (fun hq => keptE_ok x (by omega)) ?_
      simp only [go_sem]
      repeat (refine And.intro (by first | assumption | omega | (simp; done) | (simp; omega) | (intros; omega) | (simp_all; done) | (simp_all; omega)) ?_)
      refine kcallG hR.inv te_ok rfl rfl rfl rfl rfl rfl (by simp only [go_sem] <;> (first | assumption | omega | (simp; done) | (simp; omega) | (intros; omega) | (simp_all; done) | (simp_all; omega))) (fun hq => awake_ok) ?_
      simp only [go_sem]
      repeat (refine And.intro (by first | assumption | omega | (simp; done) | (simp; omega) | (intros; omega) | (simp_all; done) | (simp_all; omega)) ?_)
      exact hQ
    refine Exec.rets hR te_ok rfl rfl rfl (LeX.le ?_) (.inr ⟨_, rfl⟩)
    simp only [go_sem]
end Go.Proofs.YtmnponhhmkdcdaaGreatDoor
