/- Contracts of functions of the seat, walked. -/
import Derived.Test.YtmnponhhmkdcdaaDoorV5
import Derived.Test.YtmnponhhmkdcdaaDoorKRes
import Derived.Test.YtmnponhhmkdcdaaDoorKIter
namespace Go.Proofs.YtmnponhhmkdcdaaDoor
open Go.Kin
set_option linter.unusedSimpArgs false
set_option linter.unusedVariables false
set_option maxRecDepth 100000
set_option maxHeartbeats 0
theorem cat_nth {α : Type} [Inhabited α] (f : α → List D) (x : List α) (i j : Nat) (h : j < i + 1) : catR i (fun j => f (nth x j)) (lstR [f (nth x i)]) j = f (nth x j) := by
  unfold catR
  by_cases hj : j < i
  · simp [hj]
  · obtain rfl : j = i := by omega
    simp [lstR]

theorem values_ok (x : List (List Vl)) : FnOK Laid Tryd.prog 57 [rowsD x] (.fn 82 [.ptr [rowsD x]]) := by
  refine FnOK_of laid_stable Tryd.func57 Tryd.ntmps57 rfl (by as_aux_lemma => kernel_rfl) (Nat.le_of_ble_eq_true rfl) (fun R hR => ?_)
  obtain ⟨_, b, cs, T, C⟩ := R
  obtain rfl : _ = Tryd.prog := hR.p
  refine Exec.seq ?_
  apply Exec.regionL te_ok
  · intro ops' Q hQ
    simp only [go_sem]
    repeat (refine And.intro (by first | assumption | omega | (simp; done) | (simp; omega) | (intros; omega) | (simp_all; done) | (simp_all; omega)) ?_)
    exact hQ
  refine Exec.seq ?_
  apply Exec.regionL te_ok
  · intro ops' Q hQ
    simp only [go_sem]
    repeat (refine And.intro (by first | assumption | omega | (simp; done) | (simp; omega) | (intros; omega) | (simp_all; done) | (simp_all; omega)) ?_)
    exact hQ
  refine Exec.rets hR te_ok rfl rfl rfl (LeX.le ?_) (.inr ⟨_, rfl⟩)
  simp only [go_sem]
theorem appseq_ok (x : List (List Vl)) (hx0 : x.length ≤ 1000) : FnOwn Laid Tryd.prog 93 [.v (.slice none 0 0), .fn 82 [.ptr [rowsD x]]] (⟨39, 1, x.length, x.length, fun j => [rowD (nth x j)]⟩) := by
  refine FnOwn_of laid_stable Tryd.func93 Tryd.ntmps93 rfl (by as_aux_lemma => kernel_rfl) (Nat.le_of_ble_eq_true rfl) (fun R hR => ?_)
  obtain ⟨_, b, cs, T, C⟩ := R
  obtain rfl : _ = Tryd.prog := hR.p
  refine Exec.seq ?_
  apply Exec.regionL te_ok
  · intro ops' Q hQ
    simp only [go_sem]
    repeat (refine And.intro (by first | assumption | omega | (simp only [Bool.not_eq_true', Bool.or_eq_false_iff, Bool.or_eq_true, Bool.and_eq_true, decide_eq_true_eq, decide_eq_false_iff_not, beq_iff_eq, Bool.not_eq_false']; omega) | (simp; done) | (simp; omega) | (intros; omega) | (simp_all; done) | (simp_all; omega)) ?_)
    exact hQ
  refine Exec.seq ?_
  refine Exec.seq ?_
  apply Exec.regionL te_ok
  · intro ops' Q hQ
    simp only [go_sem]
    repeat (refine And.intro (by first | assumption | omega | (simp only [Bool.not_eq_true', Bool.or_eq_false_iff, Bool.or_eq_true, Bool.and_eq_true, decide_eq_true_eq, decide_eq_false_iff_not, beq_iff_eq, Bool.not_eq_false']; omega) | (simp; done) | (simp; omega) | (intros; omega) | (simp_all; done) | (simp_all; omega)) ?_)
    exact hQ
  refine Exec.block ?_
  apply Exec.prune [2, 5, 6, 7]
  case hw => simp only [go_sem]
  apply Exec.norm
  · simp only [go_sem]
    rfl
  refine Exec.range 1 hR.round hR.bfn rfl rfl Tryd.func82 Tryd.ntmps82 rfl (by as_aux_lemma => kernel_rfl) (Nat.le_of_ble_eq_true rfl) (fun a0 l0 r0 lo0 hlo0 hN0 hD0 hfr0 hfl0 => ?_)
  apply Exec.norm
  · simp only [go_sem]
    rfl
  refine Exec.seq ?_
  apply Exec.regionL te_ok
  · intro ops' Q hQ
    simp only [go_sem]
    repeat (refine And.intro (by first | assumption | omega | (simp only [Bool.not_eq_true', Bool.or_eq_false_iff, Bool.or_eq_true, Bool.and_eq_true, decide_eq_true_eq, decide_eq_false_iff_not, beq_iff_eq, Bool.not_eq_false']; omega) | (simp; done) | (simp; omega) | (intros; omega) | (simp_all; done) | (simp_all; omega)) ?_)
    exact hQ
  refine Exec.block ?_
  refine Exec.ownNilL 1002 0 1500 39 1 rfl rfl rfl ?_
  apply Exec.norm
  · simp only [go_sem]
    rfl
  apply Exec.loopU [0, 5, 6] (X := Nat) (fun i => [(7, .d (iv i))]) (fun i => [(1002, 61, [.own 1500])]) (fun i => [(1500, ⟨39, 1, i, i, fun j => [rowD (nth x j)]⟩)]) (fun i => x.length - i) (fun i => i ≤ x.length) 0
  case h0 =>
    first | assumption | omega | (simp only [Bool.not_eq_true', Bool.or_eq_false_iff, Bool.or_eq_true, Bool.and_eq_true, decide_eq_true_eq, decide_eq_false_iff_not, beq_iff_eq, Bool.not_eq_false']; omega) | (simp; done) | (simp; omega) | (intros; omega) | (simp_all; done) | (simp_all; omega)
  case hw =>
    simp only [go_sem]; exact fun i hi => absurd hi (Nat.not_lt_zero i)
  case body =>
    rintro i hx ih0
    try simp only at hx
    apply Exec.norm
    · simp only [go_sem]
      rfl
    refine Exec.seq ?_
    apply Exec.regionL te_ok
    · intro ops' Q hQ
      simp only [go_sem]
      repeat (refine And.intro (by first | assumption | omega | (simp only [Bool.not_eq_true', Bool.or_eq_false_iff, Bool.or_eq_true, Bool.and_eq_true, decide_eq_true_eq, decide_eq_false_iff_not, beq_iff_eq, Bool.not_eq_false']; omega) | (simp; done) | (simp; omega) | (intros; omega) | (simp_all; done) | (simp_all; omega)) ?_)
      exact hQ
    refine Exec.seq ?_
    refine Exec.cond_split rfl (fun h0 => ?_) (fun h0 => ?_)
    · skip
      have hi : i < x.length := by have := of_decide_eq_true h0; omega
      have w2 : IntKind.i64.wrap ((i : Int) + 1) = ((i + 1 : Nat) : Int) := by rw [wrap_id (by omega)]; omega
      refine Exec.skip ?_
      refine Exec.seq ?_
      refine Exec.block ?_
      refine Exec.seq ?_
      apply Exec.regionL te_ok
      · intro ops' Q hQ
        simp only [go_sem, w2]
        repeat (refine And.intro (by first | assumption | omega | (simp only [Bool.not_eq_true', Bool.or_eq_false_iff, Bool.or_eq_true, Bool.and_eq_true, decide_eq_true_eq, decide_eq_false_iff_not, beq_iff_eq, Bool.not_eq_false']; omega) | (simp; done) | (simp; omega) | (intros; omega) | (simp_all; done) | (simp_all; omega)) ?_)
        exact hQ
      refine Exec.seq ?_
      refine Exec.regStart 4 rfl ?_
      apply Exec.regPart 0 2 2 te_ok rfl
      · intro ops' Q hQ
        simp only [go_sem, w2]
        repeat (refine And.intro (by first | assumption | omega | (simp only [Bool.not_eq_true', Bool.or_eq_false_iff, Bool.or_eq_true, Bool.and_eq_true, decide_eq_true_eq, decide_eq_false_iff_not, beq_iff_eq, Bool.not_eq_false']; omega) | (simp; done) | (simp; omega) | (intros; omega) | (simp_all; done) | (simp_all; omega)) ?_)
        exact hQ
      refine Exec.yield 1 (m := 1) rfl rfl rfl rfl rfl rfl hlo0 rfl hN0 rfl (fun ag0 hag0 hdg0 => ?_)
      apply Exec.norm
      · simp only [go_sem, w2]
        rfl
      apply Exec.regionL te_ok
      · intro ops' Q hQ
        simp only [go_sem, w2]
        repeat (refine And.intro (by first | assumption | omega | (simp only [Bool.not_eq_true', Bool.or_eq_false_iff, Bool.or_eq_true, Bool.and_eq_true, decide_eq_true_eq, decide_eq_false_iff_not, beq_iff_eq, Bool.not_eq_false']; omega) | (simp; done) | (simp; omega) | (intros; omega) | (simp_all; done) | (simp_all; omega)) ?_)
        exact hQ
      refine Exec.begin rfl hlo0 hfl0 ?_
      apply Exec.norm
      · simp only [go_sem, w2]
        rfl
      refine Exec.block ?_
      apply Exec.regionL te_ok
      · intro ops' Q hQ
        simp only [go_sem, w2]
        repeat (refine And.intro (by first | assumption | omega | (simp only [Bool.not_eq_true', Bool.or_eq_false_iff, Bool.or_eq_true, Bool.and_eq_true, decide_eq_true_eq, decide_eq_false_iff_not, beq_iff_eq, Bool.not_eq_false']; omega) | (simp; done) | (simp; omega) | (intros; omega) | (simp_all; done) | (simp_all; omega)) ?_)
        exact hQ
      refine Exec.inBlock ?_
      refine Exec.roundEnd 1 .fall rfl hlo0 hfl0 rfl hag0 hdg0 rfl rfl rfl ?_
      apply Exec.norm
      · simp only [go_sem, w2]
        rfl
      apply Exec.regPart 3 1 0 te_ok rfl
      · intro ops' Q hQ
        simp only [go_sem, w2]
        repeat (refine And.intro (by first | assumption | omega | (simp only [Bool.not_eq_true', Bool.or_eq_false_iff, Bool.or_eq_true, Bool.and_eq_true, decide_eq_true_eq, decide_eq_false_iff_not, beq_iff_eq, Bool.not_eq_false']; omega) | (simp; done) | (simp; omega) | (intros; omega) | (simp_all; done) | (simp_all; omega)) ?_)
        exact hQ
      refine Exec.regEnd ?_
      refine Exec.cond (t := false) rfl ?_
      simp only [reduceIte, Bool.false_eq_true]
      refine Exec.skip ?_
      refine Exec.inBlock ?_
      apply Exec.regionL te_ok
      · intro ops' Q hQ
        simp only [go_sem, w2]
        repeat (refine And.intro (by first | assumption | omega | (simp only [Bool.not_eq_true', Bool.or_eq_false_iff, Bool.or_eq_true, Bool.and_eq_true, decide_eq_true_eq, decide_eq_false_iff_not, beq_iff_eq, Bool.not_eq_false']; omega) | (simp; done) | (simp; omega) | (intros; omega) | (simp_all; done) | (simp_all; omega)) ?_)
        exact hQ
      refine Exec.back (ih0 (i + 1) ?_ ?_) ?_ ?_ ?_ ?_ ?_ ?_ ?_
      · try simp only
        omega
      · try simp only
        omega
      · rfl
      · rfl
      · (simp only [go_sem, w2])
      · (simp only [go_sem, w2])
      · simp only [go_sem, w2]
        exact fun j hj => cat_nth (fun z => [rowD z]) x i j hj
      · simp only [go_sem, w2]
      · rfl
    · skip
      refine Exec.exit rfl ?_
      refine Exec.rangeEnd 1 (pd := none) Tryd.func82 rfl (.inl rfl) rfl rfl hlo0 hfl0 rfl rfl hN0 hD0 ?_
      apply Exec.norm
      · simp only [go_sem]
        rfl
      refine Exec.inBlock ?_
      refine Exec.seq ?_
      apply Exec.regionL te_ok
      · intro ops' Q hQ
        simp only [go_sem]
        repeat (refine And.intro (by first | assumption | omega | (simp only [Bool.not_eq_true', Bool.or_eq_false_iff, Bool.or_eq_true, Bool.and_eq_true, decide_eq_true_eq, decide_eq_false_iff_not, beq_iff_eq, Bool.not_eq_false']; omega) | (simp; done) | (simp; omega) | (intros; omega) | (simp_all; done) | (simp_all; omega)) ?_)
        exact hQ
      refine Exec.retsMO hR rfl (.cons hfr0 .nil) rfl rfl ?_ (.inr ⟨_, rfl⟩)
      have hl : i = x.length := by have := of_decide_eq_false h0; omega
      subst hl
      exact ⟨rfl, rfl, rfl, rfl, fun _ _ => rfl⟩
theorem collect_ok (x : List (List Vl)) (hx0 : x.length ≤ 1000) : FnOwn Laid Tryd.prog 80 [.fn 82 [.ptr [rowsD x]]] (⟨39, 1, x.length, x.length, fun j => [rowD (nth x j)]⟩) := by
  refine FnOwn_of laid_stable Tryd.func80 Tryd.ntmps80 rfl (by as_aux_lemma => kernel_rfl) (Nat.le_of_ble_eq_true rfl) (fun R hR => ?_)
  obtain ⟨_, b, cs, T, C⟩ := R
  obtain rfl : _ = Tryd.prog := hR.p
  refine Exec.seq ?_
  apply Exec.regionL te_ok
  · intro ops' Q hQ
    simp only [go_sem]
    repeat (refine And.intro (by first | assumption | omega | (simp only [Bool.not_eq_true', Bool.or_eq_false_iff, Bool.or_eq_true, Bool.and_eq_true, decide_eq_true_eq, decide_eq_false_iff_not, beq_iff_eq, Bool.not_eq_false']; omega) | (simp; done) | (simp; omega) | (intros; omega) | (simp_all; done) | (simp_all; omega)) ?_)
    exact hQ
  refine Exec.seq ?_
  apply Exec.regionL te_ok
  · intro ops' Q hQ
    simp only [go_sem]
    repeat (refine And.intro (by first | assumption | omega | (simp only [Bool.not_eq_true', Bool.or_eq_false_iff, Bool.or_eq_true, Bool.and_eq_true, decide_eq_true_eq, decide_eq_false_iff_not, beq_iff_eq, Bool.not_eq_false']; omega) | (simp; done) | (simp; omega) | (intros; omega) | (simp_all; done) | (simp_all; omega)) ?_)
    refine kcallO hR.inv te_ok rfl rfl rfl rfl rfl rfl rfl (appseq_ok _ (by assumption)) ?_
    simp only [go_sem]
    repeat (refine And.intro (by first | assumption | omega | (simp only [Bool.not_eq_true', Bool.or_eq_false_iff, Bool.or_eq_true, Bool.and_eq_true, decide_eq_true_eq, decide_eq_false_iff_not, beq_iff_eq, Bool.not_eq_false']; omega) | (simp; done) | (simp; omega) | (intros; omega) | (simp_all; done) | (simp_all; omega)) ?_)
    exact hQ
  refine Exec.retsO hR rfl rfl rfl rfl ?_ (.inr ⟨_, rfl⟩)
  exact ⟨rfl, rfl, rfl, rfl, fun _ _ => rfl⟩
end Go.Proofs.YtmnponhhmkdcdaaDoor
