/- Contracts of functions of the seat, walked. -/
import Derived.Test.YtmnponhhmkdcdaaDoorL5
import Derived.Test.YtmnponhhmkdcdaaDoorKBts
namespace Go.Proofs.YtmnponhhmkdcdaaDoor
open Go.Kin
set_option linter.unusedSimpArgs false
set_option linter.unusedVariables false
set_option maxRecDepth 100000
set_option maxHeartbeats 0
def endsW : List (List UInt8) := [[40], [41], [91], [93], [44], [46], [124], [42], [43], [63], [61], [33, 61], [60], [60, 61], [62], [62, 61], [45, 91], [93, 45, 62], [61, 91], [93, 61, 62], [45], [33], [97], [45, 55], [48], [34, 113, 34], [34], [32], [10], [9], [95], [109, 97, 116, 99, 104], [48, 48, 55], [45, 48]]
theorem ends_len : ∀ i, i < 34 → (nth endsW i).length ≤ 5 := by decide
theorem rem_nat (a : Nat) : (a : Int).tmod ((34 : Nat) : Int) = ((a % 34 : Nat) : Int) := by rw [Int.tmod_eq_emod_of_nonneg (by omega)]; omega

theorem ends_ok  : FnOK LaidX Tryd.prog 8 [] (bv true) := by
  refine FnOK_of laidX_stable Tryd.func8 Tryd.ntmps8 rfl (by as_aux_lemma => kernel_rfl) (Nat.le_of_ble_eq_true rfl) (fun R hR => ?_)
  obtain ⟨_, b, cs, T, C⟩ := R
  obtain rfl : _ = Tryd.prog := hR.p
  refine Exec.seq ?_
  apply Exec.regionL te_ok
  · intro ops' Q hQ
    simp only [go_sem]
    repeat (refine And.intro (by first | assumption | omega | (simp only [Bool.not_eq_true', Bool.or_eq_false_iff, Bool.or_eq_true, Bool.and_eq_true, decide_eq_true_eq, decide_eq_false_iff_not, beq_iff_eq, Bool.not_eq_false']; omega) | (simp; done) | (simp; omega) | (intros; omega) | (simp_all; done) | (simp_all; omega)) ?_)
    exact hQ
  refine Exec.seq ?_
  apply Exec.regionL te_ok
  · intro ops' Q hQ
    simp only [go_sem]
    repeat (refine And.intro (by first | assumption | omega | (simp only [Bool.not_eq_true', Bool.or_eq_false_iff, Bool.or_eq_true, Bool.and_eq_true, decide_eq_true_eq, decide_eq_false_iff_not, beq_iff_eq, Bool.not_eq_false']; omega) | (simp; done) | (simp; omega) | (intros; omega) | (simp_all; done) | (simp_all; omega)) ?_)
    exact hQ
  refine Exec.seq ?_
  refine Exec.seq ?_
  apply Exec.regionL te_ok
  · intro ops' Q hQ
    simp only [go_sem]
    repeat (refine And.intro (by first | assumption | omega | (simp only [Bool.not_eq_true', Bool.or_eq_false_iff, Bool.or_eq_true, Bool.and_eq_true, decide_eq_true_eq, decide_eq_false_iff_not, beq_iff_eq, Bool.not_eq_false']; omega) | (simp; done) | (simp; omega) | (intros; omega) | (simp_all; done) | (simp_all; omega)) ?_)
    exact hQ
  refine Exec.block ?_
  apply Exec.loopU [1] (X := Nat) (fun i => [(2, .d (iv i))]) (fun i => []) (fun i => []) (fun i => 256 - i) (fun i => i ≤ 256) 0
  case h0 =>
    first | assumption | omega | (simp only [Bool.not_eq_true', Bool.or_eq_false_iff, Bool.or_eq_true, Bool.and_eq_true, decide_eq_true_eq, decide_eq_false_iff_not, beq_iff_eq, Bool.not_eq_false']; omega) | (simp; done) | (simp; omega) | (intros; omega) | (simp_all; done) | (simp_all; omega)
  case hw =>
    simp only [go_sem]
  case body =>
    rintro i hx ih0
    try simp only at hx
    have w0 : IntKind.i64.wrap ((i : Int) + 1) = ((i + 1 : Nat) : Int) := by rw [wrap_id (by omega)]; omega
    apply Exec.norm
    · simp only [go_sem, w0]
      rfl
    refine Exec.seq ?_
    refine Exec.seq ?_
    apply Exec.regionL te_ok
    · intro ops' Q hQ
      simp only [go_sem, w0]
      repeat (refine And.intro (by first | assumption | omega | (simp only [Bool.not_eq_true', Bool.or_eq_false_iff, Bool.or_eq_true, Bool.and_eq_true, decide_eq_true_eq, decide_eq_false_iff_not, beq_iff_eq, Bool.not_eq_false']; omega) | (simp; done) | (simp; omega) | (intros; omega) | (simp_all; done) | (simp_all; omega)) ?_)
      exact hQ
    refine Exec.cond_split rfl (fun h0 => ?_) (fun h0 => ?_)
    · skip
      refine Exec.skip ?_
      refine Exec.seq ?_
      refine Exec.block ?_
      refine Exec.seq ?_
      apply Exec.regionL te_ok
      · intro ops' Q hQ
        simp only [go_sem, w0]
        repeat (refine And.intro (by first | assumption | omega | (simp only [Bool.not_eq_true', Bool.or_eq_false_iff, Bool.or_eq_true, Bool.and_eq_true, decide_eq_true_eq, decide_eq_false_iff_not, beq_iff_eq, Bool.not_eq_false']; omega) | (simp; done) | (simp; omega) | (intros; omega) | (simp_all; done) | (simp_all; omega)) ?_)
        refine kbtsX te_ok (by simp only [go_sem, w0]; rfl) rfl rfl rfl rfl rfl rfl rfl rfl rfl rfl rfl rfl rfl rfl rfl ?_
        simp only [go_sem, w0]
        repeat (refine And.intro (by first | assumption | omega | (simp only [Bool.not_eq_true', Bool.or_eq_false_iff, Bool.or_eq_true, Bool.and_eq_true, decide_eq_true_eq, decide_eq_false_iff_not, beq_iff_eq, Bool.not_eq_false']; omega) | (simp; done) | (simp; omega) | (intros; omega) | (simp_all; done) | (simp_all; omega)) ?_)
        exact hQ
      refine Exec.seq ?_
      apply Exec.regionL te_ok
      · intro ops' Q hQ
        simp only [go_sem, w0]
        repeat (refine And.intro (by first | assumption | omega | (simp only [Bool.not_eq_true', Bool.or_eq_false_iff, Bool.or_eq_true, Bool.and_eq_true, decide_eq_true_eq, decide_eq_false_iff_not, beq_iff_eq, Bool.not_eq_false']; omega) | (simp; done) | (simp; omega) | (intros; omega) | (simp_all; done) | (simp_all; omega)) ?_)
        refine kcall hR.inv te_ok rfl rfl rfl rfl rfl rfl (tells_ok _ (by first | omega | (simp; done) | (simp; omega))) ?_
        simp only [go_sem, w0]
        repeat (refine And.intro (by first | assumption | omega | (simp only [Bool.not_eq_true', Bool.or_eq_false_iff, Bool.or_eq_true, Bool.and_eq_true, decide_eq_true_eq, decide_eq_false_iff_not, beq_iff_eq, Bool.not_eq_false']; omega) | (simp; done) | (simp; omega) | (intros; omega) | (simp_all; done) | (simp_all; omega)) ?_)
        refine kcallG hR.inv te_ok rfl rfl rfl rfl rfl rfl (by simp only [go_sem] <;> (first | assumption | omega | (simp only [Bool.not_eq_true', Bool.or_eq_false_iff, Bool.or_eq_true, Bool.and_eq_true, decide_eq_true_eq, decide_eq_false_iff_not, beq_iff_eq, Bool.not_eq_false']; omega) | (simp; done) | (simp; omega) | (intros; omega) | (simp_all; done) | (simp_all; omega))) (fun hq => tells_ok _ (by first | omega | (simp; done) | (simp; omega))) ?_
        simp only [go_sem, w0]
        repeat (refine And.intro (by first | assumption | omega | (simp only [Bool.not_eq_true', Bool.or_eq_false_iff, Bool.or_eq_true, Bool.and_eq_true, decide_eq_true_eq, decide_eq_false_iff_not, beq_iff_eq, Bool.not_eq_false']; omega) | (simp; done) | (simp; omega) | (intros; omega) | (simp_all; done) | (simp_all; omega)) ?_)
        refine kcallG hR.inv te_ok rfl rfl rfl rfl rfl rfl (by simp only [go_sem] <;> (first | assumption | omega | (simp only [Bool.not_eq_true', Bool.or_eq_false_iff, Bool.or_eq_true, Bool.and_eq_true, decide_eq_true_eq, decide_eq_false_iff_not, beq_iff_eq, Bool.not_eq_false']; omega) | (simp; done) | (simp; omega) | (intros; omega) | (simp_all; done) | (simp_all; omega))) (fun hq => tells_ok _ (by first | omega | (simp; done) | (simp; omega))) ?_
        simp only [go_sem, w0]
        repeat (refine And.intro (by first | assumption | omega | (simp only [Bool.not_eq_true', Bool.or_eq_false_iff, Bool.or_eq_true, Bool.and_eq_true, decide_eq_true_eq, decide_eq_false_iff_not, beq_iff_eq, Bool.not_eq_false']; omega) | (simp; done) | (simp; omega) | (intros; omega) | (simp_all; done) | (simp_all; omega)) ?_)
        refine kcallG hR.inv te_ok rfl rfl rfl rfl rfl rfl (by simp only [go_sem] <;> (first | assumption | omega | (simp only [Bool.not_eq_true', Bool.or_eq_false_iff, Bool.or_eq_true, Bool.and_eq_true, decide_eq_true_eq, decide_eq_false_iff_not, beq_iff_eq, Bool.not_eq_false']; omega) | (simp; done) | (simp; omega) | (intros; omega) | (simp_all; done) | (simp_all; omega))) (fun hq => tells_ok _ (by first | omega | (simp; done) | (simp; omega))) ?_
        simp only [go_sem, w0]
        repeat (refine And.intro (by first | assumption | omega | (simp only [Bool.not_eq_true', Bool.or_eq_false_iff, Bool.or_eq_true, Bool.and_eq_true, decide_eq_true_eq, decide_eq_false_iff_not, beq_iff_eq, Bool.not_eq_false']; omega) | (simp; done) | (simp; omega) | (intros; omega) | (simp_all; done) | (simp_all; omega)) ?_)
        exact hQ
      refine Exec.cond (t := false) rfl ?_
      simp only [reduceIte, Bool.false_eq_true]
      refine Exec.skip ?_
      refine Exec.inBlock ?_
      apply Exec.regionL te_ok
      · intro ops' Q hQ
        simp only [go_sem, w0]
        repeat (refine And.intro (by first | assumption | omega | (simp only [Bool.not_eq_true', Bool.or_eq_false_iff, Bool.or_eq_true, Bool.and_eq_true, decide_eq_true_eq, decide_eq_false_iff_not, beq_iff_eq, Bool.not_eq_false']; omega) | (simp; done) | (simp; omega) | (intros; omega) | (simp_all; done) | (simp_all; omega)) ?_)
        exact hQ
      refine Exec.back (ih0 (i + 1) ?_ ?_) ?_ ?_ ?_ ?_ ?_ ?_ ?_
      · try simp only
        have := of_decide_eq_true h0
        omega
      · try simp only
        have := of_decide_eq_true h0
        omega
      · rfl
      · rfl
      · (simp only [go_sem, w0])
      · (simp only [go_sem, w0])
      · (simp only [go_sem, w0])
      · simp only [go_sem, w0]
      · rfl
    · skip
      refine Exec.exit rfl ?_
      refine Exec.seq ?_
      refine Exec.seq ?_
      apply Exec.regionL te_ok
      · intro ops' Q hQ
        simp only [go_sem, w0]
        repeat (refine And.intro (by first | assumption | omega | (simp only [Bool.not_eq_true', Bool.or_eq_false_iff, Bool.or_eq_true, Bool.and_eq_true, decide_eq_true_eq, decide_eq_false_iff_not, beq_iff_eq, Bool.not_eq_false']; omega) | (simp; done) | (simp; omega) | (intros; omega) | (simp_all; done) | (simp_all; omega)) ?_)
        exact hQ
      refine Exec.block ?_
      apply Exec.loopU [1] (X := Nat) (fun i => [(4, .d (iv i))]) (fun i => []) (fun i => [(12, ⟨9, 1, 34, 34, fun i => [sv (nth endsW i)]⟩)]) (fun i => 34 - i) (fun i => i ≤ 34) 0
      case h0 =>
        first | assumption | omega | (simp only [Bool.not_eq_true', Bool.or_eq_false_iff, Bool.or_eq_true, Bool.and_eq_true, decide_eq_true_eq, decide_eq_false_iff_not, beq_iff_eq, Bool.not_eq_false']; omega) | (simp; done) | (simp; omega) | (intros; omega) | (simp_all; done) | (simp_all; omega)
      case hw =>
        simp only [go_sem]; exact fun i hi => lst_row (fun x => [sv x]) endsW hi
      case body =>
        rintro i hx ih1
        try simp only at hx
        have w0 : IntKind.i64.wrap ((i : Int) + 1) = ((i + 1 : Nat) : Int) := by rw [wrap_id (by omega)]; omega
        apply Exec.norm
        · simp only [go_sem, w0, w0]
          rfl
        refine Exec.seq ?_
        refine Exec.seq ?_
        apply Exec.regionL te_ok
        · intro ops' Q hQ
          simp only [go_sem, w0, w0]
          repeat (refine And.intro (by first | assumption | omega | (simp only [Bool.not_eq_true', Bool.or_eq_false_iff, Bool.or_eq_true, Bool.and_eq_true, decide_eq_true_eq, decide_eq_false_iff_not, beq_iff_eq, Bool.not_eq_false']; omega) | (simp; done) | (simp; omega) | (intros; omega) | (simp_all; done) | (simp_all; omega)) ?_)
          exact hQ
        refine Exec.cond_split rfl (fun h2 => ?_) (fun h2 => ?_)
        · skip
          have hi : i < 34 := by have := of_decide_eq_true h2; omega
          have li := ends_len i hi
          refine Exec.skip ?_
          refine Exec.seq ?_
          refine Exec.block ?_
          refine Exec.seq ?_
          apply Exec.regionL te_ok
          · intro ops' Q hQ
            simp only [go_sem, w0, w0]
            repeat (refine And.intro (by first | assumption | omega | (simp only [Bool.not_eq_true', Bool.or_eq_false_iff, Bool.or_eq_true, Bool.and_eq_true, decide_eq_true_eq, decide_eq_false_iff_not, beq_iff_eq, Bool.not_eq_false']; omega) | (simp; done) | (simp; omega) | (intros; omega) | (simp_all; done) | (simp_all; omega)) ?_)
            exact hQ
          refine Exec.block ?_
          apply Exec.loopU [1, 4] (X := Nat) (fun j => [(5, .d (iv j))]) (fun j => []) (fun j => []) (fun j => 34 - j) (fun j => j ≤ 34) 0
          case h0 =>
            first | assumption | omega | (simp only [Bool.not_eq_true', Bool.or_eq_false_iff, Bool.or_eq_true, Bool.and_eq_true, decide_eq_true_eq, decide_eq_false_iff_not, beq_iff_eq, Bool.not_eq_false']; omega) | (simp; done) | (simp; omega) | (intros; omega) | (simp_all; done) | (simp_all; omega)
          case hw =>
            simp only [go_sem, w0, w0]
          case body =>
            rintro j hj ih2
            try simp only at hj
            have w1 : IntKind.i64.wrap ((j : Int) + 1) = ((j + 1 : Nat) : Int) := by rw [wrap_id (by omega)]; omega
            apply Exec.norm
            · simp only [go_sem, w0, w0, w1]
              rfl
            refine Exec.seq ?_
            refine Exec.seq ?_
            apply Exec.regionL te_ok
            · intro ops' Q hQ
              simp only [go_sem, w0, w0, w1]
              repeat (refine And.intro (by first | assumption | omega | (simp only [Bool.not_eq_true', Bool.or_eq_false_iff, Bool.or_eq_true, Bool.and_eq_true, decide_eq_true_eq, decide_eq_false_iff_not, beq_iff_eq, Bool.not_eq_false']; omega) | (simp; done) | (simp; omega) | (intros; omega) | (simp_all; done) | (simp_all; omega)) ?_)
              exact hQ
            refine Exec.cond_split rfl (fun h3 => ?_) (fun h3 => ?_)
            · skip
              have hj : j < 34 := by have := of_decide_eq_true h3; omega
              have lj := ends_len j hj
              have lk := ends_len ((i + j) % 34) (Nat.mod_lt _ (by decide))
              have w2 : IntKind.i64.wrap ((i : Int) + (j : Int)) = ((i + j : Nat) : Int) := by rw [wrap_id (by omega)]; omega
              refine Exec.skip ?_
              refine Exec.seq ?_
              refine Exec.block ?_
              refine Exec.seq ?_
              apply Exec.draw (st := _) 36 35 [] [] te_ok (by as_aux_lemma => kernel_rfl) (by as_aux_lemma => kernel_rfl) (by as_aux_lemma => kernel_rfl)
              · intro ops' Q hQ
                simp only [go_sem, w0, w0, w1, w2, rem_nat]
                repeat (refine And.intro (by first | assumption | omega | (simp only [Bool.not_eq_true', Bool.or_eq_false_iff, Bool.or_eq_true, Bool.and_eq_true, decide_eq_true_eq, decide_eq_false_iff_not, beq_iff_eq, Bool.not_eq_false']; omega) | (simp; done) | (simp; omega) | (intros; omega) | (simp_all; done) | (simp_all; omega)) ?_)
                refine kdcall hR.inv te_ok rfl rfl rfl rfl rfl rfl (tells_ok _ (by first | omega | (simp; done) | (simp; omega))) ?_
                simp only [go_sem, w0, w0, w1, w2, rem_nat]
                repeat (refine And.intro (by first | assumption | omega | (simp only [Bool.not_eq_true', Bool.or_eq_false_iff, Bool.or_eq_true, Bool.and_eq_true, decide_eq_true_eq, decide_eq_false_iff_not, beq_iff_eq, Bool.not_eq_false']; omega) | (simp; done) | (simp; omega) | (intros; omega) | (simp_all; done) | (simp_all; omega)) ?_)
                refine kdcallG hR.inv te_ok rfl rfl rfl rfl rfl rfl (by simp only [go_sem] <;> (first | assumption | omega | (simp only [Bool.not_eq_true', Bool.or_eq_false_iff, Bool.or_eq_true, Bool.and_eq_true, decide_eq_true_eq, decide_eq_false_iff_not, beq_iff_eq, Bool.not_eq_false']; omega) | (simp; done) | (simp; omega) | (intros; omega) | (simp_all; done) | (simp_all; omega))) (fun hq => tells_ok _ (by first | omega | (simp; done) | (simp; omega))) ?_
                simp only [go_sem, w0, w0, w1, w2, rem_nat]
                repeat (refine And.intro (by first | assumption | omega | (simp only [Bool.not_eq_true', Bool.or_eq_false_iff, Bool.or_eq_true, Bool.and_eq_true, decide_eq_true_eq, decide_eq_false_iff_not, beq_iff_eq, Bool.not_eq_false']; omega) | (simp; done) | (simp; omega) | (intros; omega) | (simp_all; done) | (simp_all; omega)) ?_)
                exact hQ
              refine Exec.cond (t := false) rfl ?_
              simp only [reduceIte, Bool.false_eq_true]
              refine Exec.skip ?_
              refine Exec.inBlock ?_
              apply Exec.regionL te_ok
              · intro ops' Q hQ
                simp only [go_sem, w0, w0, w1, w2, rem_nat]
                repeat (refine And.intro (by first | assumption | omega | (simp only [Bool.not_eq_true', Bool.or_eq_false_iff, Bool.or_eq_true, Bool.and_eq_true, decide_eq_true_eq, decide_eq_false_iff_not, beq_iff_eq, Bool.not_eq_false']; omega) | (simp; done) | (simp; omega) | (intros; omega) | (simp_all; done) | (simp_all; omega)) ?_)
                exact hQ
              refine Exec.back (ih2 (j + 1) ?_ ?_) ?_ ?_ ?_ ?_ ?_ ?_ ?_
              · try simp only
                first | assumption | omega | (simp only [Bool.not_eq_true', Bool.or_eq_false_iff, Bool.or_eq_true, Bool.and_eq_true, decide_eq_true_eq, decide_eq_false_iff_not, beq_iff_eq, Bool.not_eq_false']; omega) | (simp; done) | (simp; omega) | (intros; omega) | (simp_all; done) | (simp_all; omega)
              · try simp only
                first | assumption | omega | (simp only [Bool.not_eq_true', Bool.or_eq_false_iff, Bool.or_eq_true, Bool.and_eq_true, decide_eq_true_eq, decide_eq_false_iff_not, beq_iff_eq, Bool.not_eq_false']; omega) | (simp; done) | (simp; omega) | (intros; omega) | (simp_all; done) | (simp_all; omega)
              · rfl
              · rfl
              · (simp only [go_sem, w0, w0, w1, w2, rem_nat])
              · (simp only [go_sem, w0, w0, w1, w2, rem_nat])
              · (simp only [go_sem, w0, w0, w1, w2, rem_nat])
              · simp only [go_sem, w0, w0, w1, w2, rem_nat]
              · rfl
            · skip
              refine Exec.exit rfl ?_
              refine Exec.inBlock ?_
              apply Exec.regionL te_ok
              · intro ops' Q hQ
                simp only [go_sem, w0, w0, w1]
                repeat (refine And.intro (by first | assumption | omega | (simp only [Bool.not_eq_true', Bool.or_eq_false_iff, Bool.or_eq_true, Bool.and_eq_true, decide_eq_true_eq, decide_eq_false_iff_not, beq_iff_eq, Bool.not_eq_false']; omega) | (simp; done) | (simp; omega) | (intros; omega) | (simp_all; done) | (simp_all; omega)) ?_)
                exact hQ
              refine Exec.back (ih1 (i + 1) ?_ ?_) ?_ ?_ ?_ ?_ ?_ ?_ ?_
              · try simp only
                first | assumption | omega | (simp only [Bool.not_eq_true', Bool.or_eq_false_iff, Bool.or_eq_true, Bool.and_eq_true, decide_eq_true_eq, decide_eq_false_iff_not, beq_iff_eq, Bool.not_eq_false']; omega) | (simp; done) | (simp; omega) | (intros; omega) | (simp_all; done) | (simp_all; omega)
              · try simp only
                first | assumption | omega | (simp only [Bool.not_eq_true', Bool.or_eq_false_iff, Bool.or_eq_true, Bool.and_eq_true, decide_eq_true_eq, decide_eq_false_iff_not, beq_iff_eq, Bool.not_eq_false']; omega) | (simp; done) | (simp; omega) | (intros; omega) | (simp_all; done) | (simp_all; omega)
              · rfl
              · rfl
              · (simp only [go_sem, w0, w0, w1])
              · (simp only [go_sem, w0, w0, w1])
              · (simp only [go_sem, w0, w0, w1])
              · simp only [go_sem, w0, w0, w1]
              · rfl
        · skip
          refine Exec.exit rfl ?_
          refine Exec.seq ?_
          apply Exec.regionL te_ok
          · intro ops' Q hQ
            simp only [go_sem, w0, w0]
            repeat (refine And.intro (by first | assumption | omega | (simp only [Bool.not_eq_true', Bool.or_eq_false_iff, Bool.or_eq_true, Bool.and_eq_true, decide_eq_true_eq, decide_eq_false_iff_not, beq_iff_eq, Bool.not_eq_false']; omega) | (simp; done) | (simp; omega) | (intros; omega) | (simp_all; done) | (simp_all; omega)) ?_)
            exact hQ
          refine Exec.seq ?_
          refine Exec.seq ?_
          apply Exec.regionL te_ok
          · intro ops' Q hQ
            simp only [go_sem, w0, w0]
            repeat (refine And.intro (by first | assumption | omega | (simp only [Bool.not_eq_true', Bool.or_eq_false_iff, Bool.or_eq_true, Bool.and_eq_true, decide_eq_true_eq, decide_eq_false_iff_not, beq_iff_eq, Bool.not_eq_false']; omega) | (simp; done) | (simp; omega) | (intros; omega) | (simp_all; done) | (simp_all; omega)) ?_)
            exact hQ
          refine Exec.block ?_
          apply Exec.loopU [] (X := Nat × List UInt8 × List UInt8 × List UInt8) (fun ⟨i, x, y, z⟩ => [(9, .d (iv i)), (6, .d (sv x)), (7, .d (sv y)), (8, .d (sv z))]) (fun ⟨i, x, y, z⟩ => []) (fun ⟨i, x, y, z⟩ => []) (fun ⟨i, x, y, z⟩ => 45 - i) (fun ⟨i, x, y, z⟩ => i ≤ 45 ∧ x.length = i + 1 ∧ y.length = i + 1 ∧ z.length = i + 1) (0, [97], [49], [120])
          case h0 =>
            exact ⟨by omega, rfl, rfl, rfl⟩
          case hw =>
            simp only [go_sem, w0, w0]
          case body =>
            rintro ⟨i, x, y, z⟩ hx ih3
            try simp only at hx
            obtain ⟨q0, q1, q2, q3⟩ := hx
            have w0 : IntKind.i64.wrap ((i : Int) + 1) = ((i + 1 : Nat) : Int) := by rw [wrap_id (by omega)]; omega
            apply Exec.norm
            · simp only [go_sem, w0, w0, w0]
              rfl
            refine Exec.seq ?_
            refine Exec.seq ?_
            apply Exec.regionL te_ok
            · intro ops' Q hQ
              simp only [go_sem, w0, w0, w0]
              repeat (refine And.intro (by first | assumption | omega | (simp only [Bool.not_eq_true', Bool.or_eq_false_iff, Bool.or_eq_true, Bool.and_eq_true, decide_eq_true_eq, decide_eq_false_iff_not, beq_iff_eq, Bool.not_eq_false']; omega) | (simp; done) | (simp; omega) | (intros; omega) | (simp_all; done) | (simp_all; omega)) ?_)
              exact hQ
            refine Exec.cond_split rfl (fun h5 => ?_) (fun h5 => ?_)
            · skip
              refine Exec.skip ?_
              refine Exec.seq ?_
              refine Exec.block ?_
              refine Exec.seq ?_
              refine Exec.seq ?_
              apply Exec.regionL te_ok
              · intro ops' Q hQ
                simp only [go_sem, w0, w0, w0]
                repeat (refine And.intro (by first | assumption | omega | (simp only [Bool.not_eq_true', Bool.or_eq_false_iff, Bool.or_eq_true, Bool.and_eq_true, decide_eq_true_eq, decide_eq_false_iff_not, beq_iff_eq, Bool.not_eq_false']; omega) | (simp; done) | (simp; omega) | (intros; omega) | (simp_all; done) | (simp_all; omega)) ?_)
                refine kcall hR.inv te_ok rfl rfl rfl rfl rfl rfl (tells_ok _ (by first | omega | (simp; done) | (simp; omega))) ?_
                simp only [go_sem, w0, w0, w0]
                repeat (refine And.intro (by first | assumption | omega | (simp only [Bool.not_eq_true', Bool.or_eq_false_iff, Bool.or_eq_true, Bool.and_eq_true, decide_eq_true_eq, decide_eq_false_iff_not, beq_iff_eq, Bool.not_eq_false']; omega) | (simp; done) | (simp; omega) | (intros; omega) | (simp_all; done) | (simp_all; omega)) ?_)
                refine kcallG hR.inv te_ok rfl rfl rfl rfl rfl rfl (by simp only [go_sem] <;> (first | assumption | omega | (simp only [Bool.not_eq_true', Bool.or_eq_false_iff, Bool.or_eq_true, Bool.and_eq_true, decide_eq_true_eq, decide_eq_false_iff_not, beq_iff_eq, Bool.not_eq_false']; omega) | (simp; done) | (simp; omega) | (intros; omega) | (simp_all; done) | (simp_all; omega))) (fun hq => tells_ok _ (by first | omega | (simp; done) | (simp; omega))) ?_
                simp only [go_sem, w0, w0, w0]
                repeat (refine And.intro (by first | assumption | omega | (simp only [Bool.not_eq_true', Bool.or_eq_false_iff, Bool.or_eq_true, Bool.and_eq_true, decide_eq_true_eq, decide_eq_false_iff_not, beq_iff_eq, Bool.not_eq_false']; omega) | (simp; done) | (simp; omega) | (intros; omega) | (simp_all; done) | (simp_all; omega)) ?_)
                refine kcallG hR.inv te_ok rfl rfl rfl rfl rfl rfl (by simp only [go_sem] <;> (first | assumption | omega | (simp only [Bool.not_eq_true', Bool.or_eq_false_iff, Bool.or_eq_true, Bool.and_eq_true, decide_eq_true_eq, decide_eq_false_iff_not, beq_iff_eq, Bool.not_eq_false']; omega) | (simp; done) | (simp; omega) | (intros; omega) | (simp_all; done) | (simp_all; omega))) (fun hq => tells_ok _ (by first | omega | (simp; done) | (simp; omega))) ?_
                simp only [go_sem, w0, w0, w0]
                repeat (refine And.intro (by first | assumption | omega | (simp only [Bool.not_eq_true', Bool.or_eq_false_iff, Bool.or_eq_true, Bool.and_eq_true, decide_eq_true_eq, decide_eq_false_iff_not, beq_iff_eq, Bool.not_eq_false']; omega) | (simp; done) | (simp; omega) | (intros; omega) | (simp_all; done) | (simp_all; omega)) ?_)
                refine kcallG hR.inv te_ok rfl rfl rfl rfl rfl rfl (by simp only [go_sem] <;> (first | assumption | omega | (simp only [Bool.not_eq_true', Bool.or_eq_false_iff, Bool.or_eq_true, Bool.and_eq_true, decide_eq_true_eq, decide_eq_false_iff_not, beq_iff_eq, Bool.not_eq_false']; omega) | (simp; done) | (simp; omega) | (intros; omega) | (simp_all; done) | (simp_all; omega))) (fun hq => tells_ok _ (by first | omega | (simp; done) | (simp; omega))) ?_
                simp only [go_sem, w0, w0, w0]
                repeat (refine And.intro (by first | assumption | omega | (simp only [Bool.not_eq_true', Bool.or_eq_false_iff, Bool.or_eq_true, Bool.and_eq_true, decide_eq_true_eq, decide_eq_false_iff_not, beq_iff_eq, Bool.not_eq_false']; omega) | (simp; done) | (simp; omega) | (intros; omega) | (simp_all; done) | (simp_all; omega)) ?_)
                refine kcallG hR.inv te_ok rfl rfl rfl rfl rfl rfl (by simp only [go_sem] <;> (first | assumption | omega | (simp only [Bool.not_eq_true', Bool.or_eq_false_iff, Bool.or_eq_true, Bool.and_eq_true, decide_eq_true_eq, decide_eq_false_iff_not, beq_iff_eq, Bool.not_eq_false']; omega) | (simp; done) | (simp; omega) | (intros; omega) | (simp_all; done) | (simp_all; omega))) (fun hq => tells_ok _ (by first | omega | (simp; done) | (simp; omega))) ?_
                simp only [go_sem, w0, w0, w0]
                repeat (refine And.intro (by first | assumption | omega | (simp only [Bool.not_eq_true', Bool.or_eq_false_iff, Bool.or_eq_true, Bool.and_eq_true, decide_eq_true_eq, decide_eq_false_iff_not, beq_iff_eq, Bool.not_eq_false']; omega) | (simp; done) | (simp; omega) | (intros; omega) | (simp_all; done) | (simp_all; omega)) ?_)
                refine kcallG hR.inv te_ok rfl rfl rfl rfl rfl rfl (by simp only [go_sem] <;> (first | assumption | omega | (simp only [Bool.not_eq_true', Bool.or_eq_false_iff, Bool.or_eq_true, Bool.and_eq_true, decide_eq_true_eq, decide_eq_false_iff_not, beq_iff_eq, Bool.not_eq_false']; omega) | (simp; done) | (simp; omega) | (intros; omega) | (simp_all; done) | (simp_all; omega))) (fun hq => tells_ok _ (by first | omega | (simp; done) | (simp; omega))) ?_
                simp only [go_sem, w0, w0, w0]
                repeat (refine And.intro (by first | assumption | omega | (simp only [Bool.not_eq_true', Bool.or_eq_false_iff, Bool.or_eq_true, Bool.and_eq_true, decide_eq_true_eq, decide_eq_false_iff_not, beq_iff_eq, Bool.not_eq_false']; omega) | (simp; done) | (simp; omega) | (intros; omega) | (simp_all; done) | (simp_all; omega)) ?_)
                exact hQ
              refine Exec.cond (t := false) rfl ?_
              simp only [reduceIte, Bool.false_eq_true]
              refine Exec.skip ?_
              apply Exec.regionL te_ok
              · intro ops' Q hQ
                simp only [go_sem, w0, w0, w0]
                repeat (refine And.intro (by first | assumption | omega | (simp only [Bool.not_eq_true', Bool.or_eq_false_iff, Bool.or_eq_true, Bool.and_eq_true, decide_eq_true_eq, decide_eq_false_iff_not, beq_iff_eq, Bool.not_eq_false']; omega) | (simp; done) | (simp; omega) | (intros; omega) | (simp_all; done) | (simp_all; omega)) ?_)
                exact hQ
              refine Exec.inBlock ?_
              apply Exec.regionL te_ok
              · intro ops' Q hQ
                simp only [go_sem, w0, w0, w0]
                repeat (refine And.intro (by first | assumption | omega | (simp only [Bool.not_eq_true', Bool.or_eq_false_iff, Bool.or_eq_true, Bool.and_eq_true, decide_eq_true_eq, decide_eq_false_iff_not, beq_iff_eq, Bool.not_eq_false']; omega) | (simp; done) | (simp; omega) | (intros; omega) | (simp_all; done) | (simp_all; omega)) ?_)
                exact hQ
              refine Exec.back (ih3 (i + 1, x ++ [95], y ++ [48], z ++ [32]) ?_ ?_) ?_ ?_ ?_ ?_ ?_ ?_ ?_
              · try simp only
                have := of_decide_eq_true h5
                exact ⟨by omega, by simp; omega, by simp; omega, by simp; omega⟩
              · try simp only
                have := of_decide_eq_true h5
                omega
              · rfl
              · rfl
              · (simp only [go_sem, w0, w0, w0])
              · (simp only [go_sem, w0, w0, w0])
              · (simp only [go_sem, w0, w0, w0])
              · simp only [go_sem, w0, w0, w0]
              · rfl
            · skip
              refine Exec.exit rfl ?_
              refine Exec.seq ?_
              apply Exec.regionL te_ok
              · intro ops' Q hQ
                simp only [go_sem, w0, w0, w0]
                repeat (refine And.intro (by first | assumption | omega | (simp only [Bool.not_eq_true', Bool.or_eq_false_iff, Bool.or_eq_true, Bool.and_eq_true, decide_eq_true_eq, decide_eq_false_iff_not, beq_iff_eq, Bool.not_eq_false']; omega) | (simp; done) | (simp; omega) | (intros; omega) | (simp_all; done) | (simp_all; omega)) ?_)
                exact hQ
              refine Exec.seq ?_
              refine Exec.seq ?_
              apply Exec.regionL te_ok
              · intro ops' Q hQ
                simp only [go_sem, w0, w0, w0]
                repeat (refine And.intro (by first | assumption | omega | (simp only [Bool.not_eq_true', Bool.or_eq_false_iff, Bool.or_eq_true, Bool.and_eq_true, decide_eq_true_eq, decide_eq_false_iff_not, beq_iff_eq, Bool.not_eq_false']; omega) | (simp; done) | (simp; omega) | (intros; omega) | (simp_all; done) | (simp_all; omega)) ?_)
                exact hQ
              refine Exec.block ?_
              apply Exec.loopU [] (X := Nat × List UInt8) (fun ⟨i, x⟩ => [(11, .d (iv i)), (10, .d (sv x))]) (fun ⟨i, x⟩ => []) (fun ⟨i, x⟩ => []) (fun ⟨i, x⟩ => 1998 - i) (fun ⟨i, x⟩ => i ≤ 1998 ∧ x.length = i) (0, [])
              case h0 =>
                exact ⟨by omega, rfl⟩
              case hw =>
                simp only [go_sem, w0, w0, w0]
              case body =>
                rintro ⟨i, x⟩ hx ih4
                try simp only at hx
                obtain ⟨q0, q1⟩ := hx
                have w0 : IntKind.i64.wrap ((i : Int) + 1) = ((i + 1 : Nat) : Int) := by rw [wrap_id (by omega)]; omega
                apply Exec.norm
                · simp only [go_sem, w0, w0, w0, w0]
                  rfl
                refine Exec.seq ?_
                refine Exec.seq ?_
                apply Exec.regionL te_ok
                · intro ops' Q hQ
                  simp only [go_sem, w0, w0, w0, w0]
                  repeat (refine And.intro (by first | assumption | omega | (simp only [Bool.not_eq_true', Bool.or_eq_false_iff, Bool.or_eq_true, Bool.and_eq_true, decide_eq_true_eq, decide_eq_false_iff_not, beq_iff_eq, Bool.not_eq_false']; omega) | (simp; done) | (simp; omega) | (intros; omega) | (simp_all; done) | (simp_all; omega)) ?_)
                  exact hQ
                refine Exec.cond_split rfl (fun h7 => ?_) (fun h7 => ?_)
                · skip
                  refine Exec.skip ?_
                  refine Exec.seq ?_
                  refine Exec.block ?_
                  apply Exec.regionL te_ok
                  · intro ops' Q hQ
                    simp only [go_sem, w0, w0, w0, w0]
                    repeat (refine And.intro (by first | assumption | omega | (simp only [Bool.not_eq_true', Bool.or_eq_false_iff, Bool.or_eq_true, Bool.and_eq_true, decide_eq_true_eq, decide_eq_false_iff_not, beq_iff_eq, Bool.not_eq_false']; omega) | (simp; done) | (simp; omega) | (intros; omega) | (simp_all; done) | (simp_all; omega)) ?_)
                    exact hQ
                  refine Exec.inBlock ?_
                  apply Exec.regionL te_ok
                  · intro ops' Q hQ
                    simp only [go_sem, w0, w0, w0, w0]
                    repeat (refine And.intro (by first | assumption | omega | (simp only [Bool.not_eq_true', Bool.or_eq_false_iff, Bool.or_eq_true, Bool.and_eq_true, decide_eq_true_eq, decide_eq_false_iff_not, beq_iff_eq, Bool.not_eq_false']; omega) | (simp; done) | (simp; omega) | (intros; omega) | (simp_all; done) | (simp_all; omega)) ?_)
                    exact hQ
                  refine Exec.back (ih4 (i + 1, x ++ [32]) ?_ ?_) ?_ ?_ ?_ ?_ ?_ ?_ ?_
                  · try simp only
                    have := of_decide_eq_true h7
                    exact ⟨by omega, by simp; omega⟩
                  · try simp only
                    have := of_decide_eq_true h7
                    omega
                  · rfl
                  · rfl
                  · (simp only [go_sem, w0, w0, w0, w0])
                  · (simp only [go_sem, w0, w0, w0, w0])
                  · (simp only [go_sem, w0, w0, w0, w0])
                  · simp only [go_sem, w0, w0, w0, w0]
                  · rfl
                · skip
                  refine Exec.exit rfl ?_
                  refine Exec.seq ?_
                  apply Exec.regionL te_ok
                  · intro ops' Q hQ
                    simp only [go_sem, w0, w0, w0, w0]
                    repeat (refine And.intro (by first | assumption | omega | (simp only [Bool.not_eq_true', Bool.or_eq_false_iff, Bool.or_eq_true, Bool.and_eq_true, decide_eq_true_eq, decide_eq_false_iff_not, beq_iff_eq, Bool.not_eq_false']; omega) | (simp; done) | (simp; omega) | (intros; omega) | (simp_all; done) | (simp_all; omega)) ?_)
                    refine kcall hR.inv te_ok rfl rfl rfl rfl rfl rfl (tells_ok _ (by first | omega | (simp; done) | (simp; omega))) ?_
                    simp only [go_sem, w0, w0, w0, w0]
                    repeat (refine And.intro (by first | assumption | omega | (simp only [Bool.not_eq_true', Bool.or_eq_false_iff, Bool.or_eq_true, Bool.and_eq_true, decide_eq_true_eq, decide_eq_false_iff_not, beq_iff_eq, Bool.not_eq_false']; omega) | (simp; done) | (simp; omega) | (intros; omega) | (simp_all; done) | (simp_all; omega)) ?_)
                    refine kcallG hR.inv te_ok rfl rfl rfl rfl rfl rfl (by simp only [go_sem] <;> (first | assumption | omega | (simp only [Bool.not_eq_true', Bool.or_eq_false_iff, Bool.or_eq_true, Bool.and_eq_true, decide_eq_true_eq, decide_eq_false_iff_not, beq_iff_eq, Bool.not_eq_false']; omega) | (simp; done) | (simp; omega) | (intros; omega) | (simp_all; done) | (simp_all; omega))) (fun hq => tells_ok _ (by first | omega | (simp; done) | (simp; omega))) ?_
                    simp only [go_sem, w0, w0, w0, w0]
                    repeat (refine And.intro (by first | assumption | omega | (simp only [Bool.not_eq_true', Bool.or_eq_false_iff, Bool.or_eq_true, Bool.and_eq_true, decide_eq_true_eq, decide_eq_false_iff_not, beq_iff_eq, Bool.not_eq_false']; omega) | (simp; done) | (simp; omega) | (intros; omega) | (simp_all; done) | (simp_all; omega)) ?_)
                    refine kcallG hR.inv te_ok rfl rfl rfl rfl rfl rfl (by simp only [go_sem] <;> (first | assumption | omega | (simp only [Bool.not_eq_true', Bool.or_eq_false_iff, Bool.or_eq_true, Bool.and_eq_true, decide_eq_true_eq, decide_eq_false_iff_not, beq_iff_eq, Bool.not_eq_false']; omega) | (simp; done) | (simp; omega) | (intros; omega) | (simp_all; done) | (simp_all; omega))) (fun hq => tells_ok _ (by first | omega | (simp; done) | (simp; omega))) ?_
                    simp only [go_sem, w0, w0, w0, w0]
                    repeat (refine And.intro (by first | assumption | omega | (simp only [Bool.not_eq_true', Bool.or_eq_false_iff, Bool.or_eq_true, Bool.and_eq_true, decide_eq_true_eq, decide_eq_false_iff_not, beq_iff_eq, Bool.not_eq_false']; omega) | (simp; done) | (simp; omega) | (intros; omega) | (simp_all; done) | (simp_all; omega)) ?_)
                    refine kcallG hR.inv te_ok rfl rfl rfl rfl rfl rfl (by simp only [go_sem] <;> (first | assumption | omega | (simp only [Bool.not_eq_true', Bool.or_eq_false_iff, Bool.or_eq_true, Bool.and_eq_true, decide_eq_true_eq, decide_eq_false_iff_not, beq_iff_eq, Bool.not_eq_false']; omega) | (simp; done) | (simp; omega) | (intros; omega) | (simp_all; done) | (simp_all; omega))) (fun hq => tells_ok _ (by first | omega | (simp; done) | (simp; omega))) ?_
                    simp only [go_sem, w0, w0, w0, w0]
                    repeat (refine And.intro (by first | assumption | omega | (simp only [Bool.not_eq_true', Bool.or_eq_false_iff, Bool.or_eq_true, Bool.and_eq_true, decide_eq_true_eq, decide_eq_false_iff_not, beq_iff_eq, Bool.not_eq_false']; omega) | (simp; done) | (simp; omega) | (intros; omega) | (simp_all; done) | (simp_all; omega)) ?_)
                    refine kcallG hR.inv te_ok rfl rfl rfl rfl rfl rfl (by simp only [go_sem] <;> (first | assumption | omega | (simp only [Bool.not_eq_true', Bool.or_eq_false_iff, Bool.or_eq_true, Bool.and_eq_true, decide_eq_true_eq, decide_eq_false_iff_not, beq_iff_eq, Bool.not_eq_false']; omega) | (simp; done) | (simp; omega) | (intros; omega) | (simp_all; done) | (simp_all; omega))) (fun hq => tells_ok _ (by first | omega | (simp; done) | (simp; omega))) ?_
                    simp only [go_sem, w0, w0, w0, w0]
                    repeat (refine And.intro (by first | assumption | omega | (simp only [Bool.not_eq_true', Bool.or_eq_false_iff, Bool.or_eq_true, Bool.and_eq_true, decide_eq_true_eq, decide_eq_false_iff_not, beq_iff_eq, Bool.not_eq_false']; omega) | (simp; done) | (simp; omega) | (intros; omega) | (simp_all; done) | (simp_all; omega)) ?_)
                    refine kcallG hR.inv te_ok rfl rfl rfl rfl rfl rfl (by simp only [go_sem] <;> (first | assumption | omega | (simp only [Bool.not_eq_true', Bool.or_eq_false_iff, Bool.or_eq_true, Bool.and_eq_true, decide_eq_true_eq, decide_eq_false_iff_not, beq_iff_eq, Bool.not_eq_false']; omega) | (simp; done) | (simp; omega) | (intros; omega) | (simp_all; done) | (simp_all; omega))) (fun hq => tells_ok _ (by first | omega | (simp; done) | (simp; omega))) ?_
                    simp only [go_sem, w0, w0, w0, w0]
                    repeat (refine And.intro (by first | assumption | omega | (simp only [Bool.not_eq_true', Bool.or_eq_false_iff, Bool.or_eq_true, Bool.and_eq_true, decide_eq_true_eq, decide_eq_false_iff_not, beq_iff_eq, Bool.not_eq_false']; omega) | (simp; done) | (simp; omega) | (intros; omega) | (simp_all; done) | (simp_all; omega)) ?_)
                    refine kcallG hR.inv te_ok rfl rfl rfl rfl rfl rfl (by simp only [go_sem] <;> (first | assumption | omega | (simp only [Bool.not_eq_true', Bool.or_eq_false_iff, Bool.or_eq_true, Bool.and_eq_true, decide_eq_true_eq, decide_eq_false_iff_not, beq_iff_eq, Bool.not_eq_false']; omega) | (simp; done) | (simp; omega) | (intros; omega) | (simp_all; done) | (simp_all; omega))) (fun hq => tells_ok _ (by first | omega | (simp; done) | (simp; omega))) ?_
                    simp only [go_sem, w0, w0, w0, w0]
                    repeat (refine And.intro (by first | assumption | omega | (simp only [Bool.not_eq_true', Bool.or_eq_false_iff, Bool.or_eq_true, Bool.and_eq_true, decide_eq_true_eq, decide_eq_false_iff_not, beq_iff_eq, Bool.not_eq_false']; omega) | (simp; done) | (simp; omega) | (intros; omega) | (simp_all; done) | (simp_all; omega)) ?_)
                    refine kcallG hR.inv te_ok rfl rfl rfl rfl rfl rfl (by simp only [go_sem] <;> (first | assumption | omega | (simp only [Bool.not_eq_true', Bool.or_eq_false_iff, Bool.or_eq_true, Bool.and_eq_true, decide_eq_true_eq, decide_eq_false_iff_not, beq_iff_eq, Bool.not_eq_false']; omega) | (simp; done) | (simp; omega) | (intros; omega) | (simp_all; done) | (simp_all; omega))) (fun hq => lawake_ok) ?_
                    simp only [go_sem, w0, w0, w0, w0]
                    repeat (refine And.intro (by first | assumption | omega | (simp only [Bool.not_eq_true', Bool.or_eq_false_iff, Bool.or_eq_true, Bool.and_eq_true, decide_eq_true_eq, decide_eq_false_iff_not, beq_iff_eq, Bool.not_eq_false']; omega) | (simp; done) | (simp; omega) | (intros; omega) | (simp_all; done) | (simp_all; omega)) ?_)
                    exact hQ
                  refine Exec.rets hR te_ok rfl rfl rfl (LeX.le ?_) (.inr ⟨_, rfl⟩)
                  simp only [go_sem, w0, w0, w0, w0]
end Go.Proofs.YtmnponhhmkdcdaaDoor
