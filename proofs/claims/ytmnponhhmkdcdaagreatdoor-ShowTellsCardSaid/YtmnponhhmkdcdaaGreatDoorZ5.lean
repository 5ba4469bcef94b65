/- Contracts of functions of the seat, walked. -/
import Derived.Test.YtmnponhhmkdcdaaGreatDoorZ4
import Derived.Test.YtmnponhhmkdcdaaGreatDoorShDef
namespace Go.Proofs.YtmnponhhmkdcdaaGreatDoor
open Go.Kin
set_option linter.unusedSimpArgs false
set_option linter.unusedVariables false
set_option maxRecDepth 100000
set_option maxHeartbeats 0
theorem czN (n : Nat) : ((n : Int) == 0) = (n == 0) := by rw [Bool.eq_iff_iff]; simp
theorem c1N (n : Nat) : ((n : Int) == 1) = (n == 1) := by rw [Bool.eq_iff_iff]; simp; omega
theorem l1N (n : Nat) : decide (1 < (n : Int)) = decide (1 < n) := by rw [Bool.eq_iff_iff]; simp; omega
theorem isE (s : List UInt8) : s.isEmpty = (s == []) := by cases s <;> rfl
theorem ors {a c : Bool} (h : (bif a then a else c) = true) : a = true ∨ c = true := by cases a <;> simp_all
theorem orsF {a c : Bool} (h : (bif a then a else c) = false) : a = false ∧ c = false := by cases a <;> simp_all
theorem or46 {k : Int} (h : (bif k == 4 then k == 4 else bif k == 5 then k == 5 else k == 6) = true) : k = 4 ∨ k = 5 ∨ k = 6 := by
  rcases ors h with h | h
  · left; simpa using h
  · right; simpa using ors h
theorem n46 {k : Int} (h : (bif k == 4 then k == 4 else bif k == 5 then k == 5 else k == 6) = false) : ¬ (k = 4 ∨ k = 5 ∨ k = 6) := by
  have h1 := orsF h
  have h2 := orsF h1.2
  simp at h1 h2; omega
theorem n23 {k : Int} (h : (bif k == 2 then k == 2 else k == 3) = false) : ¬ (k = 2 ∨ k = 3) := by
  have h1 := orsF h
  simp at h1; omega

theorem part_ok (x : Ex) (hs : x.s.length ≤ 140737488355328) (hx0 : x.kids.length ≤ 140737488355328) : FnOK Laid Tryz.prog 76 [exD x] (bv (partR x)) := by
  refine FnOK_of laid_stable Tryz.func76 Tryz.ntmps76 rfl (by as_aux_lemma => kernel_rfl) (Nat.le_of_ble_eq_true rfl) (fun R hR => ?_)
  obtain ⟨_, b, cs, T, C⟩ := R
  obtain rfl : _ = Tryz.prog := hR.p
  have hk := kd_eq x
  refine Exec.seq ?_
  apply Exec.regionL te_ok
  · intro ops' Q hQ
    simp only [go_sem, hk, czN, c1N, l1N]
    repeat (refine And.intro (by first | assumption | omega | (simp; done) | (simp; omega) | (intros; omega) | (simp_all; done) | (simp_all; omega)) ?_)
    exact hQ
  refine Exec.seq ?_
  refine Exec.seq ?_
  apply Exec.regionL te_ok
  · intro ops' Q hQ
    simp only [go_sem, hk, czN, c1N, l1N]
    repeat (refine And.intro (by first | assumption | omega | (simp; done) | (simp; omega) | (intros; omega) | (simp_all; done) | (simp_all; omega)) ?_)
    exact hQ
  refine Exec.seq ?_
  apply Exec.regionL te_ok
  · intro ops' Q hQ
    simp only [go_sem, hk, czN, c1N, l1N]
    repeat (refine And.intro (by first | assumption | omega | (simp; done) | (simp; omega) | (intros; omega) | (simp_all; done) | (simp_all; omega)) ?_)
    exact hQ
  refine Exec.block ?_
  refine Exec.seq ?_
  apply Exec.regionL te_ok
  · intro ops' Q hQ
    simp only [go_sem, hk, czN, c1N, l1N]
    repeat (refine And.intro (by first | assumption | omega | (simp; done) | (simp; omega) | (intros; omega) | (simp_all; done) | (simp_all; omega)) ?_)
    exact hQ
  refine Exec.cond_split rfl (fun h0 => ?_) (fun h0 => ?_)
  · skip
    refine Exec.seq ?_
    apply Exec.regionL te_ok
    · intro ops' Q hQ
      simp only [go_sem, hk, czN, c1N, l1N]
      repeat (refine And.intro (by first | assumption | omega | (simp; done) | (simp; omega) | (intros; omega) | (simp_all; done) | (simp_all; omega)) ?_)
      refine kcallG hR.inv te_ok rfl rfl rfl rfl rfl rfl (by simp only [go_sem] <;> (first | assumption | omega | (simp; done) | (simp; omega) | (intros; omega) | (simp_all; done) | (simp_all; omega))) (fun hq => free_ok x.s hs) ?_
      simp only [go_sem, hk, czN, c1N, l1N]
      repeat (refine And.intro (by first | assumption | omega | (simp; done) | (simp; omega) | (intros; omega) | (simp_all; done) | (simp_all; omega)) ?_)
      exact hQ
    refine Exec.rets hR te_ok rfl rfl rfl (LeX.le ?_) (.inr ⟨_, rfl⟩)
    simp only [go_sem, partR, czN, c1N, l1N]
    simp_all
  · skip
    refine Exec.seq ?_
    refine Exec.seq ?_
    apply Exec.regionL te_ok
    · intro ops' Q hQ
      simp only [go_sem, hk, czN, c1N, l1N]
      repeat (refine And.intro (by first | assumption | omega | (simp; done) | (simp; omega) | (intros; omega) | (simp_all; done) | (simp_all; omega)) ?_)
      exact hQ
    apply Exec.join [1, 3, 8, 18] rfl
    case hx =>
      intro h1 hK
      refine Exec.skip ?_
      exact hK
    case hy =>
      intro h1 hK
      apply Exec.regionL te_ok
      · intro ops' Q hQ
        simp only [go_sem, hk, czN, c1N, l1N]
        repeat (refine And.intro (by first | assumption | omega | (simp; done) | (simp; omega) | (intros; omega) | (simp_all; done) | (simp_all; omega)) ?_)
        exact hQ
      exact hK
    case hN => rfl
    case hdf => rfl
    case hF => simp only [go_sem]
    case hP => rfl
    apply Exec.norm
    · simp only [go_sem, hk, czN, c1N, l1N]
      rfl
    refine Exec.cond_split rfl (fun h2 => ?_) (fun h2 => ?_)
    · skip
      refine Exec.seq ?_
      apply Exec.regionL te_ok
      · intro ops' Q hQ
        simp only [go_sem, hk, czN, c1N, l1N]
        repeat (refine And.intro (by first | assumption | omega | (simp; done) | (simp; omega) | (intros; omega) | (simp_all; done) | (simp_all; omega)) ?_)
        exact hQ
      refine Exec.rets hR te_ok rfl rfl rfl (LeX.le ?_) (.inr ⟨_, rfl⟩)
      simp only [go_sem, partR, czN, c1N, l1N]
      simp_all
    · skip
      refine Exec.seq ?_
      refine Exec.seq ?_
      apply Exec.regionL te_ok
      · intro ops' Q hQ
        simp only [go_sem, hk, czN, c1N, l1N]
        repeat (refine And.intro (by first | assumption | omega | (simp; done) | (simp; omega) | (intros; omega) | (simp_all; done) | (simp_all; omega)) ?_)
        exact hQ
      apply Exec.join [1, 3, 28] rfl
      case hx =>
        intro h3 hK
        refine Exec.skip ?_
        exact hK
      case hy =>
        intro h3 hK
        refine Exec.seq ?_
        apply Exec.regionL te_ok
        · intro ops' Q hQ
          simp only [go_sem, hk, czN, c1N, l1N]
          repeat (refine And.intro (by first | assumption | omega | (simp; done) | (simp; omega) | (intros; omega) | (simp_all; done) | (simp_all; omega)) ?_)
          exact hQ
        apply Exec.join [1, 3, 28] rfl
        case hx =>
          intro h4 hK
          refine Exec.skip ?_
          exact hK
        case hy =>
          intro h4 hK
          apply Exec.regionL te_ok
          · intro ops' Q hQ
            simp only [go_sem, hk, czN, c1N, l1N]
            repeat (refine And.intro (by first | assumption | omega | (simp; done) | (simp; omega) | (intros; omega) | (simp_all; done) | (simp_all; omega)) ?_)
            exact hQ
          exact hK
        case hN => rfl
        case hdf => rfl
        case hF => simp only [go_sem]
        case hP => rfl
        apply Exec.norm
        · simp only [go_sem, hk, czN, c1N, l1N]
          rfl
        exact hK
      case hN => rfl
      case hdf => rfl
      case hF => simp only [go_sem]
      case hP => rfl
      apply Exec.norm
      · simp only [go_sem, hk, czN, c1N, l1N]
        rfl
      refine Exec.cond_split rfl (fun h5 => ?_) (fun h5 => ?_)
      · skip
        refine Exec.seq ?_
        apply Exec.regionL te_ok
        · intro ops' Q hQ
          simp only [go_sem, hk, czN, c1N, l1N]
          repeat (refine And.intro (by first | assumption | omega | (simp; done) | (simp; omega) | (intros; omega) | (simp_all; done) | (simp_all; omega)) ?_)
          exact hQ
        refine Exec.rets hR te_ok rfl rfl rfl (LeX.le ?_) (.inr ⟨_, rfl⟩)
        simp only [go_sem, partR, czN, c1N, l1N]
        simp_all
      · skip
        refine Exec.skip ?_
        refine Exec.inBlock ?_
        refine Exec.seq ?_
        apply Exec.regionL te_ok
        · intro ops' Q hQ
          simp only [go_sem, hk, czN, c1N, l1N]
          repeat (refine And.intro (by first | assumption | omega | (simp; done) | (simp; omega) | (intros; omega) | (simp_all; done) | (simp_all; omega)) ?_)
          exact hQ
        refine Exec.rets hR te_ok rfl rfl rfl (LeX.le ?_) (.inr ⟨_, rfl⟩)
        simp only [go_sem, partR, czN, c1N, l1N]
        simp_all
theorem rpart_step (x : Ex) (hfx : FitX x) (ihx : ∀ y ∈ x.kids, FnOK Laid Tryz.prog 97 [exD y] (bv (exOk y))) : FnOK Laid Tryz.prog 97 [exD x] (bv (exOk x)) := by
  refine FnOK_of laid_stable Tryz.func97 Tryz.ntmps97 rfl (by as_aux_lemma => kernel_rfl) (Nat.le_of_ble_eq_true rfl) (fun R hR => ?_)
  obtain ⟨_, b, cs, T, C⟩ := R
  obtain rfl : _ = Tryz.prog := hR.p
  have hk := kd_eq x
  have hs := hfx.s
  have hx0 := hfx.k
  refine Exec.seq ?_
  apply Exec.regionL te_ok
  · intro ops' Q hQ
    simp only [go_sem, hk]
    repeat (refine And.intro (by first | assumption | omega | (simp; done) | (simp; omega) | (intros; omega) | (simp_all; done) | (simp_all; omega)) ?_)
    exact hQ
  refine Exec.seq ?_
  refine Exec.seq ?_
  apply Exec.regionL te_ok
  · intro ops' Q hQ
    simp only [go_sem, hk]
    repeat (refine And.intro (by first | assumption | omega | (simp; done) | (simp; omega) | (intros; omega) | (simp_all; done) | (simp_all; omega)) ?_)
    exact hQ
  refine Exec.block ?_
  refine Exec.seq ?_
  apply Exec.regionL te_ok
  · intro ops' Q hQ
    simp only [go_sem, hk]
    repeat (refine And.intro (by first | assumption | omega | (simp; done) | (simp; omega) | (intros; omega) | (simp_all; done) | (simp_all; omega)) ?_)
    exact hQ
  refine Exec.cond_split rfl (fun h0 => ?_) (fun h0 => ?_)
  · skip
    refine Exec.seq ?_
    apply Exec.regionL te_ok
    · intro ops' Q hQ
      simp only [go_sem, hk]
      repeat (refine And.intro (by first | assumption | omega | (simp; done) | (simp; omega) | (intros; omega) | (simp_all; done) | (simp_all; omega)) ?_)
      refine kcall hR.inv te_ok rfl rfl rfl rfl rfl rfl (r2free_ok x.s hs) ?_
      simp only [go_sem, hk]
      repeat (refine And.intro (by first | assumption | omega | (simp; done) | (simp; omega) | (intros; omega) | (simp_all; done) | (simp_all; omega)) ?_)
      exact hQ
    refine Exec.rets hR te_ok rfl rfl rfl (LeX.le ?_) (.inr ⟨_, rfl⟩)
    simp only [go_sem]
    rw [partR_1 (by simpa using h0), ← czN]
  · skip
    refine Exec.seq ?_
    refine Exec.seq ?_
    apply Exec.regionL te_ok
    · intro ops' Q hQ
      simp only [go_sem, hk]
      repeat (refine And.intro (by first | assumption | omega | (simp; done) | (simp; omega) | (intros; omega) | (simp_all; done) | (simp_all; omega)) ?_)
      exact hQ
    apply Exec.join [1, 5, 17] rfl
    case hx =>
      intro h1 hK
      refine Exec.skip ?_
      exact hK
    case hy =>
      intro h1 hK
      apply Exec.regionL te_ok
      · intro ops' Q hQ
        simp only [go_sem, hk]
        repeat (refine And.intro (by first | assumption | omega | (simp; done) | (simp; omega) | (intros; omega) | (simp_all; done) | (simp_all; omega)) ?_)
        exact hQ
      exact hK
    case hN => rfl
    case hdf => rfl
    case hF => simp only [go_sem]
    case hP => rfl
    apply Exec.norm
    · simp only [go_sem, hk]
      rfl
    refine Exec.cond_split rfl (fun h2 => ?_) (fun h2 => ?_)
    · skip
      have hk2 : x.k = 2 ∨ x.k = 3 := by simpa using ors h2
      refine Exec.seq ?_
      apply Exec.regionL te_ok
      · intro ops' Q hQ
        simp only [go_sem, hk]
        repeat (refine And.intro (by first | assumption | omega | (simp; done) | (simp; omega) | (intros; omega) | (simp_all; done) | (simp_all; omega)) ?_)
        exact hQ
      refine Exec.cond_split rfl (fun h3 => ?_) (fun h3 => ?_)
      · skip
        refine Exec.seq ?_
        apply Exec.regionL te_ok
        · intro ops' Q hQ
          simp only [go_sem, hk]
          repeat (refine And.intro (by first | assumption | omega | (simp; done) | (simp; omega) | (intros; omega) | (simp_all; done) | (simp_all; omega)) ?_)
          exact hQ
        refine Exec.rets hR te_ok rfl rfl rfl (LeX.le ?_) (.inr ⟨_, rfl⟩)
        simp only [go_sem]
        rw [partR_2 hk2, decide_eq_false (by simp at h3; omega)]; rfl
      · skip
        refine Exec.skip ?_
        refine Exec.inBlock ?_
        refine Exec.seq ?_
        refine Exec.seq ?_
        apply Exec.regionL te_ok
        · intro ops' Q hQ
          simp only [go_sem, hk]
          repeat (refine And.intro (by first | assumption | omega | (simp; done) | (simp; omega) | (intros; omega) | (simp_all; done) | (simp_all; omega)) ?_)
          exact hQ
        refine Exec.block ?_
        apply Exec.loopU [1] (X := Nat) (fun i => [(3, .d (iv i))]) (fun i => []) (fun i => []) (fun i => x.kids.length - i) (fun i => i ≤ x.kids.length ∧ exsOk (x.kids.take i) = true) 0
        case h0 =>
          simp [exsOk]
        case hw =>
          simp only [go_sem, hk]
        case body =>
          rintro i hx ih0
          try simp only at hx
          apply Exec.norm
          · simp only [go_sem, hk]
            rfl
          refine Exec.seq ?_
          refine Exec.seq ?_
          apply Exec.regionL te_ok
          · intro ops' Q hQ
            simp only [go_sem, hk]
            repeat (refine And.intro (by first | assumption | omega | (simp; done) | (simp; omega) | (intros; omega) | (simp_all; done) | (simp_all; omega)) ?_)
            exact hQ
          refine Exec.cond_split rfl (fun h4 => ?_) (fun h4 => ?_)
          · skip
            have hi : i < x.kids.length := by have := of_decide_eq_true h4; omega
            have ha := kdR_at hi
            have w2 : IntKind.i64.wrap ((i : Int) + 1) = ((i + 1 : Nat) : Int) := by rw [wrap_id (by omega)]; omega
            refine Exec.skip ?_
            refine Exec.seq ?_
            refine Exec.block ?_
            refine Exec.seq ?_
            apply Exec.regionL te_ok
            · intro ops' Q hQ
              simp only [go_sem, hk, ha, w2]
              repeat (refine And.intro (by first | assumption | omega | (simp; done) | (simp; omega) | (intros; omega) | (simp_all; done) | (simp_all; omega)) ?_)
              refine kcall hR.inv te_ok rfl rfl rfl rfl rfl rfl (ihx _ (nth_mem hi)) ?_
              simp only [go_sem, hk, ha, w2]
              repeat (refine And.intro (by first | assumption | omega | (simp; done) | (simp; omega) | (intros; omega) | (simp_all; done) | (simp_all; omega)) ?_)
              exact hQ
            refine Exec.cond_split rfl (fun h5 => ?_) (fun h5 => ?_)
            · skip
              refine Exec.seq ?_
              apply Exec.regionL te_ok
              · intro ops' Q hQ
                simp only [go_sem, hk, ha, w2]
                repeat (refine And.intro (by first | assumption | omega | (simp; done) | (simp; omega) | (intros; omega) | (simp_all; done) | (simp_all; omega)) ?_)
                exact hQ
              refine Exec.rets hR te_ok rfl rfl rfl (LeX.le ?_) (.inr ⟨_, rfl⟩)
              simp only [go_sem]
              rw [partR_2 hk2, exsOk_bad hi (by simpa using h5)]; simp
            · skip
              refine Exec.skip ?_
              refine Exec.inBlock ?_
              apply Exec.regionL te_ok
              · intro ops' Q hQ
                simp only [go_sem, hk, ha, w2]
                repeat (refine And.intro (by first | assumption | omega | (simp; done) | (simp; omega) | (intros; omega) | (simp_all; done) | (simp_all; omega)) ?_)
                exact hQ
              refine Exec.back (ih0 (i + 1) ?_ ?_) ?_ ?_ ?_ ?_ ?_ ?_ ?_
              · try simp only
                exact ⟨by omega, by rw [exsOk_take hi, hx.2]; simpa using h5⟩
              · try simp only
                omega
              · rfl
              · rfl
              · (simp only [go_sem, hk, ha, w2])
              · (simp only [go_sem, hk, ha, w2])
              · (simp only [go_sem, hk, ha, w2])
              · simp only [go_sem, hk, ha, w2]
              · rfl
          · skip
            refine Exec.exit rfl ?_
            refine Exec.seq ?_
            apply Exec.regionL te_ok
            · intro ops' Q hQ
              simp only [go_sem, hk]
              repeat (refine And.intro (by first | assumption | omega | (simp; done) | (simp; omega) | (intros; omega) | (simp_all; done) | (simp_all; omega)) ?_)
              exact hQ
            refine Exec.rets hR te_ok rfl rfl rfl (LeX.le ?_) (.inr ⟨_, rfl⟩)
            simp only [go_sem]
            rw [partR_2 hk2, decide_eq_true (by simp at h3; omega), show exsOk x.kids = true from by have := hx.2; rwa [List.take_of_length_le (by have := of_decide_eq_false h4; omega)] at this]; simp
    · skip
      refine Exec.seq ?_
      refine Exec.seq ?_
      apply Exec.regionL te_ok
      · intro ops' Q hQ
        simp only [go_sem, hk]
        repeat (refine And.intro (by first | assumption | omega | (simp; done) | (simp; omega) | (intros; omega) | (simp_all; done) | (simp_all; omega)) ?_)
        exact hQ
      apply Exec.join [1, 24] rfl
      case hx =>
        intro h6 hK
        refine Exec.skip ?_
        exact hK
      case hy =>
        intro h6 hK
        refine Exec.seq ?_
        apply Exec.regionL te_ok
        · intro ops' Q hQ
          simp only [go_sem, hk]
          repeat (refine And.intro (by first | assumption | omega | (simp; done) | (simp; omega) | (intros; omega) | (simp_all; done) | (simp_all; omega)) ?_)
          exact hQ
        apply Exec.join [1, 24] rfl
        case hx =>
          intro h7 hK
          refine Exec.skip ?_
          exact hK
        case hy =>
          intro h7 hK
          apply Exec.regionL te_ok
          · intro ops' Q hQ
            simp only [go_sem, hk]
            repeat (refine And.intro (by first | assumption | omega | (simp; done) | (simp; omega) | (intros; omega) | (simp_all; done) | (simp_all; omega)) ?_)
            exact hQ
          exact hK
        case hN => rfl
        case hdf => rfl
        case hF => simp only [go_sem]
        case hP => rfl
        apply Exec.norm
        · simp only [go_sem, hk]
          rfl
        exact hK
      case hN => rfl
      case hdf => rfl
      case hF => simp only [go_sem]
      case hP => rfl
      apply Exec.norm
      · simp only [go_sem, hk]
        rfl
      refine Exec.cond_split rfl (fun h8 => ?_) (fun h8 => ?_)
      · skip
        have hk4 := or46 h8
        refine Exec.seq ?_
        apply Exec.regionL te_ok
        · intro ops' Q hQ
          simp only [go_sem, hk]
          repeat (refine And.intro (by first | assumption | omega | (simp; done) | (simp; omega) | (intros; omega) | (simp_all; done) | (simp_all; omega)) ?_)
          exact hQ
        refine Exec.cond_split rfl (fun h9 => ?_) (fun h9 => ?_)
        · skip
          refine Exec.seq ?_
          apply Exec.regionL te_ok
          · intro ops' Q hQ
            simp only [go_sem, hk]
            repeat (refine And.intro (by first | assumption | omega | (simp; done) | (simp; omega) | (intros; omega) | (simp_all; done) | (simp_all; omega)) ?_)
            exact hQ
          refine Exec.rets hR te_ok rfl rfl rfl (LeX.le ?_) (.inr ⟨_, rfl⟩)
          simp only [go_sem]
          rw [partR_4 hk4, show (x.kids.length == 1) = false from by simp at h9 ⊢; omega]; rfl
        · skip
          refine Exec.skip ?_
          refine Exec.inBlock ?_
          refine Exec.seq ?_
          refine Exec.seq ?_
          apply Exec.regionL te_ok
          · intro ops' Q hQ
            simp only [go_sem, hk]
            repeat (refine And.intro (by first | assumption | omega | (simp; done) | (simp; omega) | (intros; omega) | (simp_all; done) | (simp_all; omega)) ?_)
            exact hQ
          refine Exec.block ?_
          apply Exec.loopU [1] (X := Nat) (fun i => [(3, .d (iv i))]) (fun i => []) (fun i => []) (fun i => x.kids.length - i) (fun i => i ≤ x.kids.length ∧ exsOk (x.kids.take i) = true) 0
          case h0 =>
            simp [exsOk]
          case hw =>
            simp only [go_sem, hk]
          case body =>
            rintro i hx ih1
            try simp only at hx
            apply Exec.norm
            · simp only [go_sem, hk]
              rfl
            refine Exec.seq ?_
            refine Exec.seq ?_
            apply Exec.regionL te_ok
            · intro ops' Q hQ
              simp only [go_sem, hk]
              repeat (refine And.intro (by first | assumption | omega | (simp; done) | (simp; omega) | (intros; omega) | (simp_all; done) | (simp_all; omega)) ?_)
              exact hQ
            refine Exec.cond_split rfl (fun h10 => ?_) (fun h10 => ?_)
            · skip
              have hi : i < x.kids.length := by have := of_decide_eq_true h10; omega
              have ha := kdR_at hi
              have w2 : IntKind.i64.wrap ((i : Int) + 1) = ((i + 1 : Nat) : Int) := by rw [wrap_id (by omega)]; omega
              refine Exec.skip ?_
              refine Exec.seq ?_
              refine Exec.block ?_
              refine Exec.seq ?_
              apply Exec.regionL te_ok
              · intro ops' Q hQ
                simp only [go_sem, hk, ha, w2]
                repeat (refine And.intro (by first | assumption | omega | (simp; done) | (simp; omega) | (intros; omega) | (simp_all; done) | (simp_all; omega)) ?_)
                refine kcall hR.inv te_ok rfl rfl rfl rfl rfl rfl (ihx _ (nth_mem hi)) ?_
                simp only [go_sem, hk, ha, w2]
                repeat (refine And.intro (by first | assumption | omega | (simp; done) | (simp; omega) | (intros; omega) | (simp_all; done) | (simp_all; omega)) ?_)
                exact hQ
              refine Exec.cond_split rfl (fun h11 => ?_) (fun h11 => ?_)
              · skip
                refine Exec.seq ?_
                apply Exec.regionL te_ok
                · intro ops' Q hQ
                  simp only [go_sem, hk, ha, w2]
                  repeat (refine And.intro (by first | assumption | omega | (simp; done) | (simp; omega) | (intros; omega) | (simp_all; done) | (simp_all; omega)) ?_)
                  exact hQ
                refine Exec.rets hR te_ok rfl rfl rfl (LeX.le ?_) (.inr ⟨_, rfl⟩)
                simp only [go_sem]
                rw [partR_4 hk4, exsOk_bad hi (by simpa using h11)]; simp
              · skip
                refine Exec.skip ?_
                refine Exec.inBlock ?_
                apply Exec.regionL te_ok
                · intro ops' Q hQ
                  simp only [go_sem, hk, ha, w2]
                  repeat (refine And.intro (by first | assumption | omega | (simp; done) | (simp; omega) | (intros; omega) | (simp_all; done) | (simp_all; omega)) ?_)
                  exact hQ
                refine Exec.back (ih1 (i + 1) ?_ ?_) ?_ ?_ ?_ ?_ ?_ ?_ ?_
                · try simp only
                  exact ⟨by omega, by rw [exsOk_take hi, hx.2]; simpa using h11⟩
                · try simp only
                  omega
                · rfl
                · rfl
                · (simp only [go_sem, hk, ha, w2])
                · (simp only [go_sem, hk, ha, w2])
                · (simp only [go_sem, hk, ha, w2])
                · simp only [go_sem, hk, ha, w2]
                · rfl
            · skip
              refine Exec.exit rfl ?_
              refine Exec.seq ?_
              apply Exec.regionL te_ok
              · intro ops' Q hQ
                simp only [go_sem, hk]
                repeat (refine And.intro (by first | assumption | omega | (simp; done) | (simp; omega) | (intros; omega) | (simp_all; done) | (simp_all; omega)) ?_)
                exact hQ
              refine Exec.rets hR te_ok rfl rfl rfl (LeX.le ?_) (.inr ⟨_, rfl⟩)
              simp only [go_sem]
              rw [partR_4 hk4, show (x.kids.length == 1) = true from by simp at h9 ⊢; omega, show exsOk x.kids = true from by have := hx.2; rwa [List.take_of_length_le (by have := of_decide_eq_false h10; omega)] at this]; simp
      · skip
        refine Exec.seq ?_
        apply Exec.regionL te_ok
        · intro ops' Q hQ
          simp only [go_sem, hk]
          repeat (refine And.intro (by first | assumption | omega | (simp; done) | (simp; omega) | (intros; omega) | (simp_all; done) | (simp_all; omega)) ?_)
          exact hQ
        refine Exec.rets hR te_ok rfl rfl rfl (LeX.le ?_) (.inr ⟨_, rfl⟩)
        simp only [go_sem]
        rw [partR_0 (by simpa using h0) (n23 h2) (n46 h8)]
theorem rpart_ok (x : Ex) (hfx : FitX x) : FnOK Laid Tryz.prog 97 [exD x] (bv (exOk x)) := by
  refine Ex.ind (p := fun x => FitX x → FnOK Laid Tryz.prog 97 [exD x] (bv (exOk x))) (fun x ih h => rpart_step x h fun y hy => ih y hy (h.y hy)) x hfx

theorem r7right_ok (x : Ex) (hfx : FitX x) (hx0 : x.size ≤ 1000000) : FnOK Laid Tryz.prog 49 [exD x] (bv (exRight x)) := by
  refine FnOK_of laid_stable Tryz.func49 Tryz.ntmps49 rfl (by as_aux_lemma => kernel_rfl) (Nat.le_of_ble_eq_true rfl) (fun R hR => ?_)
  obtain ⟨_, b, cs, T, C⟩ := R
  obtain rfl : _ = Tryz.prog := hR.p
  refine Exec.seq ?_
  apply Exec.regionL te_ok
  · intro ops' Q hQ
    simp only [go_sem]
    repeat (refine And.intro (by first | assumption | omega | (simp; done) | (simp; omega) | (intros; omega) | (simp_all; done) | (simp_all; omega)) ?_)
    exact hQ
  refine Exec.seq ?_
  apply Exec.regionL te_ok
  · intro ops' Q hQ
    simp only [go_sem]
    repeat (refine And.intro (by first | assumption | omega | (simp; done) | (simp; omega) | (intros; omega) | (simp_all; done) | (simp_all; omega)) ?_)
    refine kcall hR.inv te_ok rfl rfl rfl rfl rfl rfl (rsize_ok x hx0) ?_
    simp only [go_sem]
    repeat (refine And.intro (by first | assumption | omega | (simp; done) | (simp; omega) | (intros; omega) | (simp_all; done) | (simp_all; omega)) ?_)
    refine kcallG hR.inv te_ok rfl rfl rfl rfl rfl rfl (by simp only [go_sem] <;> (first | assumption | omega | (simp; done) | (simp; omega) | (intros; omega) | (simp_all; done) | (simp_all; omega))) (fun hq => rpart_ok x hfx) ?_
    simp only [go_sem]
    repeat (refine And.intro (by first | assumption | omega | (simp; done) | (simp; omega) | (intros; omega) | (simp_all; done) | (simp_all; omega)) ?_)
    exact hQ
  refine Exec.rets hR te_ok rfl rfl rfl (LeX.le ?_) (.inr ⟨_, rfl⟩)
  simp only [go_sem, exRight]
  have : decide ((x.size : Int) ≤ 24) = decide (x.size ≤ 24) := by rw [Bool.eq_iff_iff]; simp; omega
  rw [this]
theorem r7same_step (x y : Ex) (hx0 : x.kids.length ≤ 140737488355328) (ihx : ∀ x2 ∈ x.kids, ∀ y, FnOK Laid Tryz.prog 150 [exD x2, exD y] (bv (decide (x2 = y)))) : FnOK Laid Tryz.prog 150 [exD x, exD y] (bv (decide (x = y))) := by
  refine FnOK_of laid_stable Tryz.func150 Tryz.ntmps150 rfl (by as_aux_lemma => kernel_rfl) (Nat.le_of_ble_eq_true rfl) (fun R hR => ?_)
  obtain ⟨_, b, cs, T, C⟩ := R
  obtain rfl : _ = Tryz.prog := hR.p
  have hk := kd_eq x
  have hk2 := kd_eq y
  refine Exec.seq ?_
  apply Exec.regionL te_ok
  · intro ops' Q hQ
    simp only [go_sem, hk, hk2]
    repeat (refine And.intro (by first | assumption | omega | (simp; done) | (simp; omega) | (intros; omega) | (simp_all; done) | (simp_all; omega)) ?_)
    exact hQ
  refine Exec.seq ?_
  refine Exec.seq ?_
  apply Exec.regionL te_ok
  · intro ops' Q hQ
    simp only [go_sem, hk, hk2]
    repeat (refine And.intro (by first | assumption | omega | (simp; done) | (simp; omega) | (intros; omega) | (simp_all; done) | (simp_all; omega)) ?_)
    exact hQ
  refine Exec.cond_split rfl (fun h0 => ?_) (fun h0 => ?_)
  · skip
    refine Exec.seq ?_
    apply Exec.regionL te_ok
    · intro ops' Q hQ
      simp only [go_sem, hk, hk2]
      repeat (refine And.intro (by first | assumption | omega | (simp; done) | (simp; omega) | (intros; omega) | (simp_all; done) | (simp_all; omega)) ?_)
      exact hQ
    refine Exec.rets hR te_ok rfl rfl rfl (LeX.le ?_) (.inr ⟨_, rfl⟩)
    simp only [go_sem]
    have : x ≠ y := fun e => by subst e; simp at h0
    simp [this]
  · skip
    have hlm : x.k = y.k ∧ x.s = y.s ∧ x.kids.length = y.kids.length := by simp at h0; exact ⟨h0.1.1, h0.1.2, by omega⟩
    obtain ⟨he1, he2, hlm⟩ := hlm
    refine Exec.skip ?_
    refine Exec.seq ?_
    refine Exec.seq ?_
    apply Exec.regionL te_ok
    · intro ops' Q hQ
      simp only [go_sem, hk, hk2]
      repeat (refine And.intro (by first | assumption | omega | (simp; done) | (simp; omega) | (intros; omega) | (simp_all; done) | (simp_all; omega)) ?_)
      exact hQ
    refine Exec.block ?_
    apply Exec.loopU [2, 3] (X := Nat) (fun i => [(5, .d (iv i))]) (fun i => []) (fun i => []) (fun i => x.kids.length - i) (fun i => i ≤ x.kids.length ∧ x.kids.take i = y.kids.take i) 0
    case h0 =>
      simp
    case hw =>
      simp only [go_sem, hk, hk2]
    case body =>
      rintro i hx ih0
      try simp only at hx
      apply Exec.norm
      · simp only [go_sem, hk, hk2]
        rfl
      refine Exec.seq ?_
      refine Exec.seq ?_
      apply Exec.regionL te_ok
      · intro ops' Q hQ
        simp only [go_sem, hk, hk2]
        repeat (refine And.intro (by first | assumption | omega | (simp; done) | (simp; omega) | (intros; omega) | (simp_all; done) | (simp_all; omega)) ?_)
        exact hQ
      refine Exec.cond_split rfl (fun h1 => ?_) (fun h1 => ?_)
      · skip
        have hi : i < x.kids.length := by simp at h1; omega
        have ha := kdR_at hi
        have ha2 := kdR_at (show i < y.kids.length by omega)
        have w2 : IntKind.i64.wrap ((i : Int) + 1) = ((i + 1 : Nat) : Int) := by rw [wrap_id (by omega)]; omega
        refine Exec.skip ?_
        refine Exec.seq ?_
        refine Exec.block ?_
        refine Exec.seq ?_
        apply Exec.draw (st := _) 13 12 [] [] te_ok (by as_aux_lemma => kernel_rfl) (by as_aux_lemma => kernel_rfl) (by as_aux_lemma => kernel_rfl)
        · intro ops' Q hQ
          simp only [go_sem, hk, hk2, ha, ha2, w2]
          repeat (refine And.intro (by first | assumption | omega | (simp; done) | (simp; omega) | (intros; omega) | (simp_all; done) | (simp_all; omega)) ?_)
          refine kdcall hR.inv te_ok rfl rfl rfl rfl rfl rfl (ihx _ (nth_mem hi) _) ?_
          simp only [go_sem, hk, hk2, ha, ha2, w2]
          repeat (refine And.intro (by first | assumption | omega | (simp; done) | (simp; omega) | (intros; omega) | (simp_all; done) | (simp_all; omega)) ?_)
          exact hQ
        refine Exec.cond_split rfl (fun h2 => ?_) (fun h2 => ?_)
        · skip
          refine Exec.seq ?_
          apply Exec.regionL te_ok
          · intro ops' Q hQ
            simp only [go_sem, hk, hk2, ha, ha2, w2]
            repeat (refine And.intro (by first | assumption | omega | (simp; done) | (simp; omega) | (intros; omega) | (simp_all; done) | (simp_all; omega)) ?_)
            exact hQ
          refine Exec.rets hR te_ok rfl rfl rfl (LeX.le ?_) (.inr ⟨_, rfl⟩)
          simp only [go_sem]
          have : x ≠ y := fun e => by subst e; simp at h2
          simp [this]
        · skip
          refine Exec.skip ?_
          refine Exec.inBlock ?_
          apply Exec.regionL te_ok
          · intro ops' Q hQ
            simp only [go_sem, hk, hk2, ha, ha2, w2]
            repeat (refine And.intro (by first | assumption | omega | (simp; done) | (simp; omega) | (intros; omega) | (simp_all; done) | (simp_all; omega)) ?_)
            exact hQ
          refine Exec.back (ih0 (i + 1) ?_ ?_) ?_ ?_ ?_ ?_ ?_ ?_ ?_
          · try simp only
            exact ⟨by omega, (same_step hlm hi hx.2).2 (by simpa using h2)⟩
          · try simp only
            omega
          · rfl
          · rfl
          · (simp only [go_sem, hk, hk2, ha, ha2, w2])
          · (simp only [go_sem, hk, hk2, ha, ha2, w2])
          · (simp only [go_sem, hk, hk2, ha, ha2, w2])
          · simp only [go_sem, hk, hk2, ha, ha2, w2]
          · rfl
      · skip
        refine Exec.exit rfl ?_
        refine Exec.seq ?_
        apply Exec.regionL te_ok
        · intro ops' Q hQ
          simp only [go_sem, hk, hk2]
          repeat (refine And.intro (by first | assumption | omega | (simp; done) | (simp; omega) | (intros; omega) | (simp_all; done) | (simp_all; omega)) ?_)
          exact hQ
        refine Exec.rets hR te_ok rfl rfl rfl (LeX.le ?_) (.inr ⟨_, rfl⟩)
        simp only [go_sem]
        have : x = y := Ex.ext he1 he2 (by have := hx.2; simp at h1; rw [List.take_of_length_le (by omega), List.take_of_length_le (by omega)] at this; exact this)
        simp [this]
theorem r7same_ok (x y : Ex) (hfx : FitX x) : FnOK Laid Tryz.prog 150 [exD x, exD y] (bv (decide (x = y))) := by
  refine Ex.ind (p := fun x => FitX x → ∀ y, FnOK Laid Tryz.prog 150 [exD x, exD y] (bv (decide (x = y)))) (fun x ih h y => r7same_step x y h.k fun x2 h2 => ih x2 h2 (h.y h2)) x hfx y

theorem eqf_ok (l m : List Ex) (hl : l.length ≤ 140737488355328) (ihx : ∀ x ∈ l, ∀ y, FnOK Laid Tryz.prog 37 [exD x, exD y] (bv (decide (x = y)))) : FnOK Laid Tryz.prog 77 [exsD l, exsD m, .fn 37 []] (bv (decide (l = m))) := by
  refine FnOK_of laid_stable Tryz.func77 Tryz.ntmps77 rfl (by as_aux_lemma => kernel_rfl) (Nat.le_of_ble_eq_true rfl) (fun R hR => ?_)
  obtain ⟨_, b, cs, T, C⟩ := R
  obtain rfl : _ = Tryz.prog := hR.p
  refine Exec.seq ?_
  apply Exec.regionL te_ok
  · intro ops' Q hQ
    simp only [go_sem]
    repeat (refine And.intro (by first | assumption | omega | (simp; done) | (simp; omega) | (intros; omega) | (simp_all; done) | (simp_all; omega)) ?_)
    exact hQ
  refine Exec.seq ?_
  refine Exec.seq ?_
  apply Exec.regionL te_ok
  · intro ops' Q hQ
    simp only [go_sem]
    repeat (refine And.intro (by first | assumption | omega | (simp; done) | (simp; omega) | (intros; omega) | (simp_all; done) | (simp_all; omega)) ?_)
    exact hQ
  refine Exec.cond_split rfl (fun h0 => ?_) (fun h0 => ?_)
  · skip
    refine Exec.seq ?_
    apply Exec.regionL te_ok
    · intro ops' Q hQ
      simp only [go_sem]
      repeat (refine And.intro (by first | assumption | omega | (simp; done) | (simp; omega) | (intros; omega) | (simp_all; done) | (simp_all; omega)) ?_)
      exact hQ
    refine Exec.rets hR te_ok rfl rfl rfl (LeX.le ?_) (.inr ⟨_, rfl⟩)
    simp only [go_sem]
    have : l ≠ m := fun e => by subst e; simp at h0
    simp [this]
  · skip
    have hlm : l.length = m.length := by simp at h0; omega
    refine Exec.skip ?_
    refine Exec.seq ?_
    refine Exec.seq ?_
    apply Exec.regionL te_ok
    · intro ops' Q hQ
      simp only [go_sem]
      repeat (refine And.intro (by first | assumption | omega | (simp; done) | (simp; omega) | (intros; omega) | (simp_all; done) | (simp_all; omega)) ?_)
      exact hQ
    refine Exec.block ?_
    apply Exec.loopU [1, 2, 15, 16] (X := Nat) (fun i => [(17, .d (iv i))]) (fun i => []) (fun i => []) (fun i => l.length - i) (fun i => i ≤ l.length ∧ l.take i = m.take i) 0
    case h0 =>
      simp
    case hw =>
      simp only [go_sem]
    case body =>
      rintro i hx ih0
      try simp only at hx
      apply Exec.norm
      · simp only [go_sem]
        rfl
      refine Exec.seq ?_
      apply Exec.regionL te_ok
      · intro ops' Q hQ
        simp only [go_sem]
        repeat (refine And.intro (by first | assumption | omega | (simp; done) | (simp; omega) | (intros; omega) | (simp_all; done) | (simp_all; omega)) ?_)
        exact hQ
      refine Exec.seq ?_
      refine Exec.cond_split rfl (fun h1 => ?_) (fun h1 => ?_)
      · skip
        have hi : i < l.length := by simp at h1; omega
        have ha := kdR_at hi
        have ha2 := kdR_at (show i < m.length by omega)
        have w2 : IntKind.i64.wrap ((i : Int) + 1) = ((i + 1 : Nat) : Int) := by rw [wrap_id (by omega)]; omega
        refine Exec.skip ?_
        refine Exec.seq ?_
        refine Exec.block ?_
        refine Exec.seq ?_
        apply Exec.regionL te_ok
        · intro ops' Q hQ
          simp only [go_sem, ha, ha2, w2]
          repeat (refine And.intro (by first | assumption | omega | (simp; done) | (simp; omega) | (intros; omega) | (simp_all; done) | (simp_all; omega)) ?_)
          exact hQ
        refine Exec.seq ?_
        apply Exec.regionL te_ok
        · intro ops' Q hQ
          simp only [go_sem, ha, ha2, w2]
          repeat (refine And.intro (by first | assumption | omega | (simp; done) | (simp; omega) | (intros; omega) | (simp_all; done) | (simp_all; omega)) ?_)
          exact hQ
        refine Exec.seq ?_
        apply Exec.regionL te_ok
        · intro ops' Q hQ
          simp only [go_sem, ha, ha2, w2]
          repeat (refine And.intro (by first | assumption | omega | (simp; done) | (simp; omega) | (intros; omega) | (simp_all; done) | (simp_all; omega)) ?_)
          refine kcall hR.inv te_ok rfl rfl rfl rfl rfl rfl (ihx _ (nth_mem hi) _) ?_
          simp only [go_sem, ha, ha2, w2]
          repeat (refine And.intro (by first | assumption | omega | (simp; done) | (simp; omega) | (intros; omega) | (simp_all; done) | (simp_all; omega)) ?_)
          exact hQ
        refine Exec.cond_split rfl (fun h2 => ?_) (fun h2 => ?_)
        · skip
          refine Exec.seq ?_
          apply Exec.regionL te_ok
          · intro ops' Q hQ
            simp only [go_sem, ha, ha2, w2]
            repeat (refine And.intro (by first | assumption | omega | (simp; done) | (simp; omega) | (intros; omega) | (simp_all; done) | (simp_all; omega)) ?_)
            exact hQ
          refine Exec.rets hR te_ok rfl rfl rfl (LeX.le ?_) (.inr ⟨_, rfl⟩)
          simp only [go_sem]
          have : l ≠ m := fun e => by subst e; simp at h2
          simp [this]
        · skip
          refine Exec.skip ?_
          refine Exec.inBlock ?_
          apply Exec.regionL te_ok
          · intro ops' Q hQ
            simp only [go_sem, ha, ha2, w2]
            repeat (refine And.intro (by first | assumption | omega | (simp; done) | (simp; omega) | (intros; omega) | (simp_all; done) | (simp_all; omega)) ?_)
            exact hQ
          refine Exec.back (ih0 (i + 1) ?_ ?_) ?_ ?_ ?_ ?_ ?_ ?_ ?_
          · try simp only
            exact ⟨by omega, (same_step hlm hi hx.2).2 (by simpa using h2)⟩
          · try simp only
            omega
          · rfl
          · rfl
          · (simp only [go_sem, ha, ha2, w2])
          · (simp only [go_sem, ha, ha2, w2])
          · (simp only [go_sem, ha, ha2, w2])
          · simp only [go_sem, ha, ha2, w2]
          · rfl
      · skip
        refine Exec.exit rfl ?_
        refine Exec.seq ?_
        apply Exec.regionL te_ok
        · intro ops' Q hQ
          simp only [go_sem]
          repeat (refine And.intro (by first | assumption | omega | (simp; done) | (simp; omega) | (intros; omega) | (simp_all; done) | (simp_all; omega)) ?_)
          exact hQ
        refine Exec.rets hR te_ok rfl rfl rfl (LeX.le ?_) (.inr ⟨_, rfl⟩)
        simp only [go_sem]
        have : l = m := by have := hx.2; simp at h1; rw [List.take_of_length_le (by omega), List.take_of_length_le (by omega)] at this; exact this
        simp [this]
theorem xsame_step (x y : Ex) (hx0 : x.kids.length ≤ 140737488355328) (ihx : ∀ x2 ∈ x.kids, ∀ y, FnOK Laid Tryz.prog 37 [exD x2, exD y] (bv (decide (x2 = y)))) : FnOK Laid Tryz.prog 37 [exD x, exD y] (bv (decide (x = y))) := by
  refine FnOK_of laid_stable Tryz.func37 Tryz.ntmps37 rfl (by as_aux_lemma => kernel_rfl) (Nat.le_of_ble_eq_true rfl) (fun R hR => ?_)
  obtain ⟨_, b, cs, T, C⟩ := R
  obtain rfl : _ = Tryz.prog := hR.p
  have hk := kd_eq x
  have hk2 := kd_eq y
  refine Exec.seq ?_
  apply Exec.regionL te_ok
  · intro ops' Q hQ
    simp only [go_sem, hk, hk2]
    repeat (refine And.intro (by first | assumption | omega | (simp; done) | (simp; omega) | (intros; omega) | (simp_all; done) | (simp_all; omega)) ?_)
    exact hQ
  refine Exec.seq ?_
  apply Exec.regionL te_ok
  · intro ops' Q hQ
    simp only [go_sem, hk, hk2]
    repeat (refine And.intro (by first | assumption | omega | (simp; done) | (simp; omega) | (intros; omega) | (simp_all; done) | (simp_all; omega)) ?_)
    refine kcallG hR.inv te_ok rfl rfl rfl rfl rfl rfl (by simp only [go_sem] <;> (first | assumption | omega | (simp; done) | (simp; omega) | (intros; omega) | (simp_all; done) | (simp_all; omega))) (fun hq => eqf_ok x.kids y.kids hx0 ihx) ?_
    simp only [go_sem, hk, hk2]
    repeat (refine And.intro (by first | assumption | omega | (simp; done) | (simp; omega) | (intros; omega) | (simp_all; done) | (simp_all; omega)) ?_)
    exact hQ
  refine Exec.rets hR te_ok rfl rfl rfl (LeX.le ?_) (.inr ⟨_, rfl⟩)
  simp only [go_sem]
  rw [← ex_eq]
  cases (x.k == y.k) <;> cases (x.s == y.s) <;> simp
theorem xsame_ok (x y : Ex) (hfx : FitX x) : FnOK Laid Tryz.prog 37 [exD x, exD y] (bv (decide (x = y))) := by
  refine Ex.ind (p := fun x => FitX x → ∀ y, FnOK Laid Tryz.prog 37 [exD x, exD y] (bv (decide (x = y)))) (fun x ih h y => xsame_step x y h.k fun x2 h2 => ih x2 h2 (h.y h2)) x hfx y

end Go.Proofs.YtmnponhhmkdcdaaGreatDoor
