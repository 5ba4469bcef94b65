/- Contracts of functions of the seat, walked. -/
import Derived.Test.YtlcpglkbllhokaaM4
namespace Go.Proofs.Ytlcpglkbllhokaa
open Go.Kin
set_option linter.unusedSimpArgs false
set_option linter.unusedVariables false
set_option maxRecDepth 100000
set_option maxHeartbeats 0
def smallT : List Int := [-9223372036854775808, -1, 0, 1, 2, 5, 1099511627775, 1099511627776, 1099511627777, 9223372036854775807]
theorem smallT_len : smallT.length = 10 := rfl
theorem smallT_i64 : ∀ x ∈ smallT, I64 x := by unfold smallT I64; decide
theorem lst_row {α : Type} [Inhabited α] (f : α → List D) (l : List α) {i : Nat} (h : i < l.length) : lstR (l.map f) i = f (nth l i) := by
  simp [lstR, nth, List.getD_eq_getElem?_getD, List.getElem?_map, List.getElem?_eq_getElem h]
theorem lst_le {α : Type} [Inhabited α] (f : α → List D) (l : List α) (k : Nat) : LeD (.sl k l.length l.length (lstR (l.map f))) (.sl k l.length l.length fun i => f (nth l i)) :=
  LeD.slice (Nat.le_refl _) (Nat.le_refl _) fun _ hi => lst_row f l hi
abbrev dd (x : Bool × Int) : List D := [.v (.bool x.1), iv x.2]
abbrev di (x : Int) : List D := [iv x]
theorem does_lit {late : Int} (hl : I64 late) (l : List (Bool × Int)) (hll : ∀ x ∈ l, I64 x.2) (hlen : l.length ≤ topLen) : FnOK Try.prog 5 [iv late, .sl 2 l.length l.length (lstR (l.map dd))] (.v (.bool true)) :=
  (does_ok hl l hll hlen).args ⟨LeD.refl _, lst_le dd l 2, trivial⟩
theorem alls_lit {late t : Int} (hl : I64 late) (ht : I64 t) (l : List Int) (hls : ∀ x ∈ l, I64 x) (hlen : l.length ≤ topLen) : FnOK Try.prog 6 [iv late, iv t, .sl 1 l.length l.length (lstR (l.map di))] (.v (.bool true)) :=
  (alls_ok hl ht l hls hlen).args ⟨LeD.refl _, LeD.refl _, lst_le di l 1, trivial⟩
def smDs (i : Nat) : List (Bool × Int) := [(false, nth smallT (i % 10)), ((i : Int).tmod 2 == 0, nth smallT (i / 10 % 10)), (false, nth smallT (i / 10 % 10)), ((i : Int).tmod 3 == 0, nth smallT (i / 100)), (false, nth smallT (i % 10)), (false, nth smallT (i / 100)), (true, nth smallT (i % 10))]
def smLs (i : Nat) : List Int := [nth smallT (i / 100), nth smallT (i % 10), nth smallT (i / 10 % 10), 7, nth smallT (i / 100)]
def smMs (i : Nat) : List Int := [((i / 36 : Nat) : Int), 6 - ((i % 7 : Nat) : Int), ((i % 5 : Nat) : Int), ((i % 4 : Nat) : Int), 3 + ((i / 36 : Nat) : Int)]

theorem all_nil (is : Bool) (late n : Int) : FnOK Try.prog 19 [mk3 is late n, .v .nilFunc] (mk3 is late n) := by
  refine FnOK_of Try.func19 Try.ntmps19 rfl (by as_aux_lemma => kernel_rfl) (Nat.le_of_ble_eq_true rfl) (fun R hR => ?_)
  obtain ⟨_, b, cs, T, C⟩ := R
  obtain rfl : _ = Try.prog := hR.p
  refine Exec.seq ?_
  apply Exec.regionL te_ok
  · intro ops' Q hQ
    simp only [go_sem]
    repeat (refine And.intro (by first | assumption | omega | (simp; done) | (simp; omega) | (intros; omega) | (simp_all; done) | (simp_all; omega)) ?_)
    exact hQ
  refine Exec.scope ?_
  refine Exec.seq ?_
  refine Exec.seq ?_
  apply Exec.regionL te_ok
  · intro ops' Q hQ
    simp only [go_sem]
    repeat (refine And.intro (by first | assumption | omega | (simp; done) | (simp; omega) | (intros; omega) | (simp_all; done) | (simp_all; omega)) ?_)
    exact hQ
  refine Exec.cond (t := true) rfl ?_
  simp only [reduceIte, Bool.false_eq_true]
  refine Exec.seq ?_
  apply Exec.regionL te_ok
  · intro ops' Q hQ
    simp only [go_sem]
    repeat (refine And.intro (by first | assumption | omega | (simp; done) | (simp; omega) | (intros; omega) | (simp_all; done) | (simp_all; omega)) ?_)
    exact hQ
  refine Exec.rets hR te_ok rfl rfl rfl (LeX.le ?_) (.inr ⟨_, rfl⟩)
  simp only [go_sem]
theorem small_ok  : FnOK Try.prog 7 [] (.v (.bool true)) := by
  refine FnOK_of Try.func7 Try.ntmps7 rfl (by as_aux_lemma => kernel_rfl) (Nat.le_of_ble_eq_true rfl) (fun R hR => ?_)
  obtain ⟨_, b, cs, T, C⟩ := R
  obtain rfl : _ = Try.prog := hR.p
  have h3 : I64 3 := by constructor <;> omega
  refine Exec.seq ?_
  apply Exec.regionL te_ok
  · intro ops' Q hQ
    simp only [go_sem]
    repeat (refine And.intro (by first | assumption | omega | (simp; done) | (simp; omega) | (intros; omega) | (simp_all; done) | (simp_all; omega)) ?_)
    exact hQ
  refine Exec.seq ?_
  apply Exec.regionL te_ok
  · intro ops' Q hQ
    simp only [go_sem]
    repeat (refine And.intro (by first | assumption | omega | (simp; done) | (simp; omega) | (intros; omega) | (simp_all; done) | (simp_all; omega)) ?_)
    exact hQ
  refine Exec.seq ?_
  refine Exec.seq ?_
  apply Exec.freeze 13 rfl
  apply Exec.norm
  · simp only [go_sem]
    rfl
  apply Exec.regionL te_ok
  · intro ops' Q hQ
    simp only [go_sem]
    repeat (refine And.intro (by first | assumption | omega | (simp; done) | (simp; omega) | (intros; omega) | (simp_all; done) | (simp_all; omega)) ?_)
    exact hQ
  refine Exec.block ?_
  apply Exec.loopU [] (X := Nat) (fun i => [(2, .d (iv i)), (1, .d (intsD smallT))]) (fun i => []) (fun i => []) (fun i => 1000 - i) (fun i => i ≤ 1000) 0
  case h0 =>
    first | assumption | omega | (simp; done) | (simp; omega) | (intros; omega) | (simp_all; done) | (simp_all; omega)
  case hw =>
    simp only [go_sem, smallT_len]; exact fun i hi => lst_row di smallT hi
  case body =>
    rintro i hx ih0
    try simp only at hx
    apply Exec.norm
    · simp only [go_sem]
      rfl
    refine Exec.seq ?_
    refine Exec.seq ?_
    apply Exec.regionL te_ok
    · intro ops' Q hQ
      simp only [go_sem]
      repeat (refine And.intro (by first | assumption | omega | (simp; done) | (simp; omega) | (intros; omega) | (simp_all; done) | (simp_all; omega)) ?_)
      exact hQ
    refine Exec.cond_split rfl (fun h0 => ?_) (fun h0 => ?_)
    · skip
      have hi : i < 1000 := by simp at h0; omega
      have e1 : (i : Int).tmod 10 = ((i % 10 : Nat) : Int) := rfl
      have e2 : (i : Int).tdiv 10 = ((i / 10 : Nat) : Int) := rfl
      have e2w : IntKind.i64.wrap ((i / 10 : Nat) : Int) = ((i / 10 : Nat) : Int) := wrap_id (by constructor <;> omega)
      have e3 : ((i / 10 : Nat) : Int).tmod 10 = ((i / 10 % 10 : Nat) : Int) := rfl
      have e4 : (i : Int).tdiv 100 = ((i / 100 : Nat) : Int) := rfl
      have e4w : IntKind.i64.wrap ((i / 100 : Nat) : Int) = ((i / 100 : Nat) : Int) := wrap_id (by constructor <;> omega)
      have e5 : (i : Int).tmod 4 = ((i % 4 : Nat) : Int) := rfl
      have ha := smallT_i64 _ (nth_mem (l := smallT) (i := i % 10) (by rw [smallT_len]; omega))
      have hb := smallT_i64 _ (nth_mem (l := smallT) (i := i / 10 % 10) (by rw [smallT_len]; omega))
      have hc := smallT_i64 _ (nth_mem (l := smallT) (i := i / 100) (by rw [smallT_len]; omega))
      have h4 : I64 ((i % 4 : Nat) : Int) := by constructor <;> omega
      have hwi : IntKind.i64.wrap ((i : Int) + 1) = ((i + 1 : Nat) : Int) := by rw [wrap_id (by constructor <;> omega)]; simp
      have hds : ∀ x ∈ smDs i, I64 x.2 := by simp only [smDs, List.forall_mem_cons]; exact ⟨ha, hb, hb, hc, ha, hc, ha, fun x h => (by cases h)⟩
      have h7 : I64 7 := by constructor <;> omega
      have hls : ∀ x ∈ smLs i, I64 x := by simp only [smLs, List.forall_mem_cons]; exact ⟨hc, ha, hb, h7, hc, fun x h => (by cases h)⟩
      refine Exec.skip ?_
      refine Exec.seq ?_
      refine Exec.block ?_
      refine Exec.seq ?_
      apply Exec.draw (st := _) 20 19 [] [] te_ok (by as_aux_lemma => kernel_rfl) (by as_aux_lemma => kernel_rfl) (by as_aux_lemma => kernel_rfl)
      · intro ops' Q hQ
        simp only [go_sem, e1, e2, e2w, e3, e4, e4w, e5, hwi, smallT_len]
        repeat (refine And.intro (by first | assumption | omega | (simp; done) | (simp; omega) | (intros; omega) | (simp_all; done) | (simp_all; omega)) ?_)
        exact hQ
      refine Exec.seq ?_
      apply Exec.regionL te_ok
      · intro ops' Q hQ
        simp only [go_sem, e1, e2, e2w, e3, e4, e4w, e5, hwi, smallT_len]
        repeat (refine And.intro (by first | assumption | omega | (simp; done) | (simp; omega) | (intros; omega) | (simp_all; done) | (simp_all; omega)) ?_)
        exact hQ
      refine Exec.seq ?_
      apply Exec.freeze 54 rfl
      apply Exec.norm
      · simp only [go_sem]
        rfl
      apply Exec.regionL te_ok
      · intro ops' Q hQ
        simp only [go_sem, e1, e2, e2w, e3, e4, e4w, e5, hwi, smallT_len]
        repeat (refine And.intro (by first | assumption | omega | (simp; done) | (simp; omega) | (intros; omega) | (simp_all; done) | (simp_all; omega)) ?_)
        refine kcall te_ok rfl rfl rfl rfl rfl rfl (does_lit hc (smDs i) hds (by simp [smDs, topLen])) ?_
        simp only [go_sem, e1, e2, e2w, e3, e4, e4w, e5, hwi, smallT_len]
        repeat (refine And.intro (by first | assumption | omega | (simp; done) | (simp; omega) | (intros; omega) | (simp_all; done) | (simp_all; omega)) ?_)
        refine kcallG te_ok rfl rfl rfl rfl rfl rfl (by simp only [go_sem] <;> (first | assumption | omega | (simp; done) | (simp; omega) | (intros; omega) | (simp_all; done) | (simp_all; omega))) (fun hq => does_lit h4 (smDs i) hds (by simp [smDs, topLen])) ?_
        simp only [go_sem, e1, e2, e2w, e3, e4, e4w, e5, hwi, smallT_len]
        repeat (refine And.intro (by first | assumption | omega | (simp; done) | (simp; omega) | (intros; omega) | (simp_all; done) | (simp_all; omega)) ?_)
        refine kun te_ok [67, 68, 69, 70, 71, 72] (by simp only [go_sem, e1, e2, e2w, e3, e4, e4w, e5, hwi, smallT_len]; rfl) ?_
        simp only [go_sem, e1, e2, e2w, e3, e4, e4w, e5, hwi, smallT_len]
        repeat (refine And.intro (by first | assumption | omega | (simp; done) | (simp; omega) | (intros; omega) | (simp_all; done) | (simp_all; omega)) ?_)
        refine kfreeze 73 rfl (by simp only [go_sem, e1, e2, e2w, e3, e4, e4w, e5, hwi, smallT_len]; rfl) ?_
        refine kcallG te_ok rfl rfl rfl rfl rfl rfl (by simp only [go_sem] <;> (first | assumption | omega | (simp; done) | (simp; omega) | (intros; omega) | (simp_all; done) | (simp_all; omega))) (fun hq => alls_lit ha hb (smLs i) hls (by simp [smLs, topLen])) ?_
        simp only [go_sem, e1, e2, e2w, e3, e4, e4w, e5, hwi, smallT_len]
        repeat (refine And.intro (by first | assumption | omega | (simp; done) | (simp; omega) | (intros; omega) | (simp_all; done) | (simp_all; omega)) ?_)
        exact hQ
      refine Exec.cond (t := false) rfl ?_
      simp only [reduceIte, Bool.false_eq_true]
      refine Exec.skip ?_
      refine Exec.inBlock ?_
      apply Exec.regionL te_ok
      · intro ops' Q hQ
        simp only [go_sem, e1, e2, e2w, e3, e4, e4w, e5, hwi, smallT_len]
        repeat (refine And.intro (by first | assumption | omega | (simp; done) | (simp; omega) | (intros; omega) | (simp_all; done) | (simp_all; omega)) ?_)
        exact hQ
      refine Exec.back (ih0 (i + 1) ?_ ?_) ?_ ?_ ?_ ?_ ?_ ?_ ?_
      · try simp only
        omega
      · try simp only
        omega
      · rfl
      · rfl
      · (simp only [go_sem, e1, e2, e2w, e3, e4, e4w, e5, hwi, smallT_len])
      · (simp only [go_sem, e1, e2, e2w, e3, e4, e4w, e5, hwi, smallT_len])
      · (simp only [go_sem, e1, e2, e2w, e3, e4, e4w, e5, hwi, smallT_len])
      · simp only [go_sem, e1, e2, e2w, e3, e4, e4w, e5, hwi, smallT_len]
      · rfl
    · skip
      refine Exec.exit rfl ?_
      refine Exec.seq ?_
      refine Exec.seq ?_
      apply Exec.regionL te_ok
      · intro ops' Q hQ
        simp only [go_sem]
        repeat (refine And.intro (by first | assumption | omega | (simp; done) | (simp; omega) | (intros; omega) | (simp_all; done) | (simp_all; omega)) ?_)
        exact hQ
      refine Exec.block ?_
      apply Exec.loopU [] (X := Nat) (fun i => [(7, .d (iv i))]) (fun i => []) (fun i => []) (fun i => 216 - i) (fun i => i ≤ 216) 0
      case h0 =>
        first | assumption | omega | (simp; done) | (simp; omega) | (intros; omega) | (simp_all; done) | (simp_all; omega)
      case hw =>
        simp only [go_sem]
      case body =>
        rintro i hx ih1
        try simp only at hx
        apply Exec.norm
        · simp only [go_sem]
          rfl
        refine Exec.seq ?_
        refine Exec.seq ?_
        apply Exec.regionL te_ok
        · intro ops' Q hQ
          simp only [go_sem]
          repeat (refine And.intro (by first | assumption | omega | (simp; done) | (simp; omega) | (intros; omega) | (simp_all; done) | (simp_all; omega)) ?_)
          exact hQ
        refine Exec.cond_split rfl (fun h2 => ?_) (fun h2 => ?_)
        · skip
          have hi : i < 216 := by simp at h2; omega
          have e1 : (i : Int).tmod 6 = ((i % 6 : Nat) : Int) := rfl
          have e2 : (i : Int).tdiv 6 = ((i / 6 : Nat) : Int) := rfl
          have e2w : IntKind.i64.wrap ((i / 6 : Nat) : Int) = ((i / 6 : Nat) : Int) := wrap_id (by constructor <;> omega)
          have e3 : ((i / 6 : Nat) : Int).tmod 6 = ((i / 6 % 6 : Nat) : Int) := rfl
          have e3w : IntKind.i64.wrap (((i / 6 % 6 : Nat) : Int) - 1) = ((i / 6 % 6 : Nat) : Int) - 1 := wrap_id (by constructor <;> omega)
          have e4 : (i : Int).tdiv 36 = ((i / 36 : Nat) : Int) := rfl
          have e4w : IntKind.i64.wrap ((i / 36 : Nat) : Int) = ((i / 36 : Nat) : Int) := wrap_id (by constructor <;> omega)
          have e5 : (i : Int).tmod 7 = ((i % 7 : Nat) : Int) := rfl
          have e5w : IntKind.i64.wrap (6 - ((i % 7 : Nat) : Int)) = 6 - ((i % 7 : Nat) : Int) := wrap_id (by constructor <;> omega)
          have e6 : (i : Int).tmod 5 = ((i % 5 : Nat) : Int) := rfl
          have e7 : (i : Int).tmod 4 = ((i % 4 : Nat) : Int) := rfl
          have e8w : IntKind.i64.wrap (3 + ((i / 36 : Nat) : Int)) = 3 + ((i / 36 : Nat) : Int) := wrap_id (by constructor <;> omega)
          have g1 : I64 ((i % 6 : Nat) : Int) := by constructor <;> omega
          have g2 : I64 (((i / 6 % 6 : Nat) : Int) - 1) := by constructor <;> omega
          have hms : ∀ x ∈ smMs i, I64 x := by intro x hx; simp only [smMs, List.mem_cons, List.not_mem_nil, or_false] at hx; rcases hx with rfl | rfl | rfl | rfl | rfl <;> constructor <;> omega
          have hwi : IntKind.i64.wrap ((i : Int) + 1) = ((i + 1 : Nat) : Int) := by rw [wrap_id (by constructor <;> omega)]; simp
          refine Exec.skip ?_
          refine Exec.seq ?_
          refine Exec.block ?_
          refine Exec.seq ?_
          apply Exec.regionL te_ok
          · intro ops' Q hQ
            simp only [go_sem, e1, e2, e2w, e3, e3w, e4, e4w, e5, e5w, e6, e7, e8w, hwi]
            repeat (refine And.intro (by first | assumption | omega | (simp; done) | (simp; omega) | (intros; omega) | (simp_all; done) | (simp_all; omega)) ?_)
            refine kfreeze 99 rfl (by simp only [go_sem, e1, e2, e2w, e3, e3w, e4, e4w, e5, e5w, e6, e7, e8w, hwi]; rfl) ?_
            refine kcall te_ok rfl rfl rfl rfl rfl rfl (alls_lit g1 g2 (smMs i) hms (by simp [smMs, topLen])) ?_
            simp only [go_sem, e1, e2, e2w, e3, e3w, e4, e4w, e5, e5w, e6, e7, e8w, hwi]
            repeat (refine And.intro (by first | assumption | omega | (simp; done) | (simp; omega) | (intros; omega) | (simp_all; done) | (simp_all; omega)) ?_)
            exact hQ
          refine Exec.cond (t := false) rfl ?_
          simp only [reduceIte, Bool.false_eq_true]
          refine Exec.skip ?_
          refine Exec.inBlock ?_
          apply Exec.regionL te_ok
          · intro ops' Q hQ
            simp only [go_sem, e1, e2, e2w, e3, e3w, e4, e4w, e5, e5w, e6, e7, e8w, hwi]
            repeat (refine And.intro (by first | assumption | omega | (simp; done) | (simp; omega) | (intros; omega) | (simp_all; done) | (simp_all; omega)) ?_)
            exact hQ
          refine Exec.back (ih1 (i + 1) ?_ ?_) ?_ ?_ ?_ ?_ ?_ ?_ ?_
          · try simp only
            omega
          · try simp only
            omega
          · rfl
          · rfl
          · (simp only [go_sem, e1, e2, e2w, e3, e3w, e4, e4w, e5, e5w, e6, e7, e8w, hwi])
          · (simp only [go_sem, e1, e2, e2w, e3, e3w, e4, e4w, e5, e5w, e6, e7, e8w, hwi])
          · (simp only [go_sem, e1, e2, e2w, e3, e3w, e4, e4w, e5, e5w, e6, e7, e8w, hwi])
          · simp only [go_sem, e1, e2, e2w, e3, e3w, e4, e4w, e5, e5w, e6, e7, e8w, hwi]
          · rfl
        · skip
          refine Exec.exit rfl ?_
          refine Exec.seq ?_
          apply Exec.regionL te_ok
          · intro ops' Q hQ
            simp only [go_sem]
            repeat (refine And.intro (by first | assumption | omega | (simp; done) | (simp; omega) | (intros; omega) | (simp_all; done) | (simp_all; omega)) ?_)
            exact hQ
          refine Exec.seq ?_
          apply Exec.regionL te_ok
          · intro ops' Q hQ
            simp only [go_sem]
            repeat (refine And.intro (by first | assumption | omega | (simp; done) | (simp; omega) | (intros; omega) | (simp_all; done) | (simp_all; omega)) ?_)
            refine kcall te_ok rfl rfl rfl rfl rfl rfl (edge_ok _ _ _ (by assumption)) ?_
            simp only [go_sem]
            repeat (refine And.intro (by first | assumption | omega | (simp; done) | (simp; omega) | (intros; omega) | (simp_all; done) | (simp_all; omega)) ?_)
            exact hQ
          refine Exec.seq ?_
          apply Exec.regionL te_ok
          · intro ops' Q hQ
            simp only [go_sem]
            repeat (refine And.intro (by first | assumption | omega | (simp; done) | (simp; omega) | (intros; omega) | (simp_all; done) | (simp_all; omega)) ?_)
            refine kcall te_ok rfl rfl rfl rfl rfl rfl (point_ok _ _ _ (by assumption)) ?_
            simp only [go_sem]
            repeat (refine And.intro (by first | assumption | omega | (simp; done) | (simp; omega) | (intros; omega) | (simp_all; done) | (simp_all; omega)) ?_)
            exact hQ
          refine Exec.seq ?_
          apply Exec.draw (st := _) 50 49 [] [] te_ok (by as_aux_lemma => kernel_rfl) (by as_aux_lemma => kernel_rfl) (by as_aux_lemma => kernel_rfl)
          · intro ops' Q hQ
            simp only [go_sem, whyE, pointN, edgeN, edgeE, nowD, allN, List.foldl_cons, List.foldl_nil]
            repeat (refine And.intro (by first | assumption | omega | (simp; done) | (simp; omega) | (intros; omega) | (simp_all; done) | (simp_all; omega)) ?_)
            refine kdcallG te_ok rfl rfl rfl rfl rfl rfl (by simp only [go_sem] <;> (first | assumption | omega | (simp; done) | (simp; omega) | (intros; omega) | (simp_all; done) | (simp_all; omega))) (fun hq => now_ok _ _ _) ?_
            simp only [go_sem, whyE, pointN, edgeN, edgeE, nowD, allN, List.foldl_cons, List.foldl_nil]
            repeat (refine And.intro (by first | assumption | omega | (simp; done) | (simp; omega) | (intros; omega) | (simp_all; done) | (simp_all; omega)) ?_)
            refine kdcallG te_ok rfl rfl rfl rfl rfl rfl (by simp only [go_sem] <;> (first | assumption | omega | (simp; done) | (simp; omega) | (intros; omega) | (simp_all; done) | (simp_all; omega))) (fun hq => late_ok _ _ _) ?_
            simp only [go_sem, whyE, pointN, edgeN, edgeE, nowD, allN, List.foldl_cons, List.foldl_nil]
            repeat (refine And.intro (by first | assumption | omega | (simp; done) | (simp; omega) | (intros; omega) | (simp_all; done) | (simp_all; omega)) ?_)
            refine kdcallG te_ok rfl rfl rfl rfl rfl rfl (by simp only [go_sem] <;> (first | assumption | omega | (simp; done) | (simp; omega) | (intros; omega) | (simp_all; done) | (simp_all; omega))) (fun hq => passed_ok _ _ _ _) ?_
            simp only [go_sem, whyE, pointN, edgeN, edgeE, nowD, allN, List.foldl_cons, List.foldl_nil]
            repeat (refine And.intro (by first | assumption | omega | (simp; done) | (simp; omega) | (intros; omega) | (simp_all; done) | (simp_all; omega)) ?_)
            refine kdcallG te_ok rfl rfl rfl rfl rfl rfl (by simp only [go_sem] <;> (first | assumption | omega | (simp; done) | (simp; omega) | (intros; omega) | (simp_all; done) | (simp_all; omega))) (fun hq => values_ok _ _ _ _) ?_
            simp only [go_sem, whyE, pointN, edgeN, edgeE, nowD, allN, List.foldl_cons, List.foldl_nil]
            repeat (refine And.intro (by first | assumption | omega | (simp; done) | (simp; omega) | (intros; omega) | (simp_all; done) | (simp_all; omega)) ?_)
            refine kdcallG te_ok rfl rfl rfl rfl rfl rfl (by simp only [go_sem] <;> (first | assumption | omega | (simp; done) | (simp; omega) | (intros; omega) | (simp_all; done) | (simp_all; omega))) (fun hq => all_ok false 0 0 [1] 1 (lstR [[iv 1]]) (by simp) (fun i hi => lst_row di [1] hi) (by simp) (by intro t ht; simp at ht; subst ht; constructor <;> omega)) ?_
            simp only [go_sem, whyE, pointN, edgeN, edgeE, nowD, allN, List.foldl_cons, List.foldl_nil]
            repeat (refine And.intro (by first | assumption | omega | (simp; done) | (simp; omega) | (intros; omega) | (simp_all; done) | (simp_all; omega)) ?_)
            refine kdcallG te_ok rfl rfl rfl rfl rfl rfl (by simp only [go_sem] <;> (first | assumption | omega | (simp; done) | (simp; omega) | (intros; omega) | (simp_all; done) | (simp_all; omega))) (fun hq => all_nil _ _ _) ?_
            simp only [go_sem, whyE, pointN, edgeN, edgeE, nowD, allN, List.foldl_cons, List.foldl_nil]
            repeat (refine And.intro (by first | assumption | omega | (simp; done) | (simp; omega) | (intros; omega) | (simp_all; done) | (simp_all; omega)) ?_)
            refine kdcallG te_ok rfl rfl rfl rfl rfl rfl (by simp only [go_sem] <;> (first | assumption | omega | (simp; done) | (simp; omega) | (intros; omega) | (simp_all; done) | (simp_all; omega))) (fun hq => awake_ok) ?_
            simp only [go_sem, whyE, pointN, edgeN, edgeE, nowD, allN, List.foldl_cons, List.foldl_nil]
            repeat (refine And.intro (by first | assumption | omega | (simp; done) | (simp; omega) | (intros; omega) | (simp_all; done) | (simp_all; omega)) ?_)
            exact hQ
          refine Exec.rets hR te_ok rfl rfl rfl (LeX.le ?_) (.inr ⟨_, rfl⟩)
          simp only [go_sem]
end Go.Proofs.Ytlcpglkbllhokaa
