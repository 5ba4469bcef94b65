/- Contracts of functions of the seat, walked. -/
import Derived.Test.YtmnponhhmkdcdaaDoorV7
import Derived.Test.YtmnponhhmkdcdaaDoorKNil
import Derived.Test.YtmnponhhmkdcdaaDoorKSort
import Derived.Ground.SlsfProg
namespace Go.Proofs
open Go.Shelf
def Tryd.sortF_ren : Go.Shelf.Ren := ⟨fun | 6 => 81 | 15 => 95 | 14 => 94 | 28 => 114 | 29 => 115 | 20 => 106 | 21 => 107 | 22 => 108 | 23 => 109 | 24 => 110 | 25 => 111 | 26 => 112 | 27 => 113 | 46 => 123 | 47 => 124 | 48 => 125 | 49 => 126 | 50 => 127 | 57 => 132 | n => n, fun | 22 => 61 | 24 => 39 | 25 => 40 | 3 => 3 | 39 => 117 | 0 => 0 | 53 => 140 | 55 => 119 | 4 => 4 | 46 => 134 | 45 => 133 | 50 => 74 | 5 => 5 | 9 => 9 | 66 => 155 | 70 => 159 | 76 => 172 | 77 => 173 | n => n, fun | n => n⟩
theorem Tryd.sortF : Go.Proofs.SlLaysF.n6 Tryd.prog Tryd.sortF_ren := {
  mixed := by kernel_rfl
  f6 := ⟨Tryd.f81.name, by decide, Tryd.func81.trans (congrArg some (by kernel_rfl))⟩
  f14 := ⟨Tryd.f94.name, by decide, Tryd.func94.trans (congrArg some (by kernel_rfl))⟩
  f15 := Tryd.func95.trans (congrArg some (by kernel_rfl))
  f20 := ⟨Tryd.f106.name, by decide, Tryd.func106.trans (congrArg some (by kernel_rfl))⟩
  f21 := ⟨Tryd.f107.name, by decide, Tryd.func107.trans (congrArg some (by kernel_rfl))⟩
  f22 := ⟨Tryd.f108.name, by decide, Tryd.func108.trans (congrArg some (by kernel_rfl))⟩
  f23 := ⟨Tryd.f109.name, by decide, Tryd.func109.trans (congrArg some (by kernel_rfl))⟩
  f24 := ⟨Tryd.f110.name, by decide, Tryd.func110.trans (congrArg some (by kernel_rfl))⟩
  f25 := ⟨Tryd.f111.name, by decide, Tryd.func111.trans (congrArg some (by kernel_rfl))⟩
  f26 := ⟨Tryd.f112.name, by decide, Tryd.func112.trans (congrArg some (by kernel_rfl))⟩
  f27 := ⟨Tryd.f113.name, by decide, Tryd.func113.trans (congrArg some (by kernel_rfl))⟩
  f28 := Tryd.func114.trans (congrArg some (by kernel_rfl))
  f29 := Tryd.func115.trans (congrArg some (by kernel_rfl))
  f46 := ⟨Tryd.f123.name, by decide, Tryd.func123.trans (congrArg some (by kernel_rfl))⟩
  f47 := Tryd.func124.trans (congrArg some (by kernel_rfl))
  f48 := Tryd.func125.trans (congrArg some (by kernel_rfl))
  f49 := ⟨Tryd.f126.name, by decide, Tryd.func126.trans (congrArg some (by kernel_rfl))⟩
  f50 := ⟨Tryd.f127.name, by decide, Tryd.func127.trans (congrArg some (by kernel_rfl))⟩
  f57 := ⟨Tryd.f132.name, by decide, Tryd.func132.trans (congrArg some (by kernel_rfl))⟩
  t0 := Tryd.underlying0
  a0 := Tryd.isAgg0
  z0 := Tryd.sizeOf0
  v0 := Tryd.zeroValue0
  t3 := Tryd.underlying3
  a3 := Tryd.isAgg3
  z3 := Tryd.sizeOf3
  v3 := Tryd.zeroValue3
  t4 := Tryd.underlying4
  a4 := Tryd.isAgg4
  z4 := Tryd.sizeOf4
  v4 := Tryd.zeroValue4
  t5 := Tryd.underlying5
  a5 := Tryd.isAgg5
  z5 := Tryd.sizeOf5
  v5 := Tryd.zeroValue5
  t9 := Tryd.underlying9
  a9 := Tryd.isAgg9
  z9 := Tryd.sizeOf9
  v9 := Tryd.zeroValue9
  t22 := Tryd.underlying61
  a22 := Tryd.isAgg61
  z22 := Tryd.sizeOf61
  v22 := Tryd.zeroValue61
  a24 := Tryd.isAgg39
  z24 := Tryd.sizeOf39
  t25 := Tryd.underlying40
  a25 := Tryd.isAgg40
  z25 := Tryd.sizeOf40
  v25 := Tryd.zeroValue40
  t39 := Tryd.underlying117
  a39 := Tryd.isAgg117
  z39 := Tryd.sizeOf117
  v39 := Tryd.zeroValue117
  t45 := Tryd.underlying133
  a45 := Tryd.isAgg133
  z45 := Tryd.sizeOf133
  v45 := Tryd.zeroValue133
  t46 := Tryd.underlying134
  a46 := Tryd.isAgg134
  z46 := Tryd.sizeOf134
  v46 := Tryd.zeroValue134
  t50 := Tryd.underlying74
  a50 := Tryd.isAgg74
  z50 := Tryd.sizeOf74
  v50 := Tryd.zeroValue74
  t53 := Tryd.underlying140
  a53 := Tryd.isAgg140
  z53 := Tryd.sizeOf140
  v53 := Tryd.zeroValue140
  t55 := Tryd.underlying119
  a55 := Tryd.isAgg119
  z55 := Tryd.sizeOf119
  v55 := Tryd.zeroValue119
  t66 := Tryd.underlying155
  a66 := Tryd.isAgg155
  z66 := Tryd.sizeOf155
  v66 := Tryd.zeroValue155
  t70 := Tryd.underlying159
  a70 := Tryd.isAgg159
  z70 := Tryd.sizeOf159
  v70 := Tryd.zeroValue159
  t76 := Tryd.underlying172
  a76 := Tryd.isAgg172
  z76 := Tryd.sizeOf172
  v76 := Tryd.zeroValue172
  t77 := Tryd.underlying173
  a77 := Tryd.isAgg173
  z77 := Tryd.sizeOf173
  v77 := Tryd.zeroValue173 }
end Go.Proofs
namespace Go.Proofs.YtmnponhhmkdcdaaDoor
open Go.Kin
set_option linter.unusedSimpArgs false
set_option linter.unusedVariables false
set_option maxRecDepth 100000
set_option maxHeartbeats 0
attribute [go_sem] putSl
theorem sortF_in (x : List (List Vl)) (hx0 : x.length ≤ 1000) (hx1 : ∀ y ∈ x, y.length ≤ 140737488355328) : FnIn Laid Tryd.prog 81 (rowsOw x) (rowsOw (sortL (rowsL Vl.cmp) x)) [.fn 25 []] := by
  have h := sort_in (I := Laid) Tryd.sortF ⟨_, Tryd.func81, rfl, by as_aux_lemma => kernel_rfl⟩ (f := rowD) (rows_ord cmp_ord) 25 x 39 (by omega) (fun _ => rfl) (fun a ha c hc => rows_ok a c (hx1 a ha) (hx1 c hc))
  have e : (sortL (rowsL Vl.cmp) x).length = x.length := by unfold sortL; exact List.length_mergeSort x
  unfold rowsOw
  rw [e]
  exact h

theorem clone_ok (x : List Vl) (hx0 : x.length ≤ 1000) : FnOK Laid Tryd.prog 58 [rowD x] (rowD x) := by
  refine FnOK_of laid_stable Tryd.func58 Tryd.ntmps58 rfl (by as_aux_lemma => kernel_rfl) (Nat.le_of_ble_eq_true rfl) (fun R hR => ?_)
  obtain ⟨_, b, cs, T, C⟩ := R
  obtain rfl : _ = Tryd.prog := hR.p
  refine Exec.seq ?_
  apply Exec.regionL te_ok
  · intro ops' Q hQ
    simp only [go_sem]
    repeat (refine And.intro (by first | assumption | omega | (simp only [Bool.not_eq_true', Bool.or_eq_false_iff, Bool.or_eq_true, Bool.and_eq_true, decide_eq_true_eq, decide_eq_false_iff_not, beq_iff_eq, Bool.not_eq_false']; omega) | (simp; done) | (simp; omega) | (intros; omega) | (simp_all; done) | (simp_all; omega)) ?_)
    exact hQ
  refine Exec.seq ?_
  refine Exec.seq ?_
  refine Exec.regStart 2 rfl ?_
  apply Exec.regPart 0 1 1 te_ok rfl
  · intro ops' Q hQ
    simp only [go_sem]
    repeat (refine And.intro (by first | assumption | omega | (simp only [Bool.not_eq_true', Bool.or_eq_false_iff, Bool.or_eq_true, Bool.and_eq_true, decide_eq_true_eq, decide_eq_false_iff_not, beq_iff_eq, Bool.not_eq_false']; omega) | (simp; done) | (simp; omega) | (intros; omega) | (simp_all; done) | (simp_all; omega)) ?_)
    exact hQ
  refine Exec.eqNil te_ok (m := 0) rfl rfl (.inl ⟨rfl, rfl⟩) rfl rfl rfl rfl rfl (fun z0 hz0 => ?_)
  apply Exec.norm
  · simp only [go_sem]
    rfl
  refine Exec.regEnd ?_
  refine Exec.cond_split rfl (fun h0 => ?_) (fun h0 => ?_)
  · skip
    refine Exec.seq ?_
    apply Exec.regionL te_ok
    · intro ops' Q hQ
      simp only [go_sem]
      repeat (refine And.intro (by first | assumption | omega | (simp only [Bool.not_eq_true', Bool.or_eq_false_iff, Bool.or_eq_true, Bool.and_eq_true, decide_eq_true_eq, decide_eq_false_iff_not, beq_iff_eq, Bool.not_eq_false']; omega) | (simp; done) | (simp; omega) | (intros; omega) | (simp_all; done) | (simp_all; omega)) ?_)
      exact hQ
    refine Exec.rets hR te_ok rfl rfl rfl (LeX.le ?_) (.inr ⟨_, rfl⟩)
    simp only [go_sem]
    exact hz0 h0
  · skip
    refine Exec.skip ?_
    refine Exec.seq ?_
    apply Exec.regionL te_ok
    · intro ops' Q hQ
      simp only [go_sem]
      repeat (refine And.intro (by first | assumption | omega | (simp only [Bool.not_eq_true', Bool.or_eq_false_iff, Bool.or_eq_true, Bool.and_eq_true, decide_eq_true_eq, decide_eq_false_iff_not, beq_iff_eq, Bool.not_eq_false']; omega) | (simp; done) | (simp; omega) | (intros; omega) | (simp_all; done) | (simp_all; omega)) ?_)
      exact hQ
    refine Exec.rets hR te_ok rfl rfl rfl (LeX.le ?_) (.inr ⟨_, rfl⟩)
    simp only [go_sem]
theorem len_sortL (x : List (List Vl)) : (sortL (rowsL Vl.cmp) x).length = x.length := by unfold sortL; exact List.length_mergeSort x
theorem mem_sortL {x : List (List Vl)} {a : List Vl} : a ∈ sortL (rowsL Vl.cmp) x ↔ a ∈ x := by unfold sortL; exact List.mem_mergeSort
theorem dd_skip {x : List (List Vl)} {k : Nat} (h : k < x.length) (hk : 0 < k) (he : nth x (k - 1) = nth x k) : dd none (x.take (k + 1)) = dd none (x.take k) := by rw [dd_take h, if_pos ⟨hk, he⟩, List.append_nil]
theorem dd_put {x : List (List Vl)} {k : Nat} (h : k < x.length) (he : ¬ (0 < k ∧ nth x (k - 1) = nth x k)) : dd none (x.take (k + 1)) = dd none (x.take k) ++ [nth x k] := by rw [dd_take h, if_neg he]
theorem dd_lt (x : List (List Vl)) (k : Nat) : (dd none (x.take k)).length ≤ x.length := by
  have := dd_len (x.take k) none
  have := List.length_take_le k x
  simp at *; omega
theorem prev_same {S : List (List Vl)} {k : Nat} (h : (decide (0 < (k : Int)) && rowsL Vl.cmp (nth S (k - 1)) (nth S k) == 0) = true) : 0 < k ∧ nth S (k - 1) = nth S k := by
  simp only [Bool.and_eq_true, decide_eq_true_eq, beq_iff_eq] at h
  exact ⟨by omega, ((rows_ord cmp_ord).zero _ _).1 h.2⟩
theorem prev_not {S : List (List Vl)} {k : Nat} (h : (decide (0 < (k : Int)) && rowsL Vl.cmp (nth S (k - 1)) (nth S k) == 0) = false) : ¬ (0 < k ∧ nth S (k - 1) = nth S k) := by
  rintro ⟨h1, h2⟩
  have h3 : (decide (0 < (k : Int))) = true := by simp; omega
  rw [h3, ((rows_ord cmp_ord).zero _ _).2 h2] at h
  simp at h
theorem cat_put {α : Type} [Inhabited α] (f : α → D) (y : List α) (a : α) (j : Nat) (h : j < y.length + 1) : catR y.length (fun j => [f (nth y j)]) (lstR [[f a]]) j = [f (nth (y ++ [a]) j)] := by
  unfold catR
  by_cases hj : j < y.length
  · rw [if_pos hj]
    congr 2
    unfold nth
    simp [List.getD_eq_getElem?_getD, List.getElem?_append_left hj]
  · obtain rfl : j = y.length := by omega
    simp [lstR, nth]

theorem set_ok (x : List (List Vl)) (hx0 : x.length ≤ 1000) (hx1 : ∀ y ∈ x, y.length ≤ 1000) : FnOwn Laid Tryd.prog 35 [rowsD x] (rowsOw (setL (rowsL Vl.cmp) x)) := by
  refine FnOwn_of laid_stable Tryd.func35 Tryd.ntmps35 rfl (by as_aux_lemma => kernel_rfl) (Nat.le_of_ble_eq_true rfl) (fun R hR => ?_)
  obtain ⟨_, b, cs, T, C⟩ := R
  obtain rfl : _ = Tryd.prog := hR.p
  have hx2 : ∀ y ∈ x, y.length ≤ 140737488355328 := fun y hy => Nat.le_trans (hx1 y hy) (by omega)
  have hl := len_sortL x
  generalize hS : sortL (rowsL Vl.cmp) x = S at hl
  have hm : ∀ y ∈ S, y ∈ x := fun y hy => mem_sortL.1 (hS ▸ hy)
  have hr : ∀ y ∈ S, y.length ≤ 140737488355328 := fun y hy => hx2 y (hm y hy)
  have hr2 : ∀ y ∈ S, y.length ≤ 1000 := fun y hy => hx1 y (hm y hy)
  refine Exec.seq ?_
  apply Exec.regionL te_ok
  · intro ops' Q hQ
    simp only [go_sem]
    repeat (refine And.intro (by first | assumption | omega | (simp only [Bool.not_eq_true', Bool.or_eq_false_iff, Bool.or_eq_true, Bool.and_eq_true, decide_eq_true_eq, decide_eq_false_iff_not, beq_iff_eq, Bool.not_eq_false']; omega) | (simp; done) | (simp; omega) | (intros; omega) | (simp_all; done) | (simp_all; omega)) ?_)
    exact hQ
  refine Exec.scope ?_
  refine Exec.seq ?_
  apply Exec.regionL te_ok
  · intro ops' Q hQ
    simp only [go_sem]
    repeat (refine And.intro (by first | assumption | omega | (simp only [Bool.not_eq_true', Bool.or_eq_false_iff, Bool.or_eq_true, Bool.and_eq_true, decide_eq_true_eq, decide_eq_false_iff_not, beq_iff_eq, Bool.not_eq_false']; omega) | (simp; done) | (simp; omega) | (intros; omega) | (simp_all; done) | (simp_all; omega)) ?_)
    refine kcall hR.inv te_ok rfl rfl rfl rfl rfl rfl (values_ok _) ?_
    simp only [go_sem]
    repeat (refine And.intro (by first | assumption | omega | (simp only [Bool.not_eq_true', Bool.or_eq_false_iff, Bool.or_eq_true, Bool.and_eq_true, decide_eq_true_eq, decide_eq_false_iff_not, beq_iff_eq, Bool.not_eq_false']; omega) | (simp; done) | (simp; omega) | (intros; omega) | (simp_all; done) | (simp_all; omega)) ?_)
    refine kcallO hR.inv te_ok rfl rfl rfl rfl rfl rfl rfl (sortedF_ok _ _ (by assumption) (sortF_in x hx0 hx2)) ?_
    simp only [go_sem]
    repeat (refine And.intro (by first | assumption | omega | (simp only [Bool.not_eq_true', Bool.or_eq_false_iff, Bool.or_eq_true, Bool.and_eq_true, decide_eq_true_eq, decide_eq_false_iff_not, beq_iff_eq, Bool.not_eq_false']; omega) | (simp; done) | (simp; omega) | (intros; omega) | (simp_all; done) | (simp_all; omega)) ?_)
    exact hQ
  refine Exec.seq ?_
  refine Exec.label ?_
  refine Exec.seq ?_
  refine Exec.seq ?_
  apply Exec.regionL te_ok
  · intro ops' Q hQ
    simp only [go_sem]
    repeat (refine And.intro (by first | assumption | omega | (simp only [Bool.not_eq_true', Bool.or_eq_false_iff, Bool.or_eq_true, Bool.and_eq_true, decide_eq_true_eq, decide_eq_false_iff_not, beq_iff_eq, Bool.not_eq_false']; omega) | (simp; done) | (simp; omega) | (intros; omega) | (simp_all; done) | (simp_all; omega)) ?_)
    exact hQ
  refine Exec.block ?_
  refine Exec.freeze 8 rfl ?_
  refine Exec.ownNil 2 1500 39 1 rfl rfl ?_
  apply Exec.norm
  · simp only [go_sem, hS]
    rfl
  apply Exec.loopU [3, 9, 10] (X := Nat × List (List Vl)) (fun ⟨k, y⟩ => [(11, .d (iv k)), (2, .own 1500)]) (fun ⟨k, y⟩ => []) (fun ⟨k, y⟩ => [(1500, ⟨39, 1, y.length, y.length, fun j => [rowD (nth y j)]⟩)]) (fun ⟨k, y⟩ => S.length - k) (fun ⟨k, y⟩ => k ≤ S.length ∧ y = dd none (S.take k)) (0, [])
  case h0 =>
    exact ⟨Nat.zero_le _, rfl⟩
  case hw =>
    simp only [go_sem]; exact fun i hi => absurd hi (Nat.not_lt_zero i)
  case body =>
    rintro ⟨k, y⟩ hx ih0
    try simp only at hx
    apply Exec.norm
    · simp only [go_sem]
      rfl
    refine Exec.seq ?_
    apply Exec.regionL te_ok
    · intro ops' Q hQ
      simp only [go_sem]
      repeat (refine And.intro (by first | assumption | omega | (simp only [Bool.not_eq_true', Bool.or_eq_false_iff, Bool.or_eq_true, Bool.and_eq_true, decide_eq_true_eq, decide_eq_false_iff_not, beq_iff_eq, Bool.not_eq_false']; omega) | (simp; done) | (simp; omega) | (intros; omega) | (simp_all; done) | (simp_all; omega)) ?_)
      exact hQ
    refine Exec.seq ?_
    refine Exec.cond_split rfl (fun h0 => ?_) (fun h0 => ?_)
    · skip
      have hk : k < S.length := by have := of_decide_eq_true h0; omega
      have hy : y.length ≤ 1000 := by rw [hx.2]; have := dd_lt S k; omega
      have w2 : IntKind.i64.wrap ((k : Int) + 1) = ((k + 1 : Nat) : Int) := by rw [wrap_id (by omega)]; omega
      have w1 : IntKind.i64.wrap ((k : Int) - 1) = (k : Int) - 1 := by rw [wrap_id (by omega)]
      have e1 : ((k : Int) - 1).toNat = k - 1 := by omega
      refine Exec.skip ?_
      refine Exec.seq ?_
      refine Exec.block ?_
      refine Exec.seq ?_
      apply Exec.regionL te_ok
      · intro ops' Q hQ
        simp only [go_sem, w1, w2, e1]
        repeat (refine And.intro (by first | assumption | omega | (simp only [Bool.not_eq_true', Bool.or_eq_false_iff, Bool.or_eq_true, Bool.and_eq_true, decide_eq_true_eq, decide_eq_false_iff_not, beq_iff_eq, Bool.not_eq_false']; omega) | (simp; done) | (simp; omega) | (intros; omega) | (simp_all; done) | (simp_all; omega)) ?_)
        exact hQ
      refine Exec.seq ?_
      refine Exec.seq ?_
      apply Exec.regionL te_ok
      · intro ops' Q hQ
        simp only [go_sem, w1, w2, e1]
        repeat (refine And.intro (by first | assumption | omega | (simp only [Bool.not_eq_true', Bool.or_eq_false_iff, Bool.or_eq_true, Bool.and_eq_true, decide_eq_true_eq, decide_eq_false_iff_not, beq_iff_eq, Bool.not_eq_false']; omega) | (simp; done) | (simp; omega) | (intros; omega) | (simp_all; done) | (simp_all; omega)) ?_)
        refine kcallG hR.inv te_ok rfl rfl rfl rfl rfl rfl (by simp only [go_sem] <;> (first | assumption | omega | (simp only [Bool.not_eq_true', Bool.or_eq_false_iff, Bool.or_eq_true, Bool.and_eq_true, decide_eq_true_eq, decide_eq_false_iff_not, beq_iff_eq, Bool.not_eq_false']; omega) | (simp; done) | (simp; omega) | (intros; omega) | (simp_all; done) | (simp_all; omega))) (fun hq => rows_ok _ _ (hr _ (nth_mem (by omega))) (hr _ (nth_mem hk))) ?_
        simp only [go_sem, w1, w2, e1]
        repeat (refine And.intro (by first | assumption | omega | (simp only [Bool.not_eq_true', Bool.or_eq_false_iff, Bool.or_eq_true, Bool.and_eq_true, decide_eq_true_eq, decide_eq_false_iff_not, beq_iff_eq, Bool.not_eq_false']; omega) | (simp; done) | (simp; omega) | (intros; omega) | (simp_all; done) | (simp_all; omega)) ?_)
        exact hQ
      refine Exec.cond_split rfl (fun h1 => ?_) (fun h1 => ?_)
      · skip
        obtain ⟨hk0, hsame⟩ := prev_same h1
        refine Exec.exit rfl ?_
        apply Exec.regionL te_ok
        · intro ops' Q hQ
          simp only [go_sem, w1, w2, e1]
          repeat (refine And.intro (by first | assumption | omega | (simp only [Bool.not_eq_true', Bool.or_eq_false_iff, Bool.or_eq_true, Bool.and_eq_true, decide_eq_true_eq, decide_eq_false_iff_not, beq_iff_eq, Bool.not_eq_false']; omega) | (simp; done) | (simp; omega) | (intros; omega) | (simp_all; done) | (simp_all; omega)) ?_)
          exact hQ
        refine Exec.back (ih0 (k + 1, y) ?_ ?_) ?_ ?_ ?_ ?_ ?_ ?_ ?_
        · try simp only
          exact ⟨by omega, by
            first
            | (rw [dd_skip hk hk0 hsame]; exact hx.2)
            | (rw [dd_put hk hnot, ← hx.2])⟩
        · try simp only
          omega
        · rfl
        · rfl
        · (simp only [go_sem, w1, w2])
        · (simp only [go_sem, w1, w2])
        · simp only [go_sem, w1, w2, List.length_append]
          first | done | exact fun j hj => cat_put rowD y _ j hj
        · simp only [go_sem, w1, w2, e1]
        · rfl
      · skip
        have hnot := prev_not h1
        refine Exec.skip ?_
        apply Exec.regionL te_ok
        · intro ops' Q hQ
          simp only [go_sem, w1, w2, e1]
          repeat (refine And.intro (by first | assumption | omega | (simp only [Bool.not_eq_true', Bool.or_eq_false_iff, Bool.or_eq_true, Bool.and_eq_true, decide_eq_true_eq, decide_eq_false_iff_not, beq_iff_eq, Bool.not_eq_false']; omega) | (simp; done) | (simp; omega) | (intros; omega) | (simp_all; done) | (simp_all; omega)) ?_)
          refine kcall hR.inv te_ok rfl rfl rfl rfl rfl rfl (clone_ok _ (hr2 _ (nth_mem hk))) ?_
          simp only [go_sem, w1, w2, e1]
          repeat (refine And.intro (by first | assumption | omega | (simp only [Bool.not_eq_true', Bool.or_eq_false_iff, Bool.or_eq_true, Bool.and_eq_true, decide_eq_true_eq, decide_eq_false_iff_not, beq_iff_eq, Bool.not_eq_false']; omega) | (simp; done) | (simp; omega) | (intros; omega) | (simp_all; done) | (simp_all; omega)) ?_)
          exact hQ
        refine Exec.inBlock ?_
        apply Exec.regionL te_ok
        · intro ops' Q hQ
          simp only [go_sem, w1, w2, e1]
          repeat (refine And.intro (by first | assumption | omega | (simp only [Bool.not_eq_true', Bool.or_eq_false_iff, Bool.or_eq_true, Bool.and_eq_true, decide_eq_true_eq, decide_eq_false_iff_not, beq_iff_eq, Bool.not_eq_false']; omega) | (simp; done) | (simp; omega) | (intros; omega) | (simp_all; done) | (simp_all; omega)) ?_)
          exact hQ
        refine Exec.back (ih0 (k + 1, y ++ [nth S k]) ?_ ?_) ?_ ?_ ?_ ?_ ?_ ?_ ?_
        · try simp only
          exact ⟨by omega, by
            first
            | (rw [dd_skip hk hk0 hsame]; exact hx.2)
            | (rw [dd_put hk hnot, ← hx.2])⟩
        · try simp only
          omega
        · rfl
        · rfl
        · (simp only [go_sem, w1, w2])
        · (simp only [go_sem, w1, w2])
        · simp only [go_sem, w1, w2, List.length_append]
          first | done | exact fun j hj => cat_put rowD y _ j hj
        · simp only [go_sem, w1, w2, e1]
        · rfl
    · skip
      refine Exec.exit rfl ?_
      refine Exec.seq ?_
      apply Exec.regionL te_ok
      · intro ops' Q hQ
        simp only [go_sem]
        repeat (refine And.intro (by first | assumption | omega | (simp only [Bool.not_eq_true', Bool.or_eq_false_iff, Bool.or_eq_true, Bool.and_eq_true, decide_eq_true_eq, decide_eq_false_iff_not, beq_iff_eq, Bool.not_eq_false']; omega) | (simp; done) | (simp; omega) | (intros; omega) | (simp_all; done) | (simp_all; omega)) ?_)
        exact hQ
      refine Exec.retsO hR rfl rfl rfl rfl ?_ (.inr ⟨_, rfl⟩)
      have hl2 : S.length ≤ k := by have := of_decide_eq_false h0; omega
      have hy := hx.2
      rw [List.take_of_length_le hl2] at hy
      have hy2 : setL (rowsL Vl.cmp) x = y := by unfold setL; rw [hS]; exact hy.symm
      rw [hy2]
      exact ⟨rfl, rfl, rfl, rfl, fun _ _ => rfl⟩
end Go.Proofs.YtmnponhhmkdcdaaDoor
