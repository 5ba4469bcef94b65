/- Contracts of functions of the seat, walked. -/
import Derived.Test.YtmnponhhmkdcdaaDoorV8
import Derived.Test.YtmnponhhmkdcdaaDoorKChain
namespace Go.Proofs.YtmnponhhmkdcdaaDoor
open Go.Kin
set_option linter.unusedSimpArgs false
set_option linter.unusedVariables false
set_option maxRecDepth 100000
set_option maxHeartbeats 0
def pick (x n : Int) : Int := if n < 1 then 0 else if x.tmod n < 0 then x.tmod n + n else x.tmod n
theorem pick_lt {x n : Int} (h : 1 ≤ n) : 0 ≤ pick x n ∧ pick x n < n := by
  have h1 := Int.tmod_lt_of_pos x (show 0 < n by omega)
  have h2 : -n < x.tmod n := by
    have := Int.tmod_lt_of_pos (-x) (show 0 < n by omega)
    rw [Int.neg_tmod] at this; omega
  unfold pick
  rw [if_neg (by omega)]
  split <;> omega

theorem pick_ok (x n : Int) (hn : 1 ≤ n ∧ n ≤ 1000000) : FnOK Laid Tryd.prog 33 [iv x, iv n] (iv (pick x n)) := by
  refine FnOK_of laid_stable Tryd.func33 Tryd.ntmps33 rfl (by as_aux_lemma => kernel_rfl) (Nat.le_of_ble_eq_true rfl) (fun R hR => ?_)
  obtain ⟨_, b, cs, T, C⟩ := R
  obtain rfl : _ = Tryd.prog := hR.p
  refine Exec.seq ?_
  apply Exec.regionL te_ok
  · intro ops' Q hQ
    simp only [go_sem]
    repeat (refine And.intro (by simp at h0; omega) ?_)
    exact hQ
  refine Exec.seq ?_
  refine Exec.seq ?_
  apply Exec.regionL te_ok
  · intro ops' Q hQ
    simp only [go_sem]
    repeat (refine And.intro (by simp at h0; omega) ?_)
    exact hQ
  refine Exec.cond_split rfl (fun h0 => ?_) (fun h0 => ?_)
  · exfalso
    simp at h0; omega
  refine Exec.skip ?_
  refine Exec.seq ?_
  apply Exec.regionL te_ok
  · intro ops' Q hQ
    simp only [go_sem]
    repeat (refine And.intro (by simp at h0; omega) ?_)
    exact hQ
  refine Exec.seq ?_
  refine Exec.seq ?_
  apply Exec.regionL te_ok
  · intro ops' Q hQ
    simp only [go_sem]
    repeat (refine And.intro (by simp at h0; omega) ?_)
    exact hQ
  apply Exec.join [0] rfl
  case hx =>
    intro h1 hK
    apply Exec.regionL te_ok
    · intro ops' Q hQ
      simp only [go_sem]
      repeat (refine And.intro (by simp at h0; omega) ?_)
      exact hQ
    exact hK
  case hy =>
    intro h1 hK
    refine Exec.skip ?_
    exact hK
  case hN => rfl
  case hdf => rfl
  case hF => simp only [go_sem]
  case hP => rfl
  apply Exec.norm
  · simp only [go_sem]
    rfl
  refine Exec.seq ?_
  apply Exec.regionL te_ok
  · intro ops' Q hQ
    simp only [go_sem]
    repeat (refine And.intro (by simp at h0; omega) ?_)
    exact hQ
  refine Exec.rets hR te_ok rfl rfl rfl (LeX.le ?_) (.inr ⟨_, rfl⟩)
  simp only [go_sem, pick]
  rw [if_neg (show ¬ n < 1 by omega)]
  by_cases hx : x.tmod n < 0
  · have w1 : IntKind.i64.wrap (x.tmod n + n) = x.tmod n + n := by
      have h2 : -n < x.tmod n := by
        have := Int.tmod_lt_of_pos (-x) (show 0 < n by omega)
        rw [Int.neg_tmod] at this; omega
      exact wrap_id (by constructor <;> omega)
    simp [hx, w1]
  · simp [hx]
theorem cat_app {α : Type} [Inhabited α] (f : α → D) (y z : List α) (j : Nat) (h : j < y.length + z.length) : catR y.length (fun j => [f (nth y j)]) (fun j => [f (nth z j)]) j = [f (nth (y ++ z) j)] := by
  unfold catR
  by_cases hj : j < y.length
  · rw [if_pos hj]
    congr 2
    unfold nth
    simp [List.getD_eq_getElem?_getD, List.getElem?_append_left hj]
  · rw [if_neg hj]
    congr 2
    unfold nth
    simp [List.getD_eq_getElem?_getD, List.getElem?_append_right (show y.length ≤ j by omega)]

theorem nth_app1 {α : Type} [Inhabited α] {y z : List α} {j : Nat} (h : j < y.length) : nth (y ++ z) j = nth y j := by
  unfold nth; simp [List.getD_eq_getElem?_getD, List.getElem?_append_left h]
theorem nth_app2 {α : Type} [Inhabited α] {y z : List α} {j : Nat} (h : y.length ≤ j) : nth (y ++ z) j = nth z (j - y.length) := by
  unfold nth; simp [List.getD_eq_getElem?_getD, List.getElem?_append_right h]
theorem nth_drop' {α : Type} [Inhabited α] {y : List α} {k j : Nat} : nth (y.drop k) j = nth y (k + j) := by
  unfold nth; simp [List.getD_eq_getElem?_getD]
theorem nth_take' {α : Type} [Inhabited α] {y : List α} {k j : Nat} (h : j < k) : nth (y.take k) j = nth y j := by
  unfold nth; simp [List.getD_eq_getElem?_getD, h]
theorem le_other (x : List (List Vl)) (k : Nat) (hk : k ≤ x.length) : LeD (.sl 1 (x.length - k + x.length + k) (x.length - k + x.length + k) (catR (x.length - k + x.length) (catR (x.length - k) (offR k fun i => [rowD (nth x i)]) fun i => [rowD (nth x i)]) fun i => [rowD (nth x i)])) (rowsD (x.drop k ++ x ++ x.take k)) := by
  have e : (x.drop k ++ x ++ x.take k).length = x.length - k + x.length + k := by simp; omega
  unfold rowsD
  rw [e]
  refine LeD.slice (Nat.le_refl _) (Nat.le_refl _) fun i hi => ?_
  unfold catR
  by_cases h1 : i < x.length - k + x.length
  · rw [if_pos h1, nth_app1 (by simp; omega)]
    by_cases h2 : i < x.length - k
    · rw [if_pos h2, nth_app1 (by simp; omega), nth_drop']; rfl
    · rw [if_neg h2, nth_app2 (by simp; omega)]; simp
  · rw [if_neg h1, nth_app2 (by simp; omega), nth_take' (by simp; omega)]; simp

theorem set_bd (x : List (List Vl)) (h : x.length ≤ 1000) (h1 : ∀ y ∈ x, y.length ≤ 1000) : (setL (rowsL Vl.cmp) x).length ≤ 17592186044416 ∧ ∀ z ∈ setL (rowsL Vl.cmp) x, z.length ≤ 140737488355328 :=
  ⟨by have := set_len (c := rowsL Vl.cmp) x; omega, fun z hz => by have := h1 z ((set_mem x z).1 hz); omega⟩

theorem once_ok (x : List (List Vl)) (n : Int) (hx0 : x.length ≤ 17592186044416) (hx1 : ∀ y ∈ x, y.length ≤ 140737488355328) : FnOK Laid Tryd.prog 11 [rowsD x, iv n] (bv true) := by
  refine FnOK_of laid_stable Tryd.func11 Tryd.ntmps11 rfl (by as_aux_lemma => kernel_rfl) (Nat.le_of_ble_eq_true rfl) (fun R hR => ?_)
  obtain ⟨_, b, cs, T, C⟩ := R
  obtain rfl : _ = Tryd.prog := hR.p
  refine Exec.seq ?_
  apply Exec.regionL te_ok
  · intro ops' Q hQ
    simp only [go_sem]
    repeat (refine And.intro (by first | assumption | omega | (simp only [Bool.not_eq_true', Bool.or_eq_false_iff, Bool.or_eq_true, Bool.and_eq_true, decide_eq_true_eq, decide_eq_false_iff_not, beq_iff_eq, Bool.not_eq_false']; omega) | (simp; done) | (simp; omega) | (intros; omega) | (simp_all; done) | (simp_all; omega)) ?_)
    exact hQ
  refine Exec.seq ?_
  refine Exec.seq ?_
  apply Exec.regionL te_ok
  · intro ops' Q hQ
    simp only [go_sem]
    repeat (refine And.intro (by first | assumption | omega | (simp only [Bool.not_eq_true', Bool.or_eq_false_iff, Bool.or_eq_true, Bool.and_eq_true, decide_eq_true_eq, decide_eq_false_iff_not, beq_iff_eq, Bool.not_eq_false']; omega) | (simp; done) | (simp; omega) | (intros; omega) | (simp_all; done) | (simp_all; omega)) ?_)
    refine kcall hR.inv te_ok rfl rfl rfl rfl rfl rfl (awake_ok) ?_
    simp only [go_sem]
    repeat (refine And.intro (by first | assumption | omega | (simp only [Bool.not_eq_true', Bool.or_eq_false_iff, Bool.or_eq_true, Bool.and_eq_true, decide_eq_true_eq, decide_eq_false_iff_not, beq_iff_eq, Bool.not_eq_false']; omega) | (simp; done) | (simp; omega) | (intros; omega) | (simp_all; done) | (simp_all; omega)) ?_)
    exact hQ
  refine Exec.cond (t := false) rfl ?_
  simp only [reduceIte, Bool.false_eq_true]
  refine Exec.skip ?_
  refine Exec.seq ?_
  refine Exec.seq ?_
  apply Exec.regionL te_ok
  · intro ops' Q hQ
    simp only [go_sem]
    repeat (refine And.intro (by first | assumption | omega | (simp only [Bool.not_eq_true', Bool.or_eq_false_iff, Bool.or_eq_true, Bool.and_eq_true, decide_eq_true_eq, decide_eq_false_iff_not, beq_iff_eq, Bool.not_eq_false']; omega) | (simp; done) | (simp; omega) | (intros; omega) | (simp_all; done) | (simp_all; omega)) ?_)
    refine kcall hR.inv te_ok rfl rfl rfl rfl rfl rfl (size_ok _ (by omega) (by assumption)) ?_
    simp only [go_sem]
    repeat (refine And.intro (by first | assumption | omega | (simp only [Bool.not_eq_true', Bool.or_eq_false_iff, Bool.or_eq_true, Bool.and_eq_true, decide_eq_true_eq, decide_eq_false_iff_not, beq_iff_eq, Bool.not_eq_false']; omega) | (simp; done) | (simp; omega) | (intros; omega) | (simp_all; done) | (simp_all; omega)) ?_)
    exact hQ
  refine Exec.cond_split rfl (fun h1 => ?_) (fun h1 => ?_)
  · skip
    refine Exec.seq ?_
    apply Exec.regionL te_ok
    · intro ops' Q hQ
      simp only [go_sem]
      repeat (refine And.intro (by first | assumption | omega | (simp only [Bool.not_eq_true', Bool.or_eq_false_iff, Bool.or_eq_true, Bool.and_eq_true, decide_eq_true_eq, decide_eq_false_iff_not, beq_iff_eq, Bool.not_eq_false']; omega) | (simp; done) | (simp; omega) | (intros; omega) | (simp_all; done) | (simp_all; omega)) ?_)
      exact hQ
    refine Exec.rets hR te_ok rfl rfl rfl (LeX.le ?_) (.inr ⟨_, rfl⟩)
    simp only [go_sem]
  · skip
    have hs : sizeL x ≤ 400 := by simp at h1; omega
    have hs0 : x.length ≤ 1000 := by have := sizeG_ge x x.length; unfold sizeL at hs; omega
    have hs1 : ∀ y ∈ x, y.length ≤ 1000 := fun y hy => by have := sizeG_small x x.length hs y hy; omega
    have w1 : IntKind.i64.wrap ((x.length : Int) + 1) = (x.length : Int) + 1 := by rw [wrap_id (by omega)]
    obtain ⟨k, hk, ek⟩ : ∃ k : Nat, k ≤ x.length ∧ pick n ((x.length : Int) + 1) = (k : Int) := by have := pick_lt (x := n) (n := (x.length : Int) + 1) (by omega); exact ⟨(pick n ((x.length : Int) + 1)).toNat, by omega, by omega⟩
    have hs2 : (setL (rowsL Vl.cmp) x).length ≤ 1000 := by have := set_len (c := rowsL Vl.cmp) x; omega
    have hs3 : ∀ y ∈ setL (rowsL Vl.cmp) x, y.length ≤ 1000 := fun y hy => hs1 y ((set_mem x y).1 hy)
    have ho0 : (x.drop k ++ x ++ x.take k).length ≤ 1000 := by have := sizeG_ge x x.length; unfold sizeL at hs; simp; omega
    have hom : ∀ y, y ∈ x.drop k ++ x ++ x.take k ↔ y ∈ x := fun y => by simp only [List.mem_append]; exact ⟨fun h => h.elim (fun h => h.elim List.mem_of_mem_drop id) List.mem_of_mem_take, fun h => .inl (.inr h)⟩
    have ho1 : ∀ y ∈ x.drop k ++ x ++ x.take k, y.length ≤ 1000 := fun y hy => hs1 y ((hom y).1 hy)
    have e1 : decide (setL (rowsL Vl.cmp) (x.drop k ++ x ++ x.take k) = setL (rowsL Vl.cmp) x) = true := decide_eq_true (set_same (rows_ord cmp_ord) hom)
    have e2 : decide (setL (rowsL Vl.cmp) (setL (rowsL Vl.cmp) x) = setL (rowsL Vl.cmp) x) = true := decide_eq_true (set_set (rows_ord cmp_ord) x)
    obtain ⟨b1, b2⟩ := set_bd x hs0 hs1
    obtain ⟨b3, b4⟩ := set_bd _ ho0 ho1
    obtain ⟨b5, b6⟩ := set_bd _ hs2 hs3
    have eN : ((x.length : Int) - (k : Int)).toNat = x.length - k := by omega
    refine Exec.skip ?_
    refine Exec.seq ?_
    apply Exec.regionL te_ok
    · intro ops' Q hQ
      simp only [go_sem, w1, ek, e1, e2, eN]
      repeat (refine And.intro (by first | assumption | omega | (simp only [Bool.not_eq_true', Bool.or_eq_false_iff, Bool.or_eq_true, Bool.and_eq_true, decide_eq_true_eq, decide_eq_false_iff_not, beq_iff_eq, Bool.not_eq_false']; omega) | (simp; done) | (simp; omega) | (intros; omega) | (simp_all; done) | (simp_all; omega)) ?_)
      refine kcallO hR.inv te_ok rfl rfl rfl rfl rfl rfl rfl (set_ok _ hs0 hs1) ?_
      simp only [go_sem, w1, ek, e1, e2, eN]
      repeat (refine And.intro (by first | assumption | omega | (simp only [Bool.not_eq_true', Bool.or_eq_false_iff, Bool.or_eq_true, Bool.and_eq_true, decide_eq_true_eq, decide_eq_false_iff_not, beq_iff_eq, Bool.not_eq_false']; omega) | (simp; done) | (simp; omega) | (intros; omega) | (simp_all; done) | (simp_all; omega)) ?_)
      exact hQ
    refine Exec.seq ?_
    refine Exec.freeze 15 rfl ?_
    apply Exec.norm
    · simp only [go_sem]
      rfl
    apply Exec.regionL te_ok
    · intro ops' Q hQ
      simp only [go_sem, w1, ek, e1, e2, eN]
      repeat (refine And.intro (by first | assumption | omega | (simp only [Bool.not_eq_true', Bool.or_eq_false_iff, Bool.or_eq_true, Bool.and_eq_true, decide_eq_true_eq, decide_eq_false_iff_not, beq_iff_eq, Bool.not_eq_false']; omega) | (simp; done) | (simp; omega) | (intros; omega) | (simp_all; done) | (simp_all; omega)) ?_)
      refine kcall hR.inv te_ok rfl rfl rfl rfl rfl rfl (pick_ok _ _ (by omega)) ?_
      simp only [go_sem, w1, ek, e1, e2, eN]
      repeat (refine And.intro (by first | assumption | omega | (simp only [Bool.not_eq_true', Bool.or_eq_false_iff, Bool.or_eq_true, Bool.and_eq_true, decide_eq_true_eq, decide_eq_false_iff_not, beq_iff_eq, Bool.not_eq_false']; omega) | (simp; done) | (simp; omega) | (intros; omega) | (simp_all; done) | (simp_all; omega)) ?_)
      exact hQ
    refine Exec.seq ?_
    apply Exec.chain (st := _) 13 [1, 2, 3, 5, 7, 8, 9] [0, 4, 6, 10, 11] te_ok (by as_aux_lemma => kernel_rfl) (by as_aux_lemma => kernel_rfl) (by decide)
    · intro ops' Q hops hQ
      simp only [go_sem, w1, ek, e1, e2, eN]
      repeat (refine And.intro (by first | assumption | omega | (simp only [Bool.not_eq_true', Bool.or_eq_false_iff, Bool.or_eq_true, Bool.and_eq_true, decide_eq_true_eq, decide_eq_false_iff_not, beq_iff_eq, Bool.not_eq_false']; omega) | (simp; done) | (simp; omega) | (intros; omega) | (simp_all; done) | (simp_all; omega)) ?_)
      exact hQ
    refine Exec.seq ?_
    refine Exec.seq ?_
    apply Exec.regionL te_ok
    · intro ops' Q hQ
      simp only [go_sem, w1, ek, e1, e2, eN]
      repeat (refine And.intro (by first | assumption | omega | (simp only [Bool.not_eq_true', Bool.or_eq_false_iff, Bool.or_eq_true, Bool.and_eq_true, decide_eq_true_eq, decide_eq_false_iff_not, beq_iff_eq, Bool.not_eq_false']; omega) | (simp; done) | (simp; omega) | (intros; omega) | (simp_all; done) | (simp_all; omega)) ?_)
      refine kfreeze 21 rfl (by simp only [go_sem, w1, ek, e1, e2, eN]; rfl) ?_
      refine kcallO hR.inv te_ok rfl rfl rfl rfl rfl rfl rfl ((set_ok (x.drop k ++ x ++ x.take k) ho0 ho1).args ⟨le_other x k hk, trivial⟩) ?_
      simp only [go_sem, w1, ek, e1, e2, eN]
      repeat (refine And.intro (by first | assumption | omega | (simp only [Bool.not_eq_true', Bool.or_eq_false_iff, Bool.or_eq_true, Bool.and_eq_true, decide_eq_true_eq, decide_eq_false_iff_not, beq_iff_eq, Bool.not_eq_false']; omega) | (simp; done) | (simp; omega) | (intros; omega) | (simp_all; done) | (simp_all; omega)) ?_)
      refine kfreeze 33 rfl (by simp only [go_sem, w1, ek, e1, e2, eN]; rfl) ?_
      refine kcall hR.inv te_ok rfl rfl rfl rfl rfl rfl (sameR_ok _ _ (by assumption) (by assumption) (by assumption) (by assumption)) ?_
      simp only [go_sem, w1, ek, e1, e2, eN]
      repeat (refine And.intro (by first | assumption | omega | (simp only [Bool.not_eq_true', Bool.or_eq_false_iff, Bool.or_eq_true, Bool.and_eq_true, decide_eq_true_eq, decide_eq_false_iff_not, beq_iff_eq, Bool.not_eq_false']; omega) | (simp; done) | (simp; omega) | (intros; omega) | (simp_all; done) | (simp_all; omega)) ?_)
      refine kun te_ok [38] (by simp only [go_sem, w1, ek, e1, e2, eN]; rfl) ?_
      simp only [go_sem, w1, ek, e1, e2, eN]
      repeat (refine And.intro (by first | assumption | omega | (simp only [Bool.not_eq_true', Bool.or_eq_false_iff, Bool.or_eq_true, Bool.and_eq_true, decide_eq_true_eq, decide_eq_false_iff_not, beq_iff_eq, Bool.not_eq_false']; omega) | (simp; done) | (simp; omega) | (intros; omega) | (simp_all; done) | (simp_all; omega)) ?_)
      refine kcallOW hR.inv te_ok rfl rfl rfl rfl rfl rfl rfl (set_ok _ hs2 hs3) ?_
      simp only [go_sem, w1, ek, e1, e2, eN]
      repeat (refine And.intro (by first | assumption | omega | (simp only [Bool.not_eq_true', Bool.or_eq_false_iff, Bool.or_eq_true, Bool.and_eq_true, decide_eq_true_eq, decide_eq_false_iff_not, beq_iff_eq, Bool.not_eq_false']; omega) | (simp; done) | (simp; omega) | (intros; omega) | (simp_all; done) | (simp_all; omega)) ?_)
      refine kun te_ok [40] (by simp only [go_sem, w1, ek, e1, e2, eN]; rfl) ?_
      simp only [go_sem, w1, ek, e1, e2, eN]
      repeat (refine And.intro (by first | assumption | omega | (simp only [Bool.not_eq_true', Bool.or_eq_false_iff, Bool.or_eq_true, Bool.and_eq_true, decide_eq_true_eq, decide_eq_false_iff_not, beq_iff_eq, Bool.not_eq_false']; omega) | (simp; done) | (simp; omega) | (intros; omega) | (simp_all; done) | (simp_all; omega)) ?_)
      refine kfreeze 39 rfl (by simp only [go_sem, w1, ek, e1, e2, eN]; rfl) ?_
      refine kcallG hR.inv te_ok rfl rfl rfl rfl rfl rfl (by simp only [go_sem] <;> (first | assumption | omega | (simp only [Bool.not_eq_true', Bool.or_eq_false_iff, Bool.or_eq_true, Bool.and_eq_true, decide_eq_true_eq, decide_eq_false_iff_not, beq_iff_eq, Bool.not_eq_false']; omega) | (simp; done) | (simp; omega) | (intros; omega) | (simp_all; done) | (simp_all; omega))) (fun hq => sameR_ok _ _ (by assumption) (by assumption) (by assumption) (by assumption)) ?_
      simp only [go_sem, w1, ek, e1, e2, eN]
      repeat (refine And.intro (by first | assumption | omega | (simp only [Bool.not_eq_true', Bool.or_eq_false_iff, Bool.or_eq_true, Bool.and_eq_true, decide_eq_true_eq, decide_eq_false_iff_not, beq_iff_eq, Bool.not_eq_false']; omega) | (simp; done) | (simp; omega) | (intros; omega) | (simp_all; done) | (simp_all; omega)) ?_)
      exact hQ
    refine Exec.cond (t := false) rfl ?_
    simp only [reduceIte, Bool.false_eq_true]
    refine Exec.skip ?_
    refine Exec.seq ?_
    refine Exec.seq ?_
    apply Exec.regionL te_ok
    · intro ops' Q hQ
      simp only [go_sem, w1, ek, e1, e2, eN]
      repeat (refine And.intro (by first | assumption | omega | (simp only [Bool.not_eq_true', Bool.or_eq_false_iff, Bool.or_eq_true, Bool.and_eq_true, decide_eq_true_eq, decide_eq_false_iff_not, beq_iff_eq, Bool.not_eq_false']; omega) | (simp; done) | (simp; omega) | (intros; omega) | (simp_all; done) | (simp_all; omega)) ?_)
      exact hQ
    refine Exec.block ?_
    apply Exec.loopU [0, 5] (X := Nat) (fun i => [(8, .d (iv i))]) (fun i => []) (fun i => []) (fun i => (setL (rowsL Vl.cmp) x).length - i) (fun i => 0 < i) 1
    case h0 =>
      first | assumption | omega | (simp only [Bool.not_eq_true', Bool.or_eq_false_iff, Bool.or_eq_true, Bool.and_eq_true, decide_eq_true_eq, decide_eq_false_iff_not, beq_iff_eq, Bool.not_eq_false']; omega) | (simp; done) | (simp; omega) | (intros; omega) | (simp_all; done) | (simp_all; omega)
    case hw =>
      simp only [go_sem]; rfl
    case body =>
      rintro i hx ih0
      try simp only at hx
      apply Exec.norm
      · simp only [go_sem, w1, ek, e1, e2, eN]
        rfl
      refine Exec.seq ?_
      refine Exec.seq ?_
      apply Exec.regionL te_ok
      · intro ops' Q hQ
        simp only [go_sem, w1, ek, e1, e2, eN]
        repeat (refine And.intro (by first | assumption | omega | (simp only [Bool.not_eq_true', Bool.or_eq_false_iff, Bool.or_eq_true, Bool.and_eq_true, decide_eq_true_eq, decide_eq_false_iff_not, beq_iff_eq, Bool.not_eq_false']; omega) | (simp; done) | (simp; omega) | (intros; omega) | (simp_all; done) | (simp_all; omega)) ?_)
        exact hQ
      refine Exec.cond_split rfl (fun h3 => ?_) (fun h3 => ?_)
      · skip
        have hi : i < (setL (rowsL Vl.cmp) x).length := by have := of_decide_eq_true h3; omega
        have w2 : IntKind.i64.wrap ((i : Int) + 1) = ((i + 1 : Nat) : Int) := by rw [wrap_id (by omega)]; omega
        have w3 : IntKind.i64.wrap ((i : Int) - 1) = ((i - 1 : Nat) : Int) := by rw [wrap_id (by omega)]; omega
        refine Exec.skip ?_
        refine Exec.seq ?_
        refine Exec.block ?_
        refine Exec.seq ?_
        apply Exec.draw (st := _) 12 11 [] [] te_ok (by as_aux_lemma => kernel_rfl) (by as_aux_lemma => kernel_rfl) (by as_aux_lemma => kernel_rfl)
        · intro ops' Q hQ
          simp only [go_sem, w1, ek, e1, e2, eN, w2, w3]
          repeat (refine And.intro (by first | assumption | omega | (simp only [Bool.not_eq_true', Bool.or_eq_false_iff, Bool.or_eq_true, Bool.and_eq_true, decide_eq_true_eq, decide_eq_false_iff_not, beq_iff_eq, Bool.not_eq_false']; omega) | (simp; done) | (simp; omega) | (intros; omega) | (simp_all; done) | (simp_all; omega)) ?_)
          refine kdcall hR.inv te_ok rfl rfl rfl rfl rfl rfl (rows_ok _ _ (b2 _ (nth_mem (by omega))) (b2 _ (nth_mem (by omega)))) ?_
          simp only [go_sem, w1, ek, e1, e2, eN, w2, w3]
          repeat (refine And.intro (by first | assumption | omega | (simp only [Bool.not_eq_true', Bool.or_eq_false_iff, Bool.or_eq_true, Bool.and_eq_true, decide_eq_true_eq, decide_eq_false_iff_not, beq_iff_eq, Bool.not_eq_false']; omega) | (simp; done) | (simp; omega) | (intros; omega) | (simp_all; done) | (simp_all; omega)) ?_)
          exact hQ
        refine Exec.cond_split rfl (fun h4 => ?_) (fun h4 => ?_)
        · exfalso
          have := set_step (rows_ord cmp_ord) (x := x) hx hi
          simp at h4; omega
        refine Exec.skip ?_
        refine Exec.inBlock ?_
        apply Exec.regionL te_ok
        · intro ops' Q hQ
          simp only [go_sem, w1, ek, e1, e2, eN, w2, w3]
          repeat (refine And.intro (by first | assumption | omega | (simp only [Bool.not_eq_true', Bool.or_eq_false_iff, Bool.or_eq_true, Bool.and_eq_true, decide_eq_true_eq, decide_eq_false_iff_not, beq_iff_eq, Bool.not_eq_false']; omega) | (simp; done) | (simp; omega) | (intros; omega) | (simp_all; done) | (simp_all; omega)) ?_)
          exact hQ
        refine Exec.back (ih0 (i + 1) ?_ ?_) ?_ ?_ ?_ ?_ ?_ ?_ ?_
        · try simp only
          omega
        · try simp only
          omega
        · rfl
        · rfl
        · (simp only [go_sem, w1, ek, e1, e2, eN, w2, w3])
        · (simp only [go_sem, w1, ek, e1, e2, eN, w2, w3])
        · (simp only [go_sem, w1, ek, e1, e2, eN, w2, w3])
        · simp only [go_sem, w1, ek, e1, e2, eN, w2, w3]
        · rfl
      · skip
        refine Exec.exit rfl ?_
        refine Exec.seq ?_
        apply Exec.regionL te_ok
        · intro ops' Q hQ
          simp only [go_sem, w1, ek, e1, e2, eN]
          repeat (refine And.intro (by first | assumption | omega | (simp only [Bool.not_eq_true', Bool.or_eq_false_iff, Bool.or_eq_true, Bool.and_eq_true, decide_eq_true_eq, decide_eq_false_iff_not, beq_iff_eq, Bool.not_eq_false']; omega) | (simp; done) | (simp; omega) | (intros; omega) | (simp_all; done) | (simp_all; omega)) ?_)
          refine kcall hR.inv te_ok rfl rfl rfl rfl rfl rfl (within_ok _ _ (by assumption) (by assumption) (by assumption) (by assumption)) ?_
          simp only [go_sem, w1, ek, e1, e2, eN]
          repeat (refine And.intro (by first | assumption | omega | (simp only [Bool.not_eq_true', Bool.or_eq_false_iff, Bool.or_eq_true, Bool.and_eq_true, decide_eq_true_eq, decide_eq_false_iff_not, beq_iff_eq, Bool.not_eq_false']; omega) | (simp; done) | (simp; omega) | (intros; omega) | (simp_all; done) | (simp_all; omega)) ?_)
          refine kcallG hR.inv te_ok rfl rfl rfl rfl rfl rfl (by simp only [go_sem] <;> (first | assumption | omega | (simp only [Bool.not_eq_true', Bool.or_eq_false_iff, Bool.or_eq_true, Bool.and_eq_true, decide_eq_true_eq, decide_eq_false_iff_not, beq_iff_eq, Bool.not_eq_false']; omega) | (simp; done) | (simp; omega) | (intros; omega) | (simp_all; done) | (simp_all; omega))) (fun hq => within_ok _ _ (by assumption) (by assumption) (by assumption) (by assumption)) ?_
          simp only [go_sem, w1, ek, e1, e2, eN]
          repeat (refine And.intro (by first | assumption | omega | (simp only [Bool.not_eq_true', Bool.or_eq_false_iff, Bool.or_eq_true, Bool.and_eq_true, decide_eq_true_eq, decide_eq_false_iff_not, beq_iff_eq, Bool.not_eq_false']; omega) | (simp; done) | (simp; omega) | (intros; omega) | (simp_all; done) | (simp_all; omega)) ?_)
          exact hQ
        refine Exec.rets hR te_ok rfl rfl rfl (LeX.le ?_) (.inr ⟨_, rfl⟩)
        simp only [go_sem]
        have q1 : ∀ a ∈ setL (rowsL Vl.cmp) x, a ∈ x := fun a ha => (set_mem x a).1 ha
        have q2 : ∀ a ∈ x, a ∈ setL (rowsL Vl.cmp) x := fun a ha => (set_mem x a).2 ha
        rw [decide_eq_true q1, decide_eq_true q2]
        rfl
end Go.Proofs.YtmnponhhmkdcdaaDoor
