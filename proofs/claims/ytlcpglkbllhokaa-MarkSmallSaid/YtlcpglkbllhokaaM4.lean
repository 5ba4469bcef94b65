/- Contracts of functions of the seat, walked. -/
import Derived.Test.YtlcpglkbllhokaaM3
namespace Go.Proofs.Ytlcpglkbllhokaa
open Go.Kin
set_option linter.unusedSimpArgs false
set_option linter.unusedVariables false
set_option maxRecDepth 100000
set_option maxHeartbeats 0
def allN (is : Bool) (late n : Int) (l : List Int) : Int := l.foldl (edgeN is late) n
theorem allN_snoc (is : Bool) (late n : Int) (l : List Int) (t : Int) : allN is late n (l ++ [t]) = edgeN is late (allN is late n l) t := by simp [allN]
theorem edgeN_ne {is : Bool} {late n t : Int} (h : edgeE is n t ≠ 0) : edgeN is late n t = n := by simp [edgeN, h]

theorem all_ok (is : Bool) (late n : Int) (l : List Int) (x : Nat) (row : Nat → List D) (hx : l.length ≤ x) (hr : ∀ i, i < l.length → row i = [iv (nth l i)]) (hlen : l.length ≤ 100000) (hls : ∀ t ∈ l, I64 t) : FnOK Try.prog 19 [mk3 is late n, .fn 33 [.ptr [.sl 1 l.length x row]]] (mk3 is late (allN is late n l)) := by
  refine FnOK_of Try.func19 Try.ntmps19 rfl (by as_aux_lemma => kernel_rfl) (Nat.le_of_ble_eq_true rfl) (fun R hR => ?_)
  obtain ⟨_, b, cs, T, C⟩ := R
  obtain rfl : _ = Try.prog := hR.p
  refine Exec.seq ?_
  apply Exec.regionL te_ok
  · intro ops' Q hQ
    simp only [go_sem]
    repeat (refine And.intro (by first | assumption | omega | (simp; done) | (simp; omega) | (intros; omega) | (simp_all; done) | (simp_all; omega)) ?_)
    exact hQ
  refine Exec.scope ?_
  refine Exec.seq ?_
  refine Exec.seq ?_
  apply Exec.regionL te_ok
  · intro ops' Q hQ
    simp only [go_sem]
    repeat (refine And.intro (by first | assumption | omega | (simp; done) | (simp; omega) | (intros; omega) | (simp_all; done) | (simp_all; omega)) ?_)
    exact hQ
  refine Exec.cond (t := false) rfl ?_
  simp only [reduceIte, Bool.false_eq_true]
  refine Exec.skip ?_
  refine Exec.seq ?_
  refine Exec.label ?_
  refine Exec.seq ?_
  refine Exec.seq ?_
  apply Exec.regionL te_ok
  · intro ops' Q hQ
    simp only [go_sem]
    repeat (refine And.intro (by first | assumption | omega | (simp; done) | (simp; omega) | (intros; omega) | (simp_all; done) | (simp_all; omega)) ?_)
    exact hQ
  refine Exec.block ?_
  refine Exec.range 1 hR.round hR.bfn rfl rfl Try.func33 Try.ntmps33 rfl (by as_aux_lemma => kernel_rfl) (Nat.le_of_ble_eq_true rfl) (fun a0 l0 r0 lo0 hlo0 hN0 hD0 hfr0 hfl0 => ?_)
  apply Exec.norm
  · simp only [go_sem]
    rfl
  refine Exec.seq ?_
  apply Exec.regionL te_ok
  · intro ops' Q hQ
    simp only [go_sem]
    repeat (refine And.intro (by first | assumption | omega | (simp; done) | (simp; omega) | (intros; omega) | (simp_all; done) | (simp_all; omega)) ?_)
    exact hQ
  refine Exec.block ?_
  apply Exec.loopU [0, 5, 6] (X := Nat × Int) (fun ⟨i, m⟩ => [(7, .d (iv i))]) (fun ⟨i, m⟩ => [(1002, 25, [.d (.v (.bool is)), .d (iv late), .d (iv m)])]) (fun ⟨i, m⟩ => []) (fun ⟨i, m⟩ => l.length - i) (fun ⟨i, m⟩ => i ≤ l.length ∧ m = allN is late n (l.take i)) (0, n)
  case h0 =>
    simp [allN]
  case hw =>
    simp only [go_sem]
  case body =>
    rintro ⟨i, m⟩ hx ih0
    try simp only at hx
    apply Exec.norm
    · simp only [go_sem]
      rfl
    refine Exec.seq ?_
    apply Exec.regionL te_ok
    · intro ops' Q hQ
      simp only [go_sem]
      repeat (refine And.intro (by first | assumption | omega | (simp; done) | (simp; omega) | (intros; omega) | (simp_all; done) | (simp_all; omega)) ?_)
      exact hQ
    refine Exec.seq ?_
    refine Exec.cond_split rfl (fun h1 => ?_) (fun h1 => ?_)
    · skip
      have hi : i < l.length := by simp at h1; omega
      have hri := hr i hi
      have hti : I64 (nth l i) := hls _ (nth_mem hi)
      have hwi : IntKind.i64.wrap ((i : Int) + 1) = ((i + 1 : Nat) : Int) := by rw [wrap_id (by constructor <;> omega)]; simp
      refine Exec.skip ?_
      refine Exec.seq ?_
      refine Exec.block ?_
      refine Exec.seq ?_
      apply Exec.regionL te_ok
      · intro ops' Q hQ
        simp only [go_sem, hri, hwi]
        repeat (refine And.intro (by first | assumption | omega | (simp; done) | (simp; omega) | (intros; omega) | (simp_all; done) | (simp_all; omega)) ?_)
        exact hQ
      refine Exec.seq ?_
      refine Exec.regStart 4 rfl ?_
      apply Exec.regPart 0 2 2 te_ok rfl
      · intro ops' Q hQ
        simp only [go_sem, hri, hwi]
        repeat (refine And.intro (by first | assumption | omega | (simp; done) | (simp; omega) | (intros; omega) | (simp_all; done) | (simp_all; omega)) ?_)
        exact hQ
      refine Exec.yield 1 (m := 1) rfl rfl rfl rfl rfl rfl hlo0 rfl hN0 rfl (fun ag0 hag0 hdg0 => ?_)
      apply Exec.norm
      · simp only [go_sem, hri, hwi]
        rfl
      apply Exec.regionL te_ok
      · intro ops' Q hQ
        simp only [go_sem, hri, hwi]
        repeat (refine And.intro (by first | assumption | omega | (simp; done) | (simp; omega) | (intros; omega) | (simp_all; done) | (simp_all; omega)) ?_)
        exact hQ
      refine Exec.begin rfl hlo0 hfl0 ?_
      apply Exec.norm
      · simp only [go_sem, hri, hwi]
        rfl
      refine Exec.block ?_
      refine Exec.seq ?_
      apply Exec.regionL te_ok
      · intro ops' Q hQ
        simp only [go_sem, hri, hwi]
        repeat (refine And.intro (by first | assumption | omega | (simp; done) | (simp; omega) | (intros; omega) | (simp_all; done) | (simp_all; omega)) ?_)
        refine kcall te_ok rfl rfl rfl rfl rfl rfl (edge_ok _ _ _ (by assumption)) ?_
        simp only [go_sem, hri, hwi]
        repeat (refine And.intro (by first | assumption | omega | (simp; done) | (simp; omega) | (intros; omega) | (simp_all; done) | (simp_all; omega)) ?_)
        exact hQ
      refine Exec.seq ?_
      refine Exec.seq ?_
      apply Exec.regionL te_ok
      · intro ops' Q hQ
        simp only [go_sem, hri, hwi]
        repeat (refine And.intro (by first | assumption | omega | (simp; done) | (simp; omega) | (intros; omega) | (simp_all; done) | (simp_all; omega)) ?_)
        exact hQ
      refine Exec.cond_split rfl (fun h2 => ?_) (fun h2 => ?_)
      · skip
        refine Exec.exit rfl ?_
        refine Exec.roundEnd 1 .fall rfl hlo0 hfl0 rfl hag0 hdg0 rfl rfl rfl ?_
        apply Exec.norm
        · simp only [go_sem, hri, hwi]
          rfl
        apply Exec.regPart 3 1 0 te_ok rfl
        · intro ops' Q hQ
          simp only [go_sem, hri, hwi]
          repeat (refine And.intro (by first | assumption | omega | (simp; done) | (simp; omega) | (intros; omega) | (simp_all; done) | (simp_all; omega)) ?_)
          exact hQ
        refine Exec.regEnd ?_
        refine Exec.cond (t := false) rfl ?_
        simp only [reduceIte, Bool.false_eq_true]
        refine Exec.skip ?_
        refine Exec.inBlock ?_
        apply Exec.regionL te_ok
        · intro ops' Q hQ
          simp only [go_sem, hri, hwi]
          repeat (refine And.intro (by first | assumption | omega | (simp; done) | (simp; omega) | (intros; omega) | (simp_all; done) | (simp_all; omega)) ?_)
          exact hQ
        refine Exec.back (ih0 (i + 1, m) ?_ ?_) ?_ ?_ ?_ ?_ ?_ ?_ ?_
        · try simp only
          exact ⟨by omega, by first | (rw [take_succ_nth hi, allN_snoc, ← hx.2]; done) | (rw [take_succ_nth hi, allN_snoc, ← hx.2]; exact (edgeN_ne (by simpa using h2)).symm)⟩
        · try simp only
          omega
        · rfl
        · rfl
        · (simp only [go_sem, hri, hwi])
        · (simp only [go_sem, hri, hwi])
        · (simp only [go_sem, hri, hwi])
        · simp only [go_sem, hri, hwi]
        · rfl
      · skip
        refine Exec.skip ?_
        apply Exec.regionL te_ok
        · intro ops' Q hQ
          simp only [go_sem, hri, hwi]
          repeat (refine And.intro (by first | assumption | omega | (simp; done) | (simp; omega) | (intros; omega) | (simp_all; done) | (simp_all; omega)) ?_)
          exact hQ
        refine Exec.inBlock ?_
        refine Exec.roundEnd 1 .fall rfl hlo0 hfl0 rfl hag0 hdg0 rfl rfl rfl ?_
        apply Exec.norm
        · simp only [go_sem, hri, hwi]
          rfl
        apply Exec.regPart 3 1 0 te_ok rfl
        · intro ops' Q hQ
          simp only [go_sem, hri, hwi]
          repeat (refine And.intro (by first | assumption | omega | (simp; done) | (simp; omega) | (intros; omega) | (simp_all; done) | (simp_all; omega)) ?_)
          exact hQ
        refine Exec.regEnd ?_
        refine Exec.cond (t := false) rfl ?_
        simp only [reduceIte, Bool.false_eq_true]
        refine Exec.skip ?_
        refine Exec.inBlock ?_
        apply Exec.regionL te_ok
        · intro ops' Q hQ
          simp only [go_sem, hri, hwi]
          repeat (refine And.intro (by first | assumption | omega | (simp; done) | (simp; omega) | (intros; omega) | (simp_all; done) | (simp_all; omega)) ?_)
          exact hQ
        refine Exec.back (ih0 (i + 1, edgeN is late m (nth l i)) ?_ ?_) ?_ ?_ ?_ ?_ ?_ ?_ ?_
        · try simp only
          exact ⟨by omega, by first | (rw [take_succ_nth hi, allN_snoc, ← hx.2]; done) | (rw [take_succ_nth hi, allN_snoc, ← hx.2]; exact (edgeN_ne (by simpa using h2)).symm)⟩
        · try simp only
          omega
        · rfl
        · rfl
        · (simp only [go_sem, hri, hwi])
        · (simp only [go_sem, hri, hwi])
        · (simp only [go_sem, hri, hwi])
        · simp only [go_sem, hri, hwi]
        · rfl
    · skip
      refine Exec.exit rfl ?_
      refine Exec.rangeEnd 1 (pd := none) Try.func33 rfl (.inl rfl) rfl rfl hlo0 hfl0 rfl rfl hN0 hD0 ?_
      apply Exec.norm
      · simp only [go_sem]
        rfl
      refine Exec.inBlock ?_
      refine Exec.seq ?_
      apply Exec.regionL te_ok
      · intro ops' Q hQ
        simp only [go_sem]
        repeat (refine And.intro (by first | assumption | omega | (simp; done) | (simp; omega) | (intros; omega) | (simp_all; done) | (simp_all; omega)) ?_)
        exact hQ
      refine Exec.retsM hR te_ok rfl (.cons hfr0 .nil) rfl (LeX.le ?_) (.inr ⟨_, rfl⟩)
      simp only [go_sem]
      simp at h1
      rw [hx.2, List.take_of_length_le (by omega)]
def allP (is : Bool) (late : Int) (p l : List Int) : List Int := l.foldl (edgeP is late) p
theorem allP_snoc (is : Bool) (late : Int) (p l : List Int) (t : Int) : allP is late p (l ++ [t]) = edgeP is late (allP is late p l) t := by simp [allP]
theorem allP_len (is : Bool) (late : Int) : ∀ (l p : List Int), (allP is late p l).length ≤ p.length + l.length
  | [], p => by simp [allP]
  | t :: l, p => by
    have h1 := allP_len is late l (edgeP is late p t)
    have h2 := edgeP_len is late p t
    simp only [allP, List.foldl_cons, List.length_cons] at h1 ⊢
    omega
theorem edgeP_ne {is : Bool} {late t : Int} {p : List Int} (h : edgeR is p t ≠ 0) : edgeP is late p t = p := by simp [edgeP, h]
theorem allP_nil {is : Bool} {late : Int} {p l : List Int} (h : is = false → late = 0 ∧ p = []) (hf : is = false) : late = 0 ∧ allP is late p l = [] := by
  obtain ⟨h1, rfl⟩ := h hf
  refine ⟨h1, ?_⟩
  subst hf
  induction l with
  | nil => rfl
  | cons t l ih => simpa [allP, edgeP, edgeR] using ih

theorem rall_ok (is : Bool) (late : Int) (p l : List Int) (hp : p.length ≤ 10000) (hlen : l.length ≤ 10000) (hn : is = false → late = 0 ∧ p = []) : FnOK Try.prog 21 [refM is late p, intsD l] (refM is late (allP is late p l)) := by
  refine FnOK_of Try.func21 Try.ntmps21 rfl (by as_aux_lemma => kernel_rfl) (Nat.le_of_ble_eq_true rfl) (fun R hR => ?_)
  obtain ⟨_, b, cs, T, C⟩ := R
  obtain rfl : _ = Try.prog := hR.p
  refine Exec.seq ?_
  apply Exec.regionL te_ok
  · intro ops' Q hQ
    simp only [go_sem]
    repeat (refine And.intro (by first | assumption | omega | (simp; done) | (simp; omega) | (intros; omega) | (simp_all; done) | (simp_all; omega)) ?_)
    exact hQ
  refine Exec.seq ?_
  refine Exec.seq ?_
  apply Exec.regionL te_ok
  · intro ops' Q hQ
    simp only [go_sem]
    repeat (refine And.intro (by first | assumption | omega | (simp; done) | (simp; omega) | (intros; omega) | (simp_all; done) | (simp_all; omega)) ?_)
    exact hQ
  refine Exec.block ?_
  apply Exec.loopU [1, 2, 4] (X := Nat × List Int) (fun ⟨i, q⟩ => [(5, .d (iv i))]) (fun ⟨i, q⟩ => [(2, 37, [.d (.v (.bool is)), .d (iv late), .d (intsD q)])]) (fun ⟨i, q⟩ => []) (fun ⟨i, q⟩ => l.length - i) (fun ⟨i, q⟩ => i ≤ l.length ∧ q = allP is late p (l.take i)) (0, p)
  case h0 =>
    simp [allP]
  case hw =>
    simp only [go_sem]
  case body =>
    rintro ⟨i, q⟩ hx ih0
    try simp only at hx
    apply Exec.norm
    · simp only [go_sem]
      rfl
    refine Exec.seq ?_
    refine Exec.seq ?_
    apply Exec.regionL te_ok
    · intro ops' Q hQ
      simp only [go_sem]
      repeat (refine And.intro (by first | assumption | omega | (simp; done) | (simp; omega) | (intros; omega) | (simp_all; done) | (simp_all; omega)) ?_)
      exact hQ
    refine Exec.cond_split rfl (fun h0 => ?_) (fun h0 => ?_)
    · skip
      have hi : i < l.length := by simp at h0; omega
      have hp2 : q.length ≤ 100000 := by have := allP_len is late (l.take i) p; rw [← hx.2] at this; simp at this; omega
      have hn2 : is = false → late = 0 ∧ q = [] := by rw [hx.2]; exact allP_nil hn
      have hwi : IntKind.i64.wrap ((i : Int) + 1) = ((i + 1 : Nat) : Int) := by rw [wrap_id (by constructor <;> omega)]; simp
      refine Exec.skip ?_
      refine Exec.seq ?_
      refine Exec.block ?_
      refine Exec.seq ?_
      apply Exec.draw (st := _) 13 10 [6] [8] te_ok (by as_aux_lemma => kernel_rfl) (by as_aux_lemma => kernel_rfl) (by as_aux_lemma => kernel_rfl)
      · intro ops' Q hQ
        simp only [go_sem, hwi]
        repeat (refine And.intro (by first | assumption | omega | (simp; done) | (simp; omega) | (intros; omega) | (simp_all; done) | (simp_all; omega)) ?_)
        refine kdcall te_ok rfl rfl rfl rfl rfl rfl (redge_ok _ _ _ hp2 _ hn2) ?_
        simp only [go_sem, hwi]
        repeat (refine And.intro (by first | assumption | omega | (simp; done) | (simp; omega) | (intros; omega) | (simp_all; done) | (simp_all; omega)) ?_)
        exact hQ
      refine Exec.seq ?_
      apply Exec.regionL te_ok
      · intro ops' Q hQ
        simp only [go_sem, hwi]
        repeat (refine And.intro (by first | assumption | omega | (simp; done) | (simp; omega) | (intros; omega) | (simp_all; done) | (simp_all; omega)) ?_)
        exact hQ
      refine Exec.cond_split rfl (fun h1 => ?_) (fun h1 => ?_)
      · skip
        apply Exec.regionL te_ok
        · intro ops' Q hQ
          simp only [go_sem, hwi]
          repeat (refine And.intro (by first | assumption | omega | (simp; done) | (simp; omega) | (intros; omega) | (simp_all; done) | (simp_all; omega)) ?_)
          exact hQ
        refine Exec.inBlock ?_
        apply Exec.regionL te_ok
        · intro ops' Q hQ
          simp only [go_sem, hwi]
          repeat (refine And.intro (by first | assumption | omega | (simp; done) | (simp; omega) | (intros; omega) | (simp_all; done) | (simp_all; omega)) ?_)
          exact hQ
        refine Exec.back (ih0 (i + 1, edgeP is late q (nth l i)) ?_ ?_) ?_ ?_ ?_ ?_ ?_ ?_ ?_
        · try simp only
          exact ⟨by omega, by first | (rw [take_succ_nth hi, allP_snoc, ← hx.2]; done) | (rw [take_succ_nth hi, allP_snoc, ← hx.2]; exact (edgeP_ne (by simpa using h1)).symm)⟩
        · try simp only
          omega
        · rfl
        · rfl
        · (simp only [go_sem, hwi])
        · (simp only [go_sem, hwi])
        · (simp only [go_sem, hwi])
        · simp only [go_sem, hwi]
        · rfl
      · skip
        refine Exec.skip ?_
        refine Exec.inBlock ?_
        apply Exec.regionL te_ok
        · intro ops' Q hQ
          simp only [go_sem, hwi]
          repeat (refine And.intro (by first | assumption | omega | (simp; done) | (simp; omega) | (intros; omega) | (simp_all; done) | (simp_all; omega)) ?_)
          exact hQ
        refine Exec.back (ih0 (i + 1, q) ?_ ?_) ?_ ?_ ?_ ?_ ?_ ?_ ?_
        · try simp only
          exact ⟨by omega, by first | (rw [take_succ_nth hi, allP_snoc, ← hx.2]; done) | (rw [take_succ_nth hi, allP_snoc, ← hx.2]; exact (edgeP_ne (by simpa using h1)).symm)⟩
        · try simp only
          omega
        · rfl
        · rfl
        · (simp only [go_sem, hwi])
        · (simp only [go_sem, hwi])
        · (simp only [go_sem, hwi])
        · simp only [go_sem, hwi]
        · rfl
    · skip
      refine Exec.exit rfl ?_
      refine Exec.seq ?_
      apply Exec.regionL te_ok
      · intro ops' Q hQ
        simp only [go_sem]
        repeat (refine And.intro (by first | assumption | omega | (simp; done) | (simp; omega) | (intros; omega) | (simp_all; done) | (simp_all; omega)) ?_)
        exact hQ
      refine Exec.rets hR te_ok rfl rfl rfl (LeX.le ?_) (.inr ⟨_, rfl⟩)
      simp only [go_sem]
      simp at h0
      have e : q = allP is late p l := by rw [hx.2, List.take_of_length_le (by omega)]
      subst e
      simp
theorem kept_no {l : List Int} (hl : l.length ≤ 100000) {i : Nat} (hi : i < l.length + 12) :
    (decide ((i : Int) < (l.length : Int)) && !nth (l ++ marks1) i == nth l i || decide ((l.length : Int) ≤ (i : Int)) && !nth (l ++ marks1) i == markI 1 (IntKind.i64.wrap ((i : Int) - (l.length : Int)))) = false := by
  by_cases h : i < l.length
  · rw [nth_left h]
    have : ¬ ((l.length : Int) ≤ (i : Int)) := by omega
    simp [this]
  · obtain ⟨j, rfl⟩ : ∃ j, i = l.length + j := ⟨i - l.length, by omega⟩
    have h1 : ¬ (((l.length + j : Nat) : Int) < (l.length : Int)) := by omega
    have h2 : (((l.length + j : Nat) : Int) - (l.length : Int)) = (j : Int) := by omega
    rw [nth_right, nth_marks (by omega), h2, wrap_id (by constructor <;> omega)]
    simp only [h1, decide_false, Bool.false_and, Bool.false_or, beq_self_eq_true, Bool.not_true, Bool.and_false]

theorem kept_ok (l : List Int) (hl : l.length ≤ 100000) : FnOK Try.prog 22 [lentD l, intsD l] (.v (.bool true)) := by
  refine FnOK_of Try.func22 Try.ntmps22 rfl (by as_aux_lemma => kernel_rfl) (Nat.le_of_ble_eq_true rfl) (fun R hR => ?_)
  obtain ⟨_, b, cs, T, C⟩ := R
  obtain rfl : _ = Try.prog := hR.p
  have hw12 : IntKind.i64.wrap ((l.length : Int) + 12) = ((l.length + 12 : Nat) : Int) := by rw [wrap_id (by constructor <;> omega)]; simp
  refine Exec.seq ?_
  apply Exec.regionL te_ok
  · intro ops' Q hQ
    simp only [go_sem, hw12, lentD]
    repeat (refine And.intro (by first | assumption | omega | (simp; done) | (simp; omega) | (intros; omega) | (simp_all; done) | (simp_all; omega)) ?_)
    exact hQ
  refine Exec.seq ?_
  refine Exec.seq ?_
  apply Exec.regionL te_ok
  · intro ops' Q hQ
    simp only [go_sem, hw12, lentD]
    repeat (refine And.intro (by first | assumption | omega | (simp; done) | (simp; omega) | (intros; omega) | (simp_all; done) | (simp_all; omega)) ?_)
    exact hQ
  refine Exec.cond (t := false) rfl ?_
  simp only [reduceIte, Bool.false_eq_true]
  refine Exec.skip ?_
  refine Exec.seq ?_
  apply Exec.regionL te_ok
  · intro ops' Q hQ
    simp only [go_sem, hw12, lentD]
    repeat (refine And.intro (by first | assumption | omega | (simp; done) | (simp; omega) | (intros; omega) | (simp_all; done) | (simp_all; omega)) ?_)
    exact hQ
  refine Exec.seq ?_
  refine Exec.seq ?_
  apply Exec.regionL te_ok
  · intro ops' Q hQ
    simp only [go_sem, hw12, lentD]
    repeat (refine And.intro (by first | assumption | omega | (simp; done) | (simp; omega) | (intros; omega) | (simp_all; done) | (simp_all; omega)) ?_)
    exact hQ
  refine Exec.block ?_
  apply Exec.loopU [1, 5] (X := Nat) (fun i => [(6, .d (iv i))]) (fun i => []) (fun i => []) (fun i => l.length + 12 - i) (fun i => i ≤ l.length + 12) 0
  case h0 =>
    first | assumption | omega | (simp; done) | (simp; omega) | (intros; omega) | (simp_all; done) | (simp_all; omega)
  case hw =>
    simp only [go_sem, hw12, lentD]
  case body =>
    rintro i hx ih0
    try simp only at hx
    apply Exec.norm
    · simp only [go_sem, hw12, lentD]
      rfl
    refine Exec.seq ?_
    refine Exec.seq ?_
    apply Exec.regionL te_ok
    · intro ops' Q hQ
      simp only [go_sem, hw12, lentD]
      repeat (refine And.intro (by first | assumption | omega | (simp; done) | (simp; omega) | (intros; omega) | (simp_all; done) | (simp_all; omega)) ?_)
      exact hQ
    refine Exec.cond_split rfl (fun h1 => ?_) (fun h1 => ?_)
    · skip
      have hi : i < l.length + 12 := by simp at h1; omega
      have hwi : IntKind.i64.wrap ((i : Int) + 1) = ((i + 1 : Nat) : Int) := by rw [wrap_id (by constructor <;> omega)]; simp
      refine Exec.skip ?_
      refine Exec.seq ?_
      refine Exec.block ?_
      refine Exec.seq ?_
      apply Exec.draw (st := _) 36 35 [] [] te_ok (by as_aux_lemma => kernel_rfl) (by as_aux_lemma => kernel_rfl) (by as_aux_lemma => kernel_rfl)
      · intro ops' Q hQ
        simp only [go_sem, hw12, lentD, hwi]
        repeat (refine And.intro (by first | assumption | omega | (simp; done) | (simp; omega) | (intros; omega) | (simp_all; done) | (simp_all; omega)) ?_)
        refine kdcallG te_ok rfl rfl rfl rfl rfl rfl (by simp only [go_sem] <;> (first | assumption | omega | (simp; done) | (simp; omega) | (intros; omega) | (simp_all; done) | (simp_all; omega))) (fun hq => mark_ok _ _) ?_
        simp only [go_sem, hw12, lentD, hwi]
        repeat (refine And.intro (by first | assumption | omega | (simp; done) | (simp; omega) | (intros; omega) | (simp_all; done) | (simp_all; omega)) ?_)
        exact hQ
      refine Exec.cond_split rfl (fun h2 => ?_) (fun h2 => ?_)
      · exfalso
        have := kept_no hl hi
        rw [h2] at this
        cases this
      refine Exec.skip ?_
      refine Exec.inBlock ?_
      apply Exec.regionL te_ok
      · intro ops' Q hQ
        simp only [go_sem, hw12, lentD, hwi]
        repeat (refine And.intro (by first | assumption | omega | (simp; done) | (simp; omega) | (intros; omega) | (simp_all; done) | (simp_all; omega)) ?_)
        exact hQ
      refine Exec.back (ih0 (i + 1) ?_ ?_) ?_ ?_ ?_ ?_ ?_ ?_ ?_
      · try simp only
        omega
      · try simp only
        omega
      · rfl
      · rfl
      · (simp only [go_sem, hw12, lentD, hwi])
      · (simp only [go_sem, hw12, lentD, hwi])
      · (simp only [go_sem, hw12, lentD, hwi])
      · simp only [go_sem, hw12, lentD, hwi]
      · rfl
    · skip
      refine Exec.exit rfl ?_
      refine Exec.seq ?_
      apply Exec.regionL te_ok
      · intro ops' Q hQ
        simp only [go_sem, hw12, lentD]
        repeat (refine And.intro (by first | assumption | omega | (simp; done) | (simp; omega) | (intros; omega) | (simp_all; done) | (simp_all; omega)) ?_)
        exact hQ
      refine Exec.rets hR te_ok rfl rfl rfl (LeX.le ?_) (.inr ⟨_, rfl⟩)
      simp only [go_sem, hw12, lentD]
theorem both_all {tm : Bool} {late : Int} : ∀ (l : List Int) {n : Int} {p : List Int}, Both tm late n p → Both tm late (allN tm late n l) (allP tm late p l)
  | [], _, _, h => h
  | t :: l, _, _, h => both_all l (both_edge h t).1

theorem alls_ok {late t : Int} (hl : I64 late) (ht : I64 t) (l : List Int) (hls : ∀ x ∈ l, I64 x) (hlen : l.length ≤ topLen) : FnOK Try.prog 6 [iv late, iv t, intsD l] (.v (.bool true)) := by
  refine FnOK_of Try.func6 Try.ntmps6 rfl (by as_aux_lemma => kernel_rfl) (Nat.le_of_ble_eq_true rfl) (fun R hR => ?_)
  obtain ⟨_, b, cs, T, C⟩ := R
  obtain rfl : _ = Try.prog := hR.p
  have hb0 := both_point (both_new late) t
  have hn0 := both_nil hb0
  have hba := both_all l hb0
  have hba2 := both_same hba t
  have hz0 : ([] : List Int).length ≤ 100000 := by simp
  have hp1 : (pointP (tmB late) [] t).length ≤ 10000 := by have := pointP_len (tmB late) [] t; simp at this; omega
  have hp3 : (pointP (tmB late) [] t).length ≤ 100000 := by omega
  refine Exec.seq ?_
  apply Exec.regionL te_ok
  · intro ops' Q hQ
    simp only [go_sem]
    repeat (refine And.intro (by first | assumption | omega | (simp; done) | (simp; omega) | (intros; omega) | (simp_all; done) | (simp_all; omega)) ?_)
    exact hQ
  refine Exec.seq ?_
  refine Exec.seq ?_
  apply Exec.regionL te_ok
  · intro ops' Q hQ
    simp only [go_sem]
    repeat (refine And.intro (by first | assumption | omega | (simp; done) | (simp; omega) | (intros; omega) | (simp_all; done) | (simp_all; omega)) ?_)
    exact hQ
  refine Exec.cond_split rfl (fun h0 => ?_) (fun h0 => ?_)
  · skip
    refine Exec.seq ?_
    apply Exec.regionL te_ok
    · intro ops' Q hQ
      simp only [go_sem]
      repeat (refine And.intro (by first | assumption | omega | (simp; done) | (simp; omega) | (intros; omega) | (simp_all; done) | (simp_all; omega)) ?_)
      refine kcall te_ok rfl rfl rfl rfl rfl rfl (awake_ok) ?_
      simp only [go_sem]
      repeat (refine And.intro (by first | assumption | omega | (simp; done) | (simp; omega) | (intros; omega) | (simp_all; done) | (simp_all; omega)) ?_)
      exact hQ
    refine Exec.rets hR te_ok rfl rfl rfl (LeX.le ?_) (.inr ⟨_, rfl⟩)
    simp only [go_sem]
  · skip
    have hi3 : l.length ≤ 300 := by simp at h0; omega
    have hl1 : l.length ≤ 100000 := by omega
    have hl2 : l.length ≤ 10000 := by omega
    have hp2 : (allP (tmB late) (lB late) (pointP (tmB late) [] t) l).length ≤ 100000 := by have := allP_len (tmB late) (lB late) l (pointP (tmB late) [] t); omega
    refine Exec.skip ?_
    refine Exec.seq ?_
    apply Exec.regionL te_ok
    · intro ops' Q hQ
      simp only [go_sem]
      repeat (refine And.intro (by first | assumption | omega | (simp; done) | (simp; omega) | (intros; omega) | (simp_all; done) | (simp_all; omega)) ?_)
      refine kcall te_ok rfl rfl rfl rfl rfl rfl (new2_ok (by assumption)) ?_
      simp only [go_sem]
      repeat (refine And.intro (by first | assumption | omega | (simp; done) | (simp; omega) | (intros; omega) | (simp_all; done) | (simp_all; omega)) ?_)
      exact hQ
    refine Exec.seq ?_
    apply Exec.regionL te_ok
    · intro ops' Q hQ
      simp only [go_sem]
      repeat (refine And.intro (by first | assumption | omega | (simp; done) | (simp; omega) | (intros; omega) | (simp_all; done) | (simp_all; omega)) ?_)
      refine kcall te_ok rfl rfl rfl rfl rfl rfl (rnew2_ok _) ?_
      simp only [go_sem]
      repeat (refine And.intro (by first | assumption | omega | (simp; done) | (simp; omega) | (intros; omega) | (simp_all; done) | (simp_all; omega)) ?_)
      exact hQ
    refine Exec.seq ?_
    refine Exec.seq ?_
    apply Exec.regionL te_ok
    · intro ops' Q hQ
      simp only [go_sem]
      repeat (refine And.intro (by first | assumption | omega | (simp; done) | (simp; omega) | (intros; omega) | (simp_all; done) | (simp_all; omega)) ?_)
      exact hQ
    refine Exec.cond (t := false) rfl ?_
    simp only [reduceIte, Bool.false_eq_true]
    refine Exec.skip ?_
    refine Exec.seq ?_
    apply Exec.regionL te_ok
    · intro ops' Q hQ
      simp only [go_sem]
      repeat (refine And.intro (by first | assumption | omega | (simp; done) | (simp; omega) | (intros; omega) | (simp_all; done) | (simp_all; omega)) ?_)
      refine kcall te_ok rfl rfl rfl rfl rfl rfl (point_ok _ _ _ (by assumption)) ?_
      simp only [go_sem]
      repeat (refine And.intro (by first | assumption | omega | (simp; done) | (simp; omega) | (intros; omega) | (simp_all; done) | (simp_all; omega)) ?_)
      exact hQ
    refine Exec.seq ?_
    apply Exec.regionL te_ok
    · intro ops' Q hQ
      simp only [go_sem]
      repeat (refine And.intro (by first | assumption | omega | (simp; done) | (simp; omega) | (intros; omega) | (simp_all; done) | (simp_all; omega)) ?_)
      refine kcall te_ok rfl rfl rfl rfl rfl rfl (rpoint_ok _ _ [] hz0 _ (both_nil (both_new late))) ?_
      simp only [go_sem]
      repeat (refine And.intro (by first | assumption | omega | (simp; done) | (simp; omega) | (intros; omega) | (simp_all; done) | (simp_all; omega)) ?_)
      exact hQ
    refine Exec.seq ?_
    apply Exec.regionL te_ok
    · intro ops' Q hQ
      simp only [go_sem]
      repeat (refine And.intro (by first | assumption | omega | (simp; done) | (simp; omega) | (intros; omega) | (simp_all; done) | (simp_all; omega)) ?_)
      refine kcall te_ok rfl rfl rfl rfl rfl rfl (lent_ok l hl1) ?_
      simp only [go_sem]
      repeat (refine And.intro (by first | assumption | omega | (simp; done) | (simp; omega) | (intros; omega) | (simp_all; done) | (simp_all; omega)) ?_)
      exact hQ
    refine Exec.seq ?_
    apply Exec.draw (st := _) 19 18 [] [] te_ok (by as_aux_lemma => kernel_rfl) (by as_aux_lemma => kernel_rfl) (by as_aux_lemma => kernel_rfl)
    · intro ops' Q hQ
      simp only [go_sem]
      repeat (refine And.intro (by first | assumption | omega | (simp; done) | (simp; omega) | (intros; omega) | (simp_all; done) | (simp_all; omega)) ?_)
      refine kdcall te_ok rfl rfl rfl rfl rfl rfl (values_ok _ _ _ _) ?_
      simp only [go_sem]
      repeat (refine And.intro (by first | assumption | omega | (simp; done) | (simp; omega) | (intros; omega) | (simp_all; done) | (simp_all; omega)) ?_)
      refine kdcall te_ok rfl rfl rfl rfl rfl rfl (all_ok _ _ _ l _ _ (by omega) (fun i hi => by rw [nth_left hi]) (by assumption) hls) ?_
      simp only [go_sem]
      repeat (refine And.intro (by first | assumption | omega | (simp; done) | (simp; omega) | (intros; omega) | (simp_all; done) | (simp_all; omega)) ?_)
      refine kdcall te_ok rfl rfl rfl rfl rfl rfl (rall_ok _ _ _ l hp1 hl2 hn0) ?_
      simp only [go_sem]
      repeat (refine And.intro (by first | assumption | omega | (simp; done) | (simp; omega) | (intros; omega) | (simp_all; done) | (simp_all; omega)) ?_)
      refine kdcall te_ok rfl rfl rfl rfl rfl rfl (same_ok _ _ _ _ _ _ hp2 _) ?_
      simp only [go_sem]
      repeat (refine And.intro (by first | assumption | omega | (simp; done) | (simp; omega) | (intros; omega) | (simp_all; done) | (simp_all; omega)) ?_)
      refine kdcallG te_ok rfl rfl rfl rfl rfl rfl (by simp only [go_sem] <;> (first | assumption | omega | (simp; done) | (simp; omega) | (intros; omega) | (simp_all; done) | (simp_all; omega))) (fun hq => kept_ok l hl1) ?_
      simp only [go_sem]
      repeat (refine And.intro (by first | assumption | omega | (simp; done) | (simp; omega) | (intros; omega) | (simp_all; done) | (simp_all; omega)) ?_)
      refine kdcallG te_ok rfl rfl rfl rfl rfl rfl (by simp only [go_sem] <;> (first | assumption | omega | (simp; done) | (simp; omega) | (intros; omega) | (simp_all; done) | (simp_all; omega))) (fun hq => awake_ok) ?_
      simp only [go_sem]
      repeat (refine And.intro (by first | assumption | omega | (simp; done) | (simp; omega) | (intros; omega) | (simp_all; done) | (simp_all; omega)) ?_)
      exact hQ
    refine Exec.rets hR te_ok rfl rfl rfl (LeX.le ?_) (.inr ⟨_, rfl⟩)
    simp only [go_sem]
    exact hba2
end Go.Proofs.Ytlcpglkbllhokaa
