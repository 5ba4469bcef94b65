/- Contracts of functions of the seat, walked. -/
import Derived.Test.YtlcpglkbllhokaaM0
namespace Go.Proofs.Ytlcpglkbllhokaa
open Go.Kin
set_option linter.unusedSimpArgs false
set_option linter.unusedVariables false
set_option maxRecDepth 100000
set_option maxHeartbeats 0
def intsD (l : List Int) : D := .sl 1 l.length l.length fun i => [iv (nth l i)]
attribute [go_sem] intsD
/-- the greatest of -1 and the numbers, less the lateness -/
def gm (late : Int) (l : List Int) : Int := l.foldl (fun m t => max m (t - late)) (-1)
def rot (k : Nat) (l : List Int) : List Int := l.drop k ++ l.take k
theorem take_nth {l : List Int} {i : Nat} (h : i < l.length) : l.take (i + 1) = l.take i ++ [nth l i] := by
  rw [List.take_succ_eq_append_getElem h]; congr 1; simp [nth, List.getD_eq_getElem?_getD, h]
theorem gm_snoc (late : Int) (l : List Int) (t : Int) : gm late (l ++ [t]) = max (gm late l) (t - late) := by simp [gm, List.foldl_append]
theorem gm_foldl (late : Int) : ∀ (l : List Int) (m : Int), -1 ≤ m → l.foldl (fun m t => max m (t - late)) m = max m (gm late l)
  | [], m, h => by simp [gm]; omega
  | t :: l, m, h => by
    simp only [List.foldl_cons, gm]
    rw [gm_foldl late l _ (by omega), gm_foldl late l (max (-1) (t - late)) (by omega)]
    omega
theorem gm_lo (late : Int) (l : List Int) : -1 ≤ gm late l := by
  have := gm_foldl late l (-1) (by omega)
  unfold gm; rw [this]; omega
theorem gm_append (late : Int) (a b : List Int) : gm late (a ++ b) = max (gm late a) (gm late b) := by
  simp only [gm, List.foldl_append]
  exact gm_foldl late b _ (gm_lo late a)
theorem gm_rot (late : Int) (k : Nat) (l : List Int) : gm late (rot k l) = gm late l := by
  rw [rot, gm_append]
  have := gm_append late (l.take k) (l.drop k)
  rw [List.take_append_drop] at this
  omega
theorem ord1 {late na g t : Int} {ok : Bool} (hl : 0 ≤ late ∧ late ≤ 1099511627776) (hg : -1 ≤ g) (hg' : g ≤ 9223372036854775807) (h : ok = true → na = max (-1) (g - late)) :
    ¬ ((ok && ((edgeE true na t == 0) != ((decide (0 ≤ t) && decide (t ≤ 1099511627776)) && (decide (g < 0) || decide (IntKind.i64.wrap (g - late) < t))))) = true) := by
  rw [wrap_id (by constructor <;> omega)]
  cases ok
  · simp
  · have := h rfl
    simp [edgeE, whyE, isTime]
    split <;> simp_all <;> grind
theorem nth_rot {l : List Int} {k i : Nat} (hk : k ≤ l.length) (hi : i < l.length) : nth (rot k l) i = nth l ((i + k) % l.length) := by
  unfold nth rot
  simp only [List.getD_eq_getElem?_getD]
  congr 1
  rcases Nat.lt_or_ge i (l.length - k) with h | h
  · rw [List.getElem?_append_left (by simp; omega), List.getElem?_drop, Nat.mod_eq_of_lt (by omega), Nat.add_comm]
  · rw [List.getElem?_append_right (by simp; omega), List.getElem?_take_of_lt (by simp; omega)]
    congr 1
    simp
    have : (i + k) % l.length = i + k - l.length := by
      rw [Nat.mod_eq_sub_mod (by omega), Nat.mod_eq_of_lt (by omega)]
    omega
theorem rot_len (k : Nat) (l : List Int) : (rot k l).length = l.length := by simp [rot]; omega
theorem ord2 {late na nb g : Int} {ok : Bool} {l : List Int} {i k : Nat} (hlb : 0 ≤ late ∧ late ≤ 1099511627776) (hk : k ≤ l.length) (hi : i < l.length) (ha : I64 (nth l i)) (hx : i ≤ l.length ∧ -1 ≤ g ∧ g ≤ 9223372036854775807 ∧ (ok = true → na = gm late (l.take i) ∧ nb = gm late ((rot k l).take i) ∧ na = max (-1) (g - late))) :
    i + 1 ≤ l.length ∧ -1 ≤ max g (nth l i) ∧ max g (nth l i) ≤ 9223372036854775807 ∧ ((ok && (edgeE true na (nth l i) == 0) && (edgeE true nb (nth l ((i + k) % l.length)) == 0)) = true → edgeN true late na (nth l i) = gm late (l.take (i + 1)) ∧ edgeN true late nb (nth l ((i + k) % l.length)) = gm late ((rot k l).take (i + 1)) ∧ edgeN true late na (nth l i) = max (-1) (max g (nth l i) - late)) := by
  obtain ⟨_, h1, h2, h3⟩ := hx
  refine ⟨by omega, by omega, by omega, fun h => ?_⟩
  simp only [Bool.and_eq_true, beq_iff_eq] at h
  obtain ⟨⟨h4, h5⟩, h6⟩ := h
  obtain ⟨rfl, rfl, h7⟩ := h3 h4
  have e1 : ∀ {n t : Int}, edgeE true n t = 0 → 0 ≤ t ∧ t ≤ 1099511627776 := fun {n t} h => by
    simp [edgeE, whyE, isTime] at h
    split at h <;> simp_all
  have b1 := e1 h5
  have b2 := e1 h6
  rw [take_nth hi, take_nth (by rw [rot_len]; exact hi), gm_snoc, gm_snoc, nth_rot hk hi]
  simp only [edgeN, h5, h6, if_true]
  rw [wrap_id (by constructor <;> omega), wrap_id (by constructor <;> omega)]
  refine ⟨rfl, rfl, ?_⟩
  omega

theorem order_ok {late : Int} (hl : I64 late) (l : List Int) (hll : ∀ x ∈ l, I64 x) (hlen : l.length ≤ topLen) (turn : Int) : FnOK Try.prog 4 [iv late, intsD l, iv turn] (.v (.bool true)) := by
  refine FnOK_of Try.func4 Try.ntmps4 rfl (by as_aux_lemma => kernel_rfl) (Nat.le_of_ble_eq_true rfl) (fun R hR => ?_)
  obtain ⟨_, b, cs, T, C⟩ := R
  obtain rfl : _ = Try.prog := hR.p
  have hT : topLen = 140737488355328 := rfl
  have hmin : I64 (-9223372036854775808) := by decide
  have hw1 : IntKind.i64.wrap ((l.length : Int) + 1) = (l.length : Int) + 1 := wrap_id (by constructor <;> omega)
  refine Exec.seq ?_
  apply Exec.regionL te_ok
  · intro ops' Q hQ
    simp only [go_sem, hw1, wrap_id hmin]
    repeat (refine And.intro (by first | assumption | omega | (simp; done) | (simp; omega) | (intros; omega) | (simp_all; done) | (simp_all; omega)) ?_)
    exact hQ
  refine Exec.seq ?_
  refine Exec.seq ?_
  apply Exec.regionL te_ok
  · intro ops' Q hQ
    simp only [go_sem, hw1, wrap_id hmin]
    repeat (refine And.intro (by first | assumption | omega | (simp; done) | (simp; omega) | (intros; omega) | (simp_all; done) | (simp_all; omega)) ?_)
    refine kcall te_ok rfl rfl rfl rfl rfl rfl (awake_ok) ?_
    simp only [go_sem, hw1, wrap_id hmin]
    repeat (refine And.intro (by first | assumption | omega | (simp; done) | (simp; omega) | (intros; omega) | (simp_all; done) | (simp_all; omega)) ?_)
    exact hQ
  refine Exec.cond (t := false) rfl ?_
  simp only [reduceIte, Bool.false_eq_true]
  refine Exec.skip ?_
  refine Exec.seq ?_
  refine Exec.seq ?_
  apply Exec.regionL te_ok
  · intro ops' Q hQ
    simp only [go_sem, hw1, wrap_id hmin]
    repeat (refine And.intro (by first | assumption | omega | (simp; done) | (simp; omega) | (intros; omega) | (simp_all; done) | (simp_all; omega)) ?_)
    exact hQ
  refine Exec.cond_split rfl (fun h1 => ?_) (fun h1 => ?_)
  · skip
    refine Exec.seq ?_
    apply Exec.regionL te_ok
    · intro ops' Q hQ
      simp only [go_sem, hw1, wrap_id hmin]
      repeat (refine And.intro (by first | assumption | omega | (simp; done) | (simp; omega) | (intros; omega) | (simp_all; done) | (simp_all; omega)) ?_)
      exact hQ
    refine Exec.rets hR te_ok rfl rfl rfl (LeX.le ?_) (.inr ⟨_, rfl⟩)
    simp only [go_sem, hw1, wrap_id hmin]
  · skip
    refine Exec.skip ?_
    refine Exec.seq ?_
    apply Exec.regionL te_ok
    · intro ops' Q hQ
      simp only [go_sem, hw1, wrap_id hmin]
      repeat (refine And.intro (by first | assumption | omega | (simp; done) | (simp; omega) | (intros; omega) | (simp_all; done) | (simp_all; omega)) ?_)
      refine kcall te_ok rfl rfl rfl rfl rfl rfl (new_ok (by assumption)) ?_
      simp only [go_sem, hw1, wrap_id hmin]
      repeat (refine And.intro (by first | assumption | omega | (simp; done) | (simp; omega) | (intros; omega) | (simp_all; done) | (simp_all; omega)) ?_)
      exact hQ
    refine Exec.seq ?_
    apply Exec.regionL te_ok
    · intro ops' Q hQ
      simp only [go_sem, hw1, wrap_id hmin]
      repeat (refine And.intro (by first | assumption | omega | (simp; done) | (simp; omega) | (intros; omega) | (simp_all; done) | (simp_all; omega)) ?_)
      refine kcall te_ok rfl rfl rfl rfl rfl rfl (new_ok (by assumption)) ?_
      simp only [go_sem, hw1, wrap_id hmin]
      repeat (refine And.intro (by first | assumption | omega | (simp; done) | (simp; omega) | (intros; omega) | (simp_all; done) | (simp_all; omega)) ?_)
      exact hQ
    refine Exec.seq ?_
    refine Exec.seq ?_
    apply Exec.regionL te_ok
    · intro ops' Q hQ
      simp only [go_sem, hw1, wrap_id hmin]
      repeat (refine And.intro (by first | assumption | omega | (simp; done) | (simp; omega) | (intros; omega) | (simp_all; done) | (simp_all; omega)) ?_)
      exact hQ
    refine Exec.cond_split rfl (fun h2 => ?_) (fun h2 => ?_)
    · skip
      refine Exec.seq ?_
      apply Exec.regionL te_ok
      · intro ops' Q hQ
        simp only [go_sem, hw1, wrap_id hmin]
        repeat (refine And.intro (by first | assumption | omega | (simp; done) | (simp; omega) | (intros; omega) | (simp_all; done) | (simp_all; omega)) ?_)
        exact hQ
      refine Exec.rets hR te_ok rfl rfl rfl (LeX.le ?_) (.inr ⟨_, rfl⟩)
      simp only [go_sem, hw1, wrap_id hmin]
    · skip
      refine Exec.skip ?_
      refine Exec.seq ?_
      apply Exec.regionL te_ok
      · intro ops' Q hQ
        simp only [go_sem, hw1, wrap_id hmin]
        repeat (refine And.intro (by first | assumption | omega | (simp; done) | (simp; omega) | (intros; omega) | (simp_all; done) | (simp_all; omega)) ?_)
        refine kcall te_ok rfl rfl rfl rfl rfl rfl (pick_ok _ (by constructor <;> omega)) ?_
        simp only [go_sem, hw1, wrap_id hmin]
        repeat (refine And.intro (by first | assumption | omega | (simp; done) | (simp; omega) | (intros; omega) | (simp_all; done) | (simp_all; omega)) ?_)
        exact hQ
      refine Exec.seq ?_
      apply Exec.regionL te_ok
      · intro ops' Q hQ
        simp only [go_sem, hw1, wrap_id hmin]
        repeat (refine And.intro (by first | assumption | omega | (simp; done) | (simp; omega) | (intros; omega) | (simp_all; done) | (simp_all; omega)) ?_)
        exact hQ
      refine Exec.seq ?_
      apply Exec.regionL te_ok
      · intro ops' Q hQ
        simp only [go_sem, hw1, wrap_id hmin]
        repeat (refine And.intro (by first | assumption | omega | (simp; done) | (simp; omega) | (intros; omega) | (simp_all; done) | (simp_all; omega)) ?_)
        exact hQ
      refine Exec.seq ?_
      refine Exec.seq ?_
      apply Exec.regionL te_ok
      · intro ops' Q hQ
        simp only [go_sem, hw1, wrap_id hmin]
        repeat (refine And.intro (by first | assumption | omega | (simp; done) | (simp; omega) | (intros; omega) | (simp_all; done) | (simp_all; omega)) ?_)
        exact hQ
      refine Exec.block ?_
      have htl : isTime late = true := by simp at h2; by_cases h : isTime late = true; exact h; simp [h] at h2
      have hlb : 0 ≤ late ∧ late ≤ 1099511627776 := by simpa [isTime] using htl
      obtain ⟨k, hk⟩ : ∃ k : Nat, k = (pick turn ((l.length : Int) + 1)).toNat := ⟨_, rfl⟩
      have hpb := pick_bd turn (n := (l.length : Int) + 1) (by omega)
      have hkl : k ≤ l.length := by omega
      apply Exec.loopU [0, 1, 7, 9, 11] (X := Nat × Int × Int × Bool × Int) (fun ⟨i, na, nb, ok, g⟩ => [(12, .d (.v (.bool ok))), (13, .d (iv g)), (14, .d (iv i))]) (fun ⟨i, na, nb, ok, g⟩ => [(7, 25, [.d (.v (.bool true)), .d (iv late), .d (iv na)]), (9, 25, [.d (.v (.bool true)), .d (iv late), .d (iv nb)])]) (fun ⟨i, na, nb, ok, g⟩ => []) (fun ⟨i, na, nb, ok, g⟩ => l.length - i) (fun ⟨i, na, nb, ok, g⟩ => i ≤ l.length ∧ -1 ≤ g ∧ g ≤ 9223372036854775807 ∧ (ok = true → na = gm late (l.take i) ∧ nb = gm late ((rot k l).take i) ∧ na = max (-1) (g - late))) (0, -1, -1, true, -1)
      case h0 =>
        simp [gm, rot]; omega
      case hw =>
        simp only [go_sem, hw1, wrap_id hmin, htl]
      case body =>
        rintro ⟨i, na, nb, ok, g⟩ hx ih
        try simp only at hx
        apply Exec.norm
        · simp only [go_sem, hw1, wrap_id hmin]
          rfl
        refine Exec.seq ?_
        refine Exec.seq ?_
        apply Exec.regionL te_ok
        · intro ops' Q hQ
          simp only [go_sem, hw1, wrap_id hmin]
          repeat (refine And.intro (by first | assumption | omega | (simp; done) | (simp; omega) | (intros; omega) | (simp_all; done) | (simp_all; omega)) ?_)
          exact hQ
        refine Exec.cond_split rfl (fun h3 => ?_) (fun h3 => ?_)
        · skip
          have hi : i < l.length := by simp at h3; omega
          have hN : 0 < l.length := by omega
          have hjn : (i + k) % l.length < l.length := Nat.mod_lt _ hN
          have hta : I64 (nth l i) := hll _ (nth_mem hi)
          have htb : I64 (nth l ((i + k) % l.length)) := hll _ (nth_mem hjn)
          have hwi : IntKind.i64.wrap ((i : Int) + 1) = ((i + 1 : Nat) : Int) := by rw [wrap_id (by constructor <;> omega)]; simp
          have hwj : IntKind.i64.wrap ((i : Int) + pick turn ((l.length : Int) + 1)) = ((i + k : Nat) : Int) := by rw [wrap_id (by constructor <;> omega)]; omega
          have htm : ((i + k : Nat) : Int).tmod (l.length : Int) = ((((i + k) % l.length : Nat)) : Int) := by rw [Int.tmod_eq_emod_of_nonneg (by omega)]; simp
          refine Exec.skip ?_
          refine Exec.seq ?_
          refine Exec.block ?_
          refine Exec.seq ?_
          apply Exec.draw (st := _) 13 10 [15] [8] te_ok (by as_aux_lemma => kernel_rfl) (by as_aux_lemma => kernel_rfl) (by as_aux_lemma => kernel_rfl)
          · intro ops' Q hQ
            simp only [go_sem, hw1, wrap_id hmin, hwi, ← hk, hwj, htm]
            repeat (refine And.intro (by first | assumption | omega | (simp; done) | (simp; omega) | (intros; omega) | (simp_all; done) | (simp_all; omega)) ?_)
            refine kdcall te_ok rfl rfl rfl rfl rfl rfl (edge_ok _ _ _ (by assumption)) ?_
            simp only [go_sem, hw1, wrap_id hmin, hwi, ← hk, hwj, htm]
            repeat (refine And.intro (by first | assumption | omega | (simp; done) | (simp; omega) | (intros; omega) | (simp_all; done) | (simp_all; omega)) ?_)
            exact hQ
          refine Exec.seq ?_
          apply Exec.draw (st := _) 18 15 [17] [13] te_ok (by as_aux_lemma => kernel_rfl) (by as_aux_lemma => kernel_rfl) (by as_aux_lemma => kernel_rfl)
          · intro ops' Q hQ
            simp only [go_sem, hw1, wrap_id hmin, hwi, ← hk, hwj, htm]
            repeat (refine And.intro (by first | assumption | omega | (simp; done) | (simp; omega) | (intros; omega) | (simp_all; done) | (simp_all; omega)) ?_)
            refine kdcall te_ok rfl rfl rfl rfl rfl rfl (edge_ok _ _ _ (by assumption)) ?_
            simp only [go_sem, hw1, wrap_id hmin, hwi, ← hk, hwj, htm]
            repeat (refine And.intro (by first | assumption | omega | (simp; done) | (simp; omega) | (intros; omega) | (simp_all; done) | (simp_all; omega)) ?_)
            exact hQ
          refine Exec.seq ?_
          apply Exec.regionL te_ok
          · intro ops' Q hQ
            simp only [go_sem, hw1, wrap_id hmin, hwi, ← hk, hwj, htm]
            repeat (refine And.intro (by first | assumption | omega | (simp; done) | (simp; omega) | (intros; omega) | (simp_all; done) | (simp_all; omega)) ?_)
            exact hQ
          refine Exec.seq ?_
          refine Exec.seq ?_
          apply Exec.regionL te_ok
          · intro ops' Q hQ
            simp only [go_sem, hw1, wrap_id hmin, hwi, ← hk, hwj, htm]
            repeat (refine And.intro (by first | assumption | omega | (simp; done) | (simp; omega) | (intros; omega) | (simp_all; done) | (simp_all; omega)) ?_)
            exact hQ
          refine Exec.cond_split rfl (fun h4 => ?_) (fun h4 => ?_)
          · exfalso
            exact ord1 hlb hx.2.1 hx.2.2.1 (fun h => (hx.2.2.2 h).2.2) h4
          refine Exec.skip ?_
          refine Exec.seq ?_
          apply Exec.regionL te_ok
          · intro ops' Q hQ
            simp only [go_sem, hw1, wrap_id hmin, hwi, ← hk, hwj, htm]
            repeat (refine And.intro (by first | assumption | omega | (simp; done) | (simp; omega) | (intros; omega) | (simp_all; done) | (simp_all; omega)) ?_)
            exact hQ
          refine Exec.seq ?_
          apply Exec.regionL te_ok
          · intro ops' Q hQ
            simp only [go_sem, hw1, wrap_id hmin, hwi, ← hk, hwj, htm]
            repeat (refine And.intro (by first | assumption | omega | (simp; done) | (simp; omega) | (intros; omega) | (simp_all; done) | (simp_all; omega)) ?_)
            exact hQ
          refine Exec.seq ?_
          apply Exec.regionL te_ok
          · intro ops' Q hQ
            simp only [go_sem, hw1, wrap_id hmin, hwi, ← hk, hwj, htm]
            repeat (refine And.intro (by first | assumption | omega | (simp; done) | (simp; omega) | (intros; omega) | (simp_all; done) | (simp_all; omega)) ?_)
            exact hQ
          apply Exec.regionL te_ok
          · intro ops' Q hQ
            simp only [go_sem, hw1, wrap_id hmin, hwi, ← hk, hwj, htm]
            repeat (refine And.intro (by first | assumption | omega | (simp; done) | (simp; omega) | (intros; omega) | (simp_all; done) | (simp_all; omega)) ?_)
            exact hQ
          refine Exec.inBlock ?_
          apply Exec.regionL te_ok
          · intro ops' Q hQ
            simp only [go_sem, hw1, wrap_id hmin, hwi, ← hk, hwj, htm]
            repeat (refine And.intro (by first | assumption | omega | (simp; done) | (simp; omega) | (intros; omega) | (simp_all; done) | (simp_all; omega)) ?_)
            exact hQ
          refine Exec.back (ih (i + 1, edgeN true late na (nth l i), edgeN true late nb (nth l ((i + k) % l.length)), (ok && (edgeE true na (nth l i) == 0) && (edgeE true nb (nth l ((i + k) % l.length)) == 0)), max g (nth l i)) ?_ ?_) ?_ ?_ ?_ ?_ ?_
          · exact ord2 hlb hkl hi hta hx
          · simp only; omega
          · rfl
          · rfl
          · (simp only [go_sem, hw1, wrap_id hmin, hwi, ← hk, hwj, htm])
          · (simp only [go_sem, hw1, wrap_id hmin, hwi, ← hk, hwj, htm])
          · (simp only [go_sem, hw1, wrap_id hmin, hwi, ← hk, hwj, htm])
        · skip
          refine Exec.exit rfl ?_
          refine Exec.seq ?_
          apply Exec.regionL te_ok
          · intro ops' Q hQ
            simp only [go_sem, hw1, wrap_id hmin]
            repeat (refine And.intro (by first | assumption | omega | (simp; done) | (simp; omega) | (intros; omega) | (simp_all; done) | (simp_all; omega)) ?_)
            exact hQ
          refine Exec.rets hR te_ok rfl rfl rfl (LeX.le ?_) (.inr ⟨_, rfl⟩)
          simp only [go_sem]
          simp at h3
          cases ok
          · rfl
          · have h := hx.2.2.2 rfl
            have e : i = l.length := by omega
            simp [h.1, h.2.1, e, gm_rot, List.take_of_length_le, rot_len, ← h.1]
end Go.Proofs.Ytlcpglkbllhokaa
