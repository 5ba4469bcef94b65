/- Contracts of functions of the seat, walked. -/
import Derived.Test.YtmnponhhmkdcdaaDoorL1
import Derived.Test.YtmnponhhmkdcdaaDoorLxLaw
namespace Go.Proofs.YtmnponhhmkdcdaaDoor
open Go.Kin
set_option linter.unusedSimpArgs false
set_option linter.unusedVariables false
set_option maxRecDepth 100000
set_option maxHeartbeats 0
attribute [go_sem] te_81 te_46
def pR (nm : Bool) (n : Int) : Bool := digitI n || (nm && (letterI n || n == 95))
theorem pR_sign : pR true = signI := by
  funext n; unfold pR signI
  cases digitI n <;> cases letterI n <;> cases (n == 95) <;> rfl
theorem pR_digit : pR false = digitI := by
  funext n; unfold pR; simp
theorem indexByte_drop {s : List UInt8} {i : Nat} (h : i < s.length) (c : UInt8) : Lib.indexByte (s.drop i) c = if (s.getD i 0 == c) = true then 0 else if (Lib.indexByte (s.drop (i + 1)) c == -1) = true then -1 else Lib.indexByte (s.drop (i + 1)) c + 1 := by
  rw [drop_getD h]; rfl
/-- how many bytes a text has, both quotes with it -/
def textL (s : List UInt8) : Int := if Lib.indexByte (s.drop 1) 34 < 0 then 0 else Lib.indexByte (s.drop 1) 34 + 2
/-- the index, as far as it is known at a place -/
def ibAt (s : List UInt8) (a i : Nat) : Int := if Lib.indexByte (s.drop i) 34 < 0 then 0 else Lib.indexByte (s.drop i) 34 + (i : Int) - (a : Int) + 1
theorem ibAt_begin {s : List UInt8} {a : Nat} : textL (s.drop a) = ibAt s a (a + 1) := by
  unfold textL ibAt
  rw [List.drop_drop]
  split
  · rfl
  · omega
theorem ibAt_step {s : List UInt8} {a i : Nat} (h : i < s.length) (hq : (((s.getD i 0).toNat : Int) == 34) = false) : ibAt s a i = ibAt s a (i + 1) := by
  have h1 : (s.getD i 0 == 34) = false := by rw [← hq]; exact (u8_is _ 34 (by omega)).symm
  have hb := indexByte_lt (s.drop (i + 1)) 34
  unfold ibAt
  rw [indexByte_drop h, h1]
  simp only [Bool.false_eq_true, if_false]
  by_cases h2 : Lib.indexByte (s.drop (i + 1)) 34 = -1
  · rw [h2]; simp
  · have h3 : (Lib.indexByte (s.drop (i + 1)) 34 == -1) = false := by simpa using h2
    rw [h3]; simp only [Bool.false_eq_true, if_false]
    rw [if_neg (by omega), if_neg (by omega)]; omega
theorem ibAt_here {s : List UInt8} {a i : Nat} (h : i < s.length) (hq : (((s.getD i 0).toNat : Int) == 34) = true) : ibAt s a i = (i : Int) - (a : Int) + 1 := by
  have h1 : (s.getD i 0 == 34) = true := by rw [← hq]; exact (u8_is _ 34 (by omega)).symm
  unfold ibAt
  rw [indexByte_drop h, h1]; simp
theorem ibAt_end {s : List UInt8} {a i : Nat} (h : s.length ≤ i) : ibAt s a i = 0 := by
  unfold ibAt; rw [List.drop_eq_nil_of_le h]; simp [Lib.indexByte]
theorem run_end {p : Int → Bool} {s : List UInt8} {i : Nat} (h : (decide ((i : Int) < (s.length : Int)) && p ((s.getD i 0).toNat : Int)) = false) : spanN p (s.drop i) = 0 := by
  by_cases hi : i < s.length
  · have hd : decide ((i : Int) < (s.length : Int)) = true := decide_eq_true (by omega)
    rw [hd, Bool.true_and] at h
    rw [spanN_drop hi h]; simp
  · rw [List.drop_eq_nil_of_le (by omega)]; rfl

theorem rletter_ok (n : Int) : FnOK LaidX Tryd.prog 68 [u8 n] (bv (letterI n)) := by
  refine FnOK_of laidX_stable Tryd.func68 Tryd.ntmps68 rfl (by as_aux_lemma => kernel_rfl) (Nat.le_of_ble_eq_true rfl) (fun R hR => ?_)
  obtain ⟨_, b, cs, T, C⟩ := R
  obtain rfl : _ = Tryd.prog := hR.p
  refine Exec.seq ?_
  apply Exec.regionL te_ok
  · intro ops' Q hQ
    simp only [go_sem]
    repeat (refine And.intro (by first | assumption | omega | (simp; done) | (simp; omega) | (intros; omega) | (simp_all; done) | (simp_all; omega)) ?_)
    exact hQ
  refine Exec.seq ?_
  apply Exec.regionL te_ok
  · intro ops' Q hQ
    simp only [go_sem]
    repeat (refine And.intro (by first | assumption | omega | (simp; done) | (simp; omega) | (intros; omega) | (simp_all; done) | (simp_all; omega)) ?_)
    exact hQ
  refine Exec.rets hR te_ok rfl rfl rfl (LeX.le ?_) (.inr ⟨_, rfl⟩)
  simp only [go_sem, letterI]
theorem rdigit_ok (n : Int) : FnOK LaidX Tryd.prog 70 [u8 n] (bv (digitI n)) := by
  refine FnOK_of laidX_stable Tryd.func70 Tryd.ntmps70 rfl (by as_aux_lemma => kernel_rfl) (Nat.le_of_ble_eq_true rfl) (fun R hR => ?_)
  obtain ⟨_, b, cs, T, C⟩ := R
  obtain rfl : _ = Tryd.prog := hR.p
  refine Exec.seq ?_
  apply Exec.regionL te_ok
  · intro ops' Q hQ
    simp only [go_sem]
    repeat (refine And.intro (by first | assumption | omega | (simp; done) | (simp; omega) | (intros; omega) | (simp_all; done) | (simp_all; omega)) ?_)
    exact hQ
  refine Exec.seq ?_
  apply Exec.regionL te_ok
  · intro ops' Q hQ
    simp only [go_sem]
    repeat (refine And.intro (by first | assumption | omega | (simp; done) | (simp; omega) | (intros; omega) | (simp_all; done) | (simp_all; omega)) ?_)
    exact hQ
  refine Exec.rets hR te_ok rfl rfl rfl (LeX.le ?_) (.inr ⟨_, rfl⟩)
  simp only [go_sem, digitI]
theorem run_ok (s : List UInt8) (hs : s.length ≤ 140737488351232) (a : Nat) (ha : a ≤ s.length) (nm : Bool) : FnOK LaidX Tryd.prog 69 [sv s, iv a, bv nm] (iv (spanN (pR nm) (s.drop a))) := by
  refine FnOK_of laidX_stable Tryd.func69 Tryd.ntmps69 rfl (by as_aux_lemma => kernel_rfl) (Nat.le_of_ble_eq_true rfl) (fun R hR => ?_)
  obtain ⟨_, b, cs, T, C⟩ := R
  obtain rfl : _ = Tryd.prog := hR.p
  refine Exec.seq ?_
  apply Exec.regionL te_ok
  · intro ops' Q hQ
    simp only [go_sem]
    repeat (refine And.intro (by first | assumption | omega | (simp only [Bool.not_eq_true', Bool.or_eq_false_iff, Bool.or_eq_true, Bool.and_eq_true, decide_eq_true_eq, decide_eq_false_iff_not, beq_iff_eq, Bool.not_eq_false']; omega) | (simp; done) | (simp; omega) | (intros; omega) | (simp_all; done) | (simp_all; omega)) ?_)
    exact hQ
  refine Exec.seq ?_
  apply Exec.regionL te_ok
  · intro ops' Q hQ
    simp only [go_sem]
    repeat (refine And.intro (by first | assumption | omega | (simp only [Bool.not_eq_true', Bool.or_eq_false_iff, Bool.or_eq_true, Bool.and_eq_true, decide_eq_true_eq, decide_eq_false_iff_not, beq_iff_eq, Bool.not_eq_false']; omega) | (simp; done) | (simp; omega) | (intros; omega) | (simp_all; done) | (simp_all; omega)) ?_)
    exact hQ
  refine Exec.seq ?_
  refine Exec.block ?_
  apply Exec.loopU [0, 1, 2] (X := Nat) (fun n => [(7, .d (iv n))]) (fun n => []) (fun n => []) (fun n => s.length - (a + n)) (fun n => a + n ≤ s.length ∧ spanN (pR nm) (s.drop a) = n + spanN (pR nm) (s.drop (a + n))) 0
  case h0 =>
    exact ⟨by omega, by simp⟩
  case hw =>
    simp only [go_sem]
  case body =>
    rintro n hx ih0
    try simp only at hx
    have w1 := add_wrap (m := a) (n := n) (by omega)
    have wn : IntKind.i64.wrap ((n : Int) + 1) = ((n + 1 : Nat) : Int) := by rw [wrap_id (by omega)]; omega
    apply Exec.norm
    · simp only [go_sem, w1, wn]
      rfl
    refine Exec.seq ?_
    refine Exec.seq ?_
    apply Exec.regionL te_ok
    · intro ops' Q hQ
      simp only [go_sem, w1, wn]
      repeat (refine And.intro (by first | assumption | omega | (simp only [Bool.not_eq_true', Bool.or_eq_false_iff, Bool.or_eq_true, Bool.and_eq_true, decide_eq_true_eq, decide_eq_false_iff_not, beq_iff_eq, Bool.not_eq_false']; omega) | (simp; done) | (simp; omega) | (intros; omega) | (simp_all; done) | (simp_all; omega)) ?_)
      refine kcallG hR.inv te_ok rfl rfl rfl rfl rfl rfl (by simp only [go_sem] <;> (first | assumption | omega | (simp only [Bool.not_eq_true', Bool.or_eq_false_iff, Bool.or_eq_true, Bool.and_eq_true, decide_eq_true_eq, decide_eq_false_iff_not, beq_iff_eq, Bool.not_eq_false']; omega) | (simp; done) | (simp; omega) | (intros; omega) | (simp_all; done) | (simp_all; omega))) (fun hq => rdigit_ok _) ?_
      simp only [go_sem, w1, wn]
      repeat (refine And.intro (by first | assumption | omega | (simp only [Bool.not_eq_true', Bool.or_eq_false_iff, Bool.or_eq_true, Bool.and_eq_true, decide_eq_true_eq, decide_eq_false_iff_not, beq_iff_eq, Bool.not_eq_false']; omega) | (simp; done) | (simp; omega) | (intros; omega) | (simp_all; done) | (simp_all; omega)) ?_)
      refine kcallG hR.inv te_ok rfl rfl rfl rfl rfl rfl (by simp only [go_sem] <;> (first | assumption | omega | (simp only [Bool.not_eq_true', Bool.or_eq_false_iff, Bool.or_eq_true, Bool.and_eq_true, decide_eq_true_eq, decide_eq_false_iff_not, beq_iff_eq, Bool.not_eq_false']; omega) | (simp; done) | (simp; omega) | (intros; omega) | (simp_all; done) | (simp_all; omega))) (fun hq => rletter_ok _) ?_
      simp only [go_sem, w1, wn]
      repeat (refine And.intro (by first | assumption | omega | (simp only [Bool.not_eq_true', Bool.or_eq_false_iff, Bool.or_eq_true, Bool.and_eq_true, decide_eq_true_eq, decide_eq_false_iff_not, beq_iff_eq, Bool.not_eq_false']; omega) | (simp; done) | (simp; omega) | (intros; omega) | (simp_all; done) | (simp_all; omega)) ?_)
      exact hQ
    refine Exec.cond_split rfl (fun h0 => ?_) (fun h0 => ?_)
    · skip
      have hi : a + n < s.length ∧ pR nm ((s.getD (a + n) 0).toNat : Int) = true := by rw [Bool.and_eq_true] at h0; exact ⟨by have := of_decide_eq_true h0.1; omega, h0.2⟩
      refine Exec.skip ?_
      refine Exec.block ?_
      apply Exec.regionL te_ok
      · intro ops' Q hQ
        simp only [go_sem, w1, wn]
        repeat (refine And.intro (by first | assumption | omega | (simp only [Bool.not_eq_true', Bool.or_eq_false_iff, Bool.or_eq_true, Bool.and_eq_true, decide_eq_true_eq, decide_eq_false_iff_not, beq_iff_eq, Bool.not_eq_false']; omega) | (simp; done) | (simp; omega) | (intros; omega) | (simp_all; done) | (simp_all; omega)) ?_)
        exact hQ
      refine Exec.inBlock ?_
      refine Exec.back (ih0 (n + 1) ?_ ?_) ?_ ?_ ?_ ?_ ?_ ?_ ?_
      · try simp only
        have := hi.1
        exact ⟨by omega, by rw [hx.2, spanN_drop hi.1 hi.2, if_pos rfl, Nat.add_assoc a n 1]; omega⟩
      · try simp only
        have := hi.1
        omega
      · rfl
      · rfl
      · (simp only [go_sem, w1, wn])
      · (simp only [go_sem, w1, wn])
      · (simp only [go_sem, w1, wn])
      · simp only [go_sem, w1, wn]
      · rfl
    · skip
      refine Exec.exit rfl ?_
      refine Exec.seq ?_
      apply Exec.regionL te_ok
      · intro ops' Q hQ
        simp only [go_sem, w1, wn]
        repeat (refine And.intro (by first | assumption | omega | (simp only [Bool.not_eq_true', Bool.or_eq_false_iff, Bool.or_eq_true, Bool.and_eq_true, decide_eq_true_eq, decide_eq_false_iff_not, beq_iff_eq, Bool.not_eq_false']; omega) | (simp; done) | (simp; omega) | (intros; omega) | (simp_all; done) | (simp_all; omega)) ?_)
        exact hQ
      refine Exec.rets hR te_ok rfl rfl rfl (LeX.le ?_) (.inr ⟨_, rfl⟩)
      simp only [go_sem]
      have e := run_end (p := pR nm) h0
      rw [hx.2, e]; simp
theorem rtext_ok (s : List UInt8) (hs : s.length ≤ 140737488351232) (a : Nat) (ha : a < s.length) : FnOK LaidX Tryd.prog 71 [sv s, iv a] (iv (textL (s.drop a))) := by
  refine FnOK_of laidX_stable Tryd.func71 Tryd.ntmps71 rfl (by as_aux_lemma => kernel_rfl) (Nat.le_of_ble_eq_true rfl) (fun R hR => ?_)
  obtain ⟨_, b, cs, T, C⟩ := R
  obtain rfl : _ = Tryd.prog := hR.p
  have wa : IntKind.i64.wrap ((a : Int) + 1) = ((a + 1 : Nat) : Int) := by rw [wrap_id (by omega)]; omega
  refine Exec.seq ?_
  apply Exec.regionL te_ok
  · intro ops' Q hQ
    simp only [go_sem, wa]
    repeat (refine And.intro (by first | assumption | omega | (simp; done) | (simp; omega) | (intros; omega) | (simp_all; done) | (simp_all; omega)) ?_)
    exact hQ
  refine Exec.seq ?_
  refine Exec.seq ?_
  apply Exec.regionL te_ok
  · intro ops' Q hQ
    simp only [go_sem, wa]
    repeat (refine And.intro (by first | assumption | omega | (simp; done) | (simp; omega) | (intros; omega) | (simp_all; done) | (simp_all; omega)) ?_)
    exact hQ
  refine Exec.block ?_
  apply Exec.loopU [0, 1] (X := Nat) (fun i => [(5, .d (iv i))]) (fun i => []) (fun i => []) (fun i => s.length - i) (fun i => a + 1 ≤ i ∧ i ≤ s.length ∧ textL (s.drop a) = ibAt s a i) (a + 1)
  case h0 =>
    exact ⟨by omega, by omega, ibAt_begin⟩
  case hw =>
    simp only [go_sem, wa]
  case body =>
    rintro i hx ih0
    try simp only at hx
    apply Exec.norm
    · simp only [go_sem, wa]
      rfl
    refine Exec.seq ?_
    refine Exec.seq ?_
    apply Exec.regionL te_ok
    · intro ops' Q hQ
      simp only [go_sem, wa]
      repeat (refine And.intro (by first | assumption | omega | (simp; done) | (simp; omega) | (intros; omega) | (simp_all; done) | (simp_all; omega)) ?_)
      exact hQ
    refine Exec.cond_split rfl (fun h0 => ?_) (fun h0 => ?_)
    · skip
      have hi : i < s.length := by simp at h0; omega
      have hwi : IntKind.i64.wrap ((i : Int) + 1) = ((i + 1 : Nat) : Int) := by rw [wrap_id (by constructor <;> omega)]; simp
      refine Exec.skip ?_
      refine Exec.seq ?_
      refine Exec.block ?_
      refine Exec.seq ?_
      apply Exec.regionL te_ok
      · intro ops' Q hQ
        simp only [go_sem, wa, hwi]
        repeat (refine And.intro (by first | assumption | omega | (simp; done) | (simp; omega) | (intros; omega) | (simp_all; done) | (simp_all; omega)) ?_)
        exact hQ
      refine Exec.cond_split rfl (fun h1 => ?_) (fun h1 => ?_)
      · skip
        have w2 : IntKind.i64.wrap ((i : Int) - (a : Int)) = (i : Int) - (a : Int) := wrap_id (by omega)
        have w3 : IntKind.i64.wrap ((i : Int) - (a : Int) + 1) = (i : Int) - (a : Int) + 1 := wrap_id (by omega)
        refine Exec.seq ?_
        apply Exec.regionL te_ok
        · intro ops' Q hQ
          simp only [go_sem, wa, hwi, w2, w3]
          repeat (refine And.intro (by first | assumption | omega | (simp; done) | (simp; omega) | (intros; omega) | (simp_all; done) | (simp_all; omega)) ?_)
          exact hQ
        refine Exec.rets hR te_ok rfl rfl rfl (LeX.le ?_) (.inr ⟨_, rfl⟩)
        simp only [go_sem]
        rw [hx.2.2, ibAt_here hi h1]
      · skip
        refine Exec.skip ?_
        refine Exec.inBlock ?_
        apply Exec.regionL te_ok
        · intro ops' Q hQ
          simp only [go_sem, wa, hwi]
          repeat (refine And.intro (by first | assumption | omega | (simp; done) | (simp; omega) | (intros; omega) | (simp_all; done) | (simp_all; omega)) ?_)
          exact hQ
        refine Exec.back (ih0 (i + 1) ?_ ?_) ?_ ?_ ?_ ?_ ?_ ?_ ?_
        · try simp only
          exact ⟨by omega, by omega, by rw [hx.2.2, ibAt_step hi h1]⟩
        · try simp only
          omega
        · rfl
        · rfl
        · (simp only [go_sem, wa, hwi])
        · (simp only [go_sem, wa, hwi])
        · (simp only [go_sem, wa, hwi])
        · simp only [go_sem, wa, hwi]
        · rfl
    · skip
      refine Exec.exit rfl ?_
      refine Exec.seq ?_
      apply Exec.regionL te_ok
      · intro ops' Q hQ
        simp only [go_sem, wa]
        repeat (refine And.intro (by first | assumption | omega | (simp; done) | (simp; omega) | (intros; omega) | (simp_all; done) | (simp_all; omega)) ?_)
        exact hQ
      refine Exec.rets hR te_ok rfl rfl rfl (LeX.le ?_) (.inr ⟨_, rfl⟩)
      simp only [go_sem]
      rw [hx.2.2, ibAt_end (by simp at h0; omega)]
theorem rsigns_ok  : FnOK LaidX Tryd.prog 72 [] (.sl 1 20 20 fun i => [sv (nth signsR i)]) := by
  refine FnOK_of laidX_stable Tryd.func72 Tryd.ntmps72 rfl (by as_aux_lemma => kernel_rfl) (Nat.le_of_ble_eq_true rfl) (fun R hR => ?_)
  obtain ⟨_, b, cs, T, C⟩ := R
  obtain rfl : _ = Tryd.prog := hR.p
  refine Exec.seq ?_
  apply Exec.regionL te_ok
  · intro ops' Q hQ
    simp only [go_sem]
    repeat (refine And.intro (by first | assumption | omega | (simp; done) | (simp; omega) | (intros; omega) | (simp_all; done) | (simp_all; omega)) ?_)
    exact hQ
  refine Exec.seq ?_
  apply Exec.regionL te_ok
  · intro ops' Q hQ
    simp only [go_sem]
    repeat (refine And.intro (by first | assumption | omega | (simp; done) | (simp; omega) | (intros; omega) | (simp_all; done) | (simp_all; omega)) ?_)
    exact hQ
  refine Exec.rets hR te_ok rfl rfl rfl (LeX.le ?_) (.inr ⟨_, rfl⟩)
  simp only [go_sem]
  exact fun i hi => lst_row (fun x => [sv x]) signsR hi
end Go.Proofs.YtmnponhhmkdcdaaDoor
