/- Contracts of functions of the seat, walked. -/
import Derived.Test.YtmnponhhmkdcdaaDoorV2
import Derived.Test.YtmnponhhmkdcdaaDoorDLex
namespace Go.Proofs.YtmnponhhmkdcdaaDoor
open Go.Kin
set_option linter.unusedSimpArgs false
set_option linter.unusedVariables false
set_option maxRecDepth 100000
set_option maxHeartbeats 0
attribute [go_sem] Option.toArray_some Option.toArray_none famStP te_5 te_21 te_53 te_55 te_57 te_43 te_84
abbrev tC (t : Tk) : List D := [iv t.k, sv t.t, iv t.a, iv t.v.k, iv t.v.n, sv t.v.s]
abbrev tD (t : Tk) : D := .ag [iv t.k, sv t.t, iv t.a, iv t.v.k, iv t.v.n, sv t.v.s]
attribute [go_sem] v0 tC tD Tk.k Tk.t Tk.a Tk.v

theorem letter_ok (n : Int) : FnOK LaidX Tryd.prog 73 [u8 n] (bv (letterI n)) := by
  refine FnOK_of laidX_stable Tryd.func73 Tryd.ntmps73 rfl (by as_aux_lemma => kernel_rfl) (Nat.le_of_ble_eq_true rfl) (fun R hR => ?_)
  obtain ⟨_, b, cs, T, C⟩ := R
  obtain rfl : _ = Tryd.prog := hR.p
  refine Exec.seq ?_
  apply Exec.regionL te_ok
  · intro ops' Q hQ
    simp only [go_sem]
    repeat (refine And.intro (by first | assumption | omega | (simp; done) | (simp; omega) | (intros; omega) | (simp_all; done) | (simp_all; omega)) ?_)
    exact hQ
  refine Exec.seq ?_
  apply Exec.regionL te_ok
  · intro ops' Q hQ
    simp only [go_sem]
    repeat (refine And.intro (by first | assumption | omega | (simp; done) | (simp; omega) | (intros; omega) | (simp_all; done) | (simp_all; omega)) ?_)
    exact hQ
  refine Exec.rets hR te_ok rfl rfl rfl (LeX.le ?_) (.inr ⟨_, rfl⟩)
  simp only [go_sem, letterI]
theorem digit_ok (n : Int) : FnOK LaidX Tryd.prog 76 [u8 n] (bv (digitI n)) := by
  refine FnOK_of laidX_stable Tryd.func76 Tryd.ntmps76 rfl (by as_aux_lemma => kernel_rfl) (Nat.le_of_ble_eq_true rfl) (fun R hR => ?_)
  obtain ⟨_, b, cs, T, C⟩ := R
  obtain rfl : _ = Tryd.prog := hR.p
  refine Exec.seq ?_
  apply Exec.regionL te_ok
  · intro ops' Q hQ
    simp only [go_sem]
    repeat (refine And.intro (by first | assumption | omega | (simp; done) | (simp; omega) | (intros; omega) | (simp_all; done) | (simp_all; omega)) ?_)
    exact hQ
  refine Exec.seq ?_
  apply Exec.regionL te_ok
  · intro ops' Q hQ
    simp only [go_sem]
    repeat (refine And.intro (by first | assumption | omega | (simp; done) | (simp; omega) | (intros; omega) | (simp_all; done) | (simp_all; omega)) ?_)
    exact hQ
  refine Exec.rets hR te_ok rfl rfl rfl (LeX.le ?_) (.inr ⟨_, rfl⟩)
  simp only [go_sem, digitI]
theorem sign_ok (n : Int) : FnOK LaidX Tryd.prog 74 [u8 n] (bv (signI n)) := by
  refine FnOK_of laidX_stable Tryd.func74 Tryd.ntmps74 rfl (by as_aux_lemma => kernel_rfl) (Nat.le_of_ble_eq_true rfl) (fun R hR => ?_)
  obtain ⟨_, b, cs, T, C⟩ := R
  obtain rfl : _ = Tryd.prog := hR.p
  refine Exec.seq ?_
  apply Exec.regionL te_ok
  · intro ops' Q hQ
    simp only [go_sem]
    repeat (refine And.intro (by first | assumption | omega | (simp; done) | (simp; omega) | (intros; omega) | (simp_all; done) | (simp_all; omega)) ?_)
    exact hQ
  refine Exec.seq ?_
  apply Exec.regionL te_ok
  · intro ops' Q hQ
    simp only [go_sem]
    repeat (refine And.intro (by first | assumption | omega | (simp; done) | (simp; omega) | (intros; omega) | (simp_all; done) | (simp_all; omega)) ?_)
    refine kcall hR.inv te_ok rfl rfl rfl rfl rfl rfl (letter_ok _) ?_
    simp only [go_sem]
    repeat (refine And.intro (by first | assumption | omega | (simp; done) | (simp; omega) | (intros; omega) | (simp_all; done) | (simp_all; omega)) ?_)
    refine kcallG hR.inv te_ok rfl rfl rfl rfl rfl rfl (by simp only [go_sem] <;> (first | assumption | omega | (simp; done) | (simp; omega) | (intros; omega) | (simp_all; done) | (simp_all; omega))) (fun hq => digit_ok _) ?_
    simp only [go_sem]
    repeat (refine And.intro (by first | assumption | omega | (simp; done) | (simp; omega) | (intros; omega) | (simp_all; done) | (simp_all; omega)) ?_)
    exact hQ
  refine Exec.rets hR te_ok rfl rfl rfl (LeX.le ?_) (.inr ⟨_, rfl⟩)
  simp only [go_sem, signI]
theorem blank_ok (n : Int) : FnOK LaidX Tryd.prog 53 [u8 n] (bv (blankI n)) := by
  refine FnOK_of laidX_stable Tryd.func53 Tryd.ntmps53 rfl (by as_aux_lemma => kernel_rfl) (Nat.le_of_ble_eq_true rfl) (fun R hR => ?_)
  obtain ⟨_, b, cs, T, C⟩ := R
  obtain rfl : _ = Tryd.prog := hR.p
  refine Exec.seq ?_
  apply Exec.regionL te_ok
  · intro ops' Q hQ
    simp only [go_sem]
    repeat (refine And.intro (by first | assumption | omega | (simp; done) | (simp; omega) | (intros; omega) | (simp_all; done) | (simp_all; omega)) ?_)
    exact hQ
  refine Exec.seq ?_
  apply Exec.regionL te_ok
  · intro ops' Q hQ
    simp only [go_sem]
    repeat (refine And.intro (by first | assumption | omega | (simp; done) | (simp; omega) | (intros; omega) | (simp_all; done) | (simp_all; omega)) ?_)
    exact hQ
  refine Exec.rets hR te_ok rfl rfl rfl (LeX.le ?_) (.inr ⟨_, rfl⟩)
  simp only [go_sem, blankI]
theorem span_ok (s : List UInt8) (hs : s.length ≤ 140737488355328) (f : Nat) (p : Int → Bool) (hp : ∀ n, FnOK LaidX Tryd.prog f [u8 n] (bv (p n))) : FnOK LaidX Tryd.prog 54 [sv s, .fn f []] (iv (spanN p s)) := by
  refine FnOK_of laidX_stable Tryd.func54 Tryd.ntmps54 rfl (by as_aux_lemma => kernel_rfl) (Nat.le_of_ble_eq_true rfl) (fun R hR => ?_)
  obtain ⟨_, b, cs, T, C⟩ := R
  obtain rfl : _ = Tryd.prog := hR.p
  refine Exec.seq ?_
  apply Exec.regionL te_ok
  · intro ops' Q hQ
    simp only [go_sem]
    repeat (refine And.intro (by first | assumption | omega | (simp; done) | (simp; omega) | (intros; omega) | (simp_all; done) | (simp_all; omega)) ?_)
    exact hQ
  refine Exec.seq ?_
  refine Exec.seq ?_
  apply Exec.regionL te_ok
  · intro ops' Q hQ
    simp only [go_sem]
    repeat (refine And.intro (by first | assumption | omega | (simp; done) | (simp; omega) | (intros; omega) | (simp_all; done) | (simp_all; omega)) ?_)
    exact hQ
  refine Exec.block ?_
  apply Exec.loopU [0, 1, 7] (X := Nat) (fun i => [(8, .d (iv i))]) (fun i => []) (fun i => []) (fun i => s.length - i) (fun i => i ≤ s.length ∧ spanN p s = i + spanN p (s.drop i)) 0
  case h0 =>
    simp
  case hw =>
    simp only [go_sem]
  case body =>
    rintro i hx ih0
    try simp only at hx
    apply Exec.norm
    · simp only [go_sem]
      rfl
    refine Exec.seq ?_
    apply Exec.regionL te_ok
    · intro ops' Q hQ
      simp only [go_sem]
      repeat (refine And.intro (by first | assumption | omega | (simp; done) | (simp; omega) | (intros; omega) | (simp_all; done) | (simp_all; omega)) ?_)
      exact hQ
    refine Exec.seq ?_
    refine Exec.cond_split rfl (fun h0 => ?_) (fun h0 => ?_)
    · skip
      have hi : i < s.length := by simp at h0; omega
      have hwi : IntKind.i64.wrap ((i : Int) + 1) = ((i + 1 : Nat) : Int) := by rw [wrap_id (by constructor <;> omega)]; simp
      refine Exec.skip ?_
      refine Exec.seq ?_
      refine Exec.block ?_
      refine Exec.seq ?_
      apply Exec.regionL te_ok
      · intro ops' Q hQ
        simp only [go_sem, hwi]
        repeat (refine And.intro (by first | assumption | omega | (simp; done) | (simp; omega) | (intros; omega) | (simp_all; done) | (simp_all; omega)) ?_)
        exact hQ
      refine Exec.seq ?_
      apply Exec.regionL te_ok
      · intro ops' Q hQ
        simp only [go_sem, hwi]
        repeat (refine And.intro (by first | assumption | omega | (simp; done) | (simp; omega) | (intros; omega) | (simp_all; done) | (simp_all; omega)) ?_)
        refine kcall hR.inv te_ok rfl rfl rfl rfl rfl rfl (hp _) ?_
        simp only [go_sem, hwi]
        repeat (refine And.intro (by first | assumption | omega | (simp; done) | (simp; omega) | (intros; omega) | (simp_all; done) | (simp_all; omega)) ?_)
        exact hQ
      refine Exec.cond_split rfl (fun h1 => ?_) (fun h1 => ?_)
      · skip
        refine Exec.seq ?_
        apply Exec.regionL te_ok
        · intro ops' Q hQ
          simp only [go_sem, hwi]
          repeat (refine And.intro (by first | assumption | omega | (simp; done) | (simp; omega) | (intros; omega) | (simp_all; done) | (simp_all; omega)) ?_)
          exact hQ
        refine Exec.rets hR te_ok rfl rfl rfl (LeX.le ?_) (.inr ⟨_, rfl⟩)
        simp only [go_sem]
        rw [hx.2, spanN_drop hi (b := false) (by simpa using h1)]; simp
      · skip
        refine Exec.skip ?_
        refine Exec.inBlock ?_
        apply Exec.regionL te_ok
        · intro ops' Q hQ
          simp only [go_sem, hwi]
          repeat (refine And.intro (by first | assumption | omega | (simp; done) | (simp; omega) | (intros; omega) | (simp_all; done) | (simp_all; omega)) ?_)
          exact hQ
        refine Exec.back (ih0 (i + 1) ?_ ?_) ?_ ?_ ?_ ?_ ?_ ?_ ?_
        · try simp only
          exact ⟨by omega, by rw [hx.2, spanN_drop hi (b := true) (by simpa using h1), if_pos rfl]; omega⟩
        · try simp only
          omega
        · rfl
        · rfl
        · (simp only [go_sem, hwi])
        · (simp only [go_sem, hwi])
        · (simp only [go_sem, hwi])
        · simp only [go_sem, hwi]
        · rfl
    · skip
      refine Exec.exit rfl ?_
      refine Exec.seq ?_
      apply Exec.regionL te_ok
      · intro ops' Q hQ
        simp only [go_sem]
        repeat (refine And.intro (by first | assumption | omega | (simp; done) | (simp; omega) | (intros; omega) | (simp_all; done) | (simp_all; omega)) ?_)
        exact hQ
      refine Exec.rets hR te_ok rfl rfl rfl (LeX.le ?_) (.inr ⟨_, rfl⟩)
      simp only [go_sem]
      simp at h0
      rw [hx.2, List.drop_eq_nil_of_le (by omega)]; simp [spanN]; omega
theorem nletter_ok (n : Int) : FnOK LaidX Tryd.prog 90 [.v (.int .i32 n)] (bv (letterI n)) := by
  refine FnOK_of laidX_stable Tryd.func90 Tryd.ntmps90 rfl (by as_aux_lemma => kernel_rfl) (Nat.le_of_ble_eq_true rfl) (fun R hR => ?_)
  obtain ⟨_, b, cs, T, C⟩ := R
  obtain rfl : _ = Tryd.prog := hR.p
  refine Exec.seq ?_
  apply Exec.regionL te_ok
  · intro ops' Q hQ
    simp only [go_sem]
    repeat (refine And.intro (by first | assumption | omega | (simp; done) | (simp; omega) | (intros; omega) | (simp_all; done) | (simp_all; omega)) ?_)
    exact hQ
  refine Exec.seq ?_
  apply Exec.regionL te_ok
  · intro ops' Q hQ
    simp only [go_sem]
    repeat (refine And.intro (by first | assumption | omega | (simp; done) | (simp; omega) | (intros; omega) | (simp_all; done) | (simp_all; omega)) ?_)
    exact hQ
  refine Exec.rets hR te_ok rfl rfl rfl (LeX.le ?_) (.inr ⟨_, rfl⟩)
  simp only [go_sem, letterI]
theorem dec_ascii {s : List UInt8} {i : Nat} (h : i < s.length) (ha : (s.getD i 0).toNat < 128) : Utf8.decode (mkS s) i = ((s.getD i 0).toNat, 1) := by
  have e : (mkS s)[i]'(by rw [mkS_size]; exact h) = s.getD i 0 := by
    rw [List.getD_eq_getElem?_getD, List.getElem?_eq_getElem h]; rfl
  rw [decode_ascii (mkS s) i (by rw [mkS_size]; exact h) (by rw [e]; exact ha), e]
theorem dec_high {s : List UInt8} {i : Nat} (h : i < s.length) (ha : 128 ≤ (s.getD i 0).toNat) : 128 ≤ (Utf8.decode (mkS s) i).1 := by
  have e : (mkS s)[i]'(by rw [mkS_size]; exact h) = s.getD i 0 := by
    rw [List.getD_eq_getElem?_getD, List.getElem?_eq_getElem h]; rfl
  exact (decode_high (mkS s) i (by rw [mkS_size]; exact h) (by rw [e]; exact ha)).1
/-- what the round asks of a rune -/
def badR (n : Int) : Bool := (!letterI n && n != 95) && (decide (n < 48) || decide (57 < n))
theorem badR_sign (n : Int) : badR n = !signI n := by
  unfold badR signI digitI
  cases letterI n
  · by_cases h1 : n = 95
    · subst h1; rfl
    · by_cases h2 : n < 48
      · have : ¬ 48 ≤ n := by omega
        simp [h1, h2, this]; rfl
      · have : 48 ≤ n := by omega
        by_cases h3 : 57 < n
        · have h4 : ¬ n ≤ 57 := by omega
          simp [h1, h2, this, h3, h4]; rfl
        · have h4 : n ≤ 57 := by omega
          simp [h1, h2, this, h3, h4]
  · simp
theorem sign_high {n : Int} (h : 128 ≤ n) : signI n = false := by
  unfold signI letterI digitI; simp; omega
/-- a rune that is bad is of a byte that is, and one that is not is one byte -/
theorem rune_at {s : List UInt8} {i : Nat} (h : i < s.length) {b : Bool} (hb : badR ((Utf8.decode (mkS s) i).1 : Int) = b) : signI ((s.getD i 0).toNat : Int) = !b ∧ (b = false → (Utf8.decode (mkS s) i).2 = 1) := by
  rw [badR_sign] at hb
  by_cases ha : (s.getD i 0).toNat < 128
  · rw [dec_ascii h ha] at hb ⊢
    exact ⟨by rw [← hb]; simp, fun _ => rfl⟩
  · have h1 := dec_high h (by omega)
    rw [sign_high (by omega)] at hb
    subst hb
    exact ⟨sign_high (by omega), fun e => by cases e⟩
theorem all_take {p : UInt8 → Bool} {s : List UInt8} {i : Nat} (h : i < s.length) : (s.take (i + 1)).all p = ((s.take i).all p && p (s.getD i 0)) := by
  rw [List.take_add_one, List.all_append, List.getD_eq_getElem?_getD, List.getElem?_eq_getElem h]; simp
theorem vertex_bad {s : List UInt8} {i : Nat} (h : i < s.length) (hb : signI ((s.getD i 0).toNat : Int) = false) : vertexB s = false := by
  have : s.all (fun c => signI c.toNat) = false := by
    rw [List.all_eq_false]
    exact ⟨s.getD i 0, by rw [List.getD_eq_getElem?_getD, List.getElem?_eq_getElem h]; simp, by intro h'; rw [hb] at h'; cases h'⟩
  unfold vertexB; rw [this]; rfl

theorem vertex_ok (s : List UInt8) (hs : s.length ≤ 140737488355328) : FnOK LaidX Tryd.prog 75 [sv s] (bv (vertexB s)) := by
  refine FnOK_of laidX_stable Tryd.func75 Tryd.ntmps75 rfl (by as_aux_lemma => kernel_rfl) (Nat.le_of_ble_eq_true rfl) (fun R hR => ?_)
  obtain ⟨_, b, cs, T, C⟩ := R
  obtain rfl : _ = Tryd.prog := hR.p
  refine Exec.seq ?_
  apply Exec.regionL te_ok
  · intro ops' Q hQ
    simp only [go_sem]
    repeat (refine And.intro (by first | assumption | omega | (simp; done) | (simp; omega) | (intros; omega) | (simp_all; done) | (simp_all; omega)) ?_)
    exact hQ
  refine Exec.seq ?_
  refine Exec.seq ?_
  refine Exec.regStart 2 rfl ?_
  apply Exec.regPart 0 1 1 te_ok rfl
  · intro ops' Q hQ
    simp only [go_sem]
    repeat (refine And.intro (by first | assumption | omega | (simp; done) | (simp; omega) | (intros; omega) | (simp_all; done) | (simp_all; omega)) ?_)
    exact hQ
  refine Exec.rangeStr te_ok (m := 0) rfl rfl rfl rfl rfl rfl rfl (fun ls0 hls0 => ?_)
  apply Exec.norm
  · simp only [go_sem]
    rfl
  refine Exec.regEnd ?_
  refine Exec.block ?_
  apply Exec.loopUP [0, 6] (X := Nat) (fun i => []) (fun i => []) (fun i => []) (fun i => [(ls0, .stringIter (mkS s) i)]) (fun i => s.length - i) (fun i => i ≤ s.length ∧ (s.take i).all (fun c => signI c.toNat) = true) 0
  case hP => rfl
  case h0 =>
    simp
  case hw =>
    simp only [go_sem]
  case body =>
    rintro i hx ih0
    try simp only at hx
    apply Exec.norm
    · simp only [go_sem]
      rfl
    refine Exec.seq ?_
    refine Exec.regStart 2 rfl ?_
    refine Exec.nextStr (m := 1) rfl rfl rfl rfl rfl rfl rfl hls0 (fun hn0 => ?_) (fun hn0 => ?_)
    · skip
      apply Exec.norm
      · simp only [go_sem]
        rfl
      have hi : i < s.length := by rw [mkS_size] at hn0; exact hn0
      apply Exec.regPart 1 1 0 te_ok rfl
      · intro ops' Q hQ
        simp only [go_sem]
        repeat (refine And.intro (by first | assumption | omega | (simp; done) | (simp; omega) | (intros; omega) | (simp_all; done) | (simp_all; omega)) ?_)
        exact hQ
      refine Exec.regEnd ?_
      refine Exec.seq ?_
      refine Exec.cond (t := true) rfl ?_
      simp only [reduceIte, Bool.false_eq_true]
      refine Exec.skip ?_
      refine Exec.block ?_
      refine Exec.seq ?_
      apply Exec.regionL te_ok
      · intro ops' Q hQ
        simp only [go_sem]
        repeat (refine And.intro (by first | assumption | omega | (simp; done) | (simp; omega) | (intros; omega) | (simp_all; done) | (simp_all; omega)) ?_)
        exact hQ
      refine Exec.seq ?_
      apply Exec.regionL te_ok
      · intro ops' Q hQ
        simp only [go_sem]
        repeat (refine And.intro (by first | assumption | omega | (simp; done) | (simp; omega) | (intros; omega) | (simp_all; done) | (simp_all; omega)) ?_)
        refine kcall hR.inv te_ok rfl rfl rfl rfl rfl rfl (nletter_ok _) ?_
        simp only [go_sem]
        repeat (refine And.intro (by first | assumption | omega | (simp; done) | (simp; omega) | (intros; omega) | (simp_all; done) | (simp_all; omega)) ?_)
        exact hQ
      refine Exec.cond_split rfl (fun h1 => ?_) (fun h1 => ?_)
      · skip
        have q := rune_at hi (b := true) h1
        refine Exec.seq ?_
        apply Exec.regionL te_ok
        · intro ops' Q hQ
          simp only [go_sem]
          repeat (refine And.intro (by first | assumption | omega | (simp; done) | (simp; omega) | (intros; omega) | (simp_all; done) | (simp_all; omega)) ?_)
          exact hQ
        refine Exec.rets hR te_ok rfl rfl rfl (LeX.le ?_) (.inr ⟨_, rfl⟩)
        simp only [go_sem]
        exact (vertex_bad hi q.1).symm
      · skip
        have q := rune_at hi (b := false) h1
        refine Exec.skip ?_
        refine Exec.inBlock ?_
        refine Exec.backP (ih0 (i + (Utf8.decode (mkS s) i).2) ?_ ?_) ?_ ?_ ?_ ?_ ?_ ?_ ?_
        · try simp only
          have := q.2 rfl
          exact ⟨by omega, by rw [this, all_take hi, hx.2, q.1]; rfl⟩
        · try simp only
          have := q.2 rfl
          omega
        · rfl
        · rfl
        · (simp only [go_sem])
        · (simp only [go_sem])
        · (simp only [go_sem])
        · simp only [go_sem]
        · rfl
    · skip
      apply Exec.norm
      · simp only [go_sem]
        rfl
      apply Exec.regPart 1 1 0 te_ok rfl
      · intro ops' Q hQ
        simp only [go_sem]
        repeat (refine And.intro (by first | assumption | omega | (simp; done) | (simp; omega) | (intros; omega) | (simp_all; done) | (simp_all; omega)) ?_)
        exact hQ
      refine Exec.regEnd ?_
      refine Exec.seq ?_
      refine Exec.cond (t := false) rfl ?_
      simp only [reduceIte, Bool.false_eq_true]
      refine Exec.exit rfl ?_
      refine Exec.seq ?_
      apply Exec.regionL te_ok
      · intro ops' Q hQ
        simp only [go_sem]
        repeat (refine And.intro (by first | assumption | omega | (simp; done) | (simp; omega) | (intros; omega) | (simp_all; done) | (simp_all; omega)) ?_)
        exact hQ
      refine Exec.rets hR te_ok rfl rfl rfl (LeX.le ?_) (.inr ⟨_, rfl⟩)
      simp only [go_sem]
      rw [mkS_size] at hn0
      have e := hx.2
      rw [List.take_of_length_le (by omega)] at e
      unfold vertexB; rw [e]; rfl
theorem valued_ok (w : List UInt8) (k : Int) (hs : w.length ≤ 140737488355328) : FnOK LaidX Tryd.prog 77 [sv w, iv k] (.tup [tD (valuedT w k), bv (parseE w == 0)]) := by
  refine FnOK_of laidX_stable Tryd.func77 Tryd.ntmps77 rfl (by as_aux_lemma => kernel_rfl) (Nat.le_of_ble_eq_true rfl) (fun R hR => ?_)
  obtain ⟨_, b, cs, T, C⟩ := R
  obtain rfl : _ = Tryd.prog := hR.p
  refine Exec.seq ?_
  apply Exec.regionL te_ok
  · intro ops' Q hQ
    simp only [go_sem]
    repeat (refine And.intro (by first | assumption | omega | (simp; done) | (simp; omega) | (intros; omega) | (simp_all; done) | (simp_all; omega)) ?_)
    exact hQ
  refine Exec.seq ?_
  apply Exec.regionL te_ok
  · intro ops' Q hQ
    simp only [go_sem]
    repeat (refine And.intro (by first | assumption | omega | (simp; done) | (simp; omega) | (intros; omega) | (simp_all; done) | (simp_all; omega)) ?_)
    refine kcall hR.inv te_ok rfl rfl rfl rfl rfl rfl ((parse_ok _ (by omega)).weak laidX_laid) ?_
    simp only [go_sem]
    repeat (refine And.intro (by first | assumption | omega | (simp; done) | (simp; omega) | (intros; omega) | (simp_all; done) | (simp_all; omega)) ?_)
    exact hQ
  refine Exec.seq ?_
  apply Exec.regionL te_ok
  · intro ops' Q hQ
    simp only [go_sem]
    repeat (refine And.intro (by first | assumption | omega | (simp; done) | (simp; omega) | (intros; omega) | (simp_all; done) | (simp_all; omega)) ?_)
    exact hQ
  refine Exec.rets hR te_ok rfl rfl rfl (LeX.le ?_) (.inr ⟨_, rfl⟩)
  simp only [go_sem, valuedT]
theorem best_drop (s : List UInt8) {i : Nat} {b : List UInt8} (h : i < signsF.length) : (signsF.drop i).foldl (bestStep s) b = (signsF.drop (i + 1)).foldl (bestStep s) (bestStep s b (nth signsF i)) := by
  rw [drop_nth h]; rfl
theorem best_bif (s b x : List UInt8) : (bif Lib.hasPrefix s x && decide ((b.length : Int) < (x.length : Int)) then x else b) = bestStep s b x := by
  unfold bestStep; cases (Lib.hasPrefix s x && decide ((b.length : Int) < (x.length : Int))) <;> rfl

theorem signed_ok (s : List UInt8) : FnOK LaidX Tryd.prog 79 [sv s] (.tup [tD ⟨4, bestSign s, 0, v0⟩, bv (!(bestSign s == []))]) := by
  refine FnOK_of laidX_stable Tryd.func79 Tryd.ntmps79 rfl (by as_aux_lemma => kernel_rfl) (Nat.le_of_ble_eq_true rfl) (fun R hR => ?_)
  obtain ⟨_, b, cs, T, C⟩ := R
  obtain rfl : _ = Tryd.prog := hR.p
  refine Exec.seq ?_
  apply Exec.regionL te_ok
  · intro ops' Q hQ
    simp only [go_sem]
    repeat (refine And.intro (by first | assumption | omega | (simp; done) | (simp; omega) | (intros; omega) | (simp_all; done) | (simp_all; omega)) ?_)
    exact hQ
  refine Exec.seq ?_
  apply Exec.regionL te_ok
  · intro ops' Q hQ
    simp only [go_sem]
    repeat (refine And.intro (by first | assumption | omega | (simp; done) | (simp; omega) | (intros; omega) | (simp_all; done) | (simp_all; omega)) ?_)
    exact hQ
  refine Exec.seq ?_
  refine Exec.seq ?_
  apply Exec.regionL te_ok
  · intro ops' Q hQ
    simp only [go_sem]
    repeat (refine And.intro (by first | assumption | omega | (simp; done) | (simp; omega) | (intros; omega) | (simp_all; done) | (simp_all; omega)) ?_)
    refine kcall hR.inv te_ok rfl rfl rfl rfl rfl rfl (fields_ok) ?_
    simp only [go_sem]
    repeat (refine And.intro (by first | assumption | omega | (simp; done) | (simp; omega) | (intros; omega) | (simp_all; done) | (simp_all; omega)) ?_)
    exact hQ
  refine Exec.block ?_
  apply Exec.loopU [0, 2, 7, 8] (X := Nat × List UInt8) (fun ⟨i, b⟩ => [(9, .d (iv i)), (4, .d (sv b))]) (fun ⟨i, b⟩ => []) (fun ⟨i, b⟩ => []) (fun ⟨i, b⟩ => 20 - i) (fun ⟨i, b⟩ => i ≤ 20 ∧ bestSign s = (signsF.drop i).foldl (bestStep s) b) (0, [])
  case h0 =>
    exact ⟨by omega, rfl⟩
  case hw =>
    simp only [go_sem]
  case body =>
    rintro ⟨i, b⟩ hx ih0
    try simp only at hx
    apply Exec.norm
    · simp only [go_sem]
      rfl
    refine Exec.seq ?_
    apply Exec.regionL te_ok
    · intro ops' Q hQ
      simp only [go_sem]
      repeat (refine And.intro (by first | assumption | omega | (simp; done) | (simp; omega) | (intros; omega) | (simp_all; done) | (simp_all; omega)) ?_)
      exact hQ
    refine Exec.seq ?_
    refine Exec.cond_split rfl (fun h0 => ?_) (fun h0 => ?_)
    · skip
      have hi : i < signsF.length := by simp at h0; show i < 20; omega
      have hi20 : i < 20 := hi
      have hwi : IntKind.i64.wrap ((i : Int) + 1) = ((i + 1 : Nat) : Int) := by rw [wrap_id (by constructor <;> omega)]; simp
      refine Exec.skip ?_
      refine Exec.seq ?_
      refine Exec.block ?_
      refine Exec.seq ?_
      apply Exec.regionL te_ok
      · intro ops' Q hQ
        simp only [go_sem, hwi, best_bif]
        repeat (refine And.intro (by first | assumption | omega | (simp; done) | (simp; omega) | (intros; omega) | (simp_all; done) | (simp_all; omega)) ?_)
        exact hQ
      refine Exec.seq ?_
      apply Exec.regionL te_ok
      · intro ops' Q hQ
        simp only [go_sem, hwi, best_bif]
        repeat (refine And.intro (by first | assumption | omega | (simp; done) | (simp; omega) | (intros; omega) | (simp_all; done) | (simp_all; omega)) ?_)
        refine kcall hR.inv te_ok rfl rfl rfl rfl rfl rfl ((hasPre_ok _ _).weak laidX_laid) ?_
        simp only [go_sem, hwi, best_bif]
        repeat (refine And.intro (by first | assumption | omega | (simp; done) | (simp; omega) | (intros; omega) | (simp_all; done) | (simp_all; omega)) ?_)
        exact hQ
      apply Exec.join [0, 2, 4, 7, 8, 9] rfl
      case hx =>
        intro h1 hK
        apply Exec.regionL te_ok
        · intro ops' Q hQ
          simp only [go_sem, hwi, best_bif]
          repeat (refine And.intro (by first | assumption | omega | (simp; done) | (simp; omega) | (intros; omega) | (simp_all; done) | (simp_all; omega)) ?_)
          exact hQ
        exact hK
      case hy =>
        intro h1 hK
        refine Exec.skip ?_
        exact hK
      case hN => rfl
      case hdf => rfl
      case hF => simp only [go_sem]
      case hP => rfl
      apply Exec.norm
      · simp only [go_sem, hwi, best_bif]
        rfl
      refine Exec.inBlock ?_
      apply Exec.regionL te_ok
      · intro ops' Q hQ
        simp only [go_sem, hwi, best_bif]
        repeat (refine And.intro (by first | assumption | omega | (simp; done) | (simp; omega) | (intros; omega) | (simp_all; done) | (simp_all; omega)) ?_)
        exact hQ
      refine Exec.back (ih0 (i + 1, bestStep s b (nth signsF i)) ?_ ?_) ?_ ?_ ?_ ?_ ?_ ?_ ?_
      · try simp only
        have : i < 20 := hi
        exact ⟨by omega, by rw [hx.2, best_drop s hi]⟩
      · try simp only
        have : i < 20 := hi
        omega
      · rfl
      · rfl
      · (simp only [go_sem, hwi, best_bif])
      · (simp only [go_sem, hwi, best_bif])
      · (simp only [go_sem, hwi, best_bif])
      · simp only [go_sem, hwi, best_bif]
      · rfl
    · skip
      refine Exec.exit rfl ?_
      refine Exec.seq ?_
      apply Exec.regionL te_ok
      · intro ops' Q hQ
        simp only [go_sem]
        repeat (refine And.intro (by first | assumption | omega | (simp; done) | (simp; omega) | (intros; omega) | (simp_all; done) | (simp_all; omega)) ?_)
        exact hQ
      refine Exec.rets hR te_ok rfl rfl rfl (LeX.le ?_) (.inr ⟨_, rfl⟩)
      simp only [go_sem]
      simp at h0
      have e : b = bestSign s := by rw [hx.2, List.drop_eq_nil_of_le (by show 20 ≤ i; omega)]; rfl
      rw [e]; simp
end Go.Proofs.YtmnponhhmkdcdaaDoor
