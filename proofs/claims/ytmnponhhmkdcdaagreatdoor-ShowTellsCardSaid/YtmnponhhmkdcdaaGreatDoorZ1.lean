/- Contracts of functions of the seat, walked. -/
import Derived.Test.YtmnponhhmkdcdaaGreatDoorZ0
namespace Go.Proofs.YtmnponhhmkdcdaaGreatDoor
open Go.Kin
set_option linter.unusedSimpArgs false
set_option linter.unusedVariables false
set_option maxRecDepth 100000
set_option maxHeartbeats 0
theorem take_nth {α : Type} [Inhabited α] {l : List α} {i : Nat} (h : i < l.length) : l.take (i + 1) = l.take i ++ [nth l i] := take_succ_nth h
theorem same_step {α : Type} [Inhabited α] {x y : List α} {i : Nat} (hl : x.length = y.length) (h : i < x.length) (hp : x.take i = y.take i) : (x.take (i + 1) = y.take (i + 1) ↔ nth x i = nth y i) := by
  rw [take_nth h, take_nth (by omega), hp]; simp

attribute [go_sem] Option.toArray_some Option.toArray_none famStP

theorem nletter_ok (n : Int) : FnOK Laid Tryz.prog 173 [.v (.int .i32 n)] (bv (letterI n)) := by
  refine FnOK_of laid_stable Tryz.func173 Tryz.ntmps173 rfl (by as_aux_lemma => kernel_rfl) (Nat.le_of_ble_eq_true rfl) (fun R hR => ?_)
  obtain ⟨_, b, cs, T, C⟩ := R
  obtain rfl : _ = Tryz.prog := hR.p
  refine Exec.seq ?_
  apply Exec.regionL te_ok
  · intro ops' Q hQ
    simp only [go_sem]
    repeat (refine And.intro (by first | assumption | omega | (simp; done) | (simp; omega) | (intros; omega) | (simp_all; done) | (simp_all; omega)) ?_)
    exact hQ
  refine Exec.seq ?_
  apply Exec.regionL te_ok
  · intro ops' Q hQ
    simp only [go_sem]
    repeat (refine And.intro (by first | assumption | omega | (simp; done) | (simp; omega) | (intros; omega) | (simp_all; done) | (simp_all; omega)) ?_)
    exact hQ
  refine Exec.rets hR te_ok rfl rfl rfl (LeX.le ?_) (.inr ⟨_, rfl⟩)
  simp only [go_sem, letterI]
theorem dec_ascii {s : List UInt8} {i : Nat} (h : i < s.length) (ha : (s.getD i 0).toNat < 128) : Utf8.decode (mkS s) i = ((s.getD i 0).toNat, 1) := by
  have e : (mkS s)[i]'(by rw [mkS_size]; exact h) = s.getD i 0 := by
    rw [List.getD_eq_getElem?_getD, List.getElem?_eq_getElem h]; rfl
  rw [decode_ascii (mkS s) i (by rw [mkS_size]; exact h) (by rw [e]; exact ha), e]
theorem dec_high {s : List UInt8} {i : Nat} (h : i < s.length) (ha : 128 ≤ (s.getD i 0).toNat) : 128 ≤ (Utf8.decode (mkS s) i).1 := by
  have e : (mkS s)[i]'(by rw [mkS_size]; exact h) = s.getD i 0 := by
    rw [List.getD_eq_getElem?_getD, List.getElem?_eq_getElem h]; rfl
  exact (decode_high (mkS s) i (by rw [mkS_size]; exact h) (by rw [e]; exact ha)).1
/-- what the round asks of a rune -/
def badR (n : Int) : Bool := (!letterI n && n != 95) && (decide (n < 48) || decide (57 < n))
theorem badR_sign (n : Int) : badR n = !signI n := by
  unfold badR signI digitI
  cases letterI n
  · by_cases h1 : n = 95
    · subst h1; rfl
    · by_cases h2 : n < 48
      · have : ¬ 48 ≤ n := by omega
        simp [h1, h2, this]; rfl
      · have : 48 ≤ n := by omega
        by_cases h3 : 57 < n
        · have h4 : ¬ n ≤ 57 := by omega
          simp [h1, h2, this, h3, h4]; rfl
        · have h4 : n ≤ 57 := by omega
          simp [h1, h2, this, h3, h4]
  · simp
theorem sign_high {n : Int} (h : 128 ≤ n) : signI n = false := by
  unfold signI letterI digitI; simp; omega
/-- a rune that is bad is of a byte that is, and one that is not is one byte -/
theorem rune_at {s : List UInt8} {i : Nat} (h : i < s.length) {b : Bool} (hb : badR ((Utf8.decode (mkS s) i).1 : Int) = b) : signI ((s.getD i 0).toNat : Int) = !b ∧ (b = false → (Utf8.decode (mkS s) i).2 = 1) := by
  rw [badR_sign] at hb
  by_cases ha : (s.getD i 0).toNat < 128
  · rw [dec_ascii h ha] at hb ⊢
    exact ⟨by rw [← hb]; simp, fun _ => rfl⟩
  · have h1 := dec_high h (by omega)
    rw [sign_high (by omega)] at hb
    subst hb
    exact ⟨sign_high (by omega), fun e => by cases e⟩
theorem all_take {p : UInt8 → Bool} {s : List UInt8} {i : Nat} (h : i < s.length) : (s.take (i + 1)).all p = ((s.take i).all p && p (s.getD i 0)) := by
  rw [List.take_add_one, List.all_append, List.getD_eq_getElem?_getD, List.getElem?_eq_getElem h]; simp
theorem vertex_bad {s : List UInt8} {i : Nat} (h : i < s.length) (hb : signI ((s.getD i 0).toNat : Int) = false) : vertexB s = false := by
  have : s.all (fun c => signI c.toNat) = false := by
    rw [List.all_eq_false]
    exact ⟨s.getD i 0, by rw [List.getD_eq_getElem?_getD, List.getElem?_eq_getElem h]; simp, by intro h'; rw [hb] at h'; cases h'⟩
  unfold vertexB; rw [this]; rfl

theorem vertex_ok (s : List UInt8) (hs : s.length ≤ 140737488355328) : FnOK Laid Tryz.prog 161 [sv s] (bv (vertexB s)) := by
  refine FnOK_of laid_stable Tryz.func161 Tryz.ntmps161 rfl (by as_aux_lemma => kernel_rfl) (Nat.le_of_ble_eq_true rfl) (fun R hR => ?_)
  obtain ⟨_, b, cs, T, C⟩ := R
  obtain rfl : _ = Tryz.prog := hR.p
  refine Exec.seq ?_
  apply Exec.regionL te_ok
  · intro ops' Q hQ
    simp only [go_sem]
    repeat (refine And.intro (by first | assumption | omega | (simp; done) | (simp; omega) | (intros; omega) | (simp_all; done) | (simp_all; omega)) ?_)
    exact hQ
  refine Exec.seq ?_
  refine Exec.seq ?_
  refine Exec.regStart 2 rfl ?_
  apply Exec.regPart 0 1 1 te_ok rfl
  · intro ops' Q hQ
    simp only [go_sem]
    repeat (refine And.intro (by first | assumption | omega | (simp; done) | (simp; omega) | (intros; omega) | (simp_all; done) | (simp_all; omega)) ?_)
    exact hQ
  refine Exec.rangeStr te_ok (m := 0) rfl rfl rfl rfl rfl rfl rfl (fun ls0 hls0 => ?_)
  apply Exec.norm
  · simp only [go_sem]
    rfl
  refine Exec.regEnd ?_
  refine Exec.block ?_
  apply Exec.loopUP [0, 6] (X := Nat) (fun i => []) (fun i => []) (fun i => []) (fun i => [(ls0, .stringIter (mkS s) i)]) (fun i => s.length - i) (fun i => i ≤ s.length ∧ (s.take i).all (fun c => signI c.toNat) = true) 0
  case hP => rfl
  case h0 =>
    simp
  case hw =>
    simp only [go_sem]
  case body =>
    rintro i hx ih0
    try simp only at hx
    apply Exec.norm
    · simp only [go_sem]
      rfl
    refine Exec.seq ?_
    refine Exec.regStart 2 rfl ?_
    refine Exec.nextStr (m := 1) rfl rfl rfl rfl rfl rfl rfl hls0 (fun hn0 => ?_) (fun hn0 => ?_)
    · skip
      apply Exec.norm
      · simp only [go_sem]
        rfl
      have hi : i < s.length := by rw [mkS_size] at hn0; exact hn0
      apply Exec.regPart 1 1 0 te_ok rfl
      · intro ops' Q hQ
        simp only [go_sem]
        repeat (refine And.intro (by first | assumption | omega | (simp; done) | (simp; omega) | (intros; omega) | (simp_all; done) | (simp_all; omega)) ?_)
        exact hQ
      refine Exec.regEnd ?_
      refine Exec.seq ?_
      refine Exec.cond (t := true) rfl ?_
      simp only [reduceIte, Bool.false_eq_true]
      refine Exec.skip ?_
      refine Exec.block ?_
      refine Exec.seq ?_
      apply Exec.regionL te_ok
      · intro ops' Q hQ
        simp only [go_sem]
        repeat (refine And.intro (by first | assumption | omega | (simp; done) | (simp; omega) | (intros; omega) | (simp_all; done) | (simp_all; omega)) ?_)
        exact hQ
      refine Exec.seq ?_
      apply Exec.regionL te_ok
      · intro ops' Q hQ
        simp only [go_sem]
        repeat (refine And.intro (by first | assumption | omega | (simp; done) | (simp; omega) | (intros; omega) | (simp_all; done) | (simp_all; omega)) ?_)
        refine kcall hR.inv te_ok rfl rfl rfl rfl rfl rfl (nletter_ok _) ?_
        simp only [go_sem]
        repeat (refine And.intro (by first | assumption | omega | (simp; done) | (simp; omega) | (intros; omega) | (simp_all; done) | (simp_all; omega)) ?_)
        exact hQ
      refine Exec.cond_split rfl (fun h1 => ?_) (fun h1 => ?_)
      · skip
        have q := rune_at hi (b := true) h1
        refine Exec.seq ?_
        apply Exec.regionL te_ok
        · intro ops' Q hQ
          simp only [go_sem]
          repeat (refine And.intro (by first | assumption | omega | (simp; done) | (simp; omega) | (intros; omega) | (simp_all; done) | (simp_all; omega)) ?_)
          exact hQ
        refine Exec.rets hR te_ok rfl rfl rfl (LeX.le ?_) (.inr ⟨_, rfl⟩)
        simp only [go_sem]
        exact (vertex_bad hi q.1).symm
      · skip
        have q := rune_at hi (b := false) h1
        refine Exec.skip ?_
        refine Exec.inBlock ?_
        refine Exec.backP (ih0 (i + (Utf8.decode (mkS s) i).2) ?_ ?_) ?_ ?_ ?_ ?_ ?_ ?_ ?_
        · try simp only
          have := q.2 rfl
          exact ⟨by omega, by rw [this, all_take hi, hx.2, q.1]; rfl⟩
        · try simp only
          have := q.2 rfl
          omega
        · rfl
        · rfl
        · (simp only [go_sem])
        · (simp only [go_sem])
        · (simp only [go_sem])
        · simp only [go_sem]
        · rfl
    · skip
      apply Exec.norm
      · simp only [go_sem]
        rfl
      apply Exec.regPart 1 1 0 te_ok rfl
      · intro ops' Q hQ
        simp only [go_sem]
        repeat (refine And.intro (by first | assumption | omega | (simp; done) | (simp; omega) | (intros; omega) | (simp_all; done) | (simp_all; omega)) ?_)
        exact hQ
      refine Exec.regEnd ?_
      refine Exec.seq ?_
      refine Exec.cond (t := false) rfl ?_
      simp only [reduceIte, Bool.false_eq_true]
      refine Exec.exit rfl ?_
      refine Exec.seq ?_
      apply Exec.regionL te_ok
      · intro ops' Q hQ
        simp only [go_sem]
        repeat (refine And.intro (by first | assumption | omega | (simp; done) | (simp; omega) | (intros; omega) | (simp_all; done) | (simp_all; omega)) ?_)
        exact hQ
      refine Exec.rets hR te_ok rfl rfl rfl (LeX.le ?_) (.inr ⟨_, rfl⟩)
      simp only [go_sem]
      rw [mkS_size] at hn0
      have e := hx.2
      rw [List.take_of_length_le (by omega)] at e
      unfold vertexB; rw [e]; rfl
def wordsL : List (List UInt8) := [[97, 115], [109, 97, 116, 99, 104], [119, 104, 101, 114, 101], [97, 110, 100], [114, 101, 116, 117, 114, 110], [114, 97, 110, 103, 101], [115, 108, 105, 100, 101]]
def freeB (s : List UInt8) : Bool := vertexB s && (letterI (s.getD 0 0).toNat && !wordsL.contains s)
theorem vertex_pos {s : List UInt8} (h : vertexB s = true) : 0 < s.length := by
  cases s with
  | nil => simp [vertexB] at h
  | cons c r => simp
def idxF (s : List UInt8) : List (List UInt8) → Nat → Int
  | [], _ => -1
  | x :: r, i => if x = s then (i : Int) else idxF s r (i + 1)
theorem idx_drop {l : List (List UInt8)} {s : List UInt8} {i : Nat} (h : i < l.length) : idxF s (l.drop i) i = if nth l i = s then (i : Int) else idxF s (l.drop (i + 1)) (i + 1) := by
  rw [Kin.drop_nth h]; rfl
theorem idx_has (s : List UInt8) : ∀ (l : List (List UInt8)) (i : Nat), decide (0 ≤ idxF s l i) = l.contains s
  | [], i => by simp [idxF]
  | x :: r, i => by
    have e : idxF s (x :: r) i = if x = s then (i : Int) else idxF s r (i + 1) := rfl
    have ih := idx_has s r (i + 1)
    simp only [e, List.contains_cons]
    by_cases h : x = s
    · subst h; simp
    · have h2 : (s == x) = false := beq_false_of_ne (fun e => h e.symm)
      simp only [if_neg h, ih, h2, Bool.false_or]
theorem i32_byte (c : UInt8) : IntKind.i32.wrap (c.toNat : Int) = (c.toNat : Int) := by
  have := c.toNat_lt
  simp [IntKind.wrap, IntKind.signed, IntKind.bits]; omega

theorem index_ok (l : List (List UInt8)) (s : List UInt8) (hl : l.length ≤ 1000000) : FnOK Laid Tryz.prog 201 [strsD l, sv s] (iv (idxF s l 0)) := by
  refine FnOK_of laid_stable Tryz.func201 Tryz.ntmps201 rfl (by as_aux_lemma => kernel_rfl) (Nat.le_of_ble_eq_true rfl) (fun R hR => ?_)
  obtain ⟨_, b, cs, T, C⟩ := R
  obtain rfl : _ = Tryz.prog := hR.p
  refine Exec.seq ?_
  apply Exec.regionL te_ok
  · intro ops' Q hQ
    simp only [go_sem]
    repeat (refine And.intro (by first | assumption | omega | (simp; done) | (simp; omega) | (intros; omega) | (simp_all; done) | (simp_all; omega)) ?_)
    exact hQ
  refine Exec.seq ?_
  refine Exec.seq ?_
  apply Exec.regionL te_ok
  · intro ops' Q hQ
    simp only [go_sem]
    repeat (refine And.intro (by first | assumption | omega | (simp; done) | (simp; omega) | (intros; omega) | (simp_all; done) | (simp_all; omega)) ?_)
    exact hQ
  refine Exec.block ?_
  apply Exec.loopU [0, 1, 7] (X := Nat) (fun i => [(8, .d (iv i))]) (fun i => []) (fun i => []) (fun i => l.length - i) (fun i => i ≤ l.length ∧ idxF s l 0 = idxF s (l.drop i) i) 0
  case h0 =>
    simp
  case hw =>
    simp only [go_sem]
  case body =>
    rintro i hx ih0
    try simp only at hx
    apply Exec.norm
    · simp only [go_sem]
      rfl
    refine Exec.seq ?_
    apply Exec.regionL te_ok
    · intro ops' Q hQ
      simp only [go_sem]
      repeat (refine And.intro (by first | assumption | omega | (simp; done) | (simp; omega) | (intros; omega) | (simp_all; done) | (simp_all; omega)) ?_)
      exact hQ
    refine Exec.seq ?_
    refine Exec.cond_split rfl (fun h0 => ?_) (fun h0 => ?_)
    · skip
      have hi : i < l.length := by simp at h0; omega
      have hwi : IntKind.i64.wrap ((i : Int) + 1) = ((i + 1 : Nat) : Int) := by rw [wrap_id (by constructor <;> omega)]; simp
      refine Exec.skip ?_
      refine Exec.seq ?_
      refine Exec.block ?_
      refine Exec.seq ?_
      apply Exec.regionL te_ok
      · intro ops' Q hQ
        simp only [go_sem, hwi]
        repeat (refine And.intro (by first | assumption | omega | (simp; done) | (simp; omega) | (intros; omega) | (simp_all; done) | (simp_all; omega)) ?_)
        exact hQ
      refine Exec.seq ?_
      apply Exec.regionL te_ok
      · intro ops' Q hQ
        simp only [go_sem, hwi]
        repeat (refine And.intro (by first | assumption | omega | (simp; done) | (simp; omega) | (intros; omega) | (simp_all; done) | (simp_all; omega)) ?_)
        exact hQ
      refine Exec.cond_split rfl (fun h1 => ?_) (fun h1 => ?_)
      · skip
        refine Exec.seq ?_
        apply Exec.regionL te_ok
        · intro ops' Q hQ
          simp only [go_sem, hwi]
          repeat (refine And.intro (by first | assumption | omega | (simp; done) | (simp; omega) | (intros; omega) | (simp_all; done) | (simp_all; omega)) ?_)
          exact hQ
        refine Exec.rets hR te_ok rfl rfl rfl (LeX.le ?_) (.inr ⟨_, rfl⟩)
        simp only [go_sem]
        rw [hx.2, idx_drop hi, if_pos (eq_of_beq (by simpa using h1)).symm]
      · skip
        refine Exec.skip ?_
        refine Exec.inBlock ?_
        apply Exec.regionL te_ok
        · intro ops' Q hQ
          simp only [go_sem, hwi]
          repeat (refine And.intro (by first | assumption | omega | (simp; done) | (simp; omega) | (intros; omega) | (simp_all; done) | (simp_all; omega)) ?_)
          exact hQ
        refine Exec.back (ih0 (i + 1) ?_ ?_) ?_ ?_ ?_ ?_ ?_ ?_ ?_
        · try simp only
          exact ⟨by omega, by rw [hx.2, idx_drop hi, if_neg (fun e => by rw [e] at h1; simp at h1)]⟩
        · try simp only
          omega
        · rfl
        · rfl
        · (simp only [go_sem, hwi])
        · (simp only [go_sem, hwi])
        · (simp only [go_sem, hwi])
        · simp only [go_sem, hwi]
        · rfl
    · skip
      refine Exec.exit rfl ?_
      refine Exec.seq ?_
      apply Exec.regionL te_ok
      · intro ops' Q hQ
        simp only [go_sem]
        repeat (refine And.intro (by first | assumption | omega | (simp; done) | (simp; omega) | (intros; omega) | (simp_all; done) | (simp_all; omega)) ?_)
        exact hQ
      refine Exec.rets hR te_ok rfl rfl rfl (LeX.le ?_) (.inr ⟨_, rfl⟩)
      simp only [go_sem]
      rw [hx.2, List.drop_eq_nil_of_le (by simp at h0; omega)]; rfl
theorem contains_ok (l : List (List UInt8)) (s : List UInt8) (hl : l.length ≤ 1000000) : FnOK Laid Tryz.prog 174 [strsD l, sv s] (bv (l.contains s)) := by
  refine FnOK_of laid_stable Tryz.func174 Tryz.ntmps174 rfl (by as_aux_lemma => kernel_rfl) (Nat.le_of_ble_eq_true rfl) (fun R hR => ?_)
  obtain ⟨_, b, cs, T, C⟩ := R
  obtain rfl : _ = Tryz.prog := hR.p
  refine Exec.seq ?_
  apply Exec.regionL te_ok
  · intro ops' Q hQ
    simp only [go_sem]
    repeat (refine And.intro (by first | assumption | omega | (simp; done) | (simp; omega) | (intros; omega) | (simp_all; done) | (simp_all; omega)) ?_)
    exact hQ
  refine Exec.seq ?_
  apply Exec.regionL te_ok
  · intro ops' Q hQ
    simp only [go_sem]
    repeat (refine And.intro (by first | assumption | omega | (simp; done) | (simp; omega) | (intros; omega) | (simp_all; done) | (simp_all; omega)) ?_)
    refine kcall hR.inv te_ok rfl rfl rfl rfl rfl rfl (index_ok _ _ (by assumption)) ?_
    simp only [go_sem]
    repeat (refine And.intro (by first | assumption | omega | (simp; done) | (simp; omega) | (intros; omega) | (simp_all; done) | (simp_all; omega)) ?_)
    exact hQ
  refine Exec.rets hR te_ok rfl rfl rfl (LeX.le ?_) (.inr ⟨_, rfl⟩)
  simp only [go_sem]
  exact idx_has s l 0
theorem words7_ok (s : List UInt8) : FnOK Laid Tryz.prog 174 [.sl 1 7 7 (lstR [[sv [97, 115]], [sv [109, 97, 116, 99, 104]], [sv [119, 104, 101, 114, 101]], [sv [97, 110, 100]], [sv [114, 101, 116, 117, 114, 110]], [sv [114, 97, 110, 103, 101]], [sv [115, 108, 105, 100, 101]]]), sv s] (bv (wordsL.contains s)) :=
  (contains_ok wordsL s (by decide)).args ⟨lst_le (fun w => [sv w]) wordsL 1, LeD.refl _, trivial⟩

theorem free_ok (s : List UInt8) (hs : s.length ≤ 140737488355328) : FnOK Laid Tryz.prog 138 [sv s] (bv (freeB s)) := by
  refine FnOK_of laid_stable Tryz.func138 Tryz.ntmps138 rfl (by as_aux_lemma => kernel_rfl) (Nat.le_of_ble_eq_true rfl) (fun R hR => ?_)
  obtain ⟨_, b, cs, T, C⟩ := R
  obtain rfl : _ = Tryz.prog := hR.p
  have hv : vertexB s = true → 0 < s.length := vertex_pos
  have hw := i32_byte (s.getD 0 0)
  refine Exec.seq ?_
  apply Exec.regionL te_ok
  · intro ops' Q hQ
    simp only [go_sem, hw]
    repeat (refine And.intro (by first | assumption | omega | (simp; done) | (simp; omega) | (intros; omega) | (simp_all; done) | (simp_all; omega)) ?_)
    exact hQ
  refine Exec.seq ?_
  apply Exec.regionL te_ok
  · intro ops' Q hQ
    simp only [go_sem, hw]
    repeat (refine And.intro (by first | assumption | omega | (simp; done) | (simp; omega) | (intros; omega) | (simp_all; done) | (simp_all; omega)) ?_)
    exact hQ
  refine Exec.seq ?_
  refine Exec.freeze 4 rfl ?_
  apply Exec.norm
  · simp only [go_sem]
    rfl
  apply Exec.regionL te_ok
  · intro ops' Q hQ
    simp only [go_sem, hw]
    repeat (refine And.intro (by first | assumption | omega | (simp; done) | (simp; omega) | (intros; omega) | (simp_all; done) | (simp_all; omega)) ?_)
    refine kcall hR.inv te_ok rfl rfl rfl rfl rfl rfl (vertex_ok _ (by omega)) ?_
    simp only [go_sem, hw]
    repeat (refine And.intro (by first | assumption | omega | (simp; done) | (simp; omega) | (intros; omega) | (simp_all; done) | (simp_all; omega)) ?_)
    refine kcallG hR.inv te_ok rfl rfl rfl rfl rfl rfl (by simp only [go_sem] <;> (first | assumption | omega | (simp; done) | (simp; omega) | (intros; omega) | (simp_all; done) | (simp_all; omega))) (fun hq => nletter_ok _) ?_
    simp only [go_sem, hw]
    repeat (refine And.intro (by first | assumption | omega | (simp; done) | (simp; omega) | (intros; omega) | (simp_all; done) | (simp_all; omega)) ?_)
    refine kcallG hR.inv te_ok rfl rfl rfl rfl rfl rfl (by simp only [go_sem] <;> (first | assumption | omega | (simp; done) | (simp; omega) | (intros; omega) | (simp_all; done) | (simp_all; omega))) (fun hq => words7_ok s) ?_
    simp only [go_sem, hw]
    repeat (refine And.intro (by first | assumption | omega | (simp; done) | (simp; omega) | (intros; omega) | (simp_all; done) | (simp_all; omega)) ?_)
    exact hQ
  refine Exec.rets hR te_ok rfl rfl rfl (LeX.le ?_) (.inr ⟨_, rfl⟩)
  simp only [go_sem, freeB]
  cases vertexB s <;> cases letterI ((s.getD 0 0).toNat : Int) <;> cases wordsL.contains s <;> rfl
theorem r2letter_ok (n : Int) : FnOK Laid Tryz.prog 183 [u8 n] (bv (letterI n)) := by
  refine FnOK_of laid_stable Tryz.func183 Tryz.ntmps183 rfl (by as_aux_lemma => kernel_rfl) (Nat.le_of_ble_eq_true rfl) (fun R hR => ?_)
  obtain ⟨_, b, cs, T, C⟩ := R
  obtain rfl : _ = Tryz.prog := hR.p
  refine Exec.seq ?_
  apply Exec.regionL te_ok
  · intro ops' Q hQ
    simp only [go_sem]
    repeat (refine And.intro (by first | assumption | omega | (simp; done) | (simp; omega) | (intros; omega) | (simp_all; done) | (simp_all; omega)) ?_)
    exact hQ
  refine Exec.seq ?_
  apply Exec.regionL te_ok
  · intro ops' Q hQ
    simp only [go_sem]
    repeat (refine And.intro (by first | assumption | omega | (simp; done) | (simp; omega) | (intros; omega) | (simp_all; done) | (simp_all; omega)) ?_)
    exact hQ
  refine Exec.rets hR te_ok rfl rfl rfl (LeX.le ?_) (.inr ⟨_, rfl⟩)
  simp only [go_sem, letterI]
theorem r2sign_ok (n : Int) : FnOK Laid Tryz.prog 205 [u8 n] (bv (signI n)) := by
  refine FnOK_of laid_stable Tryz.func205 Tryz.ntmps205 rfl (by as_aux_lemma => kernel_rfl) (Nat.le_of_ble_eq_true rfl) (fun R hR => ?_)
  obtain ⟨_, b, cs, T, C⟩ := R
  obtain rfl : _ = Tryz.prog := hR.p
  refine Exec.seq ?_
  apply Exec.regionL te_ok
  · intro ops' Q hQ
    simp only [go_sem]
    repeat (refine And.intro (by first | assumption | omega | (simp; done) | (simp; omega) | (intros; omega) | (simp_all; done) | (simp_all; omega)) ?_)
    exact hQ
  refine Exec.seq ?_
  apply Exec.regionL te_ok
  · intro ops' Q hQ
    simp only [go_sem]
    repeat (refine And.intro (by first | assumption | omega | (simp; done) | (simp; omega) | (intros; omega) | (simp_all; done) | (simp_all; omega)) ?_)
    refine kcall hR.inv te_ok rfl rfl rfl rfl rfl rfl (r2letter_ok _) ?_
    simp only [go_sem]
    repeat (refine And.intro (by first | assumption | omega | (simp; done) | (simp; omega) | (intros; omega) | (simp_all; done) | (simp_all; omega)) ?_)
    exact hQ
  refine Exec.rets hR te_ok rfl rfl rfl (LeX.le ?_) (.inr ⟨_, rfl⟩)
  simp only [go_sem, signI, digitI]
theorem r2vertex_ok (s : List UInt8) (hs : s.length ≤ 140737488355328) : FnOK Laid Tryz.prog 182 [sv s] (bv (vertexB s)) := by
  refine FnOK_of laid_stable Tryz.func182 Tryz.ntmps182 rfl (by as_aux_lemma => kernel_rfl) (Nat.le_of_ble_eq_true rfl) (fun R hR => ?_)
  obtain ⟨_, b, cs, T, C⟩ := R
  obtain rfl : _ = Tryz.prog := hR.p
  refine Exec.seq ?_
  apply Exec.regionL te_ok
  · intro ops' Q hQ
    simp only [go_sem]
    repeat (refine And.intro (by first | assumption | omega | (simp; done) | (simp; omega) | (intros; omega) | (simp_all; done) | (simp_all; omega)) ?_)
    exact hQ
  refine Exec.seq ?_
  refine Exec.seq ?_
  apply Exec.regionL te_ok
  · intro ops' Q hQ
    simp only [go_sem]
    repeat (refine And.intro (by first | assumption | omega | (simp; done) | (simp; omega) | (intros; omega) | (simp_all; done) | (simp_all; omega)) ?_)
    exact hQ
  refine Exec.block ?_
  apply Exec.loopU [0] (X := Nat) (fun i => [(3, .d (iv i))]) (fun i => []) (fun i => []) (fun i => s.length - i) (fun i => i ≤ s.length ∧ (s.take i).all (fun c => signI c.toNat) = true) 0
  case h0 =>
    simp
  case hw =>
    simp only [go_sem]
  case body =>
    rintro i hx ih0
    try simp only at hx
    apply Exec.norm
    · simp only [go_sem]
      rfl
    refine Exec.seq ?_
    refine Exec.seq ?_
    apply Exec.regionL te_ok
    · intro ops' Q hQ
      simp only [go_sem]
      repeat (refine And.intro (by first | assumption | omega | (simp; done) | (simp; omega) | (intros; omega) | (simp_all; done) | (simp_all; omega)) ?_)
      exact hQ
    refine Exec.cond_split rfl (fun h0 => ?_) (fun h0 => ?_)
    · skip
      have hi : i < s.length := by simp at h0; omega
      have hwi : IntKind.i64.wrap ((i : Int) + 1) = ((i + 1 : Nat) : Int) := by rw [wrap_id (by constructor <;> omega)]; simp
      refine Exec.skip ?_
      refine Exec.seq ?_
      refine Exec.block ?_
      refine Exec.seq ?_
      apply Exec.regionL te_ok
      · intro ops' Q hQ
        simp only [go_sem, hwi]
        repeat (refine And.intro (by first | assumption | omega | (simp; done) | (simp; omega) | (intros; omega) | (simp_all; done) | (simp_all; omega)) ?_)
        refine kcall hR.inv te_ok rfl rfl rfl rfl rfl rfl (r2sign_ok _) ?_
        simp only [go_sem, hwi]
        repeat (refine And.intro (by first | assumption | omega | (simp; done) | (simp; omega) | (intros; omega) | (simp_all; done) | (simp_all; omega)) ?_)
        exact hQ
      refine Exec.cond_split rfl (fun h1 => ?_) (fun h1 => ?_)
      · skip
        refine Exec.seq ?_
        apply Exec.regionL te_ok
        · intro ops' Q hQ
          simp only [go_sem, hwi]
          repeat (refine And.intro (by first | assumption | omega | (simp; done) | (simp; omega) | (intros; omega) | (simp_all; done) | (simp_all; omega)) ?_)
          exact hQ
        refine Exec.rets hR te_ok rfl rfl rfl (LeX.le ?_) (.inr ⟨_, rfl⟩)
        simp only [go_sem]
        exact (vertex_bad hi (by simpa using h1)).symm
      · skip
        refine Exec.skip ?_
        refine Exec.inBlock ?_
        apply Exec.regionL te_ok
        · intro ops' Q hQ
          simp only [go_sem, hwi]
          repeat (refine And.intro (by first | assumption | omega | (simp; done) | (simp; omega) | (intros; omega) | (simp_all; done) | (simp_all; omega)) ?_)
          exact hQ
        refine Exec.back (ih0 (i + 1) ?_ ?_) ?_ ?_ ?_ ?_ ?_ ?_ ?_
        · try simp only
          exact ⟨by omega, by rw [all_take hi, hx.2]; simpa using h1⟩
        · try simp only
          omega
        · rfl
        · rfl
        · (simp only [go_sem, hwi])
        · (simp only [go_sem, hwi])
        · (simp only [go_sem, hwi])
        · simp only [go_sem, hwi]
        · rfl
    · skip
      refine Exec.exit rfl ?_
      refine Exec.seq ?_
      apply Exec.regionL te_ok
      · intro ops' Q hQ
        simp only [go_sem]
        repeat (refine And.intro (by first | assumption | omega | (simp; done) | (simp; omega) | (intros; omega) | (simp_all; done) | (simp_all; omega)) ?_)
        exact hQ
      refine Exec.rets hR te_ok rfl rfl rfl (LeX.le ?_) (.inr ⟨_, rfl⟩)
      simp only [go_sem]
      simp at h0
      have e := hx.2
      rw [List.take_of_length_le (by omega)] at e
      unfold vertexB; rw [e]
      cases s with
      | nil => rfl
      | cons c r => simp; omega
theorem r2free_ok (s : List UInt8) (hs : s.length ≤ 140737488355328) : FnOK Laid Tryz.prog 149 [sv s] (bv (freeB s)) := by
  refine FnOK_of laid_stable Tryz.func149 Tryz.ntmps149 rfl (by as_aux_lemma => kernel_rfl) (Nat.le_of_ble_eq_true rfl) (fun R hR => ?_)
  obtain ⟨_, b, cs, T, C⟩ := R
  obtain rfl : _ = Tryz.prog := hR.p
  have hv : vertexB s = true → 0 < s.length := vertex_pos
  refine Exec.seq ?_
  apply Exec.regionL te_ok
  · intro ops' Q hQ
    simp only [go_sem]
    repeat (refine And.intro (by first | assumption | omega | (simp; done) | (simp; omega) | (intros; omega) | (simp_all; done) | (simp_all; omega)) ?_)
    exact hQ
  refine Exec.seq ?_
  refine Exec.seq ?_
  apply Exec.regionL te_ok
  · intro ops' Q hQ
    simp only [go_sem]
    repeat (refine And.intro (by first | assumption | omega | (simp; done) | (simp; omega) | (intros; omega) | (simp_all; done) | (simp_all; omega)) ?_)
    refine kcall hR.inv te_ok rfl rfl rfl rfl rfl rfl (r2vertex_ok _ (by omega)) ?_
    simp only [go_sem]
    repeat (refine And.intro (by first | assumption | omega | (simp; done) | (simp; omega) | (intros; omega) | (simp_all; done) | (simp_all; omega)) ?_)
    refine kcallG hR.inv te_ok rfl rfl rfl rfl rfl rfl (by simp only [go_sem] <;> (first | assumption | omega | (simp; done) | (simp; omega) | (intros; omega) | (simp_all; done) | (simp_all; omega))) (fun hq => r2letter_ok _) ?_
    simp only [go_sem]
    repeat (refine And.intro (by first | assumption | omega | (simp; done) | (simp; omega) | (intros; omega) | (simp_all; done) | (simp_all; omega)) ?_)
    exact hQ
  refine Exec.cond_split rfl (fun h0 => ?_) (fun h0 => ?_)
  · skip
    refine Exec.seq ?_
    apply Exec.regionL te_ok
    · intro ops' Q hQ
      simp only [go_sem]
      repeat (refine And.intro (by first | assumption | omega | (simp; done) | (simp; omega) | (intros; omega) | (simp_all; done) | (simp_all; omega)) ?_)
      exact hQ
    refine Exec.rets hR te_ok rfl rfl rfl (LeX.le ?_) (.inr ⟨_, rfl⟩)
    simp only [go_sem, freeB]
    revert h0
    cases vertexB s <;> cases letterI ((s.getD 0 0).toNat : Int) <;> simp
  · skip
    refine Exec.skip ?_
    refine Exec.seq ?_
    refine Exec.seq ?_
    apply Exec.regionL te_ok
    · intro ops' Q hQ
      simp only [go_sem]
      repeat (refine And.intro (by first | assumption | omega | (simp; done) | (simp; omega) | (intros; omega) | (simp_all; done) | (simp_all; omega)) ?_)
      exact hQ
    refine Exec.block ?_
    refine Exec.seq ?_
    refine Exec.seq ?_
    apply Exec.regionL te_ok
    · intro ops' Q hQ
      simp only [go_sem]
      repeat (refine And.intro (by first | assumption | omega | (simp; done) | (simp; omega) | (intros; omega) | (simp_all; done) | (simp_all; omega)) ?_)
      exact hQ
    apply Exec.join [13] rfl
    case hx =>
      intro h1 hK
      refine Exec.skip ?_
      exact hK
    case hy =>
      intro h1 hK
      refine Exec.seq ?_
      apply Exec.regionL te_ok
      · intro ops' Q hQ
        simp only [go_sem]
        repeat (refine And.intro (by first | assumption | omega | (simp; done) | (simp; omega) | (intros; omega) | (simp_all; done) | (simp_all; omega)) ?_)
        exact hQ
      apply Exec.join [13] rfl
      case hx =>
        intro h2 hK
        refine Exec.skip ?_
        exact hK
      case hy =>
        intro h2 hK
        refine Exec.seq ?_
        apply Exec.regionL te_ok
        · intro ops' Q hQ
          simp only [go_sem]
          repeat (refine And.intro (by first | assumption | omega | (simp; done) | (simp; omega) | (intros; omega) | (simp_all; done) | (simp_all; omega)) ?_)
          exact hQ
        apply Exec.join [13] rfl
        case hx =>
          intro h3 hK
          refine Exec.skip ?_
          exact hK
        case hy =>
          intro h3 hK
          refine Exec.seq ?_
          apply Exec.regionL te_ok
          · intro ops' Q hQ
            simp only [go_sem]
            repeat (refine And.intro (by first | assumption | omega | (simp; done) | (simp; omega) | (intros; omega) | (simp_all; done) | (simp_all; omega)) ?_)
            exact hQ
          apply Exec.join [13] rfl
          case hx =>
            intro h4 hK
            refine Exec.skip ?_
            exact hK
          case hy =>
            intro h4 hK
            refine Exec.seq ?_
            apply Exec.regionL te_ok
            · intro ops' Q hQ
              simp only [go_sem]
              repeat (refine And.intro (by first | assumption | omega | (simp; done) | (simp; omega) | (intros; omega) | (simp_all; done) | (simp_all; omega)) ?_)
              exact hQ
            apply Exec.join [13] rfl
            case hx =>
              intro h5 hK
              refine Exec.skip ?_
              exact hK
            case hy =>
              intro h5 hK
              refine Exec.seq ?_
              apply Exec.regionL te_ok
              · intro ops' Q hQ
                simp only [go_sem]
                repeat (refine And.intro (by first | assumption | omega | (simp; done) | (simp; omega) | (intros; omega) | (simp_all; done) | (simp_all; omega)) ?_)
                exact hQ
              apply Exec.join [13] rfl
              case hx =>
                intro h6 hK
                refine Exec.skip ?_
                exact hK
              case hy =>
                intro h6 hK
                apply Exec.regionL te_ok
                · intro ops' Q hQ
                  simp only [go_sem]
                  repeat (refine And.intro (by first | assumption | omega | (simp; done) | (simp; omega) | (intros; omega) | (simp_all; done) | (simp_all; omega)) ?_)
                  exact hQ
                exact hK
              case hN => rfl
              case hdf => rfl
              case hF => simp only [go_sem]
              case hP => rfl
              apply Exec.norm
              · simp only [go_sem]
                rfl
              exact hK
            case hN => rfl
            case hdf => rfl
            case hF => simp only [go_sem]
            case hP => rfl
            apply Exec.norm
            · simp only [go_sem]
              rfl
            exact hK
          case hN => rfl
          case hdf => rfl
          case hF => simp only [go_sem]
          case hP => rfl
          apply Exec.norm
          · simp only [go_sem]
            rfl
          exact hK
        case hN => rfl
        case hdf => rfl
        case hF => simp only [go_sem]
        case hP => rfl
        apply Exec.norm
        · simp only [go_sem]
          rfl
        exact hK
      case hN => rfl
      case hdf => rfl
      case hF => simp only [go_sem]
      case hP => rfl
      apply Exec.norm
      · simp only [go_sem]
        rfl
      exact hK
    case hN => rfl
    case hdf => rfl
    case hF => simp only [go_sem]
    case hP => rfl
    apply Exec.norm
    · simp only [go_sem]
      rfl
    refine Exec.cond_split rfl (fun h7 => ?_) (fun h7 => ?_)
    · skip
      refine Exec.seq ?_
      apply Exec.regionL te_ok
      · intro ops' Q hQ
        simp only [go_sem]
        repeat (refine And.intro (by first | assumption | omega | (simp; done) | (simp; omega) | (intros; omega) | (simp_all; done) | (simp_all; omega)) ?_)
        exact hQ
      refine Exec.rets hR te_ok rfl rfl rfl (LeX.le ?_) (.inr ⟨_, rfl⟩)
      simp only [go_sem]
      simp_all [freeB, wordsL]
    · skip
      refine Exec.skip ?_
      refine Exec.inBlock ?_
      refine Exec.seq ?_
      apply Exec.regionL te_ok
      · intro ops' Q hQ
        simp only [go_sem]
        repeat (refine And.intro (by first | assumption | omega | (simp; done) | (simp; omega) | (intros; omega) | (simp_all; done) | (simp_all; omega)) ?_)
        exact hQ
      refine Exec.rets hR te_ok rfl rfl rfl (LeX.le ?_) (.inr ⟨_, rfl⟩)
      simp only [go_sem]
      simp_all [freeB, wordsL]
end Go.Proofs.YtmnponhhmkdcdaaGreatDoor
