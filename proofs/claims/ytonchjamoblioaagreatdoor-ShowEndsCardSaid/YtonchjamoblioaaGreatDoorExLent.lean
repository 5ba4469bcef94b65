/- Steps of a function body on data, and contracts of the functions of the seat, walked. -/
import Derived.Test.YtonchjamoblioaaGreatDoorZ0
import Derived.Test.YtonchjamoblioaaGreatDoorKFrz
import Derived.Test.YtonchjamoblioaaGreatDoorVDef
set_option linter.unusedSimpArgs false
set_option linter.unusedVariables false
set_option linter.unusedSectionVars false
namespace Go.Proofs.YtonchjamoblioaaGreatDoor
open Go.Kin
set_option maxRecDepth 100000
set_option maxHeartbeats 0
theorem take_nth {α : Type} [Inhabited α] {l : List α} {i : Nat} (h : i < l.length) : l.take (i + 1) = l.take i ++ [nth l i] := take_succ_nth h
theorem same_step {α : Type} [Inhabited α] {x y : List α} {i : Nat} (hl : x.length = y.length) (h : i < x.length) (hp : x.take i = y.take i) : (x.take (i + 1) = y.take (i + 1) ↔ nth x i = nth y i) := by
 rw [take_nth h, take_nth (by omega), hp]; simp
attribute [go_sem] Option.toArray_some Option.toArray_none famStP
theorem nletter_ok (n : Int) : FnOK Laid Tryz.prog 173 [.v (.int .i32 n)] (bv (letterI n)) := by
 refine FnOK_of laid_stable Tryz.func173 Tryz.ntmps173 rfl (by as_aux_lemma => kernel_rfl) (Nat.le_of_ble_eq_true rfl) (fun R hR => ?_)
 obtain ⟨_, b, cs, T, C⟩ := R
 obtain rfl : _ = Tryz.prog := hR.p
 refine sreg te_ok ?_
 refine sreg te_ok ?_
 refine Exec.rets hR te_ok rfl rfl rfl (LeX.le ?_) (.inr ⟨_, rfl⟩)
 simp only [go_sem, letterI]
theorem dec_ascii {s : List UInt8} {i : Nat} (h : i < s.length) (ha : (s.getD i 0).toNat < 128) : Utf8.decode (mkS s) i = ((s.getD i 0).toNat, 1) := by
 have e : (mkS s)[i]'(by rw [mkS_size]; exact h) = s.getD i 0 := by
  rw [List.getD_eq_getElem?_getD, List.getElem?_eq_getElem h]; rfl
 rw [decode_ascii (mkS s) i (by rw [mkS_size]; exact h) (by rw [e]; exact ha), e]
theorem dec_high {s : List UInt8} {i : Nat} (h : i < s.length) (ha : 128 ≤ (s.getD i 0).toNat) : 128 ≤ (Utf8.decode (mkS s) i).1 := by
 have e : (mkS s)[i]'(by rw [mkS_size]; exact h) = s.getD i 0 := by
  rw [List.getD_eq_getElem?_getD, List.getElem?_eq_getElem h]; rfl
 exact (decode_high (mkS s) i (by rw [mkS_size]; exact h) (by rw [e]; exact ha)).1
/-- what the round asks of a rune -/
def badR (n : Int) : Bool := (!letterI n && n != 95) && (decide (n < 48) || decide (57 < n))
theorem badR_sign (n : Int) : badR n = !signI n := by
 unfold badR signI digitI
 cases letterI n
 ·by_cases h1 : n = 95
  ·subst h1; rfl
  ·by_cases h2 : n < 48
   ·have : ¬ 48 ≤ n := by omega
    simp [h1, h2, this]; rfl
   ·have : 48 ≤ n := by omega
    by_cases h3 : 57 < n
    ·have h4 : ¬ n ≤ 57 := by omega
     simp [h1, h2, this, h3, h4]; rfl
    ·have h4 : n ≤ 57 := by omega
     simp [h1, h2, this, h3, h4]
 ·simp
theorem sign_high {n : Int} (h : 128 ≤ n) : signI n = false := by
 unfold signI letterI digitI; simp; omega
/-- a rune that is bad is of a byte that is, and one that is not is one byte -/
theorem rune_at {s : List UInt8} {i : Nat} (h : i < s.length) {b : Bool} (hb : badR ((Utf8.decode (mkS s) i).1 : Int) = b) : signI ((s.getD i 0).toNat : Int) = !b ∧ (b = false → (Utf8.decode (mkS s) i).2 = 1) := by
 rw [badR_sign] at hb
 by_cases ha : (s.getD i 0).toNat < 128
 ·rw [dec_ascii h ha] at hb ⊢
  exact ⟨by rw [← hb]; simp, fun _ => rfl⟩
 ·have h1 := dec_high h (by omega)
  rw [sign_high (by omega)] at hb
  subst hb
  exact ⟨sign_high (by omega), fun e => by cases e⟩
theorem all_take {p : UInt8 → Bool} {s : List UInt8} {i : Nat} (h : i < s.length) : (s.take (i + 1)).all p = ((s.take i).all p && p (s.getD i 0)) := by
 rw [List.take_add_one, List.all_append, List.getD_eq_getElem?_getD, List.getElem?_eq_getElem h]; simp
theorem vertex_bad {s : List UInt8} {i : Nat} (h : i < s.length) (hb : signI ((s.getD i 0).toNat : Int) = false) : vertexB s = false := by
 have : s.all (fun c => signI c.toNat) = false := by
  rw [List.all_eq_false]
  exact ⟨s.getD i 0, by rw [List.getD_eq_getElem?_getD, List.getElem?_eq_getElem h]; simp, by intro h'; rw [hb] at h'; cases h'⟩
 unfold vertexB; rw [this]; rfl
theorem vertex_ok (s : List UInt8) (hs : s.length ≤ 140737488355328) : FnOK Laid Tryz.prog 161 [sv s] (bv (vertexB s)) := by
 refine FnOK_of laid_stable Tryz.func161 Tryz.ntmps161 rfl (by as_aux_lemma => kernel_rfl) (Nat.le_of_ble_eq_true rfl) (fun R hR => ?_)
 obtain ⟨_, b, cs, T, C⟩ := R
 obtain rfl : _ = Tryz.prog := hR.p
 refine sreg te_ok ?_
 refine sq ?_
 refine sq ?_
 refine Exec.regStart 2 rfl ?_
 apply Exec.regPart 0 1 1 te_ok rfl
 ·intro u' Q hQ
  simp only [go_sem]
  repeat refine ob2 ?_
  exact hQ
 refine Exec.rangeStr te_ok (m := 0) rfl rfl rfl rfl rfl rfl rfl (fun ls0 hls0 => ?_)
 apply Exec.norm
 ·simp only [go_sem]
  rfl
 refine Exec.regEnd ?_
 refine Exec.block ?_
 apply Exec.loopUP [0, 6] (X := Nat) (fun i => []) (fun i => []) (fun i => []) (fun i => [(ls0, .stringIter (mkS s) i)]) (fun i => s.length - i) (fun i => i ≤ s.length ∧ (s.take i).all (fun c => signI c.toNat) = true) 0
 case hP => rfl
 case h0 =>
  simp
 case hw =>
  simp only [go_sem]
 case body =>
  rintro i hx ih0
  try simp only at hx
  apply Exec.norm
  ·simp only [go_sem]
   rfl
  refine sq ?_
  refine Exec.regStart 2 rfl ?_
  refine Exec.nextStr (m := 1) rfl rfl rfl rfl rfl rfl rfl hls0 (fun hn0 => ?_) (fun hn0 => ?_)
  ·apply Exec.norm
   ·simp only [go_sem]
    rfl
   have hi : i < s.length := by rw [mkS_size] at hn0; exact hn0
   apply Exec.regPart 1 1 0 te_ok rfl
   ·intro u' Q hQ
    simp only [go_sem]
    repeat refine ob2 ?_
    exact hQ
   refine Exec.regEnd ?_
   refine sq ?_
   refine Exec.cond (t := true) rfl ?_
   simp only [reduceIte, Bool.false_eq_true]
   refine sk ?_
   refine Exec.block ?_
   refine sreg te_ok ?_
   refine sq ?_
   apply Exec.regionL te_ok
   ·intro u' Q hQ
    simp only [go_sem]
    repeat refine ob2 ?_
    refine kcall hR.inv te_ok rfl rfl rfl rfl rfl rfl (nletter_ok _) ?_
    simp only [go_sem]
    repeat refine ob2 ?_
    exact hQ
   refine Exec.cond_split rfl (fun h1 => ?_) (fun h1 => ?_)
   ·have q := rune_at hi (b := true) h1
    refine sreg te_ok ?_
    refine Exec.rets hR te_ok rfl rfl rfl (LeX.le ?_) (.inr ⟨_, rfl⟩)
    simp only [go_sem]
    exact (vertex_bad hi q.1).symm
   ·have q := rune_at hi (b := false) h1
    refine sk ?_
    refine Exec.inBlock ?_
    refine Exec.backP (ih0 (i + (Utf8.decode (mkS s) i).2) ?_ ?_) ?_ ?_ ?_ ?_ ?_ ?_ ?_
    ·try simp only
     have := q.2 rfl
     exact ⟨by omega, by rw [this, all_take hi, hx.2, q.1]; rfl⟩
    ·try simp only
     have := q.2 rfl
     omega
    ·rfl
    ·rfl
    ·(simp only [go_sem])
    ·(simp only [go_sem])
    ·(simp only [go_sem])
    ·simp only [go_sem]
    ·rfl
  ·apply Exec.norm
   ·simp only [go_sem]
    rfl
   apply Exec.regPart 1 1 0 te_ok rfl
   ·intro u' Q hQ
    simp only [go_sem]
    repeat refine ob2 ?_
    exact hQ
   refine Exec.regEnd ?_
   refine sq ?_
   refine Exec.cond (t := false) rfl ?_
   simp only [reduceIte, Bool.false_eq_true]
   refine Exec.exit rfl ?_
   refine sreg te_ok ?_
   refine Exec.rets hR te_ok rfl rfl rfl (LeX.le ?_) (.inr ⟨_, rfl⟩)
   simp only [go_sem]
   rw [mkS_size] at hn0
   have e := hx.2
   rw [List.take_of_length_le (by omega)] at e
   unfold vertexB; rw [e]; rfl
def wordsL : List (List UInt8) := [[97, 115], [109, 97, 116, 99, 104], [119, 104, 101, 114, 101], [97, 110, 100], [114, 101, 116, 117, 114, 110], [114, 97, 110, 103, 101], [115, 108, 105, 100, 101]]
def freeB (s : List UInt8) : Bool := vertexB s && (letterI (s.getD 0 0).toNat && !wordsL.contains s)
theorem vertex_pos {s : List UInt8} (h : vertexB s = true) : 0 < s.length := by
 cases s with
 | nil => simp [vertexB] at h
 | cons c r => simp
def idxF (s : List UInt8) : List (List UInt8) → Nat → Int
 | [], _ => -1
 | x :: r, i => if x = s then (i : Int) else idxF s r (i + 1)
theorem idx_drop {l : List (List UInt8)} {s : List UInt8} {i : Nat} (h : i < l.length) : idxF s (l.drop i) i = if nth l i = s then (i : Int) else idxF s (l.drop (i + 1)) (i + 1) := by
 rw [Kin.drop_nth h]; rfl
theorem idx_has (s : List UInt8) : ∀ (l : List (List UInt8)) (i : Nat), decide (0 ≤ idxF s l i) = l.contains s
 | [], i => by simp [idxF]
 | x :: r, i => by
  have e : idxF s (x :: r) i = if x = s then (i : Int) else idxF s r (i + 1) := rfl
  have ih := idx_has s r (i + 1)
  simp only [e, List.contains_cons]
  by_cases h : x = s
  ·subst h; simp
  ·have h2 : (s == x) = false := beq_false_of_ne (fun e => h e.symm)
   simp only [if_neg h, ih, h2, Bool.false_or]
theorem i32_byte (c : UInt8) : IntKind.i32.wrap (c.toNat : Int) = (c.toNat : Int) := by
 have := c.toNat_lt
 simp [IntKind.wrap, IntKind.signed, IntKind.bits]; omega
theorem index_ok (l : List (List UInt8)) (s : List UInt8) (hl : l.length ≤ 1000000) : FnOK Laid Tryz.prog 201 [strsD l, sv s] (iv (idxF s l 0)) := by
 refine FnOK_of laid_stable Tryz.func201 Tryz.ntmps201 rfl (by as_aux_lemma => kernel_rfl) (Nat.le_of_ble_eq_true rfl) (fun R hR => ?_)
 obtain ⟨_, b, cs, T, C⟩ := R
 obtain rfl : _ = Tryz.prog := hR.p
 refine sreg te_ok ?_
 refine sq ?_
 refine sreg te_ok ?_
 refine Exec.block ?_
 apply Exec.loopU [0, 1, 7] (X := Nat) (fun i => [(8, .d (iv i))]) (fun i => []) (fun i => []) (fun i => l.length - i) (fun i => i ≤ l.length ∧ idxF s l 0 = idxF s (l.drop i) i) 0
 case h0 =>
  simp
 case hw =>
  simp only [go_sem]
 case body =>
  rintro i hx ih0
  try simp only at hx
  apply Exec.norm
  ·simp only [go_sem]
   rfl
  refine sreg te_ok ?_
  refine sq ?_
  refine Exec.cond_split rfl (fun h0 => ?_) (fun h0 => ?_)
  ·have hi : i < l.length := by simp at h0; omega
   have hwi : IntKind.i64.wrap ((i : Int) + 1) = ((i + 1 : Nat) : Int) := by rw [wrap_id (by constructor <;> omega)]; simp
   refine sk ?_
   refine sq ?_
   refine Exec.block ?_
   refine sq ?_
   apply Exec.regionL te_ok
   ·intro u' Q hQ
    simp only [go_sem, hwi]
    repeat refine ob2 ?_
    exact hQ
   refine sq ?_
   apply Exec.regionL te_ok
   ·intro u' Q hQ
    simp only [go_sem, hwi]
    repeat refine ob2 ?_
    exact hQ
   refine Exec.cond_split rfl (fun h1 => ?_) (fun h1 => ?_)
   ·refine sq ?_
    apply Exec.regionL te_ok
    ·intro u' Q hQ
     simp only [go_sem, hwi]
     repeat refine ob2 ?_
     exact hQ
    refine Exec.rets hR te_ok rfl rfl rfl (LeX.le ?_) (.inr ⟨_, rfl⟩)
    simp only [go_sem]
    rw [hx.2, idx_drop hi, if_pos (eq_of_beq (by simpa using h1)).symm]
   ·refine sk ?_
    refine Exec.inBlock ?_
    apply Exec.regionL te_ok
    ·intro u' Q hQ
     simp only [go_sem, hwi]
     repeat refine ob2 ?_
     exact hQ
    refine Exec.back (ih0 (i + 1) ?_ ?_) ?_ ?_ ?_ ?_ ?_ ?_ ?_
    ·try simp only
     exact ⟨by omega, by rw [hx.2, idx_drop hi, if_neg (fun e => by rw [e] at h1; simp at h1)]⟩
    ·try simp only
     omega
    ·rfl
    ·rfl
    ·(simp only [go_sem, hwi])
    ·(simp only [go_sem, hwi])
    ·(simp only [go_sem, hwi])
    ·simp only [go_sem, hwi]
    ·rfl
  ·refine Exec.exit rfl ?_
   refine sreg te_ok ?_
   refine Exec.rets hR te_ok rfl rfl rfl (LeX.le ?_) (.inr ⟨_, rfl⟩)
   simp only [go_sem]
   rw [hx.2, List.drop_eq_nil_of_le (by simp at h0; omega)]; rfl
theorem contains_ok (l : List (List UInt8)) (s : List UInt8) (hl : l.length ≤ 1000000) : FnOK Laid Tryz.prog 174 [strsD l, sv s] (bv (l.contains s)) := by
 refine FnOK_of laid_stable Tryz.func174 Tryz.ntmps174 rfl (by as_aux_lemma => kernel_rfl) (Nat.le_of_ble_eq_true rfl) (fun R hR => ?_)
 obtain ⟨_, b, cs, T, C⟩ := R
 obtain rfl : _ = Tryz.prog := hR.p
 refine sreg te_ok ?_
 refine sq ?_
 apply Exec.regionL te_ok
 ·intro u' Q hQ
  simp only [go_sem]
  repeat refine ob2 ?_
  refine kcall hR.inv te_ok rfl rfl rfl rfl rfl rfl (index_ok _ _ (by assumption)) ?_
  simp only [go_sem]
  repeat refine ob2 ?_
  exact hQ
 refine Exec.rets hR te_ok rfl rfl rfl (LeX.le ?_) (.inr ⟨_, rfl⟩)
 simp only [go_sem]
 exact idx_has s l 0
theorem words7_ok (s : List UInt8) : FnOK Laid Tryz.prog 174 [.sl 1 7 7 (lstR [[sv [97, 115]], [sv [109, 97, 116, 99, 104]], [sv [119, 104, 101, 114, 101]], [sv [97, 110, 100]], [sv [114, 101, 116, 117, 114, 110]], [sv [114, 97, 110, 103, 101]], [sv [115, 108, 105, 100, 101]]]), sv s] (bv (wordsL.contains s)) :=
 (contains_ok wordsL s (by decide)).args ⟨lst_le (fun w => [sv w]) wordsL 1, LeD.refl _, trivial⟩
theorem free_ok (s : List UInt8) (hs : s.length ≤ 140737488355328) : FnOK Laid Tryz.prog 138 [sv s] (bv (freeB s)) := by
 refine FnOK_of laid_stable Tryz.func138 Tryz.ntmps138 rfl (by as_aux_lemma => kernel_rfl) (Nat.le_of_ble_eq_true rfl) (fun R hR => ?_)
 obtain ⟨_, b, cs, T, C⟩ := R
 obtain rfl : _ = Tryz.prog := hR.p
 have hv : vertexB s = true → 0 < s.length := vertex_pos
 have hw := i32_byte (s.getD 0 0)
 refine sq ?_
 apply Exec.regionL te_ok
 ·intro u' Q hQ
  simp only [go_sem, hw]
  repeat refine ob2 ?_
  exact hQ
 refine sq ?_
 apply Exec.regionL te_ok
 ·intro u' Q hQ
  simp only [go_sem, hw]
  repeat refine ob2 ?_
  exact hQ
 refine sq ?_
 refine Exec.freeze 4 rfl ?_
 apply Exec.norm
 ·simp only [go_sem]
  rfl
 apply Exec.regionL te_ok
 ·intro u' Q hQ
  simp only [go_sem, hw]
  repeat refine ob2 ?_
  refine kcall hR.inv te_ok rfl rfl rfl rfl rfl rfl (vertex_ok _ (by omega)) ?_
  simp only [go_sem, hw]
  repeat refine ob2 ?_
  refine kcallG hR.inv te_ok rfl rfl rfl rfl rfl rfl ob1 (fun hq => nletter_ok _) ?_
  simp only [go_sem, hw]
  repeat refine ob2 ?_
  refine kcallG hR.inv te_ok rfl rfl rfl rfl rfl rfl ob1 (fun hq => words7_ok s) ?_
  simp only [go_sem, hw]
  repeat refine ob2 ?_
  exact hQ
 refine Exec.rets hR te_ok rfl rfl rfl (LeX.le ?_) (.inr ⟨_, rfl⟩)
 simp only [go_sem, freeB]
 cases vertexB s <;> cases letterI ((s.getD 0 0).toNat : Int) <;> cases wordsL.contains s <;> rfl
theorem r2letter_ok (n : Int) : FnOK Laid Tryz.prog 183 [u8 n] (bv (letterI n)) := by
 refine FnOK_of laid_stable Tryz.func183 Tryz.ntmps183 rfl (by as_aux_lemma => kernel_rfl) (Nat.le_of_ble_eq_true rfl) (fun R hR => ?_)
 obtain ⟨_, b, cs, T, C⟩ := R
 obtain rfl : _ = Tryz.prog := hR.p
 refine sreg te_ok ?_
 refine sreg te_ok ?_
 refine Exec.rets hR te_ok rfl rfl rfl (LeX.le ?_) (.inr ⟨_, rfl⟩)
 simp only [go_sem, letterI]
theorem r2sign_ok (n : Int) : FnOK Laid Tryz.prog 205 [u8 n] (bv (signI n)) := by
 refine FnOK_of laid_stable Tryz.func205 Tryz.ntmps205 rfl (by as_aux_lemma => kernel_rfl) (Nat.le_of_ble_eq_true rfl) (fun R hR => ?_)
 obtain ⟨_, b, cs, T, C⟩ := R
 obtain rfl : _ = Tryz.prog := hR.p
 refine sreg te_ok ?_
 refine sq ?_
 apply Exec.regionL te_ok
 ·intro u' Q hQ
  simp only [go_sem]
  repeat refine ob2 ?_
  refine kcall hR.inv te_ok rfl rfl rfl rfl rfl rfl (r2letter_ok _) ?_
  simp only [go_sem]
  repeat refine ob2 ?_
  exact hQ
 refine Exec.rets hR te_ok rfl rfl rfl (LeX.le ?_) (.inr ⟨_, rfl⟩)
 simp only [go_sem, signI, digitI]
theorem r2vertex_ok (s : List UInt8) (hs : s.length ≤ 140737488355328) : FnOK Laid Tryz.prog 182 [sv s] (bv (vertexB s)) := by
 refine FnOK_of laid_stable Tryz.func182 Tryz.ntmps182 rfl (by as_aux_lemma => kernel_rfl) (Nat.le_of_ble_eq_true rfl) (fun R hR => ?_)
 obtain ⟨_, b, cs, T, C⟩ := R
 obtain rfl : _ = Tryz.prog := hR.p
 refine sreg te_ok ?_
 refine sq ?_
 refine sreg te_ok ?_
 refine Exec.block ?_
 apply Exec.loopU [0] (X := Nat) (fun i => [(3, .d (iv i))]) (fun i => []) (fun i => []) (fun i => s.length - i) (fun i => i ≤ s.length ∧ (s.take i).all (fun c => signI c.toNat) = true) 0
 case h0 =>
  simp
 case hw =>
  simp only [go_sem]
 case body =>
  rintro i hx ih0
  try simp only at hx
  apply Exec.norm
  ·simp only [go_sem]
   rfl
  refine sq ?_
  refine sreg te_ok ?_
  refine Exec.cond_split rfl (fun h0 => ?_) (fun h0 => ?_)
  ·have hi : i < s.length := by simp at h0; omega
   have hwi : IntKind.i64.wrap ((i : Int) + 1) = ((i + 1 : Nat) : Int) := by rw [wrap_id (by constructor <;> omega)]; simp
   refine sk ?_
   refine sq ?_
   refine Exec.block ?_
   refine sq ?_
   apply Exec.regionL te_ok
   ·intro u' Q hQ
    simp only [go_sem, hwi]
    repeat refine ob2 ?_
    refine kcall hR.inv te_ok rfl rfl rfl rfl rfl rfl (r2sign_ok _) ?_
    simp only [go_sem, hwi]
    repeat refine ob2 ?_
    exact hQ
   refine Exec.cond_split rfl (fun h1 => ?_) (fun h1 => ?_)
   ·refine sq ?_
    apply Exec.regionL te_ok
    ·intro u' Q hQ
     simp only [go_sem, hwi]
     repeat refine ob2 ?_
     exact hQ
    refine Exec.rets hR te_ok rfl rfl rfl (LeX.le ?_) (.inr ⟨_, rfl⟩)
    simp only [go_sem]
    exact (vertex_bad hi (by simpa using h1)).symm
   ·refine sk ?_
    refine Exec.inBlock ?_
    apply Exec.regionL te_ok
    ·intro u' Q hQ
     simp only [go_sem, hwi]
     repeat refine ob2 ?_
     exact hQ
    refine Exec.back (ih0 (i + 1) ?_ ?_) ?_ ?_ ?_ ?_ ?_ ?_ ?_
    ·try simp only
     exact ⟨by omega, by rw [all_take hi, hx.2]; simpa using h1⟩
    ·try simp only
     omega
    ·rfl
    ·rfl
    ·(simp only [go_sem, hwi])
    ·(simp only [go_sem, hwi])
    ·(simp only [go_sem, hwi])
    ·simp only [go_sem, hwi]
    ·rfl
  ·refine Exec.exit rfl ?_
   refine sreg te_ok ?_
   refine Exec.rets hR te_ok rfl rfl rfl (LeX.le ?_) (.inr ⟨_, rfl⟩)
   simp only [go_sem]
   simp at h0
   have e := hx.2
   rw [List.take_of_length_le (by omega)] at e
   unfold vertexB; rw [e]
   cases s with
   | nil => rfl
   | cons c r => simp; omega
theorem r2free_ok (s : List UInt8) (hs : s.length ≤ 140737488355328) : FnOK Laid Tryz.prog 149 [sv s] (bv (freeB s)) := by
 refine FnOK_of laid_stable Tryz.func149 Tryz.ntmps149 rfl (by as_aux_lemma => kernel_rfl) (Nat.le_of_ble_eq_true rfl) (fun R hR => ?_)
 obtain ⟨_, b, cs, T, C⟩ := R
 obtain rfl : _ = Tryz.prog := hR.p
 have hv : vertexB s = true → 0 < s.length := vertex_pos
 refine sreg te_ok ?_
 refine sq ?_
 refine sq ?_
 apply Exec.regionL te_ok
 ·intro u' Q hQ
  simp only [go_sem]
  repeat refine ob2 ?_
  refine kcall hR.inv te_ok rfl rfl rfl rfl rfl rfl (r2vertex_ok _ (by omega)) ?_
  simp only [go_sem]
  repeat refine ob2 ?_
  refine kcallG hR.inv te_ok rfl rfl rfl rfl rfl rfl ob1 (fun hq => r2letter_ok _) ?_
  simp only [go_sem]
  repeat refine ob2 ?_
  exact hQ
 refine Exec.cond_split rfl (fun h0 => ?_) (fun h0 => ?_)
 ·refine sreg te_ok ?_
  refine Exec.rets hR te_ok rfl rfl rfl (LeX.le ?_) (.inr ⟨_, rfl⟩)
  simp only [go_sem, freeB]
  revert h0
  cases vertexB s <;> cases letterI ((s.getD 0 0).toNat : Int) <;> simp
 ·refine sk ?_
  refine sq ?_
  refine sreg te_ok ?_
  refine Exec.block ?_
  refine sq ?_
  refine sreg te_ok ?_
  apply Exec.join [13] rfl
  case hx =>
   intro h1 hK
   refine sk ?_
   exact hK
  case hy =>
   intro h1 hK
   refine sreg te_ok ?_
   apply Exec.join [13] rfl
   case hx =>
    intro h2 hK
    refine sk ?_
    exact hK
   case hy =>
    intro h2 hK
    refine sreg te_ok ?_
    apply Exec.join [13] rfl
    case hx =>
     intro h3 hK
     refine sk ?_
     exact hK
    case hy =>
     intro h3 hK
     refine sreg te_ok ?_
     apply Exec.join [13] rfl
     case hx =>
      intro h4 hK
      refine sk ?_
      exact hK
     case hy =>
      intro h4 hK
      refine sreg te_ok ?_
      apply Exec.join [13] rfl
      case hx =>
       intro h5 hK
       refine sk ?_
       exact hK
      case hy =>
       intro h5 hK
       refine sreg te_ok ?_
       apply Exec.join [13] rfl
       case hx =>
        intro h6 hK
        refine sk ?_
        exact hK
       case hy =>
        intro h6 hK
        refine Exec.reg te_ok ?_
        exact hK
       case hN => rfl
       case hdf => rfl
       case hF => simp only [go_sem]
       case hP => rfl
       apply Exec.norm
       ·simp only [go_sem]
        rfl
       exact hK
      case hN => rfl
      case hdf => rfl
      case hF => simp only [go_sem]
      case hP => rfl
      apply Exec.norm
      ·simp only [go_sem]
       rfl
      exact hK
     case hN => rfl
     case hdf => rfl
     case hF => simp only [go_sem]
     case hP => rfl
     apply Exec.norm
     ·simp only [go_sem]
      rfl
     exact hK
    case hN => rfl
    case hdf => rfl
    case hF => simp only [go_sem]
    case hP => rfl
    apply Exec.norm
    ·simp only [go_sem]
     rfl
    exact hK
   case hN => rfl
   case hdf => rfl
   case hF => simp only [go_sem]
   case hP => rfl
   apply Exec.norm
   ·simp only [go_sem]
    rfl
   exact hK
  case hN => rfl
  case hdf => rfl
  case hF => simp only [go_sem]
  case hP => rfl
  apply Exec.norm
  ·simp only [go_sem]
   rfl
  refine Exec.cond_split rfl (fun h7 => ?_) (fun h7 => ?_)
  ·refine sreg te_ok ?_
   refine Exec.rets hR te_ok rfl rfl rfl (LeX.le ?_) (.inr ⟨_, rfl⟩)
   simp only [go_sem]
   simp_all [freeB, wordsL]
  ·refine sk ?_
   refine Exec.inBlock ?_
   refine sreg te_ok ?_
   refine Exec.rets hR te_ok rfl rfl rfl (LeX.le ?_) (.inr ⟨_, rfl⟩)
   simp only [go_sem]
   simp_all [freeB, wordsL]
end Go.Proofs.YtonchjamoblioaaGreatDoor
namespace Go.Kin
/-! ### expressions of paths -/
inductive Ex where
  | mk (k : Int) (s : List UInt8) (kids : List Ex)
namespace Ex
def k : Ex → Int | .mk k _ _ => k
def s : Ex → List UInt8 | .mk _ s _ => s
def kids : Ex → List Ex | .mk _ _ ks => ks
end Ex
instance : Inhabited Ex := ⟨.mk 0 [] []⟩
noncomputable instance : DecidableEq Ex := fun _ _ => Classical.propDecidable _
theorem Ex.eta (x : Ex) : x = .mk x.k x.s x.kids := by cases x; rfl
theorem Ex.ext {x y : Ex} (h1 : x.k = y.k) (h2 : x.s = y.s) (h3 : x.kids = y.kids) : x = y := by
  rw [x.eta, y.eta, h1, h2, h3]
theorem Ex.ind {p : Ex → Prop} (h : ∀ x, (∀ y ∈ x.kids, p y) → p x) : ∀ x, p x
  | .mk k s ks => h _ fun y _hy => Ex.ind h y
termination_by x => SizeOf.sizeOf x
decreasing_by
  have hm : y ∈ ks := _hy
  have := List.sizeOf_lt_of_mem hm
  simp only [Ex.mk.sizeOf_spec]
  omega
mutual
/-- how many parts it has -/
def Ex.size : Ex → Nat
  | .mk _ _ ks => 1 + Ex.sizes ks
def Ex.sizes : List Ex → Nat
  | [] => 0
  | x :: r => x.size + Ex.sizes r
end
theorem Ex.size_eq (x : Ex) : x.size = 1 + Ex.sizes x.kids := by cases x; rfl
theorem Ex.size_pos (x : Ex) : 1 ≤ x.size := by rw [x.size_eq]; omega
theorem Ex.sizes_app : ∀ (x y : List Ex), Ex.sizes (x ++ y) = Ex.sizes x + Ex.sizes y
  | [], y => by simp [Ex.sizes]
  | a :: x, y => by simp [Ex.sizes, Ex.sizes_app x y]; omega
theorem Ex.sizes_take {l : List Ex} {i : Nat} (h : i < l.length) : Ex.sizes (l.take (i + 1)) = Ex.sizes (l.take i) + (nth l i).size := by
  rw [take_succ_nth h, Ex.sizes_app]; simp [Ex.sizes]
theorem Ex.sizes_mem {y : Ex} : ∀ {l : List Ex}, y ∈ l → y.size ≤ Ex.sizes l
  | x :: r, h => by
    simp only [Ex.sizes]
    rcases List.mem_cons.1 h with rfl | h
    · omega
    · have := Ex.sizes_mem h; omega
theorem Ex.sizes_le (l : List Ex) (i : Nat) : Ex.sizes (l.take i) ≤ Ex.sizes l := by
  have := Ex.sizes_app (l.take i) (l.drop i)
  rw [List.take_append_drop] at this; omega
theorem Ex.len_le : ∀ (l : List Ex), l.length ≤ Ex.sizes l
  | [] => by simp [Ex.sizes]
  | x :: r => by have := Ex.len_le r; have := x.size_pos; simp [Ex.sizes]; omega
mutual
/-- how many parts it has, as far as the law counts them -/
def Ex.lim : Ex → Nat → Nat
  | .mk _ _ ks, d => if 60 < d then 401 else Ex.limL ks (d + 1) 1
def Ex.limL : List Ex → Nat → Nat → Nat
  | [], _, n => n
  | x :: r, d, n => if n ≤ 400 then Ex.limL r d (n + x.lim d) else n
end
theorem Ex.lim_eq (x : Ex) (d : Nat) : x.lim d = if 60 < d then 401 else Ex.limL x.kids (d + 1) 1 := by cases x; simp [Ex.lim, Ex.kids]
theorem Ex.limL_step {l : List Ex} {i d n : Nat} (h : i < l.length) (hn : n ≤ 400) : Ex.limL (l.drop i) d n = Ex.limL (l.drop (i + 1)) d (n + (nth l i).lim d) := by
  rw [drop_nth h]; simp only [Ex.limL, if_pos hn]
theorem Ex.limL_stop {l : List Ex} {i d n : Nat} (h : l.length ≤ i ∨ 400 < n) : Ex.limL (l.drop i) d n = n := by
  rcases h with h | h
  · rw [List.drop_eq_nil_of_le h]; rfl
  · cases l.drop i with
    | nil => rfl
    | cons x r => simp only [Ex.limL]; rw [if_neg (by omega)]
theorem Ex.limL_ge : ∀ (l : List Ex) (d n : Nat), n ≤ Ex.limL l d n
  | [], _, _ => Nat.le_refl _
  | x :: r, d, n => by
    simp only [Ex.limL]
    split
    · have := Ex.limL_ge r d (n + x.lim d); omega
    · exact Nat.le_refl _
theorem Ex.limL_bd {B d : Nat} : ∀ (l : List Ex) (n : Nat), (∀ x ∈ l, x.lim d ≤ B) → n ≤ 400 + B → Ex.limL l d n ≤ 400 + B
  | [], _, _, h => h
  | x :: r, n, hb, h => by
    simp only [Ex.limL]
    split
    · have := hb x List.mem_cons_self
      exact Ex.limL_bd r _ (fun y hy => hb y (List.mem_cons_of_mem _ hy)) (by omega)
    · exact h
theorem Ex.lim_bd : ∀ (m : Nat) (x : Ex) (d : Nat), 61 - d = m → d ≤ 61 → x.lim d ≤ 401 * (m + 1)
  | 0, x, d, h, hd => by rw [x.lim_eq, if_pos (by omega)]; omega
  | m + 1, x, d, h, hd => by
    rw [x.lim_eq]
    split
    · omega
    · generalize hB : 401 * (m + 1) = B
      have h2 := Ex.limL_bd (B := B) (d := d + 1) x.kids 1 (fun y _ => hB ▸ Ex.lim_bd m y (d + 1) (by omega) (by omega)) (by omega)
      have h3 : 401 * (m + 1 + 1) = B + 401 := by rw [← hB]; omega
      rw [h3]
      exact Nat.le_trans h2 (by omega)
theorem Ex.lim_le (x : Ex) {d : Nat} (h : d ≤ 61) : x.lim d ≤ 100000 := by
  have := Ex.lim_bd (61 - d) x d rfl h
  have : 401 * (61 - d + 1) ≤ 401 * 62 := Nat.mul_le_mul_left _ (by omega)
  omega
theorem Ex.limL_size {d : Nat} : ∀ (l : List Ex) (n : Nat), (∀ x ∈ l, x.lim d ≤ 400 → x.size = x.lim d) → Ex.limL l d n ≤ 400 → n + Ex.sizes l = Ex.limL l d n
  | [], n, _, _ => by simp [Ex.sizes, Ex.limL]
  | x :: r, n, hs, h => by
    simp only [Ex.limL] at h ⊢
    split at h
    · rename_i hn
      rw [if_pos hn]
      have h1 := Ex.limL_ge r d (n + x.lim d)
      have h2 := hs x List.mem_cons_self (by omega)
      have h3 := Ex.limL_size r _ (fun y hy => hs y (List.mem_cons_of_mem _ hy)) h
      simp only [Ex.sizes]; omega
    · omega
theorem Ex.lim_size : ∀ (x : Ex) (d : Nat), x.lim d ≤ 400 → x.size = x.lim d := fun x => by
  refine Ex.ind (p := fun x => ∀ d, x.lim d ≤ 400 → x.size = x.lim d) (fun x ih d h => ?_) x
  rw [x.lim_eq] at h ⊢
  split at h
  · omega
  · rename_i hd
    rw [if_neg hd, x.size_eq]
    exact Ex.limL_size x.kids 1 (fun y hy => ih y hy (d + 1)) h
/-! #### as data -/
mutual
/-- the data of an expression's kids -/
def kdX : Ex → D
  | .mk _ _ ks => .sl 3 ks.length ks.length (kdR ks)
def kdR : List Ex → Nat → List D
  | [], _ => []
  | .mk k s ks :: _, 0 => [.v (.int .i64 k), .v (.string (mkS s)), .sl 3 ks.length ks.length (kdR ks)]
  | _ :: r, i + 1 => kdR r i
end
theorem kd_eq (x : Ex) : kdX x = .sl 3 x.kids.length x.kids.length (kdR x.kids) := by cases x; simp [kdX, Ex.kids]
abbrev exC (x : Ex) : List D := [.v (.int .i64 x.k), .v (.string (mkS x.s)), kdX x]
abbrev exD (x : Ex) : D := .ag [.v (.int .i64 x.k), .v (.string (mkS x.s)), kdX x]
abbrev exsD (l : List Ex) : D := .sl 3 l.length l.length (kdR l)
theorem kdR_at : ∀ {l : List Ex} {i : Nat}, i < l.length → kdR l i = exC (nth l i)
  | [], _, h => by simp at h
  | .mk k s ks :: r, 0, _ => by simp [kdR, exC, nth, Ex.k, Ex.s, kdX]
  | x :: r, i + 1, h => by
    have := kdR_at (l := r) (i := i) (by simpa using h)
    cases x
    simp only [kdR]
    rw [this]; rfl
theorem kdR_out : ∀ {l : List Ex} {i : Nat}, l.length ≤ i → kdR l i = []
  | [], _, _ => by simp only [kdR]
  | x :: r, 0, h => by simp at h
  | x :: r, i + 1, h => by
    cases x
    simp only [kdR]
    exact kdR_out (l := r) (i := i) (by simpa using h)
end Go.Kin
namespace Go.Proofs.YtonchjamoblioaaGreatDoor
open Go.Kin
set_option maxRecDepth 100000
set_option maxHeartbeats 0
attribute [go_sem] exC exD exsD
theorem lfD_kd (x : Ex) : lfD (kdX x) = true := by rw [kd_eq]; rfl
attribute [go_sem ↓] lfD_kd
theorem rsize_step (x : Ex) (hx0 : x.size ≤ 1000000) (ihx : ∀ y ∈ x.kids, FnOK Laid Tryz.prog 96 [exD y] (iv y.size)) : FnOK Laid Tryz.prog 96 [exD x] (iv x.size) := by
 refine FnOK_of laid_stable Tryz.func96 Tryz.ntmps96 rfl (by as_aux_lemma => kernel_rfl) (Nat.le_of_ble_eq_true rfl) (fun R hR => ?_)
 obtain ⟨_, b, cs, T, C⟩ := R
 obtain rfl : _ = Tryz.prog := hR.p
 have hk := kd_eq x
 have hse := x.size_eq
 have hln := Ex.len_le x.kids
 refine sq ?_
 apply Exec.regionL te_ok
 ·intro u' Q hQ
  simp only [go_sem, hk]
  repeat refine ob2 ?_
  exact hQ
 refine sq ?_
 apply Exec.regionL te_ok
 ·intro u' Q hQ
  simp only [go_sem, hk]
  repeat refine ob2 ?_
  exact hQ
 refine sq ?_
 refine sq ?_
 apply Exec.regionL te_ok
 ·intro u' Q hQ
  simp only [go_sem, hk]
  repeat refine ob2 ?_
  exact hQ
 refine Exec.block ?_
 apply Exec.loopU [1] (X := Nat) (fun i => [(4, .d (iv i)), (3, .d (iv (1 + (Ex.sizes (x.kids.take i) : Nat) : Nat)))]) (fun i => []) (fun i => []) (fun i => x.kids.length - i) (fun i => i ≤ x.kids.length) 0
 case h0 =>
  first | assumption | omega | (simp only [Bool.not_eq_true', Bool.or_eq_false_iff, Bool.or_eq_true, Bool.and_eq_true, decide_eq_true_eq, decide_eq_false_iff_not, beq_iff_eq, Bool.not_eq_false']; omega) | (simp; done) | (simp; omega) | (intros; omega) | (simp_all; done) | (simp_all; omega)
 case hw =>
  simp only [go_sem]; simp [Ex.sizes]
 case body =>
  rintro i hx ih0
  try simp only at hx
  apply Exec.norm
  ·simp only [go_sem, hk]
   rfl
  refine sq ?_
  refine sq ?_
  apply Exec.regionL te_ok
  ·intro u' Q hQ
   simp only [go_sem, hk]
   repeat refine ob2 ?_
   exact hQ
  refine Exec.cond_split rfl (fun h0 => ?_) (fun h0 => ?_)
  ·have hi : i < x.kids.length := by have := of_decide_eq_true h0; omega
   have ha := kdR_at hi
   have hst := Ex.sizes_take hi
   have hsl := Ex.sizes_le x.kids (i + 1)
   have w2 : IntKind.i64.wrap ((i : Int) + 1) = ((i + 1 : Nat) : Int) := by rw [wrap_id (by omega)]; omega
   have w3 : IntKind.i64.wrap (((1 + Ex.sizes (x.kids.take i) : Nat) : Int) + ((nth x.kids i).size : Int)) = ((1 + Ex.sizes (x.kids.take (i + 1)) : Nat) : Int) := by rw [wrap_id (by omega)]; omega
   refine sk ?_
   refine sq ?_
   refine Exec.block ?_
   apply Exec.regionL te_ok
   ·intro u' Q hQ
    simp only [go_sem, hk, ha, w2, w3]
    repeat refine ob2 ?_
    refine kcall hR.inv te_ok rfl rfl rfl rfl rfl rfl (ihx _ (nth_mem hi)) ?_
    simp only [go_sem, hk, ha, w2, w3]
    repeat refine ob2 ?_
    exact hQ
   refine Exec.inBlock ?_
   apply Exec.regionL te_ok
   ·intro u' Q hQ
    simp only [go_sem, hk, ha, w2, w3]
    repeat refine ob2 ?_
    exact hQ
   refine Exec.back (ih0 (i + 1) ?_ ?_) ?_ ?_ ?_ ?_ ?_ ?_ ?_
   ·try simp only
    omega
   ·try simp only
    omega
   ·rfl
   ·rfl
   ·(simp only [go_sem, hk, ha, w2, w3])
   ·(simp only [go_sem, hk, ha, w2, w3])
   ·(simp only [go_sem, hk, ha, w2, w3])
   ·simp only [go_sem, hk, ha, w2, w3]
   ·rfl
  ·refine Exec.exit rfl ?_
   refine sq ?_
   apply Exec.regionL te_ok
   ·intro u' Q hQ
    simp only [go_sem, hk]
    repeat refine ob2 ?_
    exact hQ
   refine Exec.rets hR te_ok rfl rfl rfl (LeX.le ?_) (.inr ⟨_, rfl⟩)
   simp only [go_sem]
   rw [List.take_of_length_le (by have := of_decide_eq_false h0; omega), ← hse]
theorem rsize_ok (x : Ex) (hx0 : x.size ≤ 1000000) : FnOK Laid Tryz.prog 96 [exD x] (iv x.size) := by
 refine Ex.ind (p := fun x => x.size ≤ 1000000 → FnOK Laid Tryz.prog 96 [exD x] (iv x.size)) (fun x ih h => rsize_step x h fun y hy => ih y hy ?_) x hx0
 have := Ex.sizes_mem hy; have := x.size_eq; omega
theorem esize_step (x : Ex) (d : Nat) (hd : d ≤ 61) (hx0 : x.kids.length ≤ 140737488355328) (ihx : ∀ y ∈ x.kids, d + 1 ≤ 61 → FnOK Laid Tryz.prog 12 [exD y, iv ((d + 1 : Nat) : Int)] (iv (y.lim (d + 1)))) : FnOK Laid Tryz.prog 12 [exD x, iv d] (iv (x.lim d)) := by
 refine FnOK_of laid_stable Tryz.func12 Tryz.ntmps12 rfl (by as_aux_lemma => kernel_rfl) (Nat.le_of_ble_eq_true rfl) (fun R hR => ?_)
 obtain ⟨_, b, cs, T, C⟩ := R
 obtain rfl : _ = Tryz.prog := hR.p
 have hk := kd_eq x
 have hse := x.lim_eq d
 refine sq ?_
 apply Exec.regionL te_ok
 ·intro u' Q hQ
  simp only [go_sem, hk]
  repeat refine ob2 ?_
  exact hQ
 refine sq ?_
 apply Exec.regionL te_ok
 ·intro u' Q hQ
  simp only [go_sem, hk]
  repeat refine ob2 ?_
  exact hQ
 refine sq ?_
 refine sq ?_
 apply Exec.regionL te_ok
 ·intro u' Q hQ
  simp only [go_sem, hk]
  repeat refine ob2 ?_
  exact hQ
 refine Exec.cond_split rfl (fun h0 => ?_) (fun h0 => ?_)
 ·refine sq ?_
  apply Exec.regionL te_ok
  ·intro u' Q hQ
   simp only [go_sem, hk]
   repeat refine ob2 ?_
   exact hQ
  refine Exec.rets hR te_ok rfl rfl rfl (LeX.le ?_) (.inr ⟨_, rfl⟩)
  simp only [go_sem]
  rw [hse, if_pos (by simp at h0; omega)]
  rfl
 ·have hd2 : d ≤ 60 := by simp at h0; omega
  refine sk ?_
  refine sq ?_
  refine sq ?_
  apply Exec.regionL te_ok
  ·intro u' Q hQ
   simp only [go_sem, hk]
   repeat refine ob2 ?_
   exact hQ
  refine Exec.block ?_
  apply Exec.loopU [1, 2] (X := Nat × Nat) (fun ⟨i, n⟩ => [(6, .d (iv i)), (5, .d (iv n))]) (fun ⟨i, n⟩ => []) (fun ⟨i, n⟩ => []) (fun ⟨i, n⟩ => x.kids.length - i) (fun ⟨i, n⟩ => i ≤ x.kids.length ∧ Ex.limL x.kids (d + 1) 1 = Ex.limL (x.kids.drop i) (d + 1) n ∧ n ≤ 100400) (0, 1)
  case h0 =>
   exact ⟨Nat.zero_le _, rfl, by omega⟩
  case hw =>
   simp only [go_sem]; rfl
  case body =>
   rintro ⟨i, n⟩ hx ih0
   try simp only at hx
   apply Exec.norm
   ·simp only [go_sem, hk]
    rfl
   refine sq ?_
   refine sq ?_
   apply Exec.regionL te_ok
   ·intro u' Q hQ
    simp only [go_sem, hk]
    repeat refine ob2 ?_
    exact hQ
   refine Exec.cond_split rfl (fun h1 => ?_) (fun h1 => ?_)
   ·have hit : i < x.kids.length ∧ n ≤ 400 := by simp at h1; omega
    obtain ⟨hi, hn⟩ := hit
    have ha := kdR_at hi
    have hlb := Ex.lim_le (nth x.kids i) (d := d + 1) (by omega)
    have w2 : IntKind.i64.wrap ((i : Int) + 1) = ((i + 1 : Nat) : Int) := by rw [wrap_id (by omega)]; omega
    have w3 : IntKind.i64.wrap ((n : Int) + (((nth x.kids i).lim (d + 1) : Nat) : Int)) = ((n + (nth x.kids i).lim (d + 1) : Nat) : Int) := by rw [wrap_id (by omega)]; omega
    have w4 : IntKind.i64.wrap ((d : Int) + 1) = ((d + 1 : Nat) : Int) := by rw [wrap_id (by omega)]; omega
    refine sk ?_
    refine sq ?_
    refine Exec.block ?_
    apply Exec.regionL te_ok
    ·intro u' Q hQ
     simp only [go_sem, hk, ha, w2, w3, w4]
     repeat refine ob2 ?_
     refine kcall hR.inv te_ok rfl rfl rfl rfl rfl rfl (ihx _ (nth_mem hi) (by omega)) ?_
     simp only [go_sem, hk, ha, w2, w3, w4]
     repeat refine ob2 ?_
     exact hQ
    refine Exec.inBlock ?_
    apply Exec.regionL te_ok
    ·intro u' Q hQ
     simp only [go_sem, hk, ha, w2, w3, w4]
     repeat refine ob2 ?_
     exact hQ
    refine Exec.back (ih0 (i + 1, n + (nth x.kids i).lim (d + 1)) ?_ ?_) ?_ ?_ ?_ ?_ ?_ ?_ ?_
    ·try simp only
     have hlb := Ex.lim_le (nth x.kids i) (d := d + 1) (by omega)
     exact ⟨by omega, by rw [hx.2.1, Ex.limL_step hi hn], by omega⟩
    ·try simp only
     omega
    ·rfl
    ·rfl
    ·(simp only [go_sem, hk, ha, w2, w3, w4])
    ·(simp only [go_sem, hk, ha, w2, w3, w4])
    ·(simp only [go_sem, hk, ha, w2, w3, w4])
    ·simp only [go_sem, hk, ha, w2, w3, w4]
    ·rfl
   ·refine Exec.exit rfl ?_
    refine sq ?_
    apply Exec.regionL te_ok
    ·intro u' Q hQ
     simp only [go_sem, hk]
     repeat refine ob2 ?_
     exact hQ
    refine Exec.rets hR te_ok rfl rfl rfl (LeX.le ?_) (.inr ⟨_, rfl⟩)
    simp only [go_sem]
    rw [hse, if_neg (by omega), hx.2.1, Ex.limL_stop (by simp at h1; omega)]
/-- all lists of kids are short -/
def Ex.fits (B : Nat) (x : Ex) : Prop := x.kids.length ≤ B
theorem esize_ok (B : Ex → Prop) (hB : ∀ x, B x → x.kids.length ≤ 140737488355328 ∧ ∀ y ∈ x.kids, B y) (x : Ex) (h : B x) (d : Nat) (hd : d ≤ 61) : FnOK Laid Tryz.prog 12 [exD x, iv d] (iv (x.lim d)) := by
 refine Ex.ind (p := fun x => B x → ∀ d : Nat, d ≤ 61 → FnOK Laid Tryz.prog 12 [exD x, iv d] (iv (x.lim d))) (fun x ih h d hd => ?_) x h d hd
 exact esize_step x d hd (hB x h).1 fun y hy hd2 => ih y hy ((hB x h).2 y hy) (d + 1) hd2
theorem kSames_ok (l m : List Ex) (hl : l.length ≤ 140737488355328) (ihx : ∀ x ∈ l, ∀ y, FnOK Laid Tryz.prog 55 [exD x, exD y] (bv (decide (x = y)))) : FnOK Laid Tryz.prog 104 [exsD l, exsD m] (bv (decide (l = m))) := by
 refine FnOK_of laid_stable Tryz.func104 Tryz.ntmps104 rfl (by as_aux_lemma => kernel_rfl) (Nat.le_of_ble_eq_true rfl) (fun R hR => ?_)
 obtain ⟨_, b, cs, T, C⟩ := R
 obtain rfl : _ = Tryz.prog := hR.p
 refine sreg te_ok ?_
 refine sq ?_
 refine sreg te_ok ?_
 refine Exec.cond_split rfl (fun h0 => ?_) (fun h0 => ?_)
 ·refine sreg te_ok ?_
  refine Exec.rets hR te_ok rfl rfl rfl (LeX.le ?_) (.inr ⟨_, rfl⟩)
  simp only [go_sem]
  have : l ≠ m := fun e => by subst e; simp at h0
  simp [this]
 ·have hlm : l.length = m.length := by simp at h0; omega
  refine sk ?_
  refine sq ?_
  refine sreg te_ok ?_
  refine Exec.block ?_
  apply Exec.loopU [0, 1] (X := Nat) (fun i => [(5, .d (iv i))]) (fun i => []) (fun i => []) (fun i => l.length - i) (fun i => i ≤ l.length ∧ l.take i = m.take i) 0
  case h0 =>
   simp
  case hw =>
   simp only [go_sem]
  case body =>
   rintro i hx ih0
   try simp only at hx
   apply Exec.norm
   ·simp only [go_sem]
    rfl
   refine sq ?_
   refine sreg te_ok ?_
   refine Exec.cond_split rfl (fun h1 => ?_) (fun h1 => ?_)
   ·have hi : i < l.length := by simp at h1; omega
    have ha := kdR_at hi
    have hb := kdR_at (show i < m.length by omega)
    have w2 : IntKind.i64.wrap ((i : Int) + 1) = ((i + 1 : Nat) : Int) := by rw [wrap_id (by omega)]; omega
    refine sk ?_
    refine sq ?_
    refine Exec.block ?_
    refine sq ?_
    apply Exec.draw (st := _) 11 10 [] [] te_ok (by as_aux_lemma => kernel_rfl) (by as_aux_lemma => kernel_rfl) (by as_aux_lemma => kernel_rfl)
    ·intro u' Q hQ
     simp only [go_sem, ha, hb, w2]
     repeat refine ob2 ?_
     refine kdcall hR.inv te_ok rfl rfl rfl rfl rfl rfl (ihx _ (nth_mem hi) _) ?_
     simp only [go_sem, ha, hb, w2]
     repeat refine ob2 ?_
     exact hQ
    refine Exec.cond_split rfl (fun h2 => ?_) (fun h2 => ?_)
    ·refine sq ?_
     apply Exec.regionL te_ok
     ·intro u' Q hQ
      simp only [go_sem, ha, hb, w2]
      repeat refine ob2 ?_
      exact hQ
     refine Exec.rets hR te_ok rfl rfl rfl (LeX.le ?_) (.inr ⟨_, rfl⟩)
     simp only [go_sem]
     have : l ≠ m := fun e => by subst e; simp at h2
     simp [this]
    ·refine sk ?_
     refine Exec.inBlock ?_
     apply Exec.regionL te_ok
     ·intro u' Q hQ
      simp only [go_sem, ha, hb, w2]
      repeat refine ob2 ?_
      exact hQ
     refine Exec.back (ih0 (i + 1) ?_ ?_) ?_ ?_ ?_ ?_ ?_ ?_ ?_
     ·try simp only
      exact ⟨by omega, (same_step hlm hi hx.2).2 (by simpa using h2)⟩
     ·try simp only
      omega
     ·rfl
     ·rfl
     ·(simp only [go_sem, ha, hb, w2])
     ·(simp only [go_sem, ha, hb, w2])
     ·(simp only [go_sem, ha, hb, w2])
     ·simp only [go_sem, ha, hb, w2]
     ·rfl
   ·refine Exec.exit rfl ?_
    refine sreg te_ok ?_
    refine Exec.rets hR te_ok rfl rfl rfl (LeX.le ?_) (.inr ⟨_, rfl⟩)
    simp only [go_sem]
    have : l = m := by have := hx.2; simp at h1; rw [List.take_of_length_le (by omega), List.take_of_length_le (by omega)] at this; exact this
    simp [this]
theorem ex_eq (x y : Ex) : (x.k == y.k && (x.s == y.s && decide (x.kids = y.kids))) = decide (x = y) := by
 by_cases h : x = y
 ·subst h; simp
 ·rw [decide_eq_false h]
  by_cases h1 : x.k = y.k
  ·by_cases h2 : x.s = y.s
   ·have : ¬ x.kids = y.kids := fun h3 => h (Ex.ext h1 h2 h3)
    simp [this]
   ·simp [h2]
  ·simp [h1]
theorem kSame_step (x y : Ex) (hx0 : x.size ≤ 1000000) (ihx : ∀ x2 ∈ x.kids, ∀ y, FnOK Laid Tryz.prog 55 [exD x2, exD y] (bv (decide (x2 = y)))) : FnOK Laid Tryz.prog 55 [exD x, exD y] (bv (decide (x = y))) := by
 refine FnOK_of laid_stable Tryz.func55 Tryz.ntmps55 rfl (by as_aux_lemma => kernel_rfl) (Nat.le_of_ble_eq_true rfl) (fun R hR => ?_)
 obtain ⟨_, b, cs, T, C⟩ := R
 obtain rfl : _ = Tryz.prog := hR.p
 have hk := kd_eq x
 have hk2 := kd_eq y
 have hln := Ex.len_le x.kids
 have hse := x.size_eq
 refine sq ?_
 apply Exec.regionL te_ok
 ·intro u' Q hQ
  simp only [go_sem, hk, hk2]
  repeat refine ob2 ?_
  exact hQ
 refine sq ?_
 apply Exec.regionL te_ok
 ·intro u' Q hQ
  simp only [go_sem, hk, hk2]
  repeat refine ob2 ?_
  refine kcallG hR.inv te_ok rfl rfl rfl rfl rfl rfl ob1 (fun hq => kSames_ok x.kids y.kids (by omega) ihx) ?_
  simp only [go_sem, hk, hk2]
  repeat refine ob2 ?_
  exact hQ
 refine Exec.rets hR te_ok rfl rfl rfl (LeX.le ?_) (.inr ⟨_, rfl⟩)
 simp only [go_sem]
 rw [← ex_eq]
 cases (x.k == y.k) <;> cases (x.s == y.s) <;> simp
theorem kSame_ok (x y : Ex) (hx0 : x.size ≤ 1000000) : FnOK Laid Tryz.prog 55 [exD x, exD y] (bv (decide (x = y))) := by
 refine Ex.ind (p := fun x => x.size ≤ 1000000 → ∀ y, FnOK Laid Tryz.prog 55 [exD x, exD y] (bv (decide (x = y)))) (fun x ih h y => kSame_step x y h fun x2 h2 => ih x2 h2 ?_) x hx0 y
 have := Ex.sizes_mem h2; have := x.size_eq; omega
end Go.Proofs.YtonchjamoblioaaGreatDoor
namespace Go.Kin
open Go.RowKit
/-! ### shapes of slices within slices -/
theorem LeDs.rdc {w : World} {Z : Nat → Prop} : ∀ {ds ds' : List D} {b off : Nat}, LeDs ds ds' → RdC w Z b off ds → RdC w Z b off ds'
  | [], [], _, _, _, h => h
  | d :: ds, d' :: ds', b, off, hl, h => by
    simp only [LeDs] at hl
    simp only [RdC] at h ⊢
    obtain ⟨⟨v, h1, h2⟩, h3⟩ := h
    exact ⟨⟨v, h1, hl.1 w Z v h2⟩, LeDs.rdc hl.2 h3⟩
  | [], _ :: _, _, _, hl, _ => hl.elim
  | _ :: _, [], _, _, hl, _ => hl.elim
theorem LeDs.len : ∀ {ds ds' : List D}, LeDs ds ds' → ds.length = ds'.length
  | [], [], _ => rfl
  | d :: ds, d' :: ds', h => by simp only [LeDs] at h; simp [LeDs.len h.2]
  | [], _ :: _, h => h.elim
  | _ :: _, [], h => h.elim
theorem LeD.rows {k n : Nat} {row row' : Nat → List D} (h : ∀ i, i < n → LeDs (row i) (row' i) ∧ lfR (row' i) = true) : LeD (.sl k n n row) (.sl k n n row') := fun w Z v hv => by
  simp only [RdV] at hv ⊢
  obtain ⟨a, c, h1, h2, h3, h4, h5⟩ := hv
  refine ⟨a, c, h1, h2, h3, h4, h5.imp id ?_⟩
  rintro ⟨b, off, rfl, hz, he⟩
  exact ⟨b, off, rfl, hz, fun i hi => ⟨by rw [← (h i hi).1.len]; exact (he i hi).1, (h i hi).2, (h i hi).1.rdc (he i hi).2.2⟩⟩
theorem LeDs.refl : ∀ (ds : List D), LeDs ds ds
  | [] => trivial
  | d :: ds => ⟨LeD.refl d, LeDs.refl ds⟩
end Go.Kin
namespace Go.Kin
/-! ### expressions that are lent: behind each list of kids lie marks -/
def mkI (a i : Int) : Int := 1000003 * (a + 7) + i
mutual
def kdL : Ex → D
  | .mk _ _ ks => .sl 3 ks.length (ks.length + 12) (lenR ks)
def lenR : List Ex → Nat → List D
  | [], i => [.v (.int .i64 (mkI 1 i)), .v (.string (mkS [])), .v (.slice none 0 0)]
  | .mk k s ks :: _, 0 => [.v (.int .i64 k), .v (.string (mkS s)), .sl 3 ks.length (ks.length + 12) (lenR ks)]
  | _ :: r, i + 1 => lenR r i
end
theorem kdL_eq (x : Ex) : kdL x = .sl 3 x.kids.length (x.kids.length + 12) (lenR x.kids) := by cases x; simp [kdL, Ex.kids]
abbrev exLC (x : Ex) : List D := [.v (.int .i64 x.k), .v (.string (mkS x.s)), kdL x]
abbrev exLD (x : Ex) : D := .ag [.v (.int .i64 x.k), .v (.string (mkS x.s)), kdL x]
abbrev exsLD (l : List Ex) : D := .sl 3 l.length (l.length + 12) (lenR l)
abbrev mkC (a i : Int) : List D := [.v (.int .i64 (mkI a i)), .v (.string (mkS [])), .v (.slice none 0 0)]
abbrev mkEx (a i : Int) : Ex := .mk (mkI a i) [] []
theorem lenR_at : ∀ {l : List Ex} {i : Nat}, i < l.length → lenR l i = exLC (nth l i)
  | [], _, h => by simp at h
  | .mk k s ks :: r, 0, _ => by simp [lenR, exLC, nth, Ex.k, Ex.s, kdL]
  | x :: r, i + 1, h => by
    have := lenR_at (l := r) (i := i) (by simpa using h)
    cases x
    simp only [lenR]
    rw [this]; rfl
theorem lenR_mk : ∀ {l : List Ex} {i : Nat}, l.length ≤ i → lenR l i = mkC 1 ((i - l.length : Nat) : Int)
  | [], i, _ => by simp [lenR]
  | x :: r, 0, h => by simp at h
  | x :: r, i + 1, h => by
    have := lenR_mk (l := r) (i := i) (by simpa using h)
    cases x
    simp only [lenR]
    rw [this]; simp
/-- one row, wherever -/
def lenI (l : List Ex) (i : Nat) : Int := if i < l.length then (nth l i).k else mkI 1 ((i - l.length : Nat) : Int)
def lenS (l : List Ex) (i : Nat) : List UInt8 := if i < l.length then (nth l i).s else []
def lenD (l : List Ex) (i : Nat) : D := if i < l.length then kdL (nth l i) else .v (.slice none 0 0)
theorem lfD_kdL (x : Ex) : lfD (kdL x) = true := by rw [kdL_eq]; rfl
theorem exD_lf (x : Ex) : lfR (exC x) = true := by simp [exC, lfR, lfD, kd_eq]
/-- what is lent reads as what it was -/
theorem kdL_le : ∀ x : Ex, LeD (kdL x) (kdX x) := fun x => by
  refine Ex.ind (p := fun x => LeD (kdL x) (kdX x)) (fun x ih => ?_) x
  rw [kdL_eq, kd_eq]
  refine LeD.trans (LeD.slice (x' := x.kids.length) (row' := lenR x.kids) (Nat.le_refl _) (by omega) (fun _ _ => rfl)) (LeD.rows fun i hi => ?_)
  rw [lenR_at hi, kdR_at hi]
  exact ⟨⟨LeD.refl _, LeD.refl _, ih _ (nth_mem hi), trivial⟩, exD_lf _⟩
theorem exLD_le (x : Ex) : LeD (exLD x) (exD x) := LeD.ag ⟨LeD.refl _, LeD.refl _, kdL_le x, trivial⟩
theorem mk_le (a i : Int) : LeD (.ag (mkC a i)) (exD (mkEx a i)) := LeD.ag ⟨LeD.refl _, LeD.refl _, by rw [kd_eq]; exact LeD.nil 3 _, trivial⟩
end Go.Kin
