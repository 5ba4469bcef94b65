/- Steps of a function body on data, and contracts of the functions of the seat, walked. -/
import Derived.Test.YtonchjamoblioaaGreatDoorLxLaw
set_option linter.unusedSimpArgs false
set_option linter.unusedVariables false
namespace Go.Proofs.YtonchjamoblioaaGreatDoor
open Go.Kin
set_option maxRecDepth 100000
set_option maxHeartbeats 0
theorem vertex_okX (s : List UInt8) (hs : s.length ≤ 140737488355328) : FnOK LaidX Tryz.prog 161 [sv s] (bv (vertexB s)) := (vertex_ok s hs).weak laidX_laid
attribute [go_sem] Option.toArray_some Option.toArray_none famStP
abbrev tC (t : Tk) : List D := [iv t.k, sv t.t, iv t.a, iv t.v.k, iv t.v.n, sv t.v.s]
abbrev tD (t : Tk) : D := .ag [iv t.k, sv t.t, iv t.a, iv t.v.k, iv t.v.n, sv t.v.s]
attribute [go_sem] v0 tC tD Tk.k Tk.t Tk.a Tk.v
theorem letter_ok (n : Int) : FnOK LaidX Tryz.prog 159 [u8 n] (bv (letterI n)) := by
 refine FnOK_of laidX_stable Tryz.func159 Tryz.ntmps159 rfl (by as_aux_lemma => kernel_rfl) (Nat.le_of_ble_eq_true rfl) (fun R hR => ?_)
 obtain ⟨_, b, cs, T, C⟩ := R
 obtain rfl : _ = Tryz.prog := hR.p
 refine sreg te_ok ?_
 refine sreg te_ok ?_
 refine Exec.rets hR te_ok rfl rfl rfl (LeX.le ?_) (.inr ⟨_, rfl⟩)
 simp only [go_sem, letterI]
theorem digit_ok (n : Int) : FnOK LaidX Tryz.prog 162 [u8 n] (bv (digitI n)) := by
 refine FnOK_of laidX_stable Tryz.func162 Tryz.ntmps162 rfl (by as_aux_lemma => kernel_rfl) (Nat.le_of_ble_eq_true rfl) (fun R hR => ?_)
 obtain ⟨_, b, cs, T, C⟩ := R
 obtain rfl : _ = Tryz.prog := hR.p
 refine sreg te_ok ?_
 refine sreg te_ok ?_
 refine Exec.rets hR te_ok rfl rfl rfl (LeX.le ?_) (.inr ⟨_, rfl⟩)
 simp only [go_sem, digitI]
theorem sign_ok (n : Int) : FnOK LaidX Tryz.prog 160 [u8 n] (bv (signI n)) := by
 refine FnOK_of laidX_stable Tryz.func160 Tryz.ntmps160 rfl (by as_aux_lemma => kernel_rfl) (Nat.le_of_ble_eq_true rfl) (fun R hR => ?_)
 obtain ⟨_, b, cs, T, C⟩ := R
 obtain rfl : _ = Tryz.prog := hR.p
 refine sreg te_ok ?_
 refine sq ?_
 apply Exec.regionL te_ok
 ·intro o Q hQ
  simp only [go_sem]
  repeat refine ob2 ?_
  refine kcall hR.inv te_ok rfl rfl rfl rfl rfl rfl (letter_ok _) ?_
  simp only [go_sem]
  repeat refine ob2 ?_
  refine kcallG hR.inv te_ok rfl rfl rfl rfl rfl rfl ob1 (fun hq => digit_ok _) ?_
  simp only [go_sem]
  repeat refine ob2 ?_
  exact hQ
 refine Exec.rets hR te_ok rfl rfl rfl (LeX.le ?_) (.inr ⟨_, rfl⟩)
 simp only [go_sem, signI]
theorem blank_ok (n : Int) : FnOK LaidX Tryz.prog 119 [u8 n] (bv (blankI n)) := by
 refine FnOK_of laidX_stable Tryz.func119 Tryz.ntmps119 rfl (by as_aux_lemma => kernel_rfl) (Nat.le_of_ble_eq_true rfl) (fun R hR => ?_)
 obtain ⟨_, b, cs, T, C⟩ := R
 obtain rfl : _ = Tryz.prog := hR.p
 refine sreg te_ok ?_
 refine sreg te_ok ?_
 refine Exec.rets hR te_ok rfl rfl rfl (LeX.le ?_) (.inr ⟨_, rfl⟩)
 simp only [go_sem, blankI]
theorem span_ok (s : List UInt8) (hs : s.length ≤ 140737488355328) (f : Nat) (p : Int → Bool) (hp : ∀ n, FnOK LaidX Tryz.prog f [u8 n] (bv (p n))) : FnOK LaidX Tryz.prog 120 [sv s, .fn f []] (iv (spanN p s)) := by
 refine FnOK_of laidX_stable Tryz.func120 Tryz.ntmps120 rfl (by as_aux_lemma => kernel_rfl) (Nat.le_of_ble_eq_true rfl) (fun R hR => ?_)
 obtain ⟨_, b, cs, T, C⟩ := R
 obtain rfl : _ = Tryz.prog := hR.p
 refine sreg te_ok ?_
 refine sq ?_
 refine sreg te_ok ?_
 refine Exec.block ?_
 apply Exec.loopU [0, 1, 7] (X := Nat) (fun i => [(8, .d (iv i))]) (fun i => []) (fun i => []) (fun i => s.length - i) (fun i => i ≤ s.length ∧ spanN p s = i + spanN p (s.drop i)) 0
 case h0 =>
  simp
 case hw =>
  simp only [go_sem]
 case body =>
  rintro i hx ih0
  try simp only at hx
  apply Exec.norm
  ·simp only [go_sem]
   rfl
  refine sreg te_ok ?_
  refine sq ?_
  refine Exec.cond_split rfl (fun h0 => ?_) (fun h0 => ?_)
  ·have hi : i < s.length := by simp at h0; omega
   have hwi : IntKind.i64.wrap ((i : Int) + 1) = ((i + 1 : Nat) : Int) := by rw [wrap_id (by constructor <;> omega)]; simp
   refine sk ?_
   refine sq ?_
   refine Exec.block ?_
   refine sq ?_
   apply Exec.regionL te_ok
   ·intro o Q hQ
    simp only [go_sem, hwi]
    repeat refine ob2 ?_
    exact hQ
   refine sq ?_
   apply Exec.regionL te_ok
   ·intro o Q hQ
    simp only [go_sem, hwi]
    repeat refine ob2 ?_
    refine kcall hR.inv te_ok rfl rfl rfl rfl rfl rfl (hp _) ?_
    simp only [go_sem, hwi]
    repeat refine ob2 ?_
    exact hQ
   refine Exec.cond_split rfl (fun h1 => ?_) (fun h1 => ?_)
   ·refine sq ?_
    apply Exec.regionL te_ok
    ·intro o Q hQ
     simp only [go_sem, hwi]
     repeat refine ob2 ?_
     exact hQ
    refine Exec.rets hR te_ok rfl rfl rfl (LeX.le ?_) (.inr ⟨_, rfl⟩)
    simp only [go_sem]
    rw [hx.2, spanN_drop hi (b := false) (by simpa using h1)]; simp
   ·refine sk ?_
    refine Exec.inBlock ?_
    apply Exec.regionL te_ok
    ·intro o Q hQ
     simp only [go_sem, hwi]
     repeat refine ob2 ?_
     exact hQ
    refine Exec.back (ih0 (i + 1) ?_ ?_) ?_ ?_ ?_ ?_ ?_ ?_ ?_
    ·try simp only
     exact ⟨by omega, by rw [hx.2, spanN_drop hi (b := true) (by simpa using h1), if_pos rfl]; omega⟩
    ·try simp only
     omega
    ·rfl
    ·rfl
    ·(simp only [go_sem, hwi])
    ·(simp only [go_sem, hwi])
    ·(simp only [go_sem, hwi])
    ·simp only [go_sem, hwi]
    ·rfl
  ·refine Exec.exit rfl ?_
   refine sreg te_ok ?_
   refine Exec.rets hR te_ok rfl rfl rfl (LeX.le ?_) (.inr ⟨_, rfl⟩)
   simp only [go_sem]
   simp at h0
   rw [hx.2, List.drop_eq_nil_of_le (by omega)]; simp [spanN]; omega
theorem valued_ok (w : List UInt8) (k : Int) (hs : w.length ≤ 140737488355328) : FnOK LaidX Tryz.prog 163 [sv w, iv k] (.tup [tD (valuedT w k), bv (parseE w == 0)]) := by
 refine FnOK_of laidX_stable Tryz.func163 Tryz.ntmps163 rfl (by as_aux_lemma => kernel_rfl) (Nat.le_of_ble_eq_true rfl) (fun R hR => ?_)
 obtain ⟨_, b, cs, T, C⟩ := R
 obtain rfl : _ = Tryz.prog := hR.p
 refine sreg te_ok ?_
 refine sq ?_
 apply Exec.regionL te_ok
 ·intro o Q hQ
  simp only [go_sem]
  repeat refine ob2 ?_
  refine kcall hR.inv te_ok rfl rfl rfl rfl rfl rfl (parse_ok _ (by omega)) ?_
  simp only [go_sem]
  repeat refine ob2 ?_
  exact hQ
 refine sreg te_ok ?_
 refine Exec.rets hR te_ok rfl rfl rfl (LeX.le ?_) (.inr ⟨_, rfl⟩)
 simp only [go_sem, valuedT]
theorem best_drop (s : List UInt8) {i : Nat} {b : List UInt8} (h : i < signsF.length) : (signsF.drop i).foldl (bestStep s) b = (signsF.drop (i + 1)).foldl (bestStep s) (bestStep s b (nth signsF i)) := by
 rw [drop_nth h]; rfl
theorem best_bif (s b x : List UInt8) : (bif Lib.hasPrefix s x && decide ((b.length : Int) < (x.length : Int)) then x else b) = bestStep s b x := by
 unfold bestStep; cases (Lib.hasPrefix s x && decide ((b.length : Int) < (x.length : Int))) <;> rfl
theorem signed_ok (s : List UInt8) : FnOK LaidX Tryz.prog 165 [sv s] (.tup [tD ⟨4, bestSign s, 0, v0⟩, bv (!(bestSign s == []))]) := by
 refine FnOK_of laidX_stable Tryz.func165 Tryz.ntmps165 rfl (by as_aux_lemma => kernel_rfl) (Nat.le_of_ble_eq_true rfl) (fun R hR => ?_)
 obtain ⟨_, b, cs, T, C⟩ := R
 obtain rfl : _ = Tryz.prog := hR.p
 refine sreg te_ok ?_
 refine sreg te_ok ?_
 refine sq ?_
 refine sq ?_
 apply Exec.regionL te_ok
 ·intro o Q hQ
  simp only [go_sem]
  repeat refine ob2 ?_
  refine kcall hR.inv te_ok rfl rfl rfl rfl rfl rfl (fields_ok) ?_
  simp only [go_sem]
  repeat refine ob2 ?_
  exact hQ
 refine Exec.block ?_
 apply Exec.loopU [0, 2, 7, 8] (X := Nat × List UInt8) (fun ⟨i, b⟩ => [(9, .d (iv i)), (4, .d (sv b))]) (fun ⟨i, b⟩ => []) (fun ⟨i, b⟩ => []) (fun ⟨i, b⟩ => 20 - i) (fun ⟨i, b⟩ => i ≤ 20 ∧ bestSign s = (signsF.drop i).foldl (bestStep s) b) (0, [])
 case h0 =>
  exact ⟨by omega, rfl⟩
 case hw =>
  simp only [go_sem]
 case body =>
  rintro ⟨i, b⟩ hx ih0
  try simp only at hx
  apply Exec.norm
  ·simp only [go_sem]
   rfl
  refine sreg te_ok ?_
  refine sq ?_
  refine Exec.cond_split rfl (fun h0 => ?_) (fun h0 => ?_)
  ·have hi : i < signsF.length := by simp at h0; show i < 20; omega
   have hi20 : i < 20 := hi
   have hwi : IntKind.i64.wrap ((i : Int) + 1) = ((i + 1 : Nat) : Int) := by rw [wrap_id (by constructor <;> omega)]; simp
   refine sk ?_
   refine sq ?_
   refine Exec.block ?_
   refine sq ?_
   apply Exec.regionL te_ok
   ·intro o Q hQ
    simp only [go_sem, hwi, best_bif]
    repeat refine ob2 ?_
    exact hQ
   refine sq ?_
   apply Exec.regionL te_ok
   ·intro o Q hQ
    simp only [go_sem, hwi, best_bif]
    repeat refine ob2 ?_
    refine kcall hR.inv te_ok rfl rfl rfl rfl rfl rfl (hasPre_ok _ _) ?_
    simp only [go_sem, hwi, best_bif]
    repeat refine ob2 ?_
    exact hQ
   apply Exec.join [0, 2, 4, 7, 8, 9] rfl
   case hx =>
    intro h1 hK
    apply Exec.regionL te_ok
    ·intro o Q hQ
     simp only [go_sem, hwi, best_bif]
     repeat refine ob2 ?_
     exact hQ
    exact hK
   case hy =>
    intro h1 hK
    refine sk ?_
    exact hK
   case hN => rfl
   case hdf => rfl
   case hF => simp only [go_sem]
   case hP => rfl
   apply Exec.norm
   ·simp only [go_sem, hwi, best_bif]
    rfl
   refine Exec.inBlock ?_
   apply Exec.regionL te_ok
   ·intro o Q hQ
    simp only [go_sem, hwi, best_bif]
    repeat refine ob2 ?_
    exact hQ
   refine Exec.back (ih0 (i + 1, bestStep s b (nth signsF i)) ?_ ?_) ?_ ?_ ?_ ?_ ?_ ?_ ?_
   ·try simp only
    have : i < 20 := hi
    exact ⟨by omega, by rw [hx.2, best_drop s hi]⟩
   ·try simp only
    have : i < 20 := hi
    omega
   ·rfl
   ·rfl
   ·(simp only [go_sem, hwi, best_bif])
   ·(simp only [go_sem, hwi, best_bif])
   ·(simp only [go_sem, hwi, best_bif])
   ·simp only [go_sem, hwi, best_bif]
   ·rfl
  ·refine Exec.exit rfl ?_
   refine sreg te_ok ?_
   refine Exec.rets hR te_ok rfl rfl rfl (LeX.le ?_) (.inr ⟨_, rfl⟩)
   simp only [go_sem]
   simp at h0
   have e : b = bestSign s := by rw [hx.2, List.drop_eq_nil_of_le (by show 20 ≤ i; omega)]; rfl
   rw [e]; simp
theorem tail_eq {s : List UInt8} : List.take ((s.length : Int) - 1).toNat (List.drop (Int.toNat 1) s) = s.drop 1 := by
 rw [show Int.toNat 1 = 1 from rfl, List.take_of_length_le]; simp
theorem one_wrap {n : Nat} (h : n ≤ 140737488355328) : IntKind.i64.wrap (1 + (n : Int)) = ((1 + n : Nat) : Int) := by rw [wrap_id (by omega)]; omega
section
variable {s : List UInt8} (h0 : (s == []) = false)
include h0
theorem f_word (h1 : letterI (s.getD 0 0).toNat = true) : firstT s = ⟨1, wordN s, 0, v0⟩ ∧ firstB s = vertexB (wordN s) := by
 have hs : ¬ s = [] := by simpa using h0
 exact ⟨by unfold firstT; rw [if_neg hs, if_pos h1], by unfold firstB; rw [if_neg hs, if_pos h1]⟩
theorem f_digit (h1 : letterI (s.getD 0 0).toNat = false) (h2 : digitI (s.getD 0 0).toNat = true) : firstT s = valuedT (digitN s) 2 ∧ firstB s = (parseE (digitN s) == 0) := by
 have hs : ¬ s = [] := by simpa using h0
 have nh1 : ¬ _ = true := fun e => Bool.false_ne_true (h1.symm.trans e)
 exact ⟨by unfold firstT; rw [if_neg hs, if_neg nh1, if_pos h2], by unfold firstB; rw [if_neg hs, if_neg nh1, if_pos h2]⟩
theorem f_minus (h1 : letterI (s.getD 0 0).toNat = false) (h2 : digitI (s.getD 0 0).toNat = false) (h3 : (((s.getD 0 0).toNat : Int) == 45 && decide (0 < (spanN digitI (s.drop 1) : Int))) = true) : firstT s = valuedT (minusN s) 2 ∧ firstB s = (parseE (minusN s) == 0) := by
 have hs : ¬ s = [] := by simpa using h0
 have nh1 : ¬ _ = true := fun e => Bool.false_ne_true (h1.symm.trans e)
 have nh2 : ¬ _ = true := fun e => Bool.false_ne_true (h2.symm.trans e)
 exact ⟨by unfold firstT; rw [if_neg hs, if_neg nh1, if_neg nh2, if_pos h3], by unfold firstB; rw [if_neg hs, if_neg nh1, if_neg nh2, if_pos h3]⟩
theorem f_text (h1 : letterI (s.getD 0 0).toNat = false) (h2 : digitI (s.getD 0 0).toNat = false) (h3 : (((s.getD 0 0).toNat : Int) == 45 && decide (0 < (spanN digitI (s.drop 1) : Int))) = false) (h4 : (((s.getD 0 0).toNat : Int) == 34) = true) : firstT s = (if Lib.indexByte (s.drop 1) 34 < 0 then ⟨0, [], 0, v0⟩ else valuedT (textN s) 3) ∧ firstB s = (if Lib.indexByte (s.drop 1) 34 < 0 then false else parseE (textN s) == 0) := by
 have hs : ¬ s = [] := by simpa using h0
 have nh1 : ¬ _ = true := fun e => Bool.false_ne_true (h1.symm.trans e)
 have nh2 : ¬ _ = true := fun e => Bool.false_ne_true (h2.symm.trans e)
 have nh3 : ¬ _ = true := fun e => Bool.false_ne_true (h3.symm.trans e)
 exact ⟨by unfold firstT; rw [if_neg hs, if_neg nh1, if_neg nh2, if_neg nh3, if_pos h4], by unfold firstB; rw [if_neg hs, if_neg nh1, if_neg nh2, if_neg nh3, if_pos h4]⟩
theorem f_sign (h1 : letterI (s.getD 0 0).toNat = false) (h2 : digitI (s.getD 0 0).toNat = false) (h3 : (((s.getD 0 0).toNat : Int) == 45 && decide (0 < (spanN digitI (s.drop 1) : Int))) = false) (h4 : (((s.getD 0 0).toNat : Int) == 34) = false) : firstT s = ⟨4, bestSign s, 0, v0⟩ ∧ firstB s = !(bestSign s == []) := by
 have hs : ¬ s = [] := by simpa using h0
 have nh1 : ¬ _ = true := fun e => Bool.false_ne_true (h1.symm.trans e)
 have nh2 : ¬ _ = true := fun e => Bool.false_ne_true (h2.symm.trans e)
 have nh3 : ¬ _ = true := fun e => Bool.false_ne_true (h3.symm.trans e)
 have nh4 : ¬ _ = true := fun e => Bool.false_ne_true (h4.symm.trans e)
 exact ⟨by unfold firstT; rw [if_neg hs, if_neg nh1, if_neg nh2, if_neg nh3, if_neg nh4], by unfold firstB; rw [if_neg hs, if_neg nh1, if_neg nh2, if_neg nh3, if_neg nh4]⟩
end
theorem take_len (s : List UInt8) (n : Nat) : (s.take n).length ≤ s.length := by simp; omega
theorem text_bound (s : List UInt8) : Lib.indexByte (s.drop 1) 34 < s.length ∧ -1 ≤ Lib.indexByte (s.drop 1) 34 ∧ (0 < s.length → Lib.indexByte (s.drop 1) 34 + 1 < s.length) := by
 have h := indexByte_lt (s.drop 1) 34
 have e : (s.drop 1).length = s.length - 1 := by simp
 rw [e] at h
 exact ⟨by omega, by omega, fun _ => by omega⟩
theorem wordN_eq (s : List UInt8) : List.take (spanN signI s) s = wordN s := rfl
theorem digitN_eq (s : List UInt8) : List.take (spanN digitI s) s = digitN s := rfl
theorem minusN_eq (s : List UInt8) : List.take (1 + spanN digitI (List.drop 1 s)) s = minusN s := rfl
theorem textN_eq (s : List UInt8) : List.take (Lib.indexByte (List.drop 1 s) 34 + 2).toNat s = textN s := rfl
theorem b34 : (Int.toNat 34).toUInt8 = 34 := rfl
theorem first_ok (s : List UInt8) (hs : s.length ≤ 140737488351232) : FnOK LaidX Tryz.prog 121 [sv s] (.tup [tD (firstT s), bv (firstB s)]) := by
 refine FnOK_of laidX_stable Tryz.func121 Tryz.ntmps121 rfl (by as_aux_lemma => kernel_rfl) (Nat.le_of_ble_eq_true rfl) (fun R hR => ?_)
 obtain ⟨_, b, cs, T, C⟩ := R
 obtain rfl : _ = Tryz.prog := hR.p
 have q1 := spanN_le signI s
 have q2 := spanN_le digitI s
 have q3 := spanN_le digitI (s.drop 1)
 have q3b : (s.drop 1).length = s.length - 1 := by simp
 have q4 := text_bound s
 have q5 : (wordN s).length ≤ s.length := take_len _ _
 have q6 : (digitN s).length ≤ s.length := take_len _ _
 have q7 : (minusN s).length ≤ s.length := take_len _ _
 have q8 : (textN s).length ≤ s.length := take_len _ _
 have tl := tail_eq (s := s)
 have ow := one_wrap (n := spanN digitI (s.drop 1)) (by omega)
 have tw : IntKind.i64.wrap (Lib.indexByte (s.drop 1) 34 + 2) = Lib.indexByte (s.drop 1) 34 + 2 := wrap_id (by omega)
 refine sq ?_
 apply Exec.regionL te_ok
 ·intro o Q hQ
  simp only [go_sem, v0, tl, ow, tw, b34, wordN_eq, digitN_eq, minusN_eq, textN_eq]
  repeat refine ob2 ?_
  exact hQ
 refine sq ?_
 refine sq ?_
 apply Exec.regionL te_ok
 ·intro o Q hQ
  simp only [go_sem, v0, tl, ow, tw, b34, wordN_eq, digitN_eq, minusN_eq, textN_eq]
  repeat refine ob2 ?_
  exact hQ
 refine Exec.cond_split rfl (fun h0 => ?_) (fun h0 => ?_)
 ·refine sq ?_
  apply Exec.regionL te_ok
  ·intro o Q hQ
   simp only [go_sem, v0, tl, ow, tw, b34, wordN_eq, digitN_eq, minusN_eq, textN_eq]
   repeat refine ob2 ?_
   exact hQ
  refine Exec.rets hR te_ok rfl rfl rfl (LeX.le ?_) (.inr ⟨_, rfl⟩)
  simp only [go_sem]
  have e : s = [] := by simpa using h0
  subst e; decide
 ·have hl : 0 < s.length := by cases s; simp at h0; simp
  refine sk ?_
  refine sq ?_
  refine sq ?_
  apply Exec.regionL te_ok
  ·intro o Q hQ
   simp only [go_sem, v0, tl, ow, tw, b34, wordN_eq, digitN_eq, minusN_eq, textN_eq]
   repeat refine ob2 ?_
   exact hQ
  refine Exec.block ?_
  refine sq ?_
  apply Exec.regionL te_ok
  ·intro o Q hQ
   simp only [go_sem, v0, tl, ow, tw, b34, wordN_eq, digitN_eq, minusN_eq, textN_eq]
   repeat refine ob2 ?_
   refine kcall hR.inv te_ok rfl rfl rfl rfl rfl rfl (letter_ok _) ?_
   simp only [go_sem, v0, tl, ow, tw, b34, wordN_eq, digitN_eq, minusN_eq, textN_eq]
   repeat refine ob2 ?_
   exact hQ
  refine Exec.cond_split rfl (fun h1 => ?_) (fun h1 => ?_)
  ·refine sq ?_
   apply Exec.regionL te_ok
   ·intro o Q hQ
    simp only [go_sem, v0, tl, ow, tw, b34, wordN_eq, digitN_eq, minusN_eq, textN_eq]
    repeat refine ob2 ?_
    refine kcall hR.inv te_ok rfl rfl rfl rfl rfl rfl (span_ok _ (by omega) _ _ (fun _ => sign_ok _)) ?_
    simp only [go_sem, v0, tl, ow, tw, b34, wordN_eq, digitN_eq, minusN_eq, textN_eq]
    repeat refine ob2 ?_
    exact hQ
   refine sq ?_
   apply Exec.regionL te_ok
   ·intro o Q hQ
    simp only [go_sem, v0, tl, ow, tw, b34, wordN_eq, digitN_eq, minusN_eq, textN_eq]
    repeat refine ob2 ?_
    refine kcall hR.inv te_ok rfl rfl rfl rfl rfl rfl (vertex_okX _ (by omega)) ?_
    simp only [go_sem, v0, tl, ow, tw, b34, wordN_eq, digitN_eq, minusN_eq, textN_eq]
    repeat refine ob2 ?_
    exact hQ
   refine Exec.rets hR te_ok rfl rfl rfl (LeX.le ?_) (.inr ⟨_, rfl⟩)
   simp only [go_sem]
   obtain ⟨e1, e2⟩ := f_word h0 h1
   rw [e1, e2]; simp [v0]
  ·refine sq ?_
   apply Exec.regionL te_ok
   ·intro o Q hQ
    simp only [go_sem, v0, tl, ow, tw, b34, wordN_eq, digitN_eq, minusN_eq, textN_eq]
    repeat refine ob2 ?_
    refine kcall hR.inv te_ok rfl rfl rfl rfl rfl rfl (digit_ok _) ?_
    simp only [go_sem, v0, tl, ow, tw, b34, wordN_eq, digitN_eq, minusN_eq, textN_eq]
    repeat refine ob2 ?_
    exact hQ
   refine Exec.cond_split rfl (fun h2 => ?_) (fun h2 => ?_)
   ·refine sq ?_
    apply Exec.regionL te_ok
    ·intro o Q hQ
     simp only [go_sem, v0, tl, ow, tw, b34, wordN_eq, digitN_eq, minusN_eq, textN_eq]
     repeat refine ob2 ?_
     refine kcall hR.inv te_ok rfl rfl rfl rfl rfl rfl (span_ok _ (by omega) _ _ (fun _ => digit_ok _)) ?_
     simp only [go_sem, v0, tl, ow, tw, b34, wordN_eq, digitN_eq, minusN_eq, textN_eq]
     repeat refine ob2 ?_
     refine kcall hR.inv te_ok rfl rfl rfl rfl rfl rfl (valued_ok _ _ (by omega)) ?_
     simp only [go_sem, v0, tl, ow, tw, b34, wordN_eq, digitN_eq, minusN_eq, textN_eq]
     repeat refine ob2 ?_
     exact hQ
    refine Exec.rets hR te_ok rfl rfl rfl (LeX.le ?_) (.inr ⟨_, rfl⟩)
    simp only [go_sem]
    obtain ⟨e1, e2⟩ := f_digit h0 h1 h2
    rw [e1, e2]; simp [valuedT]
   ·refine sq ?_
    apply Exec.regionL te_ok
    ·intro o Q hQ
     simp only [go_sem, v0, tl, ow, tw, b34, wordN_eq, digitN_eq, minusN_eq, textN_eq]
     repeat refine ob2 ?_
     refine kcallG hR.inv te_ok rfl rfl rfl rfl rfl rfl ob1 (fun hq => span_ok _ (by omega) _ _ (fun _ => digit_ok _)) ?_
     simp only [go_sem, v0, tl, ow, tw, b34, wordN_eq, digitN_eq, minusN_eq, textN_eq]
     repeat refine ob2 ?_
     exact hQ
    refine Exec.cond_split rfl (fun h3 => ?_) (fun h3 => ?_)
    ·refine sq ?_
     apply Exec.regionL te_ok
     ·intro o Q hQ
      simp only [go_sem, v0, tl, ow, tw, b34, wordN_eq, digitN_eq, minusN_eq, textN_eq]
      repeat refine ob2 ?_
      refine kcall hR.inv te_ok rfl rfl rfl rfl rfl rfl (span_ok _ (by omega) _ _ (fun _ => digit_ok _)) ?_
      simp only [go_sem, v0, tl, ow, tw, b34, wordN_eq, digitN_eq, minusN_eq, textN_eq]
      repeat refine ob2 ?_
      refine kcall hR.inv te_ok rfl rfl rfl rfl rfl rfl (valued_ok _ _ (by omega)) ?_
      simp only [go_sem, v0, tl, ow, tw, b34, wordN_eq, digitN_eq, minusN_eq, textN_eq]
      repeat refine ob2 ?_
      exact hQ
     refine Exec.rets hR te_ok rfl rfl rfl (LeX.le ?_) (.inr ⟨_, rfl⟩)
     simp only [go_sem]
     obtain ⟨e1, e2⟩ := f_minus h0 h1 h2 h3
     rw [e1, e2]; simp
    ·refine sq ?_
     apply Exec.regionL te_ok
     ·intro o Q hQ
      simp only [go_sem, v0, tl, ow, tw, b34, wordN_eq, digitN_eq, minusN_eq, textN_eq]
      repeat refine ob2 ?_
      exact hQ
     refine Exec.cond_split rfl (fun h4 => ?_) (fun h4 => ?_)
     ·refine sq ?_
      apply Exec.regionL te_ok
      ·intro o Q hQ
       simp only [go_sem, v0, tl, ow, tw, b34, wordN_eq, digitN_eq, minusN_eq, textN_eq]
       repeat refine ob2 ?_
       refine kcall hR.inv te_ok rfl rfl rfl rfl rfl rfl (indexByte_ok _ _) ?_
       simp only [go_sem, v0, tl, ow, tw, b34, wordN_eq, digitN_eq, minusN_eq, textN_eq]
       repeat refine ob2 ?_
       exact hQ
      refine sq ?_
      refine sq ?_
      apply Exec.regionL te_ok
      ·intro o Q hQ
       simp only [go_sem, v0, tl, ow, tw, b34, wordN_eq, digitN_eq, minusN_eq, textN_eq]
       repeat refine ob2 ?_
       exact hQ
      refine Exec.cond_split rfl (fun h5 => ?_) (fun h5 => ?_)
      ·refine sq ?_
       apply Exec.regionL te_ok
       ·intro o Q hQ
        simp only [go_sem, v0, tl, ow, tw, b34, wordN_eq, digitN_eq, minusN_eq, textN_eq]
        repeat refine ob2 ?_
        exact hQ
       refine Exec.rets hR te_ok rfl rfl rfl (LeX.le ?_) (.inr ⟨_, rfl⟩)
       simp only [go_sem]
       obtain ⟨e1, e2⟩ := f_text h0 h1 h2 h3 h4
       have h6 : Lib.indexByte (s.drop 1) 34 < 0 := by simpa only [decide_eq_true_eq] using h5
       rw [e1, e2, if_pos h6, if_pos h6]; simp [v0]
      ·refine sk ?_
       refine sq ?_
       apply Exec.regionL te_ok
       ·intro o Q hQ
        simp only [go_sem, v0, tl, ow, tw, b34, wordN_eq, digitN_eq, minusN_eq, textN_eq]
        repeat refine ob2 ?_
        refine kcall hR.inv te_ok rfl rfl rfl rfl rfl rfl (valued_ok _ _ (by omega)) ?_
        simp only [go_sem, v0, tl, ow, tw, b34, wordN_eq, digitN_eq, minusN_eq, textN_eq]
        repeat refine ob2 ?_
        exact hQ
       refine Exec.rets hR te_ok rfl rfl rfl (LeX.le ?_) (.inr ⟨_, rfl⟩)
       simp only [go_sem]
       obtain ⟨e1, e2⟩ := f_text h0 h1 h2 h3 h4
       have h6 : ¬ Lib.indexByte (s.drop 1) 34 < 0 := by simpa only [decide_eq_false_iff_not] using h5
       rw [e1, e2, if_neg h6, if_neg h6]; simp
     ·refine sk ?_
      refine Exec.inBlock ?_
      refine sq ?_
      apply Exec.regionL te_ok
      ·intro o Q hQ
       simp only [go_sem, v0, tl, ow, tw, b34, wordN_eq, digitN_eq, minusN_eq, textN_eq]
       repeat refine ob2 ?_
       refine kcall hR.inv te_ok rfl rfl rfl rfl rfl rfl (signed_ok _) ?_
       simp only [go_sem, v0, tl, ow, tw, b34, wordN_eq, digitN_eq, minusN_eq, textN_eq]
       repeat refine ob2 ?_
       exact hQ
      refine Exec.rets hR te_ok rfl rfl rfl (LeX.le ?_) (.inr ⟨_, rfl⟩)
      simp only [go_sem]
      obtain ⟨e1, e2⟩ := f_sign h0 h1 h2 h3 h4
      rw [e1, e2]; simp [v0]
theorem drop_take (s : List UInt8) (a : Nat) : List.take ((s.length : Int) - (a : Int)).toNat (List.drop a s) = s.drop a := by
 rw [List.take_of_length_le]; simp
theorem lall_ok (s : List UInt8) : FnOK LaidX Tryz.prog 59 [sv s] (.fn 118 [.ptr [sv s]]) := by
 refine FnOK_of laidX_stable Tryz.func59 Tryz.ntmps59 rfl (by as_aux_lemma => kernel_rfl) (Nat.le_of_ble_eq_true rfl) (fun R hR => ?_)
 obtain ⟨_, b, cs, T, C⟩ := R
 obtain rfl : _ = Tryz.prog := hR.p
 refine sreg te_ok ?_
 refine sreg te_ok ?_
 refine Exec.rets hR te_ok rfl rfl rfl (LeX.le ?_) (.inr ⟨_, rfl⟩)
 simp only [go_sem]
theorem lex_long {s : List UInt8} (h : decide (2000 < (s.length : Int)) = true) : lexT s = [] ∧ lexA s = 0 ∧ lexE s = 3 := by
 have h' : 2000 < (s.length : Int) := of_decide_eq_true h
 unfold lexT lexA lexE; rw [if_pos h', if_pos h', if_pos h']; exact ⟨rfl, rfl, rfl⟩
theorem lex_none {s : List UInt8} {a : Nat} (h : decide (2000 < (s.length : Int)) = false) (e : (lexAll s).2 = some a) : lexT s = [] ∧ lexA s = a ∧ lexE s = 7 := by
 have h' : ¬ 2000 < (s.length : Int) := of_decide_eq_false h
 unfold lexT lexA lexE; rw [if_neg h', if_neg h', if_neg h', e]; exact ⟨rfl, rfl, rfl⟩
theorem lex_some {s : List UInt8} {l : List Tk} (h : decide (2000 < (s.length : Int)) = false) (e : lexAll s = (l, none)) : lexT s = l ∧ lexA s = 0 ∧ lexE s = 0 := by
 have h' : ¬ 2000 < (s.length : Int) := of_decide_eq_false h
 unfold lexT lexA lexE; rw [if_neg h', if_neg h', if_neg h', e]; exact ⟨rfl, rfl, rfl⟩
/-- the token at a place -/
def tokA (s : List UInt8) (a : Nat) : Tk := (firstT (s.drop (nextA s a))).at' (nextA s a : Nat)
def thenA (s : List UInt8) (a : Nat) : Nat := nextA s a + (firstT (s.drop (nextA s a))).t.length
theorem lexAt_no {s : List UInt8} {a : Nat} (h : a ≤ s.length) (hb : firstB (s.drop (nextA s a)) = false) : lexAt s a = ([], some (nextA s a)) := by rw [lexAt_eq h, if_pos hb]
theorem lexAt_end {s : List UInt8} {a : Nat} (h : a ≤ s.length) (hb : firstB (s.drop (nextA s a)) = true) (hk : (firstT (s.drop (nextA s a))).k = 5) : lexAt s a = ([tokA s a], none) := by rw [lexAt_eq h, if_neg (by rw [hb]; decide), if_pos hk]; rfl
theorem lexAt_on {s : List UInt8} {a : Nat} (h : a ≤ s.length) (hb : firstB (s.drop (nextA s a)) = true) (hk : ¬ (firstT (s.drop (nextA s a))).k = 5) : lexAt s a = (tokA s a :: (lexAt s (thenA s a)).1, (lexAt s (thenA s a)).2) := by rw [lexAt_eq h, if_neg (by rw [hb]; decide), if_neg hk]; rfl
theorem thenA_le {s : List UInt8} {a : Nat} (h : a ≤ s.length) (hb : firstB (s.drop (nextA s a)) = true) : thenA s a ≤ s.length ∧ ((firstT (s.drop (nextA s a))).k = 5 ∨ a < thenA s a) := by
 have hn := nextA_le h
 have hn2 : a ≤ nextA s a := by unfold nextA; omega
 unfold thenA
 by_cases hk : (firstT (s.drop (nextA s a))).k = 5
 ·refine ⟨?_, .inl hk⟩
  have := first_end.1 hk
  rw [this]; show nextA s a + 0 ≤ _; omega
 ·have := first_len hb hk
  simp at this
  exact ⟨by omega, .inr (by omega)⟩
theorem add_wrap {m n : Nat} (h : m + n ≤ 140737488355328) : IntKind.i64.wrap ((m : Int) + (n : Int)) = ((m + n : Nat) : Int) := by rw [wrap_id (by omega)]; omega
theorem nextA_eq (s : List UInt8) (a : Nat) : a + spanN blankI (s.drop a) = nextA s a := rfl
theorem thenA_eq (s : List UInt8) (a : Nat) : nextA s a + (firstT (s.drop (nextA s a))).t.length = thenA s a := rfl
theorem tok_snoc (l : List Tk) (t : Tk) (i : Nat) (h : i < (l ++ [t]).length) : catR l.length (fun i => tC (nth l i)) (lstR [tC t]) i = tC (nth (l ++ [t]) i) := catR_snoc tC l t i h
theorem lex_ok (s : List UInt8) (hs : s.length ≤ 140737488355328) : FnOK LaidX Tryz.prog 30 [sv s] (.tup [.sl 6 (lexT s).length (lexT s).length fun i => tC (nth (lexT s) i), iv (lexA s), iv (lexE s)]) := by
 refine FnOK_of laidX_stable Tryz.func30 Tryz.ntmps30 rfl (by as_aux_lemma => kernel_rfl) (Nat.le_of_ble_eq_true rfl) (fun R hR => ?_)
 obtain ⟨_, b, cs, T, C⟩ := R
 obtain rfl : _ = Tryz.prog := hR.p
 refine sreg te_ok ?_
 refine sq ?_
 refine sq ?_
 apply Exec.regionL te_ok
 ·intro o Q hQ
  simp only [go_sem]
  repeat refine ob2 ?_
  refine kcall hR.inv te_ok rfl rfl rfl rfl rfl rfl (lall_ok _) ?_
  simp only [go_sem]
  repeat refine ob2 ?_
  exact hQ
 refine Exec.block ?_
 refine Exec.range 1 hR.round hR.bfn rfl rfl Tryz.func118 Tryz.ntmps118 rfl (by as_aux_lemma => kernel_rfl) (Nat.le_of_ble_eq_true rfl) (fun a0 l0 r0 lo0 hlo0 hN0 hD0 hfr0 hfl0 => ?_)
 apply Exec.norm
 ·simp only [go_sem]
  rfl
 refine Exec.scope ?_
 refine sq ?_
 refine sreg te_ok ?_
 refine Exec.cond_split rfl (fun h0 => ?_) (fun h0 => ?_)
 ·refine sq ?_
  refine Exec.regStart 3 rfl ?_
  apply Exec.regPart 0 2 1 te_ok rfl
  ·intro o Q hQ
   simp only [go_sem]
   repeat refine ob2 ?_
   exact hQ
  refine Exec.yield 1 (m := 0) rfl rfl rfl rfl rfl rfl hlo0 rfl hN0 rfl (fun ag0 hag0 hdg0 => ?_)
  apply Exec.norm
  ·simp only [go_sem]
   rfl
  refine sreg te_ok ?_
  refine Exec.reg te_ok ?_
  refine Exec.begin rfl hlo0 hfl0 ?_
  apply Exec.norm
  ·simp only [go_sem]
   rfl
  refine Exec.block ?_
  refine sq ?_
  refine sreg te_ok ?_
  refine Exec.cond (t := true) rfl ?_
  simp only [reduceIte, Bool.false_eq_true]
  refine sq ?_
  apply Exec.draw (st := _) 7 3 [] [0, 1, 2, 100005] te_ok (by as_aux_lemma => kernel_rfl) (by as_aux_lemma => kernel_rfl) (by as_aux_lemma => kernel_rfl)
  ·intro o Q hQ
   simp only [go_sem]
   repeat refine ob2 ?_
   exact hQ
  refine Exec.roundEnd 1 .ret rfl hlo0 hfl0 rfl hag0 hdg0 rfl rfl rfl ?_
  apply Exec.norm
  ·simp only [go_sem]
   rfl
  refine Exec.regEnd ?_
  refine Exec.rangeEnd 1 (pd := (some .ret)) Tryz.func118 rfl (.inr ⟨_, rfl⟩) rfl rfl hlo0 hfl0 rfl rfl hN0 hD0 ?_
  apply Exec.norm
  ·simp only [go_sem]
   rfl
  refine Exec.retsM hR te_ok rfl (.cons hfr0 .nil) rfl (LeX.le ?_) (.inr ⟨_, rfl⟩)
  simp only [go_sem]
  obtain ⟨e1, e2, e3⟩ := lex_long h0
  rw [e1, e2, e3]; simp
 ·refine sk ?_
  refine sq ?_
  refine Exec.label ?_
  refine sreg te_ok ?_
  refine Exec.block ?_
  refine Exec.ownNilL 1002 0 1500 69 6 rfl rfl rfl ?_
  apply Exec.norm
  ·simp only [go_sem]
   rfl
  apply Exec.loopU [0, 1] (X := Nat × List Tk) (fun ⟨a, l⟩ => [(3, .d (iv a))]) (fun ⟨a, l⟩ => [(1002, 62, [.own 1500])]) (fun ⟨a, l⟩ => [(1500, ⟨69, 6, l.length, l.length, fun i => tC (nth l i)⟩)]) (fun ⟨a, l⟩ => s.length - a) (fun ⟨a, l⟩ => a ≤ s.length ∧ l.length ≤ a ∧ lexAll s = (l ++ (lexAt s a).1, (lexAt s a).2)) (0, [])
  case h0 =>
   exact ⟨by omega, by simp, rfl⟩
  case hw =>
   simp only [go_sem]; exact fun i hi => absurd hi (Nat.not_lt_zero i)
  case body =>
   rintro ⟨a, l⟩ hx ih0
   try simp only at hx
   have h2000 : s.length ≤ 2000 := by have := of_decide_eq_false h0; omega
   have dt := drop_take s
   have hn := nextA_le hx.1
   have sp := spanN_le blankI (s.drop a)
   have spl : (s.drop a).length = s.length - a := by simp
   have w1 := add_wrap (m := a) (n := spanN blankI (s.drop a)) (by omega)
   apply Exec.norm
   ·simp only [go_sem, dt, w1, nextA_eq]
    rfl
   refine Exec.block ?_
   refine sq ?_
   apply Exec.regionL te_ok
   ·intro o Q hQ
    simp only [go_sem, dt, w1, nextA_eq]
    repeat refine ob2 ?_
    exact hQ
   refine sq ?_
   apply Exec.regionL te_ok
   ·intro o Q hQ
    simp only [go_sem, dt, w1, nextA_eq]
    repeat refine ob2 ?_
    refine kcall hR.inv te_ok rfl rfl rfl rfl rfl rfl (span_ok _ (by simp; omega) _ _ (fun _ => blank_ok _)) ?_
    simp only [go_sem, dt, w1, nextA_eq]
    repeat refine ob2 ?_
    exact hQ
   refine sq ?_
   apply Exec.regionL te_ok
   ·intro o Q hQ
    simp only [go_sem, dt, w1, nextA_eq]
    repeat refine ob2 ?_
    refine kcall hR.inv te_ok rfl rfl rfl rfl rfl rfl (first_ok _ (by simp; omega)) ?_
    simp only [go_sem, dt, w1, nextA_eq]
    repeat refine ob2 ?_
    exact hQ
   refine sq ?_
   refine sq ?_
   apply Exec.regionL te_ok
   ·intro o Q hQ
    simp only [go_sem, dt, w1, nextA_eq]
    repeat refine ob2 ?_
    exact hQ
   refine Exec.cond_split rfl (fun h2 => ?_) (fun h2 => ?_)
   ·refine sq ?_
    refine Exec.regStart 4 rfl ?_
    apply Exec.regPart 0 3 1 te_ok rfl
    ·intro o Q hQ
     simp only [go_sem, dt, w1, nextA_eq]
     repeat refine ob2 ?_
     exact hQ
    refine Exec.yield 1 (m := 0) rfl rfl rfl rfl rfl rfl hlo0 rfl hN0 rfl (fun ag1 hag1 hdg1 => ?_)
    apply Exec.norm
    ·simp only [go_sem, dt, w1, nextA_eq]
     rfl
    refine sq ?_
    apply Exec.regionL te_ok
    ·intro o Q hQ
     simp only [go_sem, dt, w1, nextA_eq]
     repeat refine ob2 ?_
     exact hQ
    apply Exec.regionL te_ok
    ·intro o Q hQ
     simp only [go_sem, dt, w1, nextA_eq]
     repeat refine ob2 ?_
     exact hQ
    refine Exec.begin rfl hlo0 hfl0 ?_
    apply Exec.norm
    ·simp only [go_sem, dt, w1, nextA_eq]
     rfl
    refine Exec.block ?_
    refine sq ?_
    refine sq ?_
    apply Exec.regionL te_ok
    ·intro o Q hQ
     simp only [go_sem, dt, w1, nextA_eq]
     repeat refine ob2 ?_
     exact hQ
    refine Exec.cond (t := true) rfl ?_
    simp only [reduceIte, Bool.false_eq_true]
    refine sq ?_
    apply Exec.draw (st := _) 7 3 [] [0, 1, 2, 100005] te_ok (by as_aux_lemma => kernel_rfl) (by as_aux_lemma => kernel_rfl) (by as_aux_lemma => kernel_rfl)
    ·intro o Q hQ
     simp only [go_sem, dt, w1, nextA_eq]
     repeat refine ob2 ?_
     exact hQ
    refine Exec.roundEnd 1 .ret rfl hlo0 hfl0 rfl hag1 hdg1 rfl rfl rfl ?_
    apply Exec.norm
    ·simp only [go_sem, dt, w1, nextA_eq]
     rfl
    refine Exec.regEnd ?_
    refine Exec.rangeEnd 1 (pd := (some .ret)) Tryz.func118 rfl (.inr ⟨_, rfl⟩) rfl rfl hlo0 hfl0 rfl rfl hN0 hD0 ?_
    apply Exec.norm
    ·simp only [go_sem, dt, w1, nextA_eq]
     rfl
    refine Exec.retsM hR te_ok rfl (.cons hfr0 .nil) rfl (LeX.le ?_) (.inr ⟨_, rfl⟩)
    simp only [go_sem]
    have hb : firstB (s.drop (nextA s a)) = false := by simpa using h2
    obtain ⟨e1, e2, e3⟩ := lex_none (a := nextA s a) h0 (by rw [hx.2.2, lexAt_no hx.1 hb])
    rw [e1, e2, e3]; simp
   ·have hb : firstB (s.drop (nextA s a)) = true := by simpa using h2
    obtain ⟨t1, t2⟩ := thenA_le hx.1 hb
    have w2 := add_wrap (m := nextA s a) (n := (firstT (s.drop (nextA s a))).t.length) (by show thenA s a ≤ _; omega)
    refine sk ?_
    refine sq ?_
    apply Exec.regionL te_ok
    ·intro o Q hQ
     simp only [go_sem, dt, w1, nextA_eq, w2, thenA_eq]
     repeat refine ob2 ?_
     exact hQ
    refine sq ?_
    apply Exec.regionL te_ok
    ·intro o Q hQ
     simp only [go_sem, dt, w1, nextA_eq, w2, thenA_eq]
     repeat refine ob2 ?_
     exact hQ
    refine sq ?_
    refine Exec.regStart 9 rfl ?_
    apply Exec.regPart 0 2 7 te_ok rfl
    ·intro o Q hQ
     simp only [go_sem, dt, w1, nextA_eq, w2, thenA_eq]
     repeat refine ob2 ?_
     exact hQ
    refine Exec.yield 1 (m := 6) rfl rfl rfl rfl rfl rfl hlo0 rfl hN0 rfl (fun ag2 hag2 hdg2 => ?_)
    apply Exec.norm
    ·simp only [go_sem, dt, w1, nextA_eq, w2, thenA_eq]
     rfl
    refine sq ?_
    apply Exec.regionL te_ok
    ·intro o Q hQ
     simp only [go_sem, dt, w1, nextA_eq, w2, thenA_eq]
     repeat refine ob2 ?_
     exact hQ
    apply Exec.regionL te_ok
    ·intro o Q hQ
     simp only [go_sem, dt, w1, nextA_eq, w2, thenA_eq]
     repeat refine ob2 ?_
     exact hQ
    refine Exec.begin rfl hlo0 hfl0 ?_
    apply Exec.norm
    ·simp only [go_sem, dt, w1, nextA_eq, w2, thenA_eq]
     rfl
    refine Exec.block ?_
    refine sq ?_
    refine sq ?_
    apply Exec.regionL te_ok
    ·intro o Q hQ
     simp only [go_sem, dt, w1, nextA_eq, w2, thenA_eq]
     repeat refine ob2 ?_
     exact hQ
    refine Exec.cond (t := false) rfl ?_
    simp only [reduceIte, Bool.false_eq_true]
    refine sk ?_
    apply Exec.regionL te_ok
    ·intro o Q hQ
     simp only [go_sem, dt, w1, nextA_eq, w2, thenA_eq]
     repeat refine ob2 ?_
     exact hQ
    refine Exec.inBlock ?_
    refine Exec.roundEnd 1 .fall rfl hlo0 hfl0 rfl hag2 hdg2 rfl rfl rfl ?_
    apply Exec.norm
    ·simp only [go_sem, dt, w1, nextA_eq, w2, thenA_eq]
     rfl
    apply Exec.regPart 3 6 0 te_ok rfl
    ·intro o Q hQ
     simp only [go_sem, dt, w1, nextA_eq, w2, thenA_eq]
     repeat refine ob2 ?_
     exact hQ
    refine Exec.regEnd ?_
    refine Exec.cond_split rfl (fun h5 => ?_) (fun h5 => ?_)
    ·refine Exec.exit rfl ?_
     refine Exec.inScope ?_
     refine Exec.rangeEnd 1 (pd := none) Tryz.func118 rfl (.inl rfl) rfl rfl hlo0 hfl0 rfl rfl hN0 hD0 ?_
     apply Exec.norm
     ·simp only [go_sem, dt, w1, nextA_eq, w2, thenA_eq]
      rfl
     refine Exec.inBlock ?_
     refine sq ?_
     apply Exec.regionL te_ok
     ·intro o Q hQ
      simp only [go_sem, dt, w1, nextA_eq, w2, thenA_eq]
      repeat refine ob2 ?_
      exact hQ
     refine Exec.retsM hR te_ok rfl (.cons hfr0 .nil) rfl (LeX.le ?_) (.inr ⟨_, rfl⟩)
     simp only [go_sem]
     have hk : (firstT (s.drop (nextA s a))).k = 5 := by simpa using h5
     obtain ⟨e1, e2, e3⟩ := lex_some (l := l ++ [tokA s a]) h0 (by rw [hx.2.2, lexAt_end hx.1 hb hk])
     rw [e1, e2, e3]
     exact ⟨by simp, .inl (by simp), .inl (tok_snoc l (tokA s a)), rfl, rfl⟩
    ·refine sk ?_
     refine Exec.inBlock ?_
     refine Exec.back (ih0 (thenA s a, l ++ [tokA s a]) ?_ ?_) ?_ ?_ ?_ ?_ ?_ ?_ ?_
     ·try simp only
      have hk : ¬ (firstT (s.drop (nextA s a))).k = 5 := by simpa using h5
      have := t2.resolve_left hk
      exact ⟨t1, by simp; omega, by rw [hx.2.2, lexAt_on hx.1 hb hk]; simp⟩
     ·try simp only
      have hk : ¬ (firstT (s.drop (nextA s a))).k = 5 := by simpa using h5
      have := t2.resolve_left hk
      omega
     ·rfl
     ·rfl
     ·(simp only [go_sem])
     ·(simp only [go_sem])
     ·simp only [go_sem]
      exact ⟨by simp, .inl (by simp), tok_snoc l (tokA s a)⟩
     ·simp only [go_sem, dt, w1, nextA_eq, w2, thenA_eq]
     ·rfl
end Go.Proofs.YtonchjamoblioaaGreatDoor
namespace Go.Proofs.YtonchjamoblioaaGreatDoor
open Go.Kin
set_option maxRecDepth 100000
set_option maxHeartbeats 0
def pR (nm : Bool) (n : Int) : Bool := digitI n || (nm && (letterI n || n == 95))
theorem pR_sign : pR true = signI := by
 funext n; unfold pR signI
 cases digitI n <;> cases letterI n <;> cases (n == 95) <;> rfl
theorem pR_digit : pR false = digitI := by
 funext n; unfold pR; simp
theorem indexByte_drop {s : List UInt8} {i : Nat} (h : i < s.length) (c : UInt8) : Lib.indexByte (s.drop i) c = if (s.getD i 0 == c) = true then 0 else if (Lib.indexByte (s.drop (i + 1)) c == -1) = true then -1 else Lib.indexByte (s.drop (i + 1)) c + 1 := by
 rw [drop_getD h]; rfl
/-- how many bytes a text has, both quotes with it -/
def textL (s : List UInt8) : Int := if Lib.indexByte (s.drop 1) 34 < 0 then 0 else Lib.indexByte (s.drop 1) 34 + 2
/-- the index, as far as it is known at a place -/
def ibAt (s : List UInt8) (a i : Nat) : Int := if Lib.indexByte (s.drop i) 34 < 0 then 0 else Lib.indexByte (s.drop i) 34 + (i : Int) - (a : Int) + 1
theorem ibAt_begin {s : List UInt8} {a : Nat} : textL (s.drop a) = ibAt s a (a + 1) := by
 unfold textL ibAt
 rw [List.drop_drop]
 split
 ·rfl
 ·omega
theorem ibAt_step {s : List UInt8} {a i : Nat} (h : i < s.length) (hq : (((s.getD i 0).toNat : Int) == 34) = false) : ibAt s a i = ibAt s a (i + 1) := by
 have h1 : (s.getD i 0 == 34) = false := by rw [← hq]; exact (u8_is _ 34 (by omega)).symm
 have hb := indexByte_lt (s.drop (i + 1)) 34
 unfold ibAt
 rw [indexByte_drop h, h1]
 simp only [Bool.false_eq_true, if_false]
 by_cases h2 : Lib.indexByte (s.drop (i + 1)) 34 = -1
 ·rw [h2]; simp
 ·have h3 : (Lib.indexByte (s.drop (i + 1)) 34 == -1) = false := by simpa using h2
  rw [h3]; simp only [Bool.false_eq_true, if_false]
  rw [if_neg (by omega), if_neg (by omega)]; omega
theorem ibAt_here {s : List UInt8} {a i : Nat} (h : i < s.length) (hq : (((s.getD i 0).toNat : Int) == 34) = true) : ibAt s a i = (i : Int) - (a : Int) + 1 := by
 have h1 : (s.getD i 0 == 34) = true := by rw [← hq]; exact (u8_is _ 34 (by omega)).symm
 unfold ibAt
 rw [indexByte_drop h, h1]; simp
theorem ibAt_end {s : List UInt8} {a i : Nat} (h : s.length ≤ i) : ibAt s a i = 0 := by
 unfold ibAt; rw [List.drop_eq_nil_of_le h]; simp [Lib.indexByte]
theorem run_end {p : Int → Bool} {s : List UInt8} {i : Nat} (h : (decide ((i : Int) < (s.length : Int)) && p ((s.getD i 0).toNat : Int)) = false) : spanN p (s.drop i) = 0 := by
 by_cases hi : i < s.length
 ·have hd : decide ((i : Int) < (s.length : Int)) = true := decide_eq_true (by omega)
  rw [hd, Bool.true_and] at h
  rw [spanN_drop hi h]; simp
 ·rw [List.drop_eq_nil_of_le (by omega)]; rfl
theorem rletter_ok (n : Int) : FnOK LaidX Tryz.prog 188 [u8 n] (bv (letterI n)) := by
 refine FnOK_of laidX_stable Tryz.func188 Tryz.ntmps188 rfl (by as_aux_lemma => kernel_rfl) (Nat.le_of_ble_eq_true rfl) (fun R hR => ?_)
 obtain ⟨_, b, cs, T, C⟩ := R
 obtain rfl : _ = Tryz.prog := hR.p
 refine sreg te_ok ?_
 refine sreg te_ok ?_
 refine Exec.rets hR te_ok rfl rfl rfl (LeX.le ?_) (.inr ⟨_, rfl⟩)
 simp only [go_sem, letterI]
theorem rdigit_ok (n : Int) : FnOK LaidX Tryz.prog 190 [u8 n] (bv (digitI n)) := by
 refine FnOK_of laidX_stable Tryz.func190 Tryz.ntmps190 rfl (by as_aux_lemma => kernel_rfl) (Nat.le_of_ble_eq_true rfl) (fun R hR => ?_)
 obtain ⟨_, b, cs, T, C⟩ := R
 obtain rfl : _ = Tryz.prog := hR.p
 refine sreg te_ok ?_
 refine sreg te_ok ?_
 refine Exec.rets hR te_ok rfl rfl rfl (LeX.le ?_) (.inr ⟨_, rfl⟩)
 simp only [go_sem, digitI]
theorem run_ok (s : List UInt8) (hs : s.length ≤ 140737488351232) (a : Nat) (ha : a ≤ s.length) (nm : Bool) : FnOK LaidX Tryz.prog 189 [sv s, iv a, bv nm] (iv (spanN (pR nm) (s.drop a))) := by
 refine FnOK_of laidX_stable Tryz.func189 Tryz.ntmps189 rfl (by as_aux_lemma => kernel_rfl) (Nat.le_of_ble_eq_true rfl) (fun R hR => ?_)
 obtain ⟨_, b, cs, T, C⟩ := R
 obtain rfl : _ = Tryz.prog := hR.p
 refine sreg te_ok ?_
 refine sreg te_ok ?_
 refine sq ?_
 refine Exec.block ?_
 apply Exec.loopU [0, 1, 2] (X := Nat) (fun n => [(7, .d (iv n))]) (fun n => []) (fun n => []) (fun n => s.length - (a + n)) (fun n => a + n ≤ s.length ∧ spanN (pR nm) (s.drop a) = n + spanN (pR nm) (s.drop (a + n))) 0
 case h0 =>
  exact ⟨by omega, by simp⟩
 case hw =>
  simp only [go_sem]
 case body =>
  rintro n hx ih0
  try simp only at hx
  have w1 := add_wrap (m := a) (n := n) (by omega)
  have wn : IntKind.i64.wrap ((n : Int) + 1) = ((n + 1 : Nat) : Int) := by rw [wrap_id (by omega)]; omega
  apply Exec.norm
  ·simp only [go_sem, w1, wn]
   rfl
  refine sq ?_
  refine sq ?_
  apply Exec.regionL te_ok
  ·intro o Q hQ
   simp only [go_sem, w1, wn]
   repeat refine ob2 ?_
   refine kcallG hR.inv te_ok rfl rfl rfl rfl rfl rfl ob1 (fun hq => rdigit_ok _) ?_
   simp only [go_sem, w1, wn]
   repeat refine ob2 ?_
   refine kcallG hR.inv te_ok rfl rfl rfl rfl rfl rfl ob1 (fun hq => rletter_ok _) ?_
   simp only [go_sem, w1, wn]
   repeat refine ob2 ?_
   exact hQ
  refine Exec.cond_split rfl (fun h0 => ?_) (fun h0 => ?_)
  ·have hi : a + n < s.length ∧ pR nm ((s.getD (a + n) 0).toNat : Int) = true := by rw [Bool.and_eq_true] at h0; exact ⟨by have := of_decide_eq_true h0.1; omega, h0.2⟩
   refine sk ?_
   refine Exec.block ?_
   apply Exec.regionL te_ok
   ·intro o Q hQ
    simp only [go_sem, w1, wn]
    repeat refine ob2 ?_
    exact hQ
   refine Exec.inBlock ?_
   refine Exec.back (ih0 (n + 1) ?_ ?_) ?_ ?_ ?_ ?_ ?_ ?_ ?_
   ·try simp only
    have := hi.1
    exact ⟨by omega, by rw [hx.2, spanN_drop hi.1 hi.2, if_pos rfl, Nat.add_assoc a n 1]; omega⟩
   ·try simp only
    have := hi.1
    omega
   ·rfl
   ·rfl
   ·(simp only [go_sem, w1, wn])
   ·(simp only [go_sem, w1, wn])
   ·(simp only [go_sem, w1, wn])
   ·simp only [go_sem, w1, wn]
   ·rfl
  ·refine Exec.exit rfl ?_
   refine sq ?_
   apply Exec.regionL te_ok
   ·intro o Q hQ
    simp only [go_sem, w1, wn]
    repeat refine ob2 ?_
    exact hQ
   refine Exec.rets hR te_ok rfl rfl rfl (LeX.le ?_) (.inr ⟨_, rfl⟩)
   simp only [go_sem]
   have e := run_end (p := pR nm) h0
   rw [hx.2, e]; simp
theorem rtext_ok (s : List UInt8) (hs : s.length ≤ 140737488351232) (a : Nat) (ha : a < s.length) : FnOK LaidX Tryz.prog 191 [sv s, iv a] (iv (textL (s.drop a))) := by
 refine FnOK_of laidX_stable Tryz.func191 Tryz.ntmps191 rfl (by as_aux_lemma => kernel_rfl) (Nat.le_of_ble_eq_true rfl) (fun R hR => ?_)
 obtain ⟨_, b, cs, T, C⟩ := R
 obtain rfl : _ = Tryz.prog := hR.p
 have wa : IntKind.i64.wrap ((a : Int) + 1) = ((a + 1 : Nat) : Int) := by rw [wrap_id (by omega)]; omega
 refine sq ?_
 apply Exec.regionL te_ok
 ·intro o Q hQ
  simp only [go_sem, wa]
  repeat refine ob2 ?_
  exact hQ
 refine sq ?_
 refine sq ?_
 apply Exec.regionL te_ok
 ·intro o Q hQ
  simp only [go_sem, wa]
  repeat refine ob2 ?_
  exact hQ
 refine Exec.block ?_
 apply Exec.loopU [0, 1] (X := Nat) (fun i => [(5, .d (iv i))]) (fun i => []) (fun i => []) (fun i => s.length - i) (fun i => a + 1 ≤ i ∧ i ≤ s.length ∧ textL (s.drop a) = ibAt s a i) (a + 1)
 case h0 =>
  exact ⟨by omega, by omega, ibAt_begin⟩
 case hw =>
  simp only [go_sem, wa]
 case body =>
  rintro i hx ih0
  try simp only at hx
  apply Exec.norm
  ·simp only [go_sem, wa]
   rfl
  refine sq ?_
  refine sq ?_
  apply Exec.regionL te_ok
  ·intro o Q hQ
   simp only [go_sem, wa]
   repeat refine ob2 ?_
   exact hQ
  refine Exec.cond_split rfl (fun h0 => ?_) (fun h0 => ?_)
  ·have hi : i < s.length := by simp at h0; omega
   have hwi : IntKind.i64.wrap ((i : Int) + 1) = ((i + 1 : Nat) : Int) := by rw [wrap_id (by constructor <;> omega)]; simp
   refine sk ?_
   refine sq ?_
   refine Exec.block ?_
   refine sq ?_
   apply Exec.regionL te_ok
   ·intro o Q hQ
    simp only [go_sem, wa, hwi]
    repeat refine ob2 ?_
    exact hQ
   refine Exec.cond_split rfl (fun h1 => ?_) (fun h1 => ?_)
   ·have w2 : IntKind.i64.wrap ((i : Int) - (a : Int)) = (i : Int) - (a : Int) := wrap_id (by omega)
    have w3 : IntKind.i64.wrap ((i : Int) - (a : Int) + 1) = (i : Int) - (a : Int) + 1 := wrap_id (by omega)
    refine sq ?_
    apply Exec.regionL te_ok
    ·intro o Q hQ
     simp only [go_sem, wa, hwi, w2, w3]
     repeat refine ob2 ?_
     exact hQ
    refine Exec.rets hR te_ok rfl rfl rfl (LeX.le ?_) (.inr ⟨_, rfl⟩)
    simp only [go_sem]
    rw [hx.2.2, ibAt_here hi h1]
   ·refine sk ?_
    refine Exec.inBlock ?_
    apply Exec.regionL te_ok
    ·intro o Q hQ
     simp only [go_sem, wa, hwi]
     repeat refine ob2 ?_
     exact hQ
    refine Exec.back (ih0 (i + 1) ?_ ?_) ?_ ?_ ?_ ?_ ?_ ?_ ?_
    ·try simp only
     exact ⟨by omega, by omega, by rw [hx.2.2, ibAt_step hi h1]⟩
    ·try simp only
     omega
    ·rfl
    ·rfl
    ·(simp only [go_sem, wa, hwi])
    ·(simp only [go_sem, wa, hwi])
    ·(simp only [go_sem, wa, hwi])
    ·simp only [go_sem, wa, hwi]
    ·rfl
  ·refine Exec.exit rfl ?_
   refine sq ?_
   apply Exec.regionL te_ok
   ·intro o Q hQ
    simp only [go_sem, wa]
    repeat refine ob2 ?_
    exact hQ
   refine Exec.rets hR te_ok rfl rfl rfl (LeX.le ?_) (.inr ⟨_, rfl⟩)
   simp only [go_sem]
   rw [hx.2.2, ibAt_end (by simp at h0; omega)]
theorem rsigns_ok  : FnOK LaidX Tryz.prog 193 [] (.sl 1 20 20 fun i => [sv (nth signsR i)]) := by
 refine FnOK_of laidX_stable Tryz.func193 Tryz.ntmps193 rfl (by as_aux_lemma => kernel_rfl) (Nat.le_of_ble_eq_true rfl) (fun R hR => ?_)
 obtain ⟨_, b, cs, T, C⟩ := R
 obtain rfl : _ = Tryz.prog := hR.p
 refine sreg te_ok ?_
 refine sreg te_ok ?_
 refine Exec.rets hR te_ok rfl rfl rfl (LeX.le ?_) (.inr ⟨_, rfl⟩)
 simp only [go_sem]
 exact fun i hi => lst_row (fun x => [sv x]) signsR hi
end Go.Proofs.YtonchjamoblioaaGreatDoor
