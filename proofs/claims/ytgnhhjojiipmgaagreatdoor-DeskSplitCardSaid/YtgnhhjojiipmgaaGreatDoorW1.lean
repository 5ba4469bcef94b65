/- Steps of a function body on data, and contracts of the functions of the seat, walked. -/
import Derived.Test.YtgnhhjojiipmgaaGreatDoorWSh
import Derived.Test.YtgnhhjojiipmgaaGreatDoorKDraw
import Derived.Test.YtgnhhjojiipmgaaGreatDoorKAttr
import Derived.Test.YtgnhhjojiipmgaaGreatDoorKFrz
import Derived.Test.YtgnhhjojiipmgaaGreatDoorKNil
import Derived.Test.YtgnhhjojiipmgaaGreatDoorKWk
import Derived.Test.YtgnhhjojiipmgaaGreatDoorKOb2
set_option linter.unusedSimpArgs false
set_option linter.unusedVariables false
set_option linter.unusedSectionVars false
namespace Go.Proofs.YtgnhhjojiipmgaaGreatDoor
open Go.Kin
set_option maxRecDepth 100000
set_option maxHeartbeats 0
/-- what the program's variables hold, as far as the example looks at them -/
structure LaidW (w : World) : Prop where
  sp : Lib.TabIs Tryz.prog w "strings.asciiSpace" .u8 Lib.asciiSpaceTab
theorem laidW_stable : Stable LaidW := fun w w' h hb => ⟨var_below h.sp hb⟩
abbrev iv (n : Int) : D := .v (.int .i64 n)
abbrev u8 (n : Int) : D := .v (.int .u8 n)
abbrev sv (s : List UInt8) : D := .v (.string (mkS s))
abbrev bv (b : Bool) : D := .v (.bool b)
abbrev I64 (n : Int) : Prop := -9223372036854775808 ≤ n ∧ n ≤ 9223372036854775807
abbrev strsD (l : List (List UInt8)) : D := .sl 1 l.length l.length fun i => [sv (nth l i)]
attribute [go_sem] bytes_lit te_1 te_2 te_3 te_4 te_5 te_9 te_21 te_23 te_27 te_30 te_43 bytes_mkS
attribute [go_sem] iv sv u8 bv putSl strsD
theorem lit_mkS (l : List UInt8) : (ByteArray.mk l.toArray) = mkS l := rfl
attribute [go_sem] lit_mkS
theorem mkS_back (s : List UInt8) : (mkS s).data.toList = s := by simp [mkS]
theorem trimL_ok (s : List UInt8) : FnOK LaidW Tryz.prog 30 [sv s, sv [32]] (sv (Lib.trimLeftB s 32)) :=
  FnOK.lib ⟨Tryz.f30, Tryz.func30, by kernel_rfl, by kernel_rfl⟩ fun w Z vs hI hr => by
    obtain rfl := rd_two hr
    refine (Tryz.strings_TrimLeft_one (mkS s) 32 (by decide) w).mono ?_
    rintro e w' ⟨rfl, rfl⟩
    exact ⟨by rw [mkS_back]; rfl, RowKit.Below.refl _ _⟩
theorem indexByte_ok (s : List UInt8) (c : Int) : FnOK LaidW Tryz.prog 31 [sv s, u8 c] (iv (Lib.indexByte s c.toNat.toUInt8)) :=
  FnOK.lib ⟨Tryz.f31, Tryz.func31, by kernel_rfl, by kernel_rfl⟩ fun w Z vs hI hr => by
    obtain rfl := rd_two hr
    refine (Tryz.strings_IndexByte (mkS s) c w).mono ?_
    rintro e w' ⟨rfl, rfl⟩
    exact ⟨by rw [mkS_back], RowKit.Below.refl _ _⟩
theorem contains_ok (s : List UInt8) (c : UInt8) : FnOK LaidW Tryz.prog 9 [sv s, sv [c]] (bv (decide (c ∈ s))) :=
  FnOK.lib ⟨Tryz.f9, Tryz.func9, by kernel_rfl, by kernel_rfl⟩ fun w Z vs hI hr => by
    obtain rfl := rd_two hr
    refine (Tryz.strings_Contains_one (mkS s) c w).mono ?_
    rintro e w' ⟨rfl, rfl⟩
    exact ⟨by rw [mkS_back, index_mem], RowKit.Below.refl _ _⟩
theorem take_nth {α : Type} [Inhabited α] {l : List α} {i : Nat} (h : i < l.length) : l.take (i + 1) = l.take i ++ [nth l i] := take_succ_nth h
theorem same_step {α : Type} [Inhabited α] {x y : List α} {i : Nat} (hl : x.length = y.length) (h : i < x.length) (hp : x.take i = y.take i) : (x.take (i + 1) = y.take (i + 1) ↔ nth x i = nth y i) := by
  rw [take_nth h, take_nth (by omega), hp]; simp
theorem sameT_ok (x y : List (List UInt8)) (hx0 : x.length ≤ 140737488355328) (hy0 : y.length ≤ 140737488355328) : FnOK LaidW Tryz.prog 8 [strsD x, strsD y] (bv (decide (x = y))) := by
  refine FnOK_of laidW_stable Tryz.func8 Tryz.ntmps8 rfl (by as_aux_lemma => kernel_rfl) (Nat.le_of_ble_eq_true rfl) (fun R hR => ?_)
  obtain ⟨_, b, cs, T, C⟩ := R
  obtain rfl : _ = Tryz.prog := hR.p
  refine Exec.seq ?_
  apply Exec.regionL te_ok
  · intro ops' Q hQ
    simp only [go_sem]
    repeat refine ob2 ?_
    exact hQ
  refine Exec.seq ?_
  refine Exec.seq ?_
  apply Exec.regionL te_ok
  · intro ops' Q hQ
    simp only [go_sem]
    repeat refine ob2 ?_
    exact hQ
  refine Exec.cond_split rfl (fun h0 => ?_) (fun h0 => ?_)
  · skip
    refine Exec.seq ?_
    apply Exec.regionL te_ok
    · intro ops' Q hQ
      simp only [go_sem]
      repeat refine ob2 ?_
      exact hQ
    refine Exec.rets hR te_ok rfl rfl rfl (LeX.le ?_) (.inr ⟨_, rfl⟩)
    simp only [go_sem]
    have : x ≠ y := fun e => by subst e; simp at h0
    simp [this]
  · skip
    have hl : x.length = y.length := by simp at h0; omega
    refine Exec.skip ?_
    refine Exec.seq ?_
    refine Exec.seq ?_
    apply Exec.regionL te_ok
    · intro ops' Q hQ
      simp only [go_sem]
      repeat refine ob2 ?_
      exact hQ
    refine Exec.block ?_
    apply Exec.loopU [0, 1] (X := Nat) (fun i => [(5, .d (iv i))]) (fun i => []) (fun i => []) (fun i => x.length - i) (fun i => i ≤ x.length ∧ x.take i = y.take i) 0
    case h0 =>
      simp
    case hw =>
      simp only [go_sem]
    case body =>
      rintro i hx ih0
      try simp only at hx
      apply Exec.norm
      · simp only [go_sem]
        rfl
      refine Exec.seq ?_
      refine Exec.seq ?_
      apply Exec.regionL te_ok
      · intro ops' Q hQ
        simp only [go_sem]
        repeat refine ob2 ?_
        exact hQ
      refine Exec.cond_split rfl (fun h1 => ?_) (fun h1 => ?_)
      · skip
        have hi : i < x.length := by simp at h1; omega
        have hwi : IntKind.i64.wrap ((i : Int) + 1) = ((i + 1 : Nat) : Int) := by rw [wrap_id (by constructor <;> omega)]; simp
        refine Exec.skip ?_
        refine Exec.seq ?_
        refine Exec.block ?_
        refine Exec.seq ?_
        apply Exec.draw (st := _) 10 9 [] [] te_ok (by as_aux_lemma => kernel_rfl) (by as_aux_lemma => kernel_rfl) (by as_aux_lemma => kernel_rfl)
        · intro ops' Q hQ
          simp only [go_sem, hwi]
          repeat refine ob2 ?_
          exact hQ
        refine Exec.cond_split rfl (fun h2 => ?_) (fun h2 => ?_)
        · skip
          refine Exec.seq ?_
          apply Exec.regionL te_ok
          · intro ops' Q hQ
            simp only [go_sem, hwi]
            repeat refine ob2 ?_
            exact hQ
          refine Exec.rets hR te_ok rfl rfl rfl (LeX.le ?_) (.inr ⟨_, rfl⟩)
          simp only [go_sem]
          have : x ≠ y := fun e => by subst e; simp at h2
          simp [this]
        · skip
          refine Exec.skip ?_
          refine Exec.inBlock ?_
          apply Exec.regionL te_ok
          · intro ops' Q hQ
            simp only [go_sem, hwi]
            repeat refine ob2 ?_
            exact hQ
          refine Exec.back (ih0 (i + 1) ?_ ?_) ?_ ?_ ?_ ?_ ?_ ?_ ?_
          · try simp only
            exact ⟨by omega, (same_step hl hi hx.2).2 (by simpa using h2)⟩
          · try simp only
            omega
          · rfl
          · rfl
          · (simp only [go_sem, hwi])
          · (simp only [go_sem, hwi])
          · (simp only [go_sem, hwi])
          · simp only [go_sem, hwi]
          · rfl
      · skip
        refine Exec.exit rfl ?_
        refine Exec.seq ?_
        apply Exec.regionL te_ok
        · intro ops' Q hQ
          simp only [go_sem]
          repeat refine ob2 ?_
          exact hQ
        refine Exec.rets hR te_ok rfl rfl rfl (LeX.le ?_) (.inr ⟨_, rfl⟩)
        simp only [go_sem]
        have : x = y := by have := hx.2; simp at h1; rw [List.take_of_length_le (by omega), List.take_of_length_le (by omega)] at this; exact this
        simp [this]
end Go.Proofs.YtgnhhjojiipmgaaGreatDoor
namespace Go.Proofs.YtgnhhjojiipmgaaGreatDoor
open Go.Kin
set_option maxRecDepth 100000
set_option maxHeartbeats 0
def wL (s : List UInt8) : List (List UInt8) := (wA s).getD []
def wB (s : List UInt8) : Bool := (wA s).isSome
theorem dropD {s : List UInt8} {i : Nat} (h : i < s.length) : s.drop i = s.getD i 0 :: s.drop (i + 1) := by
  rw [List.drop_eq_getElem_cons h, List.getD_eq_getElem?_getD, List.getElem?_eq_getElem h]; rfl
theorem byte_is {a : UInt8} {n : Nat} (hn : n < 256) {b : Bool} (h : (((a.toNat : Nat) : Int) == ((n : Nat) : Int)) = b) : b = decide (a = UInt8.ofNat n) := by
  rw [← h, Bool.eq_iff_iff]
  simp only [beq_iff_eq, decide_eq_true_eq]
  rw [← UInt8.toNat_inj, UInt8.toNat_ofNat', Nat.mod_eq_of_lt (by simpa using hn)]
  omega
theorem skip_at {s : List UInt8} {i : Nat} (h : i < s.length) (hc : s.getD i 0 = 32) : wA (s.drop i) = wA (s.drop (i + 1)) := by
  rw [dropD h, hc, wA_skip]
theorem q_lem {s : List UInt8} {i k : Nat} (hi : i < s.length) (hc : s.getD i 0 = 34) (hk : i + 1 ≤ k) (hs : spn 34 (s.drop (i + 1)) = k - (i + 1)) :
    (s.length ≤ k → wA (s.drop i) = none) ∧ (k < s.length → nxt (s.drop (k + 1)) = false → wA (s.drop i) = none) ∧ (k < s.length → nxt (s.drop (k + 1)) = true → wA (s.drop i) = (wA (s.drop (k + 1))).map ((s.drop i).take (k + 1 - i) :: ·)) := by
  have e := dropD hi
  have h32 : s.getD i 0 ≠ 32 := by rw [hc]; decide
  have hw : wd (s.getD i 0) (s.drop (i + 1)) = if spn 34 (s.drop (i + 1)) < (s.drop (i + 1)).length ∧ nxt ((s.drop i).drop (spn 34 (s.drop (i + 1)) + 2)) = true then some ((s.drop i).take (spn 34 (s.drop (i + 1)) + 2), (s.drop i).drop (spn 34 (s.drop (i + 1)) + 2)) else none := by
    unfold wd
    rw [if_pos hc, ← e]
  rw [hs, List.length_drop, List.drop_drop, show i + (k - (i + 1) + 2) = k + 1 by omega, show k - (i + 1) + 2 = k + 1 - i by omega] at hw
  refine ⟨fun h => ?_, fun h hn => ?_, fun h hn => ?_⟩
  · rw [if_neg (by omega)] at hw
    rw [e]; exact wA_none h32 hw
  · rw [if_neg (by rw [hn]; simp)] at hw
    rw [e]; exact wA_none h32 hw
  · rw [if_pos ⟨by omega, hn⟩] at hw
    have := wA_some h32 hw
    rw [← e] at this
    exact this
theorem n_lem {s : List UInt8} {i k : Nat} (hi : i < s.length) (h32 : s.getD i 0 ≠ 32) (hc : s.getD i 0 ≠ 34) (hk : i < k) (hs : spn 32 (s.drop i) = k - i) :
    ((34 : UInt8) ∈ (s.drop i).take (k - i) → wA (s.drop i) = none) ∧ ((34 : UInt8) ∉ (s.drop i).take (k - i) → wA (s.drop i) = (wA (s.drop k)).map ((s.drop i).take (k - i) :: ·)) := by
  have e := dropD hi
  have hw : wd (s.getD i 0) (s.drop (i + 1)) = if (34 : UInt8) ∈ (s.drop i).take (spn 32 (s.drop i)) then none else some ((s.drop i).take (spn 32 (s.drop i)), (s.drop i).drop (spn 32 (s.drop i))) := by
    unfold wd
    rw [if_neg hc, ← e]
  rw [hs, List.drop_drop, show i + (k - i) = k by omega] at hw
  refine ⟨fun h => ?_, fun h => ?_⟩
  · rw [if_pos h] at hw
    rw [e]; exact wA_none h32 hw
  · rw [if_neg h] at hw
    have := wA_some h32 hw
    rw [← e] at this
    exact this
theorem none_at {s : List UInt8} {r : List UInt8} {l : List (List UInt8)} (h : wA s = (wA r).map (l ++ ·)) (hr : wA r = none) : wL s = [] ∧ wB s = false := by
  unfold wL wB; rw [h, hr]; exact ⟨rfl, rfl⟩
theorem end_at {s : List UInt8} {r : List UInt8} {l : List (List UInt8)} (h : wA s = (wA r).map (l ++ ·)) (hr : wA r = some []) : wL s = l ∧ wB s = true := by
  unfold wL wB; rw [h, hr]; simp
theorem on_at {s r r' w : List UInt8} {l : List (List UInt8)} (h : wA s = (wA r).map (l ++ ·)) (hr : wA r = (wA r').map (w :: ·)) : wA s = (wA r').map ((l ++ [w]) ++ ·) := by
  rw [h, hr]
  cases wA r' with
  | none => rfl
  | some x => simp
/-- a count that goes on, and its end -/
theorem spn_on {c : UInt8} {s : List UInt8} {a k : Nat} (ha : a ≤ k) (hk : k < s.length) (h : k - a ≤ spn c (s.drop a)) (hb : s.getD k 0 ≠ c) : k + 1 - a ≤ spn c (s.drop a) := by
  have hg : (s.drop a)[k - a]? = some (s.getD k 0) := by
    rw [List.getElem?_drop, show a + (k - a) = k by omega, List.getD_eq_getElem?_getD, List.getElem?_eq_getElem hk]; rfl
  have := (spn_at c hg h).2 hb
  omega
theorem spn_end {c : UInt8} {s : List UInt8} {a k : Nat} (ha : a ≤ k) (h : k - a ≤ spn c (s.drop a)) (hk : k ≤ s.length) (hb : k < s.length → s.getD k 0 = c) : spn c (s.drop a) = k - a := by
  by_cases hl : k < s.length
  · have hg : (s.drop a)[k - a]? = some (s.getD k 0) := by
      rw [List.getElem?_drop, show a + (k - a) = k by omega, List.getD_eq_getElem?_getD, List.getElem?_eq_getElem hl]; rfl
    have h2 := spn_at c hg h
    have h3 : ¬ k - a < spn c (s.drop a) := fun hh => h2.1 hh (hb hl)
    omega
  · have := spn_le c (s.drop a)
    rw [List.length_drop] at this
    omega
theorem take_on {s : List UInt8} {i k : Nat} (hi : i ≤ k) (hk : k < s.length) : (s.drop i).take (k + 1 - i) = (s.drop i).take (k - i) ++ [s.getD k 0] := by
  rw [show k + 1 - i = (k - i) + 1 by omega, List.take_add_one, List.getElem?_drop, show i + (k - i) = k by omega, List.getD_eq_getElem?_getD, List.getElem?_eq_getElem hk]; rfl
theorem nxt_at {s : List UInt8} {k : Nat} (hk : k < s.length) : nxt (s.drop k) = decide (s.getD k 0 = 32) := by
  rw [dropD hk]; show (s.getD k 0 == 32) = _; rw [Bool.eq_iff_iff]; simp
theorem nxt_end {s : List UInt8} {k : Nat} (hk : s.length ≤ k) : nxt (s.drop k) = true := by
  rw [List.drop_eq_nil_of_le hk]; rfl
theorem byte_t {a c : UInt8} {n : Int} (hn : (c.toNat : Int) = n) (h : (((a.toNat : Nat) : Int) == n) = true) : a = c := by
  have := eq_of_beq h
  rw [← UInt8.toNat_inj]; omega
theorem byte_f {a c : UInt8} {n : Int} (hn : (c.toNat : Int) = n) (h : (((a.toNat : Nat) : Int) == n) = false) : a ≠ c := by
  rintro rfl
  rw [hn] at h; simp at h
theorem byte_n {a c : UInt8} {n : Int} (hn : (c.toNat : Int) = n) (h : (((a.toNat : Nat) : Int) != n) = true) : a ≠ c := byte_f hn (by simpa [bne] using h)
theorem byte_y {a c : UInt8} {n : Int} (hn : (c.toNat : Int) = n) (h : (((a.toNat : Nat) : Int) != n) = false) : a = c := byte_t hn (by simpa [bne] using h)
theorem nxt_of {s : List UInt8} {m : Nat} (h : (decide ((m : Int) < (s.length : Int)) && ((s.getD m 0).toNat : Int) != 32) = false) : nxt (s.drop m) = true := by
  by_cases hl : m < s.length
  · rw [nxt_at hl]
    rw [Bool.and_eq_false_iff] at h
    exact decide_eq_true (h.elim (fun h => by have := of_decide_eq_false h; omega) (fun h => byte_y rfl h))
  · exact nxt_end (by omega)
theorem n_bad {s : List UInt8} {i k : Nat} (hi : i < s.length) (h32 : s.getD i 0 ≠ 32) (hc : s.getD i 0 ≠ 34) (hk : i < k) (hl : k < s.length) (h : k - i ≤ spn 32 (s.drop i)) (hb : s.getD k 0 = 34) : wA (s.drop i) = none := by
  have h1 := spn_on (c := 32) (by omega) hl h (by rw [hb]; decide)
  have h2 := n_lem (k := i + spn 32 (s.drop i)) hi h32 hc (by omega) (by omega)
  refine h2.1 ?_
  have hm : (34 : UInt8) ∈ (s.drop i).take (k + 1 - i) := by rw [take_on (by omega) hl, hb]; simp
  rw [show (s.drop i).take (k + 1 - i) = ((s.drop i).take (i + spn 32 (s.drop i) - i)).take (k + 1 - i) by rw [List.take_take, Nat.min_eq_left (by omega)]] at hm
  exact List.mem_of_mem_take hm
theorem take_1 {s : List UInt8} {i : Nat} (hi : i < s.length) : (s.drop i).take (i + 1 - i) = [s.getD i 0] := by
  rw [show i + 1 - i = 1 by omega, dropD hi]; rfl
theorem spn_1 {s : List UInt8} {i : Nat} {c : UInt8} (hi : i < s.length) (h : s.getD i 0 ≠ c) : i + 1 - i ≤ spn c (s.drop i) := by
  rw [dropD hi]; unfold spn; rw [if_neg h]; omega
end Go.Proofs.YtgnhhjojiipmgaaGreatDoor
namespace Go.Proofs.YtgnhhjojiipmgaaGreatDoor
open Go.Kin
set_option maxRecDepth 100000
set_option maxHeartbeats 0
theorem rwords_ok (s : List UInt8) (hs : s.length ≤ 1000000) : FnOK LaidW Tryz.prog 7 [sv s] (.tup [strsD (wL s), bv (wB s)]) := by
  refine FnOK_of laidW_stable Tryz.func7 Tryz.ntmps7 rfl (by as_aux_lemma => kernel_rfl) (Nat.le_of_ble_eq_true rfl) (fun R hR => ?_)
  obtain ⟨_, b, cs, T, C⟩ := R
  obtain rfl : _ = Tryz.prog := hR.p
  refine Exec.seq ?_
  apply Exec.regionL te_ok
  · intro ops' Q hQ
    simp only [go_sem]
    repeat refine ob2 ?_
    exact hQ
  refine Exec.seq ?_
  apply Exec.regionL te_ok
  · intro ops' Q hQ
    simp only [go_sem]
    repeat refine ob2 ?_
    exact hQ
  refine Exec.seq ?_
  refine Exec.seq ?_
  apply Exec.regionL te_ok
  · intro ops' Q hQ
    simp only [go_sem]
    repeat refine ob2 ?_
    exact hQ
  refine Exec.block ?_
  refine Exec.ownNil 4 500 9 1 rfl rfl ?_
  apply Exec.norm
  · simp only [go_sem]
    rfl
  apply Exec.loopU [0] (X := Nat × List (List UInt8)) (fun ⟨i, l⟩ => [(5, .d (iv i)), (4, .own 500)]) (fun ⟨i, l⟩ => []) (fun ⟨i, l⟩ => [(500, ⟨9, 1, l.length, l.length, fun j => [sv (nth l j)]⟩)]) (fun ⟨i, l⟩ => s.length - i) (fun ⟨i, l⟩ => i ≤ s.length ∧ l.length ≤ i ∧ wA s = (wA (s.drop i)).map (l ++ ·)) (0, [])
  case h0 =>
    exact ⟨by omega, by simp, by simp⟩
  case hw =>
    simp only [go_sem]; exact fun i hi => absurd hi (Nat.not_lt_zero i)
  case body =>
    rintro ⟨i, l⟩ hx ih0
    try simp only at hx
    apply Exec.norm
    · simp only [go_sem]
      rfl
    refine Exec.seq ?_
    refine Exec.seq ?_
    apply Exec.regionL te_ok
    · intro ops' Q hQ
      simp only [go_sem]
      repeat refine ob2 ?_
      exact hQ
    refine Exec.cond_split rfl (fun h0 => ?_) (fun h0 => ?_)
    · skip
      have hi : i < s.length := by have := of_decide_eq_true h0; omega
      have hwi : IntKind.i64.wrap ((i : Int) + 1) = ((i + 1 : Nat) : Int) := by rw [wrap_id (by constructor <;> omega)]; simp
      refine Exec.skip ?_
      refine Exec.block ?_
      refine Exec.seq ?_
      refine Exec.seq ?_
      apply Exec.regionL te_ok
      · intro ops' Q hQ
        simp only [go_sem, hwi]
        repeat refine ob2 ?_
        exact hQ
      refine Exec.cond_split rfl (fun h1 => ?_) (fun h1 => ?_)
      · skip
        have hc32 : s.getD i 0 = 32 := byte_t rfl h1
        refine Exec.seq ?_
        apply Exec.regionL te_ok
        · intro ops' Q hQ
          simp only [go_sem, hwi]
          repeat refine ob2 ?_
          exact hQ
        refine Exec.exit rfl ?_
        refine Exec.back (ih0 (i + 1, l) ?_ ?_) ?_ ?_ ?_ ?_ ?_ ?_ ?_
        · try simp only
          first | exact ⟨by omega, by omega, by rw [hx.2.2, skip_at hi hc32]⟩ | exact ⟨by omega, by simp; omega, on_at hx.2.2 (q3 hkl hnx)⟩ | exact ⟨by omega, by simp; omega, on_at hx.2.2 (n2 hk.2.2.2)⟩
        · try simp only
          omega
        · rfl
        · rfl
        · (simp only [go_sem])
        · (simp only [go_sem])
        · simp only [go_sem]
          all_goals exact ⟨by simp, .inl (by simp), fun q hq => catR_snoc (fun x => [sv x]) l _ q hq⟩
        · simp only [go_sem, hwi]
        · rfl
      · skip
        have hn32 : s.getD i 0 ≠ 32 := byte_f rfl h1
        refine Exec.skip ?_
        refine Exec.seq ?_
        apply Exec.regionL te_ok
        · intro ops' Q hQ
          simp only [go_sem, hwi]
          repeat refine ob2 ?_
          exact hQ
        refine Exec.seq ?_
        refine Exec.seq ?_
        apply Exec.regionL te_ok
        · intro ops' Q hQ
          simp only [go_sem, hwi]
          repeat refine ob2 ?_
          exact hQ
        refine Exec.cond_split rfl (fun h2 => ?_) (fun h2 => ?_)
        · skip
          have hq : s.getD i 0 = 34 := byte_t rfl h2
          refine Exec.seq ?_
          refine Exec.block ?_
          apply Exec.loopU [0, 4, 5] (X := Nat) (fun k => [(6, .d (iv k))]) (fun k => []) (fun k => []) (fun k => s.length - k) (fun k => i + 1 ≤ k ∧ k ≤ s.length ∧ k - (i + 1) ≤ spn 34 (s.drop (i + 1))) (i + 1)
          case h0 =>
            exact ⟨by omega, by omega, by omega⟩
          case hw =>
            simp only [go_sem, hwi]
          case body =>
            rintro k hk ih1
            try simp only at hk
            apply Exec.norm
            · simp only [go_sem, hwi]
              rfl
            refine Exec.seq ?_
            refine Exec.seq ?_
            apply Exec.regionL te_ok
            · intro ops' Q hQ
              simp only [go_sem, hwi]
              repeat refine ob2 ?_
              exact hQ
            refine Exec.cond_split rfl (fun h3 => ?_) (fun h3 => ?_)
            · skip
              have hb3 : k < s.length ∧ s.getD k 0 ≠ 34 := by rw [Bool.and_eq_true] at h3; exact ⟨by have := of_decide_eq_true h3.1; omega, byte_n rfl h3.2⟩
              have hwk : IntKind.i64.wrap ((k : Int) + 1) = ((k + 1 : Nat) : Int) := by rw [wrap_id (by constructor <;> omega)]; simp
              refine Exec.skip ?_
              refine Exec.block ?_
              apply Exec.regionL te_ok
              · intro ops' Q hQ
                simp only [go_sem, hwi, hwk]
                repeat refine ob2 ?_
                exact hQ
              refine Exec.inBlock ?_
              refine Exec.back (ih1 (k + 1) ?_ ?_) ?_ ?_ ?_ ?_ ?_ ?_ ?_
              · try simp only
                exact ⟨by omega, by omega, by have := spn_on hk.1 hb3.1 hk.2.2 hb3.2; omega⟩
              · try simp only
                omega
              · rfl
              · rfl
              · (simp only [go_sem, hwi, hwk])
              · (simp only [go_sem, hwi, hwk])
              · (simp only [go_sem, hwi, hwk])
              · simp only [go_sem, hwi, hwk]
              · rfl
            · skip
              have he3 : k < s.length → s.getD k 0 = 34 := fun hl => by rw [Bool.and_eq_false_iff] at h3; exact h3.elim (fun h => by have := of_decide_eq_false h; omega) (fun h => byte_y rfl h)
              have hsp := spn_end hk.1 hk.2.2 hk.2.1 he3
              obtain ⟨q1, q2, q3⟩ := q_lem hi hq hk.1 hsp
              refine Exec.exit rfl ?_
              refine Exec.seq ?_
              refine Exec.seq ?_
              apply Exec.regionL te_ok
              · intro ops' Q hQ
                simp only [go_sem, hwi]
                repeat refine ob2 ?_
                exact hQ
              refine Exec.cond_split rfl (fun h4 => ?_) (fun h4 => ?_)
              · skip
                have hkl : k = s.length := by have := eq_of_beq h4; omega
                refine Exec.seq ?_
                apply Exec.regionL te_ok
                · intro ops' Q hQ
                  simp only [go_sem, hwi]
                  repeat refine ob2 ?_
                  exact hQ
                refine Exec.rets hR te_ok rfl rfl rfl (LeX.le ?_) (.inr ⟨_, rfl⟩)
                simp only [go_sem]
                obtain ⟨e1, e2⟩ := none_at hx.2.2 (q1 (by omega))
                rw [e1, e2]; simp
              · skip
                have hkl : k < s.length := by have hne : k ≠ s.length := fun e => (by rw [e] at h4; simp at h4); omega
                have hwk : IntKind.i64.wrap ((k : Int) + 1) = ((k + 1 : Nat) : Int) := by rw [wrap_id (by constructor <;> omega)]; simp
                refine Exec.skip ?_
                refine Exec.seq ?_
                apply Exec.regionL te_ok
                · intro ops' Q hQ
                  simp only [go_sem, hwi, hwk]
                  repeat refine ob2 ?_
                  exact hQ
                refine Exec.seq ?_
                apply Exec.regionL te_ok
                · intro ops' Q hQ
                  simp only [go_sem, hwi, hwk]
                  repeat refine ob2 ?_
                  exact hQ
                refine Exec.cond_split rfl (fun h5 => ?_) (fun h5 => ?_)
                · skip
                  have hb5 : k + 1 < s.length ∧ s.getD (k + 1) 0 ≠ 32 := by rw [Bool.and_eq_true] at h5; exact ⟨by have := of_decide_eq_true h5.1; omega, byte_n rfl h5.2⟩
                  refine Exec.seq ?_
                  apply Exec.regionL te_ok
                  · intro ops' Q hQ
                    simp only [go_sem, hwi, hwk]
                    repeat refine ob2 ?_
                    exact hQ
                  refine Exec.rets hR te_ok rfl rfl rfl (LeX.le ?_) (.inr ⟨_, rfl⟩)
                  simp only [go_sem]
                  obtain ⟨e1, e2⟩ := none_at hx.2.2 (q2 hkl (by rw [nxt_at hb5.1]; exact decide_eq_false hb5.2))
                  rw [e1, e2]; simp
                · skip
                  have hnx : nxt (s.drop (k + 1)) = true := nxt_of h5
                  have hti : (((k + 1 : Nat) : Int) - (i : Int)).toNat = k + 1 - i := by omega
                  refine Exec.skip ?_
                  refine Exec.seq ?_
                  apply Exec.regionL te_ok
                  · intro ops' Q hQ
                    simp only [go_sem, hwi, hwk, hti]
                    repeat refine ob2 ?_
                    exact hQ
                  apply Exec.regionL te_ok
                  · intro ops' Q hQ
                    simp only [go_sem, hwi, hwk, hti]
                    repeat refine ob2 ?_
                    exact hQ
                  refine Exec.inBlock ?_
                  refine Exec.back (ih0 (k + 1, l ++ [(s.drop i).take (k + 1 - i)]) ?_ ?_) ?_ ?_ ?_ ?_ ?_ ?_ ?_
                  · try simp only
                    first | exact ⟨by omega, by omega, by rw [hx.2.2, skip_at hi hc32]⟩ | exact ⟨by omega, by simp; omega, on_at hx.2.2 (q3 hkl hnx)⟩ | exact ⟨by omega, by simp; omega, on_at hx.2.2 (n2 hk.2.2.2)⟩
                  · try simp only
                    omega
                  · rfl
                  · rfl
                  · (simp only [go_sem])
                  · (simp only [go_sem])
                  · simp only [go_sem]
                    all_goals exact ⟨by simp, .inl (by simp), fun q hq => catR_snoc (fun x => [sv x]) l _ q hq⟩
                  · simp only [go_sem, hwi, hwk, hti]
                  · rfl
        · skip
          have hn34 : s.getD i 0 ≠ 34 := byte_f rfl h2
          refine Exec.block ?_
          apply Exec.loopU [0, 4, 5] (X := Nat) (fun k => [(6, .d (iv k))]) (fun k => []) (fun k => []) (fun k => s.length - k) (fun k => i + 1 ≤ k ∧ k ≤ s.length ∧ k - i ≤ spn 32 (s.drop i) ∧ (34 : UInt8) ∉ (s.drop i).take (k - i)) (i + 1)
          case h0 =>
            exact ⟨by omega, by omega, spn_1 hi hn32, by rw [take_1 hi]; simp; exact fun h => hn34 h.symm⟩
          case hw =>
            simp only [go_sem, hwi]
          case body =>
            rintro k hk ih2
            try simp only at hk
            apply Exec.norm
            · simp only [go_sem, hwi]
              rfl
            refine Exec.seq ?_
            refine Exec.seq ?_
            apply Exec.regionL te_ok
            · intro ops' Q hQ
              simp only [go_sem, hwi]
              repeat refine ob2 ?_
              exact hQ
            refine Exec.cond_split rfl (fun h6 => ?_) (fun h6 => ?_)
            · skip
              have hb6 : k < s.length ∧ s.getD k 0 ≠ 32 := by rw [Bool.and_eq_true] at h6; exact ⟨by have := of_decide_eq_true h6.1; omega, byte_n rfl h6.2⟩
              have hwk : IntKind.i64.wrap ((k : Int) + 1) = ((k + 1 : Nat) : Int) := by rw [wrap_id (by constructor <;> omega)]; simp
              refine Exec.skip ?_
              refine Exec.block ?_
              refine Exec.seq ?_
              refine Exec.seq ?_
              apply Exec.regionL te_ok
              · intro ops' Q hQ
                simp only [go_sem, hwi, hwk]
                repeat refine ob2 ?_
                exact hQ
              refine Exec.cond_split rfl (fun h7 => ?_) (fun h7 => ?_)
              · skip
                have hb7 : s.getD k 0 = 34 := byte_t rfl h7
                refine Exec.seq ?_
                apply Exec.regionL te_ok
                · intro ops' Q hQ
                  simp only [go_sem, hwi, hwk]
                  repeat refine ob2 ?_
                  exact hQ
                refine Exec.rets hR te_ok rfl rfl rfl (LeX.le ?_) (.inr ⟨_, rfl⟩)
                simp only [go_sem]
                obtain ⟨e1, e2⟩ := none_at hx.2.2 (n_bad hi hn32 hn34 (by omega) hb6.1 hk.2.2.1 hb7)
                rw [e1, e2]; simp
              · skip
                have hb7 : s.getD k 0 ≠ 34 := byte_f rfl h7
                refine Exec.skip ?_
                apply Exec.regionL te_ok
                · intro ops' Q hQ
                  simp only [go_sem, hwi, hwk]
                  repeat refine ob2 ?_
                  exact hQ
                refine Exec.inBlock ?_
                refine Exec.back (ih2 (k + 1) ?_ ?_) ?_ ?_ ?_ ?_ ?_ ?_ ?_
                · try simp only
                  exact ⟨by omega, by omega, by have := spn_on (c := 32) (by omega) hb6.1 hk.2.2.1 hb6.2; omega, by rw [take_on (by omega) hb6.1]; simp; exact ⟨hk.2.2.2, fun h => hb7 h.symm⟩⟩
                · try simp only
                  omega
                · rfl
                · rfl
                · (simp only [go_sem, hwi, hwk])
                · (simp only [go_sem, hwi, hwk])
                · (simp only [go_sem, hwi, hwk])
                · simp only [go_sem, hwi, hwk]
                · rfl
            · skip
              have he6 : k < s.length → s.getD k 0 = 32 := fun hl => by rw [Bool.and_eq_false_iff] at h6; exact h6.elim (fun h => by have := of_decide_eq_false h; omega) (fun h => byte_y rfl h)
              have hsp := spn_end (by omega) hk.2.2.1 hk.2.1 he6
              obtain ⟨n1, n2⟩ := n_lem hi hn32 hn34 (by omega) hsp
              have hti : ((k : Int) - (i : Int)).toNat = k - i := by omega
              refine Exec.exit rfl ?_
              refine Exec.seq ?_
              apply Exec.regionL te_ok
              · intro ops' Q hQ
                simp only [go_sem, hwi, hti]
                repeat refine ob2 ?_
                exact hQ
              apply Exec.regionL te_ok
              · intro ops' Q hQ
                simp only [go_sem, hwi, hti]
                repeat refine ob2 ?_
                exact hQ
              refine Exec.inBlock ?_
              refine Exec.back (ih0 (k, l ++ [(s.drop i).take (k - i)]) ?_ ?_) ?_ ?_ ?_ ?_ ?_ ?_ ?_
              · try simp only
                first | exact ⟨by omega, by omega, by rw [hx.2.2, skip_at hi hc32]⟩ | exact ⟨by omega, by simp; omega, on_at hx.2.2 (q3 hkl hnx)⟩ | exact ⟨by omega, by simp; omega, on_at hx.2.2 (n2 hk.2.2.2)⟩
              · try simp only
                omega
              · rfl
              · rfl
              · (simp only [go_sem])
              · (simp only [go_sem])
              · simp only [go_sem]
                all_goals exact ⟨by simp, .inl (by simp), fun q hq => catR_snoc (fun x => [sv x]) l _ q hq⟩
              · simp only [go_sem, hwi, hti]
              · rfl
    · skip
      refine Exec.exit rfl ?_
      refine Exec.seq ?_
      apply Exec.regionL te_ok
      · intro ops' Q hQ
        simp only [go_sem]
        repeat refine ob2 ?_
        exact hQ
      refine Exec.rets hR te_ok rfl rfl rfl (LeX.le ?_) (.inr ⟨_, rfl⟩)
      simp only [go_sem]
      have hie : s.drop i = [] := List.drop_eq_nil_of_le (by have := of_decide_eq_false h0; omega)
      obtain ⟨e1, e2⟩ := end_at hx.2.2 (by rw [hie]; rfl)
      rw [e1, e2]; simp
end Go.Proofs.YtgnhhjojiipmgaaGreatDoor
