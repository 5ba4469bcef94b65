/- Steps of a function body on data, and contracts of the functions of the seat, walked. -/
import Derived.Test.YtgnhhjojiipmgaaGreatDoorKDraw
import Derived.Test.YtgnhhjojiipmgaaGreatDoorKRune
import Derived.Lib.TrimU
import Derived.Shelf.Strings.IndexAnyAll
import Derived.Test.YtgnhhjojiipmgaaGreatDoorProg
import Derived.KernelRfl
import Derived.Test.YtgnhhjojiipmgaaGreatDoorW1
import Derived.Test.YtgnhhjojiipmgaaGreatDoorKNil
import Derived.Lib.Join
set_option linter.unusedSimpArgs false
set_option linter.unusedVariables false
set_option linter.unusedSectionVars false
namespace Go.Proofs.YtgnhhjojiipmgaaGreatDoor
open Go Go.Kin
set_option maxRecDepth 100000
/-! ### code points -/
theorem get_mkS (l : List UInt8) (i : Nat) : (mkS l).get! i = l.getD i 0 := by
  simp [mkS, ByteArray.get!, List.getD_eq_getElem?_getD]; rfl
theorem decN_low {n b0 b1 b2 b3 : Nat} (h : (Lib.decodeN n b0 b1 b2 b3).1 < 128) : (Lib.decodeN n b0 b1 b2 b3).1 = b0 := by
  unfold Lib.decodeN at h ⊢
  split
  · rfl
  · rename_i h0
    rw [if_neg h0] at h
    exfalso
    split at h
    · split at h <;> simp only at h <;> omega
    · split at h
      · split at h
        · rename_i h1; simp only at h; have := h1.1; omega
        · simp only at h; omega
      · split at h
        · split at h
          · rename_i h1; simp only at h; have := h1.1; omega
          · simp only at h; omega
        · simp only at h; omega
theorem dec_low {s : ByteArray} {pos : Nat} (h : (Utf8.decode s pos).1 < 128) : (Utf8.decode s pos).1 = (s.get! pos).toNat := by
  rw [Lib.decode_at] at h ⊢
  exact decN_low h
theorem dec_ne {l : List UInt8} {pos : Nat} {c : UInt8} (hc : c.toNat < 128) (hp : pos < l.length) (h : c ∉ l) : (Utf8.decode (mkS l) pos).1 ≠ c.toNat := by
  intro e
  have h1 := dec_low (s := mkS l) (pos := pos) (by omega)
  rw [e, get_mkS] at h1
  have h2 : l.getD pos 0 = c := UInt8.toNat_inj.1 h1.symm
  rw [List.getD_eq_getElem?_getD, List.getElem?_eq_getElem hp] at h2
  exact h (h2 ▸ List.getElem_mem hp)
/-- a code point's bytes -/
def enc (r : Int) : List UInt8 := (Utf8.encode r).data.toList
theorem encode_enc (r : Int) : Utf8.encode r = mkS (enc r) := by simp [enc, mkS]
theorem enc_big {r : Int} (h : 128 ≤ r) : 2 ≤ (enc r).length ∧ (enc r).length ≤ 4 ∧ 128 ≤ ((enc r).getD ((enc r).length - 1) 0).toNat := by
  unfold enc Utf8.encode Utf8.runeError
  have hc : 128 ≤ (if Utf8.valid r = true then r.toNat else 65533) := by split <;> omega
  generalize (if Utf8.valid r = true then r.toNat else 65533) = c at hc
  simp only
  have key : ∀ n : Nat, 128 ≤ (UInt8.ofNat (128 + n % 64)).toNat := fun n => by
    rw [UInt8.toNat_ofNat']; omega
  rw [if_neg (by omega)]
  split
  · exact ⟨by simp, by simp, key _⟩
  · split
    · exact ⟨by simp, by simp, key _⟩
    · exact ⟨by simp, by simp, key _⟩
end Go.Proofs.YtgnhhjojiipmgaaGreatDoor
namespace Go.Proofs
open Go.Shelf
def Tryz.lays153_ren : Go.Shelf.Ren := ⟨fun | 153 => 18 | 152 => 33 | 226 => 34 | 227 => 35 | 228 => 36 | 137 => 31 | 119 => 52 | 224 => 50 | 225 => 49 | 217 => 48 | 266 => 65 | n => n, fun | 9 => 9 | 3 => 3 | 4 => 4 | 5 => 5 | 21 => 21 | 117 => 57 | 116 => 56 | 0 => 0 | 46 => 75 | 124 => 73 | n => n, fun | n => n⟩
theorem Tryz.lays153 : Go.Proofs.Lays.n153 Tryz.prog Tryz.lays153_ren := {
  mixed := by kernel_rfl
  f119 := Tryz.func52.trans (congrArg some (by kernel_rfl))
  f137 := Tryz.func31.trans (congrArg some (by kernel_rfl))
  f152 := Tryz.func33.trans (congrArg some (by kernel_rfl))
  f153 := Tryz.func18.trans (congrArg some (by kernel_rfl))
  f217 := Tryz.func48.trans (congrArg some (by kernel_rfl))
  f224 := Tryz.func50.trans (congrArg some (by kernel_rfl))
  f225 := Tryz.func49.trans (congrArg some (by kernel_rfl))
  f226 := Tryz.func34.trans (congrArg some (by kernel_rfl))
  f227 := Tryz.func35.trans (congrArg some (by kernel_rfl))
  f228 := Tryz.func36.trans (congrArg some (by kernel_rfl))
  f266 := Tryz.func65.trans (congrArg some (by kernel_rfl))
  t0 := Tryz.underlying0
  a0 := Tryz.isAgg0
  z0 := Tryz.sizeOf0
  v0 := Tryz.zeroValue0
  t3 := Tryz.underlying3
  a3 := Tryz.isAgg3
  z3 := Tryz.sizeOf3
  v3 := Tryz.zeroValue3
  t4 := Tryz.underlying4
  a4 := Tryz.isAgg4
  z4 := Tryz.sizeOf4
  v4 := Tryz.zeroValue4
  t5 := Tryz.underlying5
  a5 := Tryz.isAgg5
  z5 := Tryz.sizeOf5
  v5 := Tryz.zeroValue5
  t9 := Tryz.underlying9
  a9 := Tryz.isAgg9
  z9 := Tryz.sizeOf9
  v9 := Tryz.zeroValue9
  t21 := Tryz.underlying21
  a21 := Tryz.isAgg21
  z21 := Tryz.sizeOf21
  v21 := Tryz.zeroValue21
  t46 := Tryz.underlying75
  a46 := Tryz.isAgg75
  z46 := Tryz.sizeOf75
  v46 := Tryz.zeroValue75
  t116 := Tryz.underlying56
  a116 := Tryz.isAgg56
  z116 := Tryz.sizeOf56
  t117 := Tryz.underlying57
  a117 := Tryz.isAgg57
  z117 := Tryz.sizeOf57
  v117 := Tryz.zeroValue57
  t124 := Tryz.underlying73
  a124 := Tryz.isAgg73
  z124 := Tryz.sizeOf73
  v124 := Tryz.zeroValue73 }
open Go.RowKit Go.Lib in
theorem Tryz.strings_IndexAny_long (hv116 : ∀ w, (zeroValue 56).run Tryz.prog w = .ok (.agg (Array.replicate 256 (.bool false))) w) (s chars : ByteArray) (w : World) (h2 : 2 ≤ chars.size) (h8 : 8 < s.size) (hs : s.size < 4294967281) (hcs : chars.size < 4294967281) (hascii : ∀ (j : Nat) b, chars.data.toList[j]? = some b → b.toNat < 128) :
    Calls Tryz.prog 18 #[.string s, .string chars] w fun e w' => e = .returned (.int .i64 (Lib.indexAny s.data.toList chars.data.toList)) ∧ w' = ((w.alloc (.cells (Lib.setCells chars.data.toList) 56)).alloc (.cells (Lib.setCells chars.data.toList) 56)) := Any.strings_IndexAny_long Tryz.lays153 hv116 (by kernel_rfl) s chars w h2 h8 hs hcs hascii
end Go.Proofs
namespace Go.Proofs.YtgnhhjojiipmgaaGreatDoor
open Go.Kin
set_option maxRecDepth 100000
set_option maxHeartbeats 0
attribute [go_sem] Option.toArray_some Option.toArray_none famStP
/-! ### strings.ContainsAny of a text that has neither a space nor a quote -/
def vr (n : Int) : Bool := (decide (0 ≤ n) && decide (n < 55296)) || (decide (57343 < n) && decide (n ≤ 1114111))
theorem w8 {r : Int} (h0 : 0 ≤ r) (h1 : r < 128) : IntKind.u8.wrap r = r := by
  unfold IntKind.wrap; simp [IntKind.bits, IntKind.signed]; omega
theorem ib_none {r : Int} (h0 : 0 ≤ r) (h1 : r < 256) (h32 : r ≠ 32) (h34 : r ≠ 34) : Lib.indexByte [32, 34] r.toNat.toUInt8 = -1 := by
  have k : ∀ c : Nat, c < 256 → r ≠ c → (c.toUInt8 == r.toNat.toUInt8) = false := fun c hc h => by
    rw [beq_eq_false_iff_ne]
    intro e
    have := congrArg UInt8.toNat e
    simp at this
    omega
  have e1 : ((32 : UInt8) == r.toNat.toUInt8) = false := k 32 (by omega) (by simpa using h32)
  have e2 : ((34 : UInt8) == r.toNat.toUInt8) = false := k 34 (by omega) (by simpa using h34)
  simp [Lib.indexByte, e1, e2]
theorem d2 {i : Nat} (h : i < 2) : (Utf8.decode (mkS [32, 34]) i).2 = 1 ∧ (Utf8.decode (mkS [32, 34]) i).1 < 35 := by
  have : i = 0 ∨ i = 1 := by omega
  rcases this with rfl | rfl
  · exact ⟨by decide, by decide⟩
  · exact ⟨by decide, by decide⟩
theorem last_ne {r : Int} (h : 128 ≤ r) : (((enc r).getD ((enc r).length - 1) 0).toNat : Int) ≠ 34 := by
  have := (enc_big h).2.2
  omega
theorem vrune_ok (n : Int) : FnOK LaidW Tryz.prog 52 [.v (.int .i32 n)] (bv (vr n)) := by
  refine FnOK_of laidW_stable Tryz.func52 Tryz.ntmps52 rfl (by as_aux_lemma => kernel_rfl) (Nat.le_of_ble_eq_true rfl) (fun R hR => ?_)
  obtain ⟨_, b, cs, T, C⟩ := R
  obtain rfl : _ = Tryz.prog := hR.p
  refine Exec.seq ?_
  apply Exec.regionL te_ok
  · intro ops' Q hQ
    simp only [go_sem]
    repeat refine ob2 ?_
    exact hQ
  refine Exec.seq ?_
  refine Exec.block ?_
  refine Exec.seq ?_
  apply Exec.regionL te_ok
  · intro ops' Q hQ
    simp only [go_sem]
    repeat refine ob2 ?_
    exact hQ
  refine Exec.cond_split rfl (fun h0 => ?_) (fun h0 => ?_)
  · skip
    refine Exec.seq ?_
    apply Exec.regionL te_ok
    · intro ops' Q hQ
      simp only [go_sem]
      repeat refine ob2 ?_
      exact hQ
    refine Exec.rets hR te_ok rfl rfl rfl (LeX.le ?_) (.inr ⟨_, rfl⟩)
    simp only [go_sem, vr]
    rw [h0]; simp
  · skip
    refine Exec.seq ?_
    apply Exec.regionL te_ok
    · intro ops' Q hQ
      simp only [go_sem]
      repeat refine ob2 ?_
      exact hQ
    refine Exec.cond_split rfl (fun h1 => ?_) (fun h1 => ?_)
    · skip
      refine Exec.seq ?_
      apply Exec.regionL te_ok
      · intro ops' Q hQ
        simp only [go_sem]
        repeat refine ob2 ?_
        exact hQ
      refine Exec.rets hR te_ok rfl rfl rfl (LeX.le ?_) (.inr ⟨_, rfl⟩)
      simp only [go_sem, vr]
      rw [h1]; simp
    · skip
      refine Exec.skip ?_
      refine Exec.inBlock ?_
      refine Exec.seq ?_
      apply Exec.regionL te_ok
      · intro ops' Q hQ
        simp only [go_sem]
        repeat refine ob2 ?_
        exact hQ
      refine Exec.rets hR te_ok rfl rfl rfl (LeX.le ?_) (.inr ⟨_, rfl⟩)
      simp only [go_sem, vr]
      rw [h0, h1]; simp
theorem should_ok (n : Int) : FnOK LaidW Tryz.prog 34 [iv n] (bv (decide (8 < n))) := by
  refine FnOK_of laidW_stable Tryz.func34 Tryz.ntmps34 rfl (by as_aux_lemma => kernel_rfl) (Nat.le_of_ble_eq_true rfl) (fun R hR => ?_)
  obtain ⟨_, b, cs, T, C⟩ := R
  obtain rfl : _ = Tryz.prog := hR.p
  refine Exec.seq ?_
  apply Exec.regionL te_ok
  · intro ops' Q hQ
    simp only [go_sem]
    repeat refine ob2 ?_
    exact hQ
  refine Exec.seq ?_
  apply Exec.regionL te_ok
  · intro ops' Q hQ
    simp only [go_sem]
    repeat refine ob2 ?_
    exact hQ
  refine Exec.rets hR te_ok rfl rfl rfl (LeX.le ?_) (.inr ⟨_, rfl⟩)
  simp only [go_sem]
theorem irune_ok (r : Int) (h0 : 0 ≤ r) (h1 : r ≤ 1114111) (h32 : r ≠ 32) (h34 : r ≠ 34) : FnOK LaidW Tryz.prog 33 [sv [32, 34], .v (.int .i32 r)] (iv (-1)) := by
  refine FnOK_of laidW_stable Tryz.func33 Tryz.ntmps33 rfl (by as_aux_lemma => kernel_rfl) (Nat.le_of_ble_eq_true rfl) (fun R hR => ?_)
  obtain ⟨_, b, cs, T, C⟩ := R
  obtain rfl : _ = Tryz.prog := hR.p
  refine Exec.seq ?_
  apply Exec.regionL te_ok
  · intro ops' Q hQ
    simp only [go_sem]
    repeat refine ob2 ?_
    exact hQ
  refine Exec.block ?_
  refine Exec.seq ?_
  apply Exec.regionL te_ok
  · intro ops' Q hQ
    simp only [go_sem]
    repeat refine ob2 ?_
    exact hQ
  refine Exec.cond_split rfl (fun h0 => ?_) (fun h0 => ?_)
  · skip
    have hr : r < 128 := by rw [Bool.and_eq_true] at h0; exact of_decide_eq_true h0.2
    have hw8 := w8 (by assumption) hr
    have hib := ib_none (by assumption) (by omega) h32 h34
    refine Exec.seq ?_
    apply Exec.regionL te_ok
    · intro ops' Q hQ
      simp only [go_sem, hw8, hib]
      repeat refine ob2 ?_
      refine kcall hR.inv te_ok rfl rfl rfl rfl rfl rfl (indexByte_ok _ _) ?_
      simp only [go_sem, hw8, hib]
      repeat refine ob2 ?_
      exact hQ
    refine Exec.rets hR te_ok rfl rfl rfl (LeX.le ?_) (.inr ⟨_, rfl⟩)
    simp only [go_sem, hw8, hib]
  · skip
    have hr : 128 ≤ r := by rw [Bool.and_eq_false_iff] at h0; rcases h0 with h0 | h0 <;> have := of_decide_eq_false h0 <;> omega
    obtain ⟨he1, he2, he3⟩ := enc_big hr
    have hee := encode_enc r
    have hw1 : IntKind.i64.wrap (((enc r).length : Int) - 1) = (((enc r).length - 1 : Nat) : Int) := by rw [wrap_id (by constructor <;> omega)]; omega
    refine Exec.seq ?_
    apply Exec.regionL te_ok
    · intro ops' Q hQ
      simp only [go_sem, hee, hw1]
      repeat refine ob2 ?_
      exact hQ
    refine Exec.cond_split rfl (fun h1 => ?_) (fun h1 => ?_)
    · skip
      refine Exec.seq ?_
      refine Exec.seq ?_
      refine Exec.regStart 2 rfl ?_
      apply Exec.regPart 0 1 1 te_ok rfl
      · intro ops' Q hQ
        simp only [go_sem, hee, hw1]
        repeat refine ob2 ?_
        exact hQ
      refine Exec.rangeStr te_ok (m := 0) rfl rfl rfl rfl rfl rfl rfl (fun ls0 hls0 => ?_)
      apply Exec.norm
      · try simp only [go_sem, hee, hw1]
        rfl
      refine Exec.regEnd ?_
      refine Exec.block ?_
      apply Exec.loopUP [175] (X := Nat) (fun i => []) (fun i => []) (fun i => []) (fun i => [(ls0, .stringIter (mkS [32, 34]) i)]) (fun i => 2 - i) (fun i => i ≤ 2) 0
      case hP => rfl
      case h0 =>
        omega
      case hw =>
        simp only [go_sem, hee, hw1]
      case body =>
        rintro i hx ih0
        try simp only at hx
        apply Exec.norm
        · try simp only [go_sem, hee, hw1]
          rfl
        refine Exec.seq ?_
        refine Exec.regStart 2 rfl ?_
        refine Exec.nextStr (m := 1) rfl rfl rfl rfl rfl rfl rfl hls0 (fun hn0 => ?_) (fun hn0 => ?_)
        · skip
          apply Exec.norm
          · try simp only [go_sem, hee, hw1]
            rfl
          have hi2 : i < 2 := by rw [mkS_size] at hn0; exact hn0
          apply Exec.regPart 1 1 0 te_ok rfl
          · intro ops' Q hQ
            simp only [go_sem, hee, hw1]
            repeat refine ob2 ?_
            exact hQ
          refine Exec.regEnd ?_
          refine Exec.seq ?_
          refine Exec.cond (t := true) rfl ?_
          simp only [reduceIte, Bool.false_eq_true]
          refine Exec.skip ?_
          refine Exec.block ?_
          refine Exec.seq ?_
          apply Exec.regionL te_ok
          · intro ops' Q hQ
            simp only [go_sem, hee, hw1]
            repeat refine ob2 ?_
            exact hQ
          refine Exec.seq ?_
          apply Exec.regionL te_ok
          · intro ops' Q hQ
            simp only [go_sem, hee, hw1]
            repeat refine ob2 ?_
            exact hQ
          refine Exec.cond_split rfl (fun h3 => ?_) (fun h3 => ?_)
          · exfalso
            have := (d2 hi2).2
            have e := eq_of_beq h3
            omega
          refine Exec.skip ?_
          refine Exec.inBlock ?_
          refine Exec.backP (ih0 (i + (Utf8.decode (mkS [32, 34]) i).2) ?_ ?_) ?_ ?_ ?_ ?_ ?_ ?_ ?_
          · try simp only
            have := (d2 hi2).1
            omega
          · try simp only
            have := (d2 hi2).1
            omega
          · rfl
          · rfl
          · (simp only [go_sem, hee, hw1])
          · (simp only [go_sem, hee, hw1])
          · (simp only [go_sem, hee, hw1])
          · simp only [go_sem, hee, hw1]
          · rfl
        · skip
          apply Exec.norm
          · try simp only [go_sem, hee, hw1]
            rfl
          apply Exec.regPart 1 1 0 te_ok rfl
          · intro ops' Q hQ
            simp only [go_sem, hee, hw1]
            repeat refine ob2 ?_
            exact hQ
          refine Exec.regEnd ?_
          refine Exec.seq ?_
          refine Exec.cond (t := false) rfl ?_
          simp only [reduceIte, Bool.false_eq_true]
          refine Exec.exit rfl ?_
          refine Exec.seq ?_
          apply Exec.regionL te_ok
          · intro ops' Q hQ
            simp only [go_sem, hee, hw1]
            repeat refine ob2 ?_
            exact hQ
          refine Exec.rets hR te_ok rfl rfl rfl (LeX.le ?_) (.inr ⟨_, rfl⟩)
          simp only [go_sem, hee, hw1]
    · skip
      refine Exec.seq ?_
      apply Exec.regionL te_ok
      · intro ops' Q hQ
        simp only [go_sem, hee, hw1]
        repeat refine ob2 ?_
        refine kcall hR.inv te_ok rfl rfl rfl rfl rfl rfl (vrune_ok _) ?_
        simp only [go_sem, hee, hw1]
        repeat refine ob2 ?_
        exact hQ
      refine Exec.cond_split rfl (fun h5 => ?_) (fun h5 => ?_)
      · skip
        refine Exec.seq ?_
        apply Exec.regionL te_ok
        · intro ops' Q hQ
          simp only [go_sem, hee, hw1]
          repeat refine ob2 ?_
          exact hQ
        refine Exec.rets hR te_ok rfl rfl rfl (LeX.le ?_) (.inr ⟨_, rfl⟩)
        simp only [go_sem, hee, hw1]
      · skip
        refine Exec.scope ?_
        refine Exec.seq ?_
        apply Exec.regionL te_ok
        · intro ops' Q hQ
          simp only [go_sem, hee, hw1]
          repeat refine ob2 ?_
          refine krune te_ok rfl rfl rfl rfl rfl rfl rfl rfl ?_
          simp only [go_sem, hee, hw1]
          repeat refine ob2 ?_
          exact hQ
        refine Exec.seq ?_
        apply Exec.regionL te_ok
        · intro ops' Q hQ
          simp only [go_sem, hee, hw1]
          repeat refine ob2 ?_
          exact hQ
        refine Exec.seq ?_
        apply Exec.regionL te_ok
        · intro ops' Q hQ
          simp only [go_sem, hee, hw1]
          repeat refine ob2 ?_
          exact hQ
        refine Exec.seq ?_
        apply Exec.regionL te_ok
        · intro ops' Q hQ
          simp only [go_sem, hee, hw1]
          repeat refine ob2 ?_
          exact hQ
        refine Exec.seq ?_
        refine Exec.block ?_
        refine Exec.loop1 ?_
        refine Exec.seq ?_
        refine Exec.seq ?_
        apply Exec.regionL te_ok
        · intro ops' Q hQ
          simp only [go_sem, hee, hw1]
          repeat refine ob2 ?_
          exact hQ
        refine Exec.cond_split rfl (fun h6 => ?_) (fun h6 => ?_)
        · skip
          have hlm : (enc r).length - 1 = 1 := by have := of_decide_eq_true h6; omega
          have hl2 : (enc r).length = 2 := by omega
          have hw2 : IntKind.i64.wrap (1 + 1) = 2 := by decide
          refine Exec.skip ?_
          refine Exec.block ?_
          refine Exec.scope ?_
          refine Exec.seq ?_
          refine Exec.seq ?_
          apply Exec.draw (st := _) 8 7 [] [] te_ok (by as_aux_lemma => kernel_rfl) (by as_aux_lemma => kernel_rfl) (by as_aux_lemma => kernel_rfl)
          · intro ops' Q hQ
            simp only [go_sem, hee, hw1, hlm, Int.natCast_one, hw2]
            repeat refine ob2 ?_
            exact hQ
          refine Exec.cond_split rfl (fun h7 => ?_) (fun h7 => ?_)
          rotate_left 1
          · exfalso
            have q := last_ne hr
            rw [hlm] at q
            rw [bne_eq_false_iff_eq] at h7
            exact q h7.symm
          refine Exec.seq ?_
          apply Exec.draw (st := _) 10 9 [] [] te_ok (by as_aux_lemma => kernel_rfl) (by as_aux_lemma => kernel_rfl) (by as_aux_lemma => kernel_rfl)
          · intro ops' Q hQ
            simp only [go_sem, hee, hw1, hlm, Int.natCast_one, hw2]
            repeat refine ob2 ?_
            refine kdcall hR.inv te_ok rfl rfl rfl rfl rfl rfl (indexByte_ok _ _) ?_
            simp only [go_sem, hee, hw1, hlm, Int.natCast_one, hw2]
            repeat refine ob2 ?_
            exact hQ
          refine Exec.seq ?_
          refine Exec.seq ?_
          apply Exec.regionL te_ok
          · intro ops' Q hQ
            simp only [go_sem, hee, hw1, hlm, Int.natCast_one, hw2]
            repeat refine ob2 ?_
            exact hQ
          refine Exec.cond_split rfl (fun h8 => ?_) (fun h8 => ?_)
          rotate_left 1
          · exfalso
            exact of_decide_eq_false h8 (show (-1 : Int) < 0 by decide)
          refine Exec.seq ?_
          apply Exec.regionL te_ok
          · intro ops' Q hQ
            simp only [go_sem, hee, hw1, hlm, Int.natCast_one, hw2]
            repeat refine ob2 ?_
            exact hQ
          refine Exec.rets hR te_ok rfl rfl rfl (LeX.le ?_) (.inr ⟨_, rfl⟩)
          simp only [go_sem, hee, hw1, hlm, Int.natCast_one, hw2]
        · skip
          refine Exec.exit rfl ?_
          refine Exec.seq ?_
          refine Exec.seq ?_
          apply Exec.regionL te_ok
          · intro ops' Q hQ
            simp only [go_sem, hee, hw1]
            repeat refine ob2 ?_
            exact hQ
          refine Exec.rets hR te_ok rfl rfl rfl (LeX.le ?_) (.inr ⟨_, rfl⟩)
          simp only [go_sem, hee, hw1]
/-- none of both -/
theorem noAny {s : List UInt8} (h32 : (32 : UInt8) ∉ s) (h34 : (34 : UInt8) ∉ s) : Lib.NoAny s [32, 34] s.length := fun j b _ hb => by
  have hm := List.mem_of_getElem? hb
  simp only [List.contains_cons, List.contains_nil, Bool.or_false, Bool.or_eq_false_iff, beq_eq_false_iff_ne]
  exact ⟨fun e => h32 (e ▸ hm), fun e => h34 (e ▸ hm)⟩
theorem idxAnyL_ok (s : List UInt8) (h8 : 8 < s.length) (hs : s.length ≤ 1600) (h32 : (32 : UInt8) ∉ s) (h34 : (34 : UInt8) ∉ s) : FnOK LaidW Tryz.prog 18 [sv s, sv [32, 34]] (iv (-1)) :=
  FnOK.lib ⟨Tryz.f18, Tryz.func18, by kernel_rfl, by kernel_rfl⟩ fun w Z vs hI hr => by
    obtain rfl := rd_two hr
    have hi : (Tryz.prog.info? 56).map (fun i => (i.zero, i.size)) = some (some (.agg (Array.replicate 256 (.bool false))), 256) := by kernel_rfl
    refine (Tryz.strings_IndexAny_long (zero_of_info hi).1 (mkS s) (mkS [32, 34]) w (by rw [mkS_size]; decide) (by rw [mkS_size]; exact h8) (by rw [mkS_size]; omega) (by rw [mkS_size]; decide) (fun j b hb => ?_)).mono ?_
    · rw [mkS_back] at hb
      have := List.mem_of_getElem? hb
      simp at this
      rcases this with rfl | rfl <;> decide
    · rintro e w' ⟨rfl, rfl⟩
      refine ⟨by rw [mkS_back, mkS_back, Lib.indexAny_none (noAny h32 h34)], ?_⟩
      exact ((RowKit.Below.refl _ _).alloc (Nat.le_refl _) _).alloc (by simp) _
theorem dcn {l : List UInt8} {pos : Nat} {c : UInt8} (hc : c.toNat < 128) (hp : pos < l.length) (h : c ∉ l) : ((Utf8.decode (mkS l) pos).1 : Int) ≠ (c.toNat : Int) := fun e => dec_ne hc hp h (by omega)
theorem idxAnyS_ok (s : List UInt8) (hs : s.length ≤ 8) (h32 : (32 : UInt8) ∉ s) (h34 : (34 : UInt8) ∉ s) : FnOK LaidW Tryz.prog 18 [sv s, sv [32, 34]] (iv (-1)) := by
  refine FnOK_of laidW_stable Tryz.func18 Tryz.ntmps18 rfl (by as_aux_lemma => kernel_rfl) (Nat.le_of_ble_eq_true rfl) (fun R hR => ?_)
  obtain ⟨_, b, cs, T, C⟩ := R
  obtain rfl : _ = Tryz.prog := hR.p
  have h8 : decide ((8 : Int) < (s.length : Int)) = false := decide_eq_false (by omega)
  refine Exec.seq ?_
  apply Exec.regionL te_ok
  · intro ops' Q hQ
    simp only [go_sem, h8]
    repeat refine ob2 ?_
    exact hQ
  refine Exec.seq ?_
  refine Exec.seq ?_
  apply Exec.regionL te_ok
  · intro ops' Q hQ
    simp only [go_sem, h8]
    repeat refine ob2 ?_
    exact hQ
  refine Exec.cond (t := false) rfl ?_
  simp only [reduceIte, Bool.false_eq_true]
  refine Exec.skip ?_
  refine Exec.seq ?_
  refine Exec.seq ?_
  apply Exec.regionL te_ok
  · intro ops' Q hQ
    simp only [go_sem, h8]
    repeat refine ob2 ?_
    exact hQ
  refine Exec.cond (t := false) rfl ?_
  simp only [reduceIte, Bool.false_eq_true]
  refine Exec.skip ?_
  refine Exec.seq ?_
  refine Exec.seq ?_
  apply Exec.regionL te_ok
  · intro ops' Q hQ
    simp only [go_sem, h8]
    repeat refine ob2 ?_
    refine kcall hR.inv te_ok rfl rfl rfl rfl rfl rfl (should_ok _) ?_
    simp only [go_sem, h8]
    repeat refine ob2 ?_
    exact hQ
  refine Exec.cond (t := false) rfl ?_
  simp only [reduceIte, Bool.false_eq_true]
  refine Exec.skip ?_
  refine Exec.seq ?_
  refine Exec.seq ?_
  refine Exec.regStart 2 rfl ?_
  apply Exec.regPart 0 1 1 te_ok rfl
  · intro ops' Q hQ
    simp only [go_sem, h8]
    repeat refine ob2 ?_
    exact hQ
  refine Exec.rangeStr te_ok (m := 0) rfl rfl rfl rfl rfl rfl rfl (fun ls0 hls0 => ?_)
  apply Exec.norm
  · try simp only [go_sem, h8]
    rfl
  refine Exec.regEnd ?_
  refine Exec.block ?_
  apply Exec.loopUP [1, 45] (X := Nat) (fun i => []) (fun i => []) (fun i => []) (fun i => [(ls0, .stringIter (mkS s) i)]) (fun i => s.length - i) (fun i => True) 0
  case hP => rfl
  case h0 =>
    trivial
  case hw =>
    simp only [go_sem, h8]
  case body =>
    rintro i hx ih0
    try simp only at hx
    apply Exec.norm
    · try simp only [go_sem, h8]
      rfl
    refine Exec.seq ?_
    refine Exec.regStart 2 rfl ?_
    refine Exec.nextStr (m := 1) rfl rfl rfl rfl rfl rfl rfl hls0 (fun hn0 => ?_) (fun hn0 => ?_)
    · skip
      apply Exec.norm
      · try simp only [go_sem, h8]
        rfl
      have hi : i < s.length := by rw [mkS_size] at hn0; exact hn0
      apply Exec.regPart 1 1 0 te_ok rfl
      · intro ops' Q hQ
        simp only [go_sem, h8]
        repeat refine ob2 ?_
        exact hQ
      refine Exec.regEnd ?_
      refine Exec.seq ?_
      refine Exec.cond (t := true) rfl ?_
      simp only [reduceIte, Bool.false_eq_true]
      refine Exec.skip ?_
      refine Exec.block ?_
      refine Exec.seq ?_
      apply Exec.regionL te_ok
      · intro ops' Q hQ
        simp only [go_sem, h8]
        repeat refine ob2 ?_
        exact hQ
      refine Exec.seq ?_
      apply Exec.regionL te_ok
      · intro ops' Q hQ
        simp only [go_sem, h8]
        repeat refine ob2 ?_
        refine kcall hR.inv te_ok rfl rfl rfl rfl rfl rfl (irune_ok _ (by omega) (by have := Lib.rune_le (mkS s) i; omega) (dcn (by decide) hi h32) (dcn (by decide) hi h34)) ?_
        simp only [go_sem, h8]
        repeat refine ob2 ?_
        exact hQ
      refine Exec.cond (t := false) rfl ?_
      simp only [reduceIte, Bool.false_eq_true]
      refine Exec.skip ?_
      refine Exec.inBlock ?_
      refine Exec.backP (ih0 (i + (Utf8.decode (mkS s) i).2) ?_ ?_) ?_ ?_ ?_ ?_ ?_ ?_ ?_
      · try simp only
        all_goals trivial
      · try simp only
        have := Lib.width_pos (mkS s) i
        omega
      · rfl
      · rfl
      · (simp only [go_sem, h8])
      · (simp only [go_sem, h8])
      · (simp only [go_sem, h8])
      · simp only [go_sem, h8]
      · rfl
    · skip
      apply Exec.norm
      · try simp only [go_sem, h8]
        rfl
      apply Exec.regPart 1 1 0 te_ok rfl
      · intro ops' Q hQ
        simp only [go_sem, h8]
        repeat refine ob2 ?_
        exact hQ
      refine Exec.regEnd ?_
      refine Exec.seq ?_
      refine Exec.cond (t := false) rfl ?_
      simp only [reduceIte, Bool.false_eq_true]
      refine Exec.exit rfl ?_
      refine Exec.seq ?_
      apply Exec.regionL te_ok
      · intro ops' Q hQ
        simp only [go_sem, h8]
        repeat refine ob2 ?_
        exact hQ
      refine Exec.rets hR te_ok rfl rfl rfl (LeX.le ?_) (.inr ⟨_, rfl⟩)
      simp only [go_sem, h8]
theorem idxAny_ok (s : List UInt8) (hs : s.length ≤ 1600) (h32 : (32 : UInt8) ∉ s) (h34 : (34 : UInt8) ∉ s) : FnOK LaidW Tryz.prog 18 [sv s, sv [32, 34]] (iv (-1)) := by
  by_cases h : s.length ≤ 8
  · exact idxAnyS_ok s h h32 h34
  · exact idxAnyL_ok s (by omega) hs h32 h34
theorem conAny_ok (s : List UInt8) (hs : s.length ≤ 1600) (h32 : (32 : UInt8) ∉ s) (h34 : (34 : UInt8) ∉ s) : FnOK LaidW Tryz.prog 10 [sv s, sv [32, 34]] (bv false) := by
  refine FnOK_of laidW_stable Tryz.func10 Tryz.ntmps10 rfl (by as_aux_lemma => kernel_rfl) (Nat.le_of_ble_eq_true rfl) (fun R hR => ?_)
  obtain ⟨_, b, cs, T, C⟩ := R
  obtain rfl : _ = Tryz.prog := hR.p
  refine Exec.seq ?_
  apply Exec.regionL te_ok
  · intro ops' Q hQ
    simp only [go_sem]
    repeat refine ob2 ?_
    exact hQ
  refine Exec.seq ?_
  apply Exec.regionL te_ok
  · intro ops' Q hQ
    simp only [go_sem]
    repeat refine ob2 ?_
    refine kcall hR.inv te_ok rfl rfl rfl rfl rfl rfl (idxAny_ok _ hs h32 h34) ?_
    simp only [go_sem]
    repeat refine ob2 ?_
    exact hQ
  refine Exec.rets hR te_ok rfl rfl rfl (LeX.le ?_) (.inr ⟨_, rfl⟩)
  simp only [go_sem]
  all_goals decide
end Go.Proofs.YtgnhhjojiipmgaaGreatDoor
namespace Go.Proofs.YtgnhhjojiipmgaaGreatDoor
open Go
/-! ### words of joined texts -/
theorem trim_app {a b : List UInt8} : Lib.trimLeftB (a ++ b) 32 = if Lib.trimLeftB a 32 = [] then Lib.trimLeftB b 32 else Lib.trimLeftB a 32 ++ b := by
  unfold Lib.trimLeftB
  induction a with
  | nil => simp
  | cons c a ih =>
    rw [List.cons_append, List.dropWhile_cons, List.dropWhile_cons]
    by_cases hc : (c == 32) = true
    · rw [if_pos hc, if_pos hc, ih]
    · rw [if_neg hc, if_neg hc, if_neg (by simp)]; simp
theorem spn_app (c : UInt8) (l m : List UInt8) : spn c (l ++ m) = if spn c l < l.length then spn c l else l.length + spn c m := by
  induction l with
  | nil => simp [spn]
  | cons a l ih =>
    have e1 : spn c (a :: l) = if a = c then 0 else spn c l + 1 := rfl
    have e2 : spn c (a :: l ++ m) = if a = c then 0 else spn c (l ++ m) + 1 := rfl
    rw [e1, e2]
    by_cases ha : a = c
    · rw [if_pos ha, if_pos ha, if_pos (by simp)]
    · rw [if_neg ha, if_neg ha, ih, List.length_cons]
      by_cases h : spn c l < l.length
      · rw [if_pos h, if_pos (by omega)]
      · rw [if_neg h, if_neg (by omega)]; omega
/-- a word stays, when a space comes behind -/
theorem wd_app {c : UInt8} {r w rest t : List UInt8} (hc : c ≠ 32) (h : wd c r = some (w, rest)) : wd c (r ++ 32 :: t) = some (w, rest ++ 32 :: t) := by
  unfold wd at h ⊢
  by_cases h0 : c = 34
  · rw [if_pos h0] at h ⊢
    by_cases h1 : spn 34 r < r.length ∧ nxt ((c :: r).drop (spn 34 r + 2)) = true
    · rw [if_pos h1] at h
      cases h
      have hs : spn 34 (r ++ 32 :: t) = spn 34 r := by rw [spn_app, if_pos h1.1]
      have hd : (c :: (r ++ 32 :: t)).drop (spn 34 r + 2) = (c :: r).drop (spn 34 r + 2) ++ 32 :: t := by
        rw [← List.cons_append, List.drop_append_of_le_length (by simp; omega)]
      rw [hs, if_pos]
      · rw [hd, ← List.cons_append, List.take_append_of_le_length (by simp; omega)]
      · refine ⟨by simp; omega, ?_⟩
        rw [hd]
        cases hq : (c :: r).drop (spn 34 r + 2) with
        | nil => rfl
        | cons d q => have := h1.2; rw [hq] at this; exact this
    · rw [if_neg h1] at h; cases h
  · rw [if_neg h0] at h ⊢
    by_cases h1 : 34 ∈ (c :: r).take (spn 32 (c :: r))
    · rw [if_pos h1] at h; cases h
    · rw [if_neg h1] at h
      cases h
      have hle := spn_le 32 (c :: r)
      have hs : spn 32 (c :: (r ++ 32 :: t)) = spn 32 (c :: r) := by
        rw [← List.cons_append, spn_app]
        by_cases hl : spn 32 (c :: r) < (c :: r).length
        · rw [if_pos hl]
        · rw [if_neg hl]
          have : spn 32 (32 :: t) = 0 := by unfold spn; rw [if_pos rfl]
          omega
      rw [hs, ← List.cons_append, List.take_append_of_le_length hle, if_neg h1, List.drop_append_of_le_length hle]
theorem wF_app : ∀ (f : Nat) (a t : List UInt8) (x : List (List UInt8)), a.length ≤ f → wF f a = some x → wA (a ++ 32 :: t) = (wA t).map (x ++ ·)
  | 0, a, t, x, hf, h => by
    have : a = [] := List.eq_nil_of_length_eq_zero (by omega)
    subst this
    cases h
    rw [List.nil_append, wA_skip]
    cases wA t <;> rfl
  | f + 1, a, t, x, hf, h => by
    have ht := trim_le a
    unfold wF at h
    rw [← wA_trim (a ++ 32 :: t), trim_app]
    cases hl : Lib.trimLeftB a 32 with
    | nil =>
      rw [hl] at h
      cases h
      rw [if_pos rfl, wA_trim, wA_skip]
      cases wA t <;> rfl
    | cons c r =>
      rw [hl] at h ht
      simp only [List.length_cons] at h ht
      rw [if_neg (by simp), List.cons_append]
      have hc := trim_head hl
      cases hw : wd c r with
      | none => rw [hw] at h; cases h
      | some y =>
        obtain ⟨w, rest⟩ := y
        rw [hw] at h
        simp only at h
        obtain ⟨h1, h2, h3⟩ := wd_rest hc hw
        rw [wA_some hc (wd_app hc hw)]
        cases hz : wF f rest with
        | none => rw [hz] at h; cases h
        | some z =>
          rw [hz] at h
          cases h
          rw [wF_app f rest t z (by omega) hz]
          cases wA t <;> rfl
/-- P32: words of words -/
theorem split_words {a b : List UInt8} (ha : wB a = true) (hb : wB b = true) : wB (a ++ [32, 32] ++ b) = true ∧ wL (a ++ [32, 32] ++ b) = wL a ++ wL b := by
  unfold wB at ha hb ⊢
  unfold wL
  obtain ⟨x, hx⟩ := Option.isSome_iff_exists.1 ha
  obtain ⟨y, hy⟩ := Option.isSome_iff_exists.1 hb
  have : wA (a ++ [32, 32] ++ b) = some (x ++ y) := by
    rw [List.append_assoc]
    show wA (a ++ 32 :: (32 :: b)) = _
    rw [wF_app a.length a (32 :: b) x (Nat.le_refl _) hx, wA_skip, hy]; rfl
  rw [this, hx, hy]; exact ⟨rfl, rfl⟩
/-- a word in quotes -/
def quo (w : List UInt8) : Prop := 1 < w.length ∧ w.head? = some 34 ∧ w.getLast? = some 34 ∧ (34 : UInt8) ∉ (w.drop 1).take (w.length - 2)
theorem wd_word {c : UInt8} {r w rest : List UInt8} (hc : c ≠ 32) (h : wd c r = some (w, rest)) : w ≠ [] ∧ (quo w ∨ ((32 : UInt8) ∉ w ∧ (34 : UInt8) ∉ w)) := by
  have hne : w ≠ [] := fun e => by have := (wd_rest hc h).2.1; rw [e] at this; simp at this
  refine ⟨hne, ?_⟩
  have notin : ∀ (d : UInt8) (l : List UInt8), d ∉ l.take (spn d l) := fun d l => by
    induction l with
    | nil => simp
    | cons a l ih =>
      unfold spn
      by_cases ha : a = d
      · rw [if_pos ha]; simp
      · rw [if_neg ha, List.take_succ_cons]
        simp only [List.mem_cons, not_or]
        exact ⟨fun e => ha e.symm, ih⟩
  unfold wd at h
  by_cases h0 : c = 34
  · rw [if_pos h0] at h
    by_cases h1 : spn 34 r < r.length ∧ nxt ((c :: r).drop (spn 34 r + 2)) = true
    · rw [if_pos h1] at h
      cases h
      left
      have hat : r[spn 34 r]? = some 34 := by
        have := spn_at 34 (l := r) (k := spn 34 r) (b := r[spn 34 r]) (by simp [h1.1]) (Nat.le_refl _)
        by_cases hb : r[spn 34 r] = 34
        · rw [List.getElem?_eq_getElem h1.1, hb]
        · have := this.2 hb; omega
      have hw : (c :: r).take (spn 34 r + 2) = 34 :: (r.take (spn 34 r) ++ [34]) := by
        rw [List.take_succ_cons, List.take_add_one, hat, h0]; rfl
      rw [hw]
      refine ⟨by simp only [List.length_cons, List.length_append, List.length_nil]; omega, rfl, by rw [← List.cons_append, List.getLast?_append]; rfl, ?_⟩
      have : (34 :: (List.take (spn 34 r) r ++ [34])).length - 2 = (List.take (spn 34 r) r).length := by
        simp only [List.length_cons, List.length_append, List.length_nil]; omega
      rw [this]
      rw [List.drop_succ_cons, List.drop_zero, List.take_left]
      exact notin 34 r
    · rw [if_neg h1] at h; cases h
  · rw [if_neg h0] at h
    by_cases h1 : 34 ∈ (c :: r).take (spn 32 (c :: r))
    · rw [if_pos h1] at h; cases h
    · rw [if_neg h1] at h
      cases h
      exact .inr ⟨notin 32 (c :: r), h1⟩
theorem wF_words : ∀ (f : Nat) (a : List UInt8) (x : List (List UInt8)), wF f a = some x → ∀ w ∈ x, w ≠ [] ∧ (quo w ∨ ((32 : UInt8) ∉ w ∧ (34 : UInt8) ∉ w))
  | 0, a, x, h, w, hw => by cases h; cases hw
  | f + 1, a, x, h, w, hw => by
    unfold wF at h
    cases hl : Lib.trimLeftB a 32 with
    | nil => rw [hl] at h; cases h; cases hw
    | cons c r =>
      rw [hl] at h
      simp only at h
      have hc := trim_head hl
      cases hd : wd c r with
      | none => rw [hd] at h; cases h
      | some y =>
        obtain ⟨u, rest⟩ := y
        rw [hd] at h
        simp only at h
        cases hz : wF f rest with
        | none => rw [hz] at h; cases h
        | some z =>
          rw [hz] at h
          cases h
          rcases List.mem_cons.1 hw with rfl | hw
          · exact wd_word hc hd
          · exact wF_words f rest z hz w hw
theorem wL_words (a : List UInt8) : ∀ w ∈ wL a, w ≠ [] ∧ (quo w ∨ ((32 : UInt8) ∉ w ∧ (34 : UInt8) ∉ w)) := by
  unfold wL
  cases h : wA a with
  | none => intro w hw; cases hw
  | some x => exact wF_words _ _ _ h
/-! ### lines -/
/-- the text's lines -/
def lnF : Nat → List UInt8 → List (List UInt8)
  | 0, _ => []
  | f + 1, l => if l = [] then [] else l.take (spn 10 l) :: lnF f (l.drop (spn 10 l + 1))
def lnL (l : List UInt8) : List (List UInt8) := lnF l.length l
theorem lnF_fuel : ∀ (f g : Nat) (l : List UInt8), l.length ≤ f → l.length ≤ g → lnF f l = lnF g l
  | 0, 0, _, _, _ => rfl
  | 0, g + 1, l, h, _ => by
    have : l = [] := List.eq_nil_of_length_eq_zero (by omega)
    subst this; rfl
  | f + 1, 0, l, _, h => by
    have : l = [] := List.eq_nil_of_length_eq_zero (by omega)
    subst this; rfl
  | f + 1, g + 1, l, hf, hg => by
    unfold lnF
    by_cases h : l = []
    · rw [if_pos h, if_pos h]
    · rw [if_neg h, if_neg h]
      have : l.length ≠ 0 := fun e => h (List.eq_nil_of_length_eq_zero e)
      rw [lnF_fuel f g (l.drop (spn 10 l + 1)) (by rw [List.length_drop]; omega) (by rw [List.length_drop]; omega)]
theorem lnL_nil : lnL [] = [] := rfl
theorem lnL_on {l : List UInt8} (h : l ≠ []) : lnL l = l.take (spn 10 l) :: lnL (l.drop (spn 10 l + 1)) := by
  have hl : l.length ≠ 0 := fun e => h (List.eq_nil_of_length_eq_zero e)
  unfold lnL
  obtain ⟨n, hn⟩ : ∃ n, l.length = n + 1 := ⟨l.length - 1, by omega⟩
  rw [hn]
  conv => lhs; unfold lnF
  rw [if_neg h, lnF_fuel n (l.drop (spn 10 l + 1)).length _ (by rw [List.length_drop]; omega) (Nat.le_refl _)]
theorem spn_notin (d : UInt8) (l : List UInt8) : d ∉ l.take (spn d l) := by
  induction l with
  | nil => simp
  | cons a l ih =>
    unfold spn
    by_cases ha : a = d
    · rw [if_pos ha]; simp
    · rw [if_neg ha, List.take_succ_cons]
      simp only [List.mem_cons, not_or]
      exact ⟨fun e => ha e.symm, ih⟩
end Go.Proofs.YtgnhhjojiipmgaaGreatDoor
namespace Go.Proofs.YtgnhhjojiipmgaaGreatDoor
open Go
/-! ### the lines give the text back -/
theorem suf_iff (a : List UInt8) : Lib.hasSuffix a [10] = true ↔ a.getLast? = some 10 := by
  unfold Lib.hasSuffix
  rw [List.isSuffixOf_iff_suffix]
  constructor
  · rintro ⟨t, rfl⟩; simp
  · intro h
    obtain ⟨l, hl⟩ := List.getLast?_eq_some_iff.1 h
    exact ⟨l, hl.symm⟩
theorem suf_app (x : List UInt8) {r : List UInt8} (hr : r ≠ []) : Lib.hasSuffix (x ++ r) [10] = Lib.hasSuffix r [10] := by
  rw [Bool.eq_iff_iff, suf_iff, suf_iff, List.getLast?_append]
  cases h : r.getLast? with
  | none => exact absurd (List.getLast?_eq_none_iff.1 h) hr
  | some b => simp
theorem spn_cut {c : UInt8} : ∀ {l : List UInt8}, spn c l < l.length → l.take (spn c l) ++ c :: l.drop (spn c l + 1) = l
  | [], h => by simp at h
  | a :: l, h => by
    unfold spn at h ⊢
    by_cases ha : a = c
    · rw [if_pos ha]; simp [ha]
    · rw [if_neg ha] at h ⊢
      have := spn_cut (c := c) (l := l) (by simpa using h)
      rw [List.take_succ_cons, List.drop_succ_cons, List.cons_append, this]
theorem spn_all {c : UInt8} {l : List UInt8} (h : ¬ spn c l < l.length) : l.take (spn c l) = l ∧ l.drop (spn c l + 1) = [] ∧ c ∉ l := by
  have h1 : l.take (spn c l) = l := List.take_of_length_le (by omega)
  refine ⟨h1, List.drop_eq_nil_of_le (by omega), ?_⟩
  have := spn_notin c l
  rwa [h1] at this
theorem suf_mem {l : List UInt8} (h : (10 : UInt8) ∉ l) : Lib.hasSuffix l [10] = false := by
  cases hs : Lib.hasSuffix l [10] with
  | false => rfl
  | true => exact absurd (List.mem_of_getLast? ((suf_iff l).1 hs)) h
theorem lnL_ne {l : List UInt8} (h : l ≠ []) : lnL l ≠ [] := by rw [lnL_on h]; simp
theorem join_two (x : List UInt8) {r : List (List UInt8)} (h : r ≠ []) : Lib.join (x :: r) [10] = x ++ 10 :: Lib.join r [10] := by
  cases r with
  | nil => exact absurd rfl h
  | cons y r =>
    rw [Lib.join_cons, Lib.join_cons]
    simp [Lib.joinTail]
def bck (a : List UInt8) : List UInt8 := if Lib.hasSuffix a [10] = true then Lib.join (lnL a) [10] ++ [10] else Lib.join (lnL a) [10]
theorem bck_eq : ∀ (n : Nat) (a : List UInt8), a.length ≤ n → bck a = a
  | 0, a, h => by
    have : a = [] := List.eq_nil_of_length_eq_zero (by omega)
    subst this; rfl
  | n + 1, a, h => by
    by_cases ha : a = []
    · subst ha; rfl
    · unfold bck
      rw [lnL_on ha]
      by_cases hs : spn 10 a < a.length
      · have hc := spn_cut hs
        by_cases hr : a.drop (spn 10 a + 1) = []
        · rw [hr] at hc ⊢
          rw [lnL_nil, Lib.join_one, if_pos]
          · exact hc
          · rw [suf_iff, ← hc]; simp
        · have ih := bck_eq n (a.drop (spn 10 a + 1)) (by rw [List.length_drop]; have := List.length_pos_iff.2 ha; omega)
          rw [join_two _ (lnL_ne hr)]
          have hsx : Lib.hasSuffix a [10] = Lib.hasSuffix (a.drop (spn 10 a + 1)) [10] := by
            conv => lhs; rw [← hc]
            rw [show a.take (spn 10 a) ++ 10 :: a.drop (spn 10 a + 1) = (a.take (spn 10 a) ++ [10]) ++ a.drop (spn 10 a + 1) by simp]
            exact suf_app _ hr
          rw [hsx]
          unfold bck at ih
          by_cases hh : Lib.hasSuffix (a.drop (spn 10 a + 1)) [10] = true
          · rw [if_pos hh] at ih ⊢
            rw [List.append_assoc, List.cons_append, ih, hc]
          · rw [if_neg hh] at ih ⊢
            rw [ih, hc]
      · obtain ⟨h1, h2, h3⟩ := spn_all hs
        rw [h1, h2, lnL_nil, Lib.join_one, if_neg (by rw [suf_mem h3]; simp)]
theorem join_le (a : List UInt8) : (Lib.join (lnL a) [10]).length ≤ a.length := by
  have := bck_eq a.length a (Nat.le_refl _)
  have h2 := congrArg List.length this
  unfold bck at h2
  split at h2
  · simp at h2; omega
  · omega
theorem lnF_len : ∀ (f : Nat) (l : List UInt8), (lnF f l).length ≤ l.length
  | 0, l => by unfold lnF; simp
  | f + 1, l => by
    unfold lnF
    by_cases h : l = []
    · rw [if_pos h]; simp
    · rw [if_neg h]
      have := lnF_len f (l.drop (spn 10 l + 1))
      rw [List.length_drop] at this
      have := List.length_pos_iff.2 h
      simp; omega
theorem lnL_len (l : List UInt8) : (lnL l).length ≤ l.length := lnF_len _ _
/-! ### one line, as it is cut -/
theorem trim_line {l : List UInt8} (h : spn 10 l < l.length) : Lib.trimSuffix (l.take (spn 10 l + 1)) [10] = l.take (spn 10 l) := by
  have hc := spn_cut h
  have ht : l.take (spn 10 l + 1) = l.take (spn 10 l) ++ [10] := by
    have hl : (l.take (spn 10 l)).length = spn 10 l := by rw [List.length_take]; omega
    rw [List.take_add_one]
    have : l[spn 10 l]? = some 10 := by
      generalize spn 10 l = n at hc hl
      rw [← hc, List.getElem?_append_right (by omega), hl]; simp
    rw [this]; rfl
  unfold Lib.trimSuffix
  rw [ht, if_pos (by rw [suf_iff]; simp)]
  simp
theorem trim_last {l : List UInt8} (h : ¬ spn 10 l < l.length) : Lib.trimSuffix l [10] = l := by
  unfold Lib.trimSuffix
  rw [if_neg]
  rw [suf_mem (spn_all h).2.2]; simp
end Go.Proofs.YtgnhhjojiipmgaaGreatDoor
