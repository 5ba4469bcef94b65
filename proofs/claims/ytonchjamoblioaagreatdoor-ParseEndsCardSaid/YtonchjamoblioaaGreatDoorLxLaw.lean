/- Steps of a function body on data, and contracts of the functions of the seat, walked. -/
import Derived.Test.YtonchjamoblioaaGreatDoorZShX
import Derived.Test.YtonchjamoblioaaGreatDoorP5
import Derived.Test.YtonchjamoblioaaGreatDoorZ0
import Derived.Lib.AtoiErrMem
set_option linter.unusedSimpArgs false
set_option linter.unusedVariables false
namespace Go.Proofs.YtonchjamoblioaaGreatDoor
open Go.Kin
set_option maxRecDepth 100000
/-- what the program's variables hold, as far as words look at them -/
structure LaidX (w : World) : Prop where
 v : Laid w
 syn : ∃ tp p, w.var? Tryz.prog "strconv.ErrSyntax" = some #[.iface tp p]
 rng : ∃ tp p, w.var? Tryz.prog "strconv.ErrRange" = some #[.iface tp p]
 sp : Lib.TabIs Tryz.prog w "strings.asciiSpace" .u8 Lib.asciiSpaceTab
theorem laidX_stable : Stable LaidX := fun w w' h hb =>
 ⟨laid_stable w w' h.v hb, h.syn.elim fun tp ⟨p, hp⟩ => ⟨tp, p, var_below hp hb⟩, h.rng.elim fun tp ⟨p, hp⟩ => ⟨tp, p, var_below hp hb⟩, var_below h.sp hb⟩
theorem laidX_laid : ∀ w, LaidX w → Laid w := fun _ h => h.v
theorem hasPre_ok (s p : List UInt8) : FnOK LaidX Tryz.prog 199 [sv s, sv p] (bv (Lib.hasPrefix s p)) :=
 FnOK.lib ⟨Tryz.f199, Tryz.func199, by kernel_rfl, by kernel_rfl⟩ fun w Z vs hI hr => by
  obtain rfl := rd_two hr
  refine (Tryz.strings_HasPrefix (mkS s) (mkS p) w).mono ?_
  rintro e w' ⟨rfl, rfl⟩
  exact ⟨rfl, RowKit.Below.refl _ _⟩
theorem trimPre_ok (s p : List UInt8) : FnOK LaidX Tryz.prog 215 [sv s, sv p] (sv (Lib.trimPrefix s p)) :=
 FnOK.lib ⟨Tryz.f215, Tryz.func215, by kernel_rfl, by kernel_rfl⟩ fun w Z vs hI hr => by
  obtain rfl := rd_two hr
  refine (Tryz.strings_TrimPrefix (mkS s) (mkS p) w).mono ?_
  rintro e w' ⟨rfl, rfl⟩
  exact ⟨rfl, RowKit.Below.refl _ _⟩
theorem trimSuf_ok (s p : List UInt8) (hs : s.length ≤ 9223372036854775807) : FnOK LaidX Tryz.prog 214 [sv s, sv p] (sv (Lib.trimSuffix s p)) :=
 FnOK.lib ⟨Tryz.f214, Tryz.func214, by kernel_rfl, by kernel_rfl⟩ fun w Z vs hI hr => by
  obtain rfl := rd_two hr
  refine (Tryz.strings_TrimSuffix (mkS s) (mkS p) w (by rw [mkS_size]; exact hs)).mono ?_
  rintro e w' ⟨rfl, rfl⟩
  exact ⟨rfl, RowKit.Below.refl _ _⟩
theorem indexByte_ok (s : List UInt8) (c : Int) : FnOK LaidX Tryz.prog 164 [sv s, u8 c] (iv (Lib.indexByte s c.toNat.toUInt8)) :=
 FnOK.lib ⟨Tryz.f164, Tryz.func164, by kernel_rfl, by kernel_rfl⟩ fun w Z vs hI hr => by
  obtain rfl := rd_two hr
  refine (Tryz.strings_IndexByte (mkS s) c w).mono ?_
  rintro e w' ⟨rfl, rfl⟩
  exact ⟨rfl, RowKit.Below.refl _ _⟩
/-- the error beside it: nil, or one that is not looked into -/
def atoiE (s : List UInt8) : D := match Lib.atoiAll s with
 | .ok _ => .v .nilIface
 | _ => .ifc 233 (.ptr [])
theorem atoi_ok (s : List UInt8) (hs : s.length ≤ 281474976710656) : FnOK LaidX Tryz.prog 216 [sv s] (.tup [iv (atoiN s), atoiE s]) := by
 refine ⟨⟨Tryz.f216, Tryz.func216, by kernel_rfl, by kernel_rfl⟩, fun w Z vs hI hZ hr => ?_⟩
 obtain rfl := rd_one hr
 have hz : (mkS s).size ≤ 281474976710656 := by rw [mkS_size]; exact hs
 have hb : (mkS s).data.toList = s := by simp [mkS]
 have fin : ∀ {w' : World} {N : Nat} {n : Int} {cs : Array Value} {T : TypeId}, w.heap.size ≤ N → w'.heap[N]? = some (.cells cs T (0, 0)) → RowKit.Below w.heap.size w w' →
   ∃ v Z', Ending.returned (.tuple #[.int .i64 n, .iface 233 (.pointer (some ⟨N, 0, none⟩))]) = .returned v ∧ RowKit.Below w.heap.size w w' ∧ (∀ b, Z' b → b < w'.heap.size ∧ (Z b ∨ w.heap.size ≤ b)) ∧ RdV w' Z' (.tup [iv n, .ifc 233 (.ptr [])]) v := fun {w' N n cs T} h1 h2 h3 => by
  refine ⟨_, fun b => b = N, rfl, h3, fun b hb => ?_, ?_⟩
  ·subst hb
   exact ⟨(Array.getElem?_eq_some_iff.1 h2).1, .inr h1⟩
  ·simp only [RdV, RdL, RdC]
   exact ⟨_, rfl, _, _, rfl, rfl, _, _, rfl, ⟨_, rfl, N, 0, rfl, rfl, trivial⟩, rfl⟩
 unfold atoiN atoiE
 cases h : Lib.atoiAll s
 ·rename_i v
  refine (Tryz.strconv_Atoi_ok (mkS s) (by omega) v (by rw [hb]; exact h) w).mono ?_
  rintro e w' ⟨rfl, hw⟩
  have hbel : RowKit.Below w.heap.size w w' := by
   rcases hw with rfl | ⟨t, rfl⟩
   ·exact RowKit.Below.refl _ _
   ·exact Lib.bytesWorld_below _ _ _
  refine ⟨_, Z, rfl, hbel, fun b hz => ⟨Nat.lt_of_lt_of_le (hZ b hz) hbel.size, .inl hz⟩, ?_⟩
  simp only [RdV, RdL]
  exact ⟨_, rfl, _, _, rfl, rfl, _, _, rfl, rfl, rfl⟩
 ·obtain ⟨tp, p, hv⟩ := hI.syn
  refine (Tryz.strconv_Atoi_bad (mkS s) hz (by rw [hb, h]; intro v e; cases e) (by rw [hb, h]; intro e; cases e) tp p w hv).mono ?_
  rintro e w' ⟨N, rfl, h1, h2, h3⟩
  exact fin h1 h2 h3
 ·obtain ⟨tp, p, hv⟩ := hI.rng
  refine (Tryz.strconv_Atoi_range_var (mkS s) hz (by rw [hb]; exact h) tp p w hv).mono ?_
  rintro e w' ⟨N, rfl, h1, h2, h3⟩
  rw [hb]
  exact fin h1 h2 h3
def signsLit : List UInt8 := [40, 32, 41, 32, 91, 32, 93, 32, 44, 32, 46, 32, 124, 32, 42, 32, 43, 32, 63, 32, 61, 32, 33, 61, 32, 60, 32, 60, 61, 32, 62, 32, 62, 61, 32, 45, 91, 32, 93, 45, 62, 32, 61, 91, 32, 93, 61, 62]
theorem signs_eq : Lib.fields signsLit = signsF := by decide
theorem fields_ok : FnOK LaidX Tryz.prog 198 [sv signsLit] (.sl 1 20 20 fun i => [sv (nth signsF i)]) := by
 refine ⟨⟨Tryz.f198, Tryz.func198, by kernel_rfl, by kernel_rfl⟩, fun w Z vs hI hZ hr => ?_⟩
 obtain rfl := rd_one hr
 have hb : (mkS signsLit).data.toList = signsLit := by simp [mkS]
 refine (Tryz.strings_Fields (mkS signsLit) w (by rw [mkS_size]; decide) (fun j b hj => ?_) hI.sp).mono ?_
 ·rw [hb] at hj
  have : ∀ b ∈ signsLit, b.toNat < 128 := by decide
  exact this b (List.mem_of_getElem? hj)
 rintro e w' ⟨rfl, rfl⟩
 rw [hb, signs_eq]
 have hbel : RowKit.Below w.heap.size w (w.alloc (.cells (signsF.map fun l => Value.string ⟨l.toArray⟩).toArray 9)) := (RowKit.Below.refl _ w).alloc (Nat.le_refl _) _
 refine ⟨_, fun b => b = w.heap.size, rfl, hbel, fun b hb => ?_, ?_⟩
 ·subst hb; simp
 ·simp only [RdV]
  refine ⟨_, 20, rfl, by decide, by decide, by decide, .inr ⟨w.heap.size, 0, rfl, rfl, fun i hi => ⟨rfl, rfl, ?_⟩⟩⟩
  simp only [RdC, and_true]
  refine ⟨.string (mkS (nth signsF i)), ?_, by simp only [RdV]⟩
  have hi2 : i < signsF.length := hi
  simp only [World.cell?, alloc_heap, if_true]
  simp [nth, List.getD_eq_getElem?_getD, List.getElem?_eq_getElem hi2, mkS]
end Go.Proofs.YtonchjamoblioaaGreatDoor
namespace Go.Proofs.YtonchjamoblioaaGreatDoor
open Go.Kin
set_option maxRecDepth 100000
set_option maxHeartbeats 0
attribute [go_sem] te_1 te_2 te_3 te_4 te_5 te_9 te_12 te_13 te_15 te_16 te_20 te_21 te_22 te_23 te_24 te_25 te_26 te_27 te_28 te_29 te_30 te_31 te_32 te_33 te_34 te_35 te_36 te_38 te_39 te_40 te_41 te_42 te_43 te_44 te_45 te_46 te_47 te_48 te_49 te_51 te_53 te_56 te_59 te_62 te_67 te_69 te_76 te_98 te_99 te_103 te_104 te_107 te_109 te_111 te_118 te_122 te_129 te_132 te_133 te_134 te_137 te_140 te_143 te_146 te_147 te_152 te_155 te_157 te_166 te_171 te_172 te_173 te_174 te_177 te_181 te_182 te_184 te_186 te_190 te_191 te_200 te_203 te_206 te_207 te_209 te_223 te_225 te_227 te_228 te_230 te_233 te_236 te_237 te_239 te_240 te_242 te_245 te_251 te_256 te_258
theorem right_okX (k n : Int) (s : List UInt8) (hs : s.length ≤ 9223372036854775806) : FnOK LaidX Tryz.prog 176 [vl k n s] (.v (.bool (rightV k n s))) := (right_ok k n s hs).weak laidX_laid
theorem shown_okX (k n : Int) (s : List UInt8) (hn : k = 2 ∨ I64 n) (hs : s.length ≤ 281474976710656) : FnOK LaidX Tryz.prog 181 [vl k n s] (sv (shownV k n s)) := (shown_ok k n s hn hs).weak laidX_laid
theorem rright_okX (k n : Int) (s : List UInt8) (hs : s.length ≤ 9223372036854775806) : FnOK LaidX Tryz.prog 151 [vl k n s] (.v (.bool (rightV k n s))) := (rright_ok k n s hs).weak laidX_laid
theorem num_ok (n : Int) : FnOK LaidX Tryz.prog 217 [iv n] (vl 1 n []) := by
  refine FnOK_of laidX_stable Tryz.func217 Tryz.ntmps217 rfl (by as_aux_lemma => kernel_rfl) (Nat.le_of_ble_eq_true rfl) (fun R hR => ?_)
  obtain ⟨_, b, cs, T, C⟩ := R
  obtain rfl : _ = Tryz.prog := hR.p
  refine sreg te_ok ?_
  refine sreg te_ok ?_
  refine Exec.rets hR te_ok rfl rfl rfl (LeX.le ?_) (.inr ⟨_, rfl⟩)
  simp only [go_sem]
theorem text_ok (s : List UInt8) : FnOK LaidX Tryz.prog 213 [sv s] (vl 2 0 s) := by
  refine FnOK_of laidX_stable Tryz.func213 Tryz.ntmps213 rfl (by as_aux_lemma => kernel_rfl) (Nat.le_of_ble_eq_true rfl) (fun R hR => ?_)
  obtain ⟨_, b, cs, T, C⟩ := R
  obtain rfl : _ = Tryz.prog := hR.p
  refine sreg te_ok ?_
  refine sreg te_ok ?_
  refine Exec.rets hR te_ok rfl rfl rfl (LeX.le ?_) (.inr ⟨_, rfl⟩)
  simp only [go_sem]
attribute [go_sem] Vl.k Vl.n Vl.s lit_mkS
theorem parseT_k (s : List UInt8) : (bif !Lib.hasPrefix s [34] then (1 : Int) else 2) = (parseT s).k := by
  unfold parseT; cases Lib.hasPrefix s [34] <;> rfl
theorem parseT_n (s : List UInt8) : (bif !Lib.hasPrefix s [34] then atoiN s else 0) = (parseT s).n := by
  unfold parseT; cases Lib.hasPrefix s [34] <;> rfl
theorem parseT_s (s : List UInt8) : (bif !Lib.hasPrefix s [34] then [] else Lib.trimSuffix (Lib.trimPrefix s [34]) [34]) = (parseT s).s := by
  unfold parseT; cases Lib.hasPrefix s [34] <;> rfl
theorem trimPre_len (s p : List UInt8) : (Lib.trimPrefix s p).length ≤ s.length := by unfold Lib.trimPrefix; split <;> simp
theorem trimSuf_len (s p : List UInt8) : (Lib.trimSuffix s p).length ≤ s.length := by unfold Lib.trimSuffix; split <;> simp
theorem parseT_len (s : List UInt8) : (parseT s).s.length ≤ s.length := by
  unfold parseT; split
  · exact Nat.le_trans (trimSuf_len _ _) (trimPre_len _ _)
  · simp
attribute [go_sem] vC vD
theorem parse_ok (s : List UInt8) (hs : s.length ≤ 281474976710656) : FnOK LaidX Tryz.prog 196 [sv s] (.tup [vD (parseV s), iv (parseE s)]) := by
  refine FnOK_of laidX_stable Tryz.func196 Tryz.ntmps196 rfl (by as_aux_lemma => kernel_rfl) (Nat.le_of_ble_eq_true rfl) (fun R hR => ?_)
  obtain ⟨_, b, cs, T, C⟩ := R
  obtain rfl : _ = Tryz.prog := hR.p
  refine sreg te_ok ?_
  refine sq ?_
  apply Exec.regionL te_ok
  · intro o Q hQ
    simp only [go_sem]
    repeat refine ob2 ?_
    refine kcall hR.inv te_ok rfl rfl rfl rfl rfl rfl (trimPre_ok _ _) ?_
    simp only [go_sem]
    repeat refine ob2 ?_
    refine kcall hR.inv te_ok rfl rfl rfl rfl rfl rfl (trimSuf_ok _ _ (by have := trimPre_len s [34]; omega)) ?_
    simp only [go_sem]
    repeat refine ob2 ?_
    refine kcall hR.inv te_ok rfl rfl rfl rfl rfl rfl (text_ok _) ?_
    simp only [go_sem]
    repeat refine ob2 ?_
    exact hQ
  refine sq ?_
  refine sq ?_
  apply Exec.regionL te_ok
  · intro o Q hQ
    simp only [go_sem]
    repeat refine ob2 ?_
    refine kcall hR.inv te_ok rfl rfl rfl rfl rfl rfl (hasPre_ok _ _) ?_
    simp only [go_sem]
    repeat refine ob2 ?_
    exact hQ
  apply Exec.join [0, 2, 4] rfl
  case hx =>
    intro h0 hK
    refine sq ?_
    apply Exec.regionL te_ok
    · intro o Q hQ
      simp only [go_sem]
      repeat refine ob2 ?_
      refine kcall hR.inv te_ok rfl rfl rfl rfl rfl rfl (atoi_ok _ hs) ?_
      simp only [go_sem]
      repeat refine ob2 ?_
      exact hQ
    apply Exec.regionL te_ok
    · intro o Q hQ
      simp only [go_sem]
      repeat refine ob2 ?_
      refine kcall hR.inv te_ok rfl rfl rfl rfl rfl rfl (num_ok _) ?_
      simp only [go_sem]
      repeat refine ob2 ?_
      exact hQ
    exact hK
  case hy =>
    intro h0 hK
    refine sk ?_
    exact hK
  case hN => rfl
  case hdf => rfl
  case hF => simp only [go_sem]
  case hP => rfl
  apply Exec.norm
  · simp only [go_sem]
    rfl
  refine sq ?_
  refine sq ?_
  have e1 := parseT_k s
  have e2 := parseT_n s
  have e3 := parseT_s s
  apply Exec.regionL te_ok
  · intro o Q hQ
    simp only [go_sem, e1, e2, e3]
    repeat refine ob2 ?_
    refine kcall hR.inv te_ok rfl rfl rfl rfl rfl rfl (right_okX _ _ _ (by have := parseT_len s; omega)) ?_
    simp only [go_sem, e1, e2, e3]
    repeat refine ob2 ?_
    refine kcallG hR.inv te_ok rfl rfl rfl rfl rfl rfl ob1 (fun hq => shown_okX _ _ _ (right_i64 (by simpa using hq)) (by have := parseT_len s; omega)) ?_
    simp only [go_sem, e1, e2, e3]
    repeat refine ob2 ?_
    exact hQ
  refine Exec.cond_split rfl (fun h1 => ?_) (fun h1 => ?_)
  · skip
    refine sreg te_ok ?_
    refine Exec.rets hR te_ok rfl rfl rfl (LeX.le ?_) (.inr ⟨_, rfl⟩)
    simp only [go_sem, parseV, parseE]
    have e : parseB s = (rightV (parseT s).k (parseT s).n (parseT s).s && shownV (parseT s).k (parseT s).n (parseT s).s == s) := rfl
    cases hb : parseB s <;> simp_all
  · skip
    refine sk ?_
    refine sreg te_ok ?_
    refine Exec.rets hR te_ok rfl rfl rfl (LeX.le ?_) (.inr ⟨_, rfl⟩)
    simp only [go_sem, parseV, parseE]
    have e : parseB s = (rightV (parseT s).k (parseT s).n (parseT s).s && shownV (parseT s).k (parseT s).n (parseT s).s == s) := rfl
    cases hb : parseB s <;> simp_all
/-- a text behind its sign -/
def unsign (s : List UInt8) : List UInt8 := if s.head? = some 45 then s.tail else s
theorem numberV_eq (s : List UInt8) : numberV s = if unsign s = [] ∨ 13 < (unsign s).length ∨ ((unsign s).head? = some 48 ∧ s ≠ [48]) then none else match Lib.decFrom 0 (unsign s) with
    | none => none
    | some m => some (if (unsign s).length < s.length then -(m : Int) else m) := rfl
theorem unsign_bif (s : List UInt8) : (bif decide (0 < (s.length : Int)) && ((s.getD 0 0).toNat : Int) == 45 then List.take ((s.length : Int) - 1).toNat (List.drop (Int.toNat 1) s) else s) = unsign s := by
  unfold unsign
  cases s with
  | nil => rfl
  | cons c r =>
    by_cases h : c = 45
    · subst h; simp
    · have h1 : ((c.toNat : Int) == 45) = false := by
        rw [beq_eq_false_iff_ne]; intro e; exact h (UInt8.toNat_inj.1 (by have : c.toNat = 45 := by omega
                                                                          rw [this]; rfl))
      simp [h, h1]
theorem nil_len (l : List UInt8) : (l == []) = decide ((l.length : Int) = 0) := by
  cases l with
  | nil => rfl
  | cons c r => simp; omega
theorem decFrom_drop {s : List UInt8} {i m : Nat} (h : i < s.length) : Lib.decFrom m (s.drop i) = match Lib.digitVal (s.getD i 0) with
    | some d => Lib.decFrom (m * 10 + d) (s.drop (i + 1))
    | none => none := by
  rw [List.drop_eq_getElem_cons h, List.getD_eq_getElem?_getD, List.getElem?_eq_getElem h]; rfl
theorem unsign_len (s : List UInt8) : (unsign s).length ≤ s.length := by unfold unsign; split <;> simp
theorem num_cond (s : List UInt8) : (unsign s = [] ∨ 13 < (unsign s).length ∨ ((unsign s).head? = some 48 ∧ s ≠ [48])) ↔ (decide (((unsign s).length : Int) = 0) || decide (13 < ((unsign s).length : Int)) || ((((unsign s).getD 0 0).toNat : Int) == 48 && !s == [48])) = true := by
  cases hu : unsign s with
  | nil => simp
  | cons c r =>
    have hc : ((c.toNat : Int) == 48) = (c == 48) := by
      by_cases h : c = 48
      · subst h; rfl
      · rw [beq_false_of_ne h, beq_eq_false_iff_ne]; intro e; exact h (UInt8.toNat_inj.1 (by have : c.toNat = 48 := by omega
                                                                                             rw [this]; rfl))
    have h0 : ¬ ((r.length : Int) + 1 = 0) := by omega
    simp [hc, h0]
    exact or_congr (by omega) Iff.rfl
theorem num_none {s : List UInt8} {b : Bool} (h : (decide (((unsign s).length : Int) = 0) || decide (13 < ((unsign s).length : Int)) || ((((unsign s).getD 0 0).toNat : Int) == 48 && !s == [48])) = b) : numberV s = if b = true then none else match Lib.decFrom 0 (unsign s) with
    | none => none
    | some m => some (if (unsign s).length < s.length then -(m : Int) else m) := by
  have e := num_cond s
  rw [h] at e
  rw [numberV_eq]
  cases b with
  | true => rw [if_pos (e.2 rfl)]; rfl
  | false => rw [if_neg (fun h' => by have := e.1 h'; cases this)]; rfl
theorem digit_no {c : UInt8} (h : (decide ((c.toNat : Int) < 48) || decide (57 < (c.toNat : Int))) = true) : Lib.digitVal c = none := by
  unfold Lib.digitVal; simp at h; rw [if_neg (by omega)]
theorem digit_yes {c : UInt8} (h : (decide ((c.toNat : Int) < 48) || decide (57 < (c.toNat : Int))) = false) : Lib.digitVal c = some (c.toNat - 48) ∧ 48 ≤ c.toNat ∧ c.toNat ≤ 57 := by
  unfold Lib.digitVal; simp at h; exact ⟨by rw [if_pos (by omega)], by omega, by omega⟩
theorem wrap_u8 {n : Int} (h : 0 ≤ n ∧ n ≤ 255) : IntKind.u8.wrap n = n := by
  simp [IntKind.wrap, IntKind.signed, IntKind.bits]; omega
theorem num_step {m c : Nat} (h : 48 ≤ c) (h' : c ≤ 57) (hm : m < 1000000000000000) : IntKind.i64.wrap (IntKind.i64.wrap (10 * (m : Int)) + IntKind.i64.wrap (IntKind.u8.wrap ((c : Int) - 48))) = ((m * 10 + (c - 48) : Nat) : Int) := by
  rw [wrap_u8 (by omega), wrap_id (n := 10 * (m : Int)) (by omega), wrap_id (n := (c : Int) - 48) (by omega), wrap_id (by omega)]; omega
theorem number_ok (s : List UInt8) (hs : s.length ≤ 281474976710656) : FnOK LaidX Tryz.prog 211 [sv s] (.tup [iv ((numberV s).getD 0), bv (numberV s).isSome]) := by
  refine FnOK_of laidX_stable Tryz.func211 Tryz.ntmps211 rfl (by as_aux_lemma => kernel_rfl) (Nat.le_of_ble_eq_true rfl) (fun R hR => ?_)
  obtain ⟨_, b, cs, T, C⟩ := R
  obtain rfl : _ = Tryz.prog := hR.p
  refine sreg te_ok ?_
  refine sreg te_ok ?_
  refine sq ?_
  refine sreg te_ok ?_
  apply Exec.join [0, 4] rfl
  case hx =>
    intro h0 hK
    refine Exec.reg te_ok ?_
    exact hK
  case hy =>
    intro h0 hK
    refine sk ?_
    exact hK
  case hN => rfl
  case hdf => rfl
  case hF => simp only [go_sem]
  case hP => rfl
  apply Exec.norm
  · simp only [go_sem]
    rfl
  refine sq ?_
  refine sq ?_
  have e1 := unsign_bif s
  apply Exec.regionL te_ok
  · intro o Q hQ
    simp only [go_sem, e1, nil_len]
    repeat refine ob2 ?_
    exact hQ
  refine Exec.cond_split rfl (fun h1 => ?_) (fun h1 => ?_)
  · skip
    refine sreg te_ok ?_
    refine Exec.rets hR te_ok rfl rfl rfl (LeX.le ?_) (.inr ⟨_, rfl⟩)
    simp only [go_sem]
    rw [num_none h1]; simp
  · skip
    refine sk ?_
    refine sreg te_ok ?_
    refine sq ?_
    refine sreg te_ok ?_
    refine Exec.block ?_
    apply Exec.loopU [0, 4] (X := Nat × Nat) (fun ⟨i, m⟩ => [(6, .d (iv i)), (5, .d (iv m))]) (fun ⟨i, m⟩ => []) (fun ⟨i, m⟩ => []) (fun ⟨i, m⟩ => (unsign s).length - i) (fun ⟨i, m⟩ => i ≤ (unsign s).length ∧ Lib.decFrom 0 (unsign s) = Lib.decFrom m ((unsign s).drop i) ∧ m < 10 ^ i) (0, 0)
    case h0 =>
      simp
    case hw =>
      simp only [go_sem]
    case body =>
      rintro ⟨i, m⟩ hx ih0
      try simp only at hx
      apply Exec.norm
      · simp only [go_sem]
        rfl
      refine sq ?_
      refine sreg te_ok ?_
      refine Exec.cond_split rfl (fun h2 => ?_) (fun h2 => ?_)
      · skip
        have hi : i < (unsign s).length := by simp at h2; omega
        have hl := unsign_len s
        have hwi : IntKind.i64.wrap ((i : Int) + 1) = ((i + 1 : Nat) : Int) := by rw [wrap_id (by constructor <;> omega)]; simp
        have h13 : (unsign s).length ≤ 13 := by simp at h1; omega
        have hp : 10 ^ i ≤ 10 ^ 13 := Nat.pow_le_pow_right (by decide) (by omega)
        refine sk ?_
        refine sq ?_
        refine Exec.block ?_
        refine sq ?_
        refine sq ?_
        apply Exec.regionL te_ok
        · intro o Q hQ
          simp only [go_sem, hwi]
          repeat refine ob2 ?_
          exact hQ
        refine Exec.cond_split rfl (fun h3 => ?_) (fun h3 => ?_)
        · skip
          refine sq ?_
          apply Exec.regionL te_ok
          · intro o Q hQ
            simp only [go_sem, hwi]
            repeat refine ob2 ?_
            exact hQ
          refine Exec.rets hR te_ok rfl rfl rfl (LeX.le ?_) (.inr ⟨_, rfl⟩)
          simp only [go_sem]
          rw [num_none h1, hx.2.1, decFrom_drop hi, digit_no h3]; simp
        · skip
          obtain ⟨dv, d1, d2⟩ := digit_yes h3
          have hm := num_step d1 d2 (m := m) (by omega)
          refine sk ?_
          apply Exec.regionL te_ok
          · intro o Q hQ
            simp only [go_sem, hwi, hm]
            repeat refine ob2 ?_
            exact hQ
          refine Exec.inBlock ?_
          apply Exec.regionL te_ok
          · intro o Q hQ
            simp only [go_sem, hwi, hm]
            repeat refine ob2 ?_
            exact hQ
          refine Exec.back (ih0 (i + 1, m * 10 + (((unsign s).getD i 0).toNat - 48)) ?_ ?_) ?_ ?_ ?_ ?_ ?_ ?_ ?_
          · try simp only
            exact ⟨by omega, by rw [hx.2.1, decFrom_drop hi, dv], by rw [Nat.pow_succ]; omega⟩
          · try simp only
            omega
          · rfl
          · rfl
          · (simp only [go_sem, hwi, hm])
          · (simp only [go_sem, hwi, hm])
          · (simp only [go_sem, hwi, hm])
          · simp only [go_sem, hwi, hm]
          · rfl
      · skip
        refine Exec.exit rfl ?_
        refine sq ?_
        refine sreg te_ok ?_
        apply Exec.join [5] rfl
        case hx =>
          intro h4 hK
          refine Exec.reg te_ok ?_
          exact hK
        case hy =>
          intro h4 hK
          refine sk ?_
          exact hK
        case hN => rfl
        case hdf => rfl
        case hF => simp only [go_sem]
        case hP => rfl
        apply Exec.norm
        · simp only [go_sem]
          rfl
        refine sreg te_ok ?_
        refine Exec.rets hR te_ok rfl rfl rfl (LeX.le ?_) (.inr ⟨_, rfl⟩)
        simp only [go_sem]
        have hl := unsign_len s
        have h13 : (unsign s).length ≤ 13 := by simp at h1; omega
        have hp : 10 ^ i ≤ 10 ^ 13 := Nat.pow_le_pow_right (by decide) (by omega)
        simp at h2
        rw [num_none h1, hx.2.1, List.drop_eq_nil_of_le (by omega)]
        rw [wrap_id (by omega)]
        by_cases hh : (unsign s).length < s.length <;> simp [hh, Lib.decFrom]
theorem u8_is (c : UInt8) (k : Nat) (hk : k < 256) : ((c.toNat : Int) == (k : Int)) = (c == UInt8.ofNat k) := by
  have e : (UInt8.ofNat k).toNat = k := by simp; omega
  by_cases h : c = UInt8.ofNat k
  · subst h; rw [e]; simp
  · rw [beq_false_of_ne h, beq_eq_false_iff_ne]; intro e'; exact h (UInt8.toNat_inj.1 (by rw [e]; omega))
theorem quoted_b (s : List UInt8) : (decide (2 ≤ (s.length : Int)) && ((s.getD 0 0).toNat : Int) == 34 && ((s.getD ((s.length : Int) - 1).toNat 0).toNat : Int) == 34) = Kin.quoted s := by
  unfold Kin.quoted
  rw [show ((34 : Int)) = ((34 : Nat) : Int) from rfl, u8_is _ _ (by omega), u8_is _ _ (by omega)]
  have e1 : decide (2 ≤ (s.length : Int)) = decide (2 ≤ s.length) := by by_cases h : 2 ≤ s.length <;> simp [h] <;> omega
  have e2 : ((s.length : Int) - 1).toNat = s.length - 1 := by omega
  rw [e1, e2]; rfl
def qtext (s : List UInt8) : List UInt8 := (s.drop 1).take (s.length - 2)
theorem qtext_eq {s : List UInt8} (h : 2 ≤ s.length) : List.take ((s.length : Int) - 1 - 1).toNat (List.drop (Int.toNat 1) s) = qtext s := by
  unfold qtext
  rw [show ((s.length : Int) - 1 - 1).toNat = s.length - 2 by omega]; rfl
theorem refB_q {s : List UInt8} (h : Kin.quoted s = true) : refB s = if rightV 2 0 (qtext s) = true then some ⟨2, 0, qtext s⟩ else none := by unfold refB; rw [if_pos h]; rfl
theorem refB_n {s : List UInt8} (h : Kin.quoted s = false) : refB s = match numberV s with
    | some n => if rightV 1 n [] = true then some ⟨1, n, []⟩ else none
    | none => none := by unfold refB; rw [if_neg (by simp [h])]; rfl
theorem quoted_len {s : List UInt8} (h : Kin.quoted s = true) : 2 ≤ s.length := by unfold Kin.quoted at h; simp at h; exact h.1.1
theorem qtext_len (s : List UInt8) : (qtext s).length ≤ s.length := by unfold qtext; simp; omega
theorem rparse_ok (s : List UInt8) (hs : s.length ≤ 281474976710656) : FnOK LaidX Tryz.prog 192 [sv s] (.tup [vD (parseV s), iv (parseE s)]) := by
  refine FnOK_of laidX_stable Tryz.func192 Tryz.ntmps192 rfl (by as_aux_lemma => kernel_rfl) (Nat.le_of_ble_eq_true rfl) (fun R hR => ?_)
  obtain ⟨_, b, cs, T, C⟩ := R
  obtain rfl : _ = Tryz.prog := hR.p
  refine sreg te_ok ?_
  refine sq ?_
  refine sq ?_
  have hw : IntKind.i64.wrap ((s.length : Int) - 1) = (s.length : Int) - 1 := wrap_id (by omega)
  have hq0 := quoted_b s
  apply Exec.regionL te_ok
  · intro o Q hQ
    simp only [go_sem, hw, hq0]
    repeat refine ob2 ?_
    exact hQ
  refine Exec.cond_split rfl (fun h0 => ?_) (fun h0 => ?_)
  · skip
    have h2 := quoted_len h0
    have e2 := qtext_eq h2
    refine sq ?_
    apply Exec.regionL te_ok
    · intro o Q hQ
      simp only [go_sem, hw, e2]
      repeat refine ob2 ?_
      exact hQ
    refine sq ?_
    refine sq ?_
    apply Exec.regionL te_ok
    · intro o Q hQ
      simp only [go_sem, hw, e2]
      repeat refine ob2 ?_
      refine kcall hR.inv te_ok rfl rfl rfl rfl rfl rfl (rright_okX _ _ _ (by have := qtext_len s; omega)) ?_
      simp only [go_sem, hw, e2]
      repeat refine ob2 ?_
      exact hQ
    refine Exec.cond_split rfl (fun h1 => ?_) (fun h1 => ?_)
    · skip
      refine sq ?_
      apply Exec.regionL te_ok
      · intro o Q hQ
        simp only [go_sem, hw, e2]
        repeat refine ob2 ?_
        exact hQ
      refine Exec.rets hR te_ok rfl rfl rfl (LeX.le ?_) (.inr ⟨_, rfl⟩)
      simp only [go_sem]
      rw [parseV_ref, parseE_ref, refB_q h0, h1]; simp
    · skip
      refine sk ?_
      refine sq ?_
      apply Exec.regionL te_ok
      · intro o Q hQ
        simp only [go_sem, hw, e2]
        repeat refine ob2 ?_
        exact hQ
      refine Exec.rets hR te_ok rfl rfl rfl (LeX.le ?_) (.inr ⟨_, rfl⟩)
      simp only [go_sem]
      rw [parseV_ref, parseE_ref, refB_q h0, h1]; simp
  · skip
    refine sk ?_
    refine sq ?_
    apply Exec.regionL te_ok
    · intro o Q hQ
      simp only [go_sem]
      repeat refine ob2 ?_
      refine kcall hR.inv te_ok rfl rfl rfl rfl rfl rfl (number_ok _ hs) ?_
      simp only [go_sem]
      repeat refine ob2 ?_
      exact hQ
    refine sreg te_ok ?_
    refine sq ?_
    refine sq ?_
    apply Exec.regionL te_ok
    · intro o Q hQ
      simp only [go_sem]
      repeat refine ob2 ?_
      refine kcallG hR.inv te_ok rfl rfl rfl rfl rfl rfl ob1 (fun hq => rright_okX _ _ _ (by simp)) ?_
      simp only [go_sem]
      repeat refine ob2 ?_
      exact hQ
    refine Exec.cond_split rfl (fun h2 => ?_) (fun h2 => ?_)
    · skip
      refine sreg te_ok ?_
      refine Exec.rets hR te_ok rfl rfl rfl (LeX.le ?_) (.inr ⟨_, rfl⟩)
      simp only [go_sem]
      rw [parseV_ref, parseE_ref, refB_n h0]
      cases hn : numberV s <;> simp_all
    · skip
      refine sk ?_
      refine sreg te_ok ?_
      refine Exec.rets hR te_ok rfl rfl rfl (LeX.le ?_) (.inr ⟨_, rfl⟩)
      simp only [go_sem]
      rw [parseV_ref, parseE_ref, refB_n h0]
      cases hn : numberV s <;> simp_all
end Go.Proofs.YtonchjamoblioaaGreatDoor
namespace Go.Kin
open Go.Lib
def signsR : List (List UInt8) := [[93, 45, 62], [93, 61, 62], [33, 61], [60, 61], [62, 61], [45, 91], [61, 91], [40], [41], [91], [93], [44], [46], [124], [42], [43], [63], [61], [60], [62]]
/-- the longest sign with which a text begins -/
def IsBest (s r : List UInt8) : Prop := (r = [] ∧ ∀ x ∈ signsF, hasPrefix s x = false) ∨ (r ∈ signsF ∧ hasPrefix s r = true ∧ ∀ x ∈ signsF, hasPrefix s x = true → x.length ≤ r.length)
theorem signs_ne : ∀ x ∈ signsF, 0 < x.length := by decide
theorem best_isBest (s : List UInt8) : IsBest s (bestSign s) := by
 have : ∀ (l p : List (List UInt8)) (b : List UInt8), (∀ x ∈ l, x ∈ signsF) → ((b = [] ∧ ∀ x ∈ p, hasPrefix s x = false) ∨ (b ∈ signsF ∧ hasPrefix s b = true ∧ ∀ x ∈ p, hasPrefix s x = true → x.length ≤ b.length)) →
   ((l.foldl (bestStep s) b = [] ∧ ∀ x ∈ p ++ l, hasPrefix s x = false) ∨ (l.foldl (bestStep s) b ∈ signsF ∧ hasPrefix s (l.foldl (bestStep s) b) = true ∧ ∀ x ∈ p ++ l, hasPrefix s x = true → x.length ≤ (l.foldl (bestStep s) b).length)) := by
  intro l
  induction l with
  | nil => intro p b _ h; simpa using h
  | cons y r ih =>
   intro p b hm h
   have hy := hm y (List.mem_cons_self ..)
   have h2 := ih (p ++ [y]) (bestStep s b y) (fun x hx => hm x (List.mem_cons_of_mem _ hx)) (by
    unfold bestStep
    by_cases hp : hasPrefix s y = true
    ·by_cases hl : b.length < y.length
     ·rw [if_pos (by rw [hp, Bool.true_and]; exact decide_eq_true (by omega))]
      right
      refine ⟨hy, hp, fun x hx hx2 => ?_⟩
      rcases List.mem_append.1 hx with hx | hx
      ·rcases h with ⟨_, h⟩ | ⟨_, _, h⟩
       ·rw [h x hx] at hx2; cases hx2
       ·have := h x hx hx2; omega
      ·simp at hx; subst hx; omega
     ·rw [if_neg (by rw [hp, Bool.true_and]; intro e; have := of_decide_eq_true e; omega)]
      rcases h with ⟨rfl, h⟩ | ⟨h1, h2, h3⟩
      ·have := signs_ne y hy; simp at hl; subst hl; simp at this
      ·right
       refine ⟨h1, h2, fun x hx hx2 => ?_⟩
       rcases List.mem_append.1 hx with hx | hx
       ·exact h3 x hx hx2
       ·simp at hx; subst hx; omega
    ·have hp' : hasPrefix s y = false := by simpa using hp
     rw [if_neg (by rw [hp']; simp)]
     rcases h with ⟨h1, h2⟩ | ⟨h1, h2, h3⟩
     ·left; refine ⟨h1, fun x hx => ?_⟩
      rcases List.mem_append.1 hx with hx | hx
      ·exact h2 x hx
      ·simp at hx; subst hx; exact hp'
     ·right; refine ⟨h1, h2, fun x hx hx2 => ?_⟩
      rcases List.mem_append.1 hx with hx | hx
      ·exact h3 x hx hx2
      ·simp at hx; subst hx; rw [hp'] at hx2; cases hx2)
   simpa using h2
 have h := this signsF [] [] (fun _ h => h) (.inl ⟨rfl, fun x hx => by cases hx⟩)
 exact h
theorem prefix_take {s p : List UInt8} (h : hasPrefix s p = true) : p = s.take p.length := by
 unfold hasPrefix at h; rw [List.isPrefixOf_iff_prefix] at h
 exact List.prefix_iff_eq_take.1 h
theorem isBest_unique {s r r' : List UInt8} (h : IsBest s r) (h' : IsBest s r') : r = r' := by
 rcases h with ⟨rfl, h⟩ | ⟨h1, h2, h3⟩ <;> rcases h' with ⟨rfl, h'⟩ | ⟨h1', h2', h3'⟩
 ·rfl
 ·rw [h _ h1'] at h2'; cases h2'
 ·rw [h' _ h1] at h2; cases h2
 ·have e : r.length = r'.length := Nat.le_antisymm (h3' r h1 h2) (h3 r' h1' h2')
  rw [prefix_take h2, prefix_take h2', e]
theorem sub_fr : ∀ x ∈ signsF, x ∈ signsR := by decide
theorem sub_rf : ∀ x ∈ signsR, x ∈ signsF := by decide
theorem sorted_r : ∀ i : Fin 20, ∀ j : Fin 20, i.val ≤ j.val → (nth signsR j.val).length ≤ (nth signsR i.val).length := by decide
theorem nth_r {x : List UInt8} (h : x ∈ signsF) : ∃ j, j < 20 ∧ nth signsR j = x := by
 obtain ⟨j, hj, e⟩ := List.mem_iff_getElem.1 (sub_fr x h)
 exact ⟨j, hj, by rw [← e]; exact nth_of (List.getElem?_eq_getElem hj)⟩
theorem best_at {s : List UInt8} {i : Nat} (hi : i < 20) (hn : ∀ j, j < i → hasPrefix s (nth signsR j) = false) (hm : hasPrefix s (nth signsR i) = true) : bestSign s = nth signsR i := by
 refine isBest_unique (best_isBest s) (.inr ⟨sub_rf _ (nth_mem (by exact hi)), hm, fun x hx hx2 => ?_⟩)
 obtain ⟨j, hj, rfl⟩ := nth_r hx
 have hij : i ≤ j := by
  rcases Nat.lt_or_ge j i with h | h
  ·rw [hn j h] at hx2; cases hx2
  ·exact h
 exact sorted_r ⟨i, hi⟩ ⟨j, hj⟩ hij
theorem best_none {s : List UInt8} (hn : ∀ j, j < 20 → hasPrefix s (nth signsR j) = false) : bestSign s = [] := by
 refine isBest_unique (best_isBest s) (.inl ⟨rfl, fun x hx => ?_⟩)
 obtain ⟨j, hj, rfl⟩ := nth_r hx
 exact hn j hj
/-- whether a text begins with another one, as it is asked by hand -/
theorem pre_take (s p : List UInt8) : (decide ((p.length : Int) ≤ (s.length : Int)) && s.take p.length == p) = hasPrefix s p := by
 cases hp : hasPrefix s p with
 | true =>
  have h1 := hasPrefix_le hp
  have h2 := prefix_take hp
  rw [← h2]; simp; omega
 | false =>
  cases hd : decide ((p.length : Int) ≤ (s.length : Int)) with
  | false => rfl
  | true =>
   rw [Bool.true_and, beq_eq_false_iff_ne]
   intro e
   have : hasPrefix s p = true := by
    unfold hasPrefix; rw [List.isPrefixOf_iff_prefix]; exact List.prefix_iff_eq_take.2 e.symm
   rw [this] at hp; cases hp
/-! ### tokens by definition -/
theorem span_all (p : Int → Bool) : ∀ s : List UInt8, (s.take (spanN p s)).all (fun c => p c.toNat) = true
 | [] => rfl
 | c :: r => by
  simp only [spanN]
  split
  ·rename_i h; simp [h, span_all p r]
  ·rfl
theorem word_vertex {s : List UInt8} (hl : 0 < s.length) (h : letterI (s.getD 0 0).toNat = true) : vertexB (wordN s) = decide ((spanN signI s : Int) ≤ 20) := by
 have hs : s = s.getD 0 0 :: s.drop 1 := by have := drop_getD (s := s) (i := 0) hl; simpa using this
 have hp : 0 < spanN signI s := by
  rw [hs]; simp only [spanN]; rw [if_pos (by unfold signI; rw [h]; rfl)]; omega
 unfold vertexB
 have h1 : (wordN s).all (fun c => signI c.toNat) = true := span_all signI s
 have h2 : (wordN s == []) = false := by
  rw [beq_eq_false_iff_ne]; intro e
  have := wordN_len s; rw [e] at this; simp at this; omega
 rw [h1, h2, wordN_len]; rfl
theorem parse_kind {w : List UInt8} (h : parseE w = 0) : (parseV w).k = if hasPrefix w [34] = true then 2 else 1 := by
 have hb : parseB w = true := by
  unfold parseE at h
  cases hb : parseB w with
  | true => rfl
  | false => rw [hb] at h; simp at h
 unfold parseV parseT; rw [if_pos hb]
 split <;> rfl
theorem pre_head {s : List UInt8} {n : Nat} (hl : 0 < s.length) (hn : 0 < n) : hasPrefix (s.take n) [34] = (s.getD 0 0 == 34) := by
 cases s with
 | nil => simp at hl
 | cons c r =>
  obtain ⟨m, rfl⟩ : ∃ m, n = m + 1 := ⟨n - 1, by omega⟩
  rw [Bool.eq_iff_iff, hasPre_quote]
  simp
theorem span_pos {p : Int → Bool} {s : List UInt8} (hl : 0 < s.length) (h : p (s.getD 0 0).toNat = true) : 0 < spanN p s := by
 have hs : s = s.getD 0 0 :: s.drop 1 := by have := drop_getD (s := s) (i := 0) hl; simpa using this
 rw [hs]; simp only [spanN]; rw [if_pos h]; omega
theorem getD_drop (s : List UInt8) (a : Nat) : (s.drop a).getD 0 0 = s.getD a 0 := by simp
end Go.Kin
