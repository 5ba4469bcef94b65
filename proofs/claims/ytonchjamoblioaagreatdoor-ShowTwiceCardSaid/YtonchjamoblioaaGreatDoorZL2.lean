/- Steps of a function body on data, and contracts of the functions of the seat, walked. -/
import Derived.Test.YtonchjamoblioaaGreatDoorZShX
import Derived.Test.YtonchjamoblioaaGreatDoorP5
import Derived.Test.YtonchjamoblioaaGreatDoorZ1
import Derived.Lib.AtoiErrMem
set_option linter.unusedSimpArgs false
set_option linter.unusedVariables false
set_option linter.unusedSectionVars false
namespace Go.Proofs.YtonchjamoblioaaGreatDoor
open Go.Kin
set_option maxRecDepth 100000
/-- what the program's variables hold, as far as words look at them -/
structure LaidX (w : World) : Prop where
 v : Laid w
 syn : ∃ tp p, w.var? Tryz.prog "strconv.ErrSyntax" = some #[.iface tp p]
 rng : ∃ tp p, w.var? Tryz.prog "strconv.ErrRange" = some #[.iface tp p]
 sp : Lib.TabIs Tryz.prog w "strings.asciiSpace" .u8 Lib.asciiSpaceTab
theorem laidX_stable : Stable LaidX := fun w w' h hb =>
 ⟨laid_stable w w' h.v hb, h.syn.elim fun tp ⟨p, hp⟩ => ⟨tp, p, var_below hp hb⟩, h.rng.elim fun tp ⟨p, hp⟩ => ⟨tp, p, var_below hp hb⟩, var_below h.sp hb⟩
theorem laidX_laid : ∀ w, LaidX w → Laid w := fun _ h => h.v
theorem hasPre_ok (s p : List UInt8) : FnOK LaidX Tryz.prog 199 [sv s, sv p] (bv (Lib.hasPrefix s p)) :=
 FnOK.lib ⟨Tryz.f199, Tryz.func199, by kernel_rfl, by kernel_rfl⟩ fun w Z vs hI hr => by
  obtain rfl := rd_two hr
  refine (Tryz.strings_HasPrefix (mkS s) (mkS p) w).mono ?_
  rintro e w' ⟨rfl, rfl⟩
  exact ⟨rfl, RowKit.Below.refl _ _⟩
theorem trimPre_ok (s p : List UInt8) : FnOK LaidX Tryz.prog 215 [sv s, sv p] (sv (Lib.trimPrefix s p)) :=
 FnOK.lib ⟨Tryz.f215, Tryz.func215, by kernel_rfl, by kernel_rfl⟩ fun w Z vs hI hr => by
  obtain rfl := rd_two hr
  refine (Tryz.strings_TrimPrefix (mkS s) (mkS p) w).mono ?_
  rintro e w' ⟨rfl, rfl⟩
  exact ⟨rfl, RowKit.Below.refl _ _⟩
theorem trimSuf_ok (s p : List UInt8) (hs : s.length ≤ 9223372036854775807) : FnOK LaidX Tryz.prog 214 [sv s, sv p] (sv (Lib.trimSuffix s p)) :=
 FnOK.lib ⟨Tryz.f214, Tryz.func214, by kernel_rfl, by kernel_rfl⟩ fun w Z vs hI hr => by
  obtain rfl := rd_two hr
  refine (Tryz.strings_TrimSuffix (mkS s) (mkS p) w (by rw [mkS_size]; exact hs)).mono ?_
  rintro e w' ⟨rfl, rfl⟩
  exact ⟨rfl, RowKit.Below.refl _ _⟩
theorem indexByte_ok (s : List UInt8) (c : Int) : FnOK LaidX Tryz.prog 164 [sv s, u8 c] (iv (Lib.indexByte s c.toNat.toUInt8)) :=
 FnOK.lib ⟨Tryz.f164, Tryz.func164, by kernel_rfl, by kernel_rfl⟩ fun w Z vs hI hr => by
  obtain rfl := rd_two hr
  refine (Tryz.strings_IndexByte (mkS s) c w).mono ?_
  rintro e w' ⟨rfl, rfl⟩
  exact ⟨rfl, RowKit.Below.refl _ _⟩
/-- the error beside it: nil, or one that is not looked into -/
def atoiE (s : List UInt8) : D := match Lib.atoiAll s with
 | .ok _ => .v .nilIface
 | _ => .ifc 233 (.ptr [])
theorem atoi_ok (s : List UInt8) (hs : s.length ≤ 281474976710656) : FnOK LaidX Tryz.prog 216 [sv s] (.tup [iv (atoiN s), atoiE s]) := by
 refine ⟨⟨Tryz.f216, Tryz.func216, by kernel_rfl, by kernel_rfl⟩, fun w Z vs hI hZ hr => ?_⟩
 obtain rfl := rd_one hr
 have hz : (mkS s).size ≤ 281474976710656 := by rw [mkS_size]; exact hs
 have hb : (mkS s).data.toList = s := by simp [mkS]
 have fin : ∀ {w' : World} {N : Nat} {n : Int} {cs : Array Value} {T : TypeId}, w.heap.size ≤ N → w'.heap[N]? = some (.cells cs T (0, 0)) → RowKit.Below w.heap.size w w' →
   ∃ v Z', Ending.returned (.tuple #[.int .i64 n, .iface 233 (.pointer (some ⟨N, 0, none⟩))]) = .returned v ∧ RowKit.Below w.heap.size w w' ∧ (∀ b, Z' b → b < w'.heap.size ∧ (Z b ∨ w.heap.size ≤ b)) ∧ RdV w' Z' (.tup [iv n, .ifc 233 (.ptr [])]) v := fun {w' N n cs T} h1 h2 h3 => by
  refine ⟨_, fun b => b = N, rfl, h3, fun b hb => ?_, ?_⟩
  ·subst hb
   exact ⟨(Array.getElem?_eq_some_iff.1 h2).1, .inr h1⟩
  ·simp only [RdV, RdL, RdC]
   exact ⟨_, rfl, _, _, rfl, rfl, _, _, rfl, ⟨_, rfl, N, 0, rfl, rfl, trivial⟩, rfl⟩
 unfold atoiN atoiE
 cases h : Lib.atoiAll s
 ·rename_i v
  refine (Tryz.strconv_Atoi_ok (mkS s) (by omega) v (by rw [hb]; exact h) w).mono ?_
  rintro e w' ⟨rfl, hw⟩
  have hbel : RowKit.Below w.heap.size w w' := by
   rcases hw with rfl | ⟨t, rfl⟩
   ·exact RowKit.Below.refl _ _
   ·exact Lib.bytesWorld_below _ _ _
  refine ⟨_, Z, rfl, hbel, fun b hz => ⟨Nat.lt_of_lt_of_le (hZ b hz) hbel.size, .inl hz⟩, ?_⟩
  simp only [RdV, RdL]
  exact ⟨_, rfl, _, _, rfl, rfl, _, _, rfl, rfl, rfl⟩
 ·obtain ⟨tp, p, hv⟩ := hI.syn
  refine (Tryz.strconv_Atoi_bad (mkS s) hz (by rw [hb, h]; intro v e; cases e) (by rw [hb, h]; intro e; cases e) tp p w hv).mono ?_
  rintro e w' ⟨N, rfl, h1, h2, h3⟩
  exact fin h1 h2 h3
 ·obtain ⟨tp, p, hv⟩ := hI.rng
  refine (Tryz.strconv_Atoi_range_var (mkS s) hz (by rw [hb]; exact h) tp p w hv).mono ?_
  rintro e w' ⟨N, rfl, h1, h2, h3⟩
  rw [hb]
  exact fin h1 h2 h3
def signsLit : List UInt8 := [40, 32, 41, 32, 91, 32, 93, 32, 44, 32, 46, 32, 124, 32, 42, 32, 43, 32, 63, 32, 61, 32, 33, 61, 32, 60, 32, 60, 61, 32, 62, 32, 62, 61, 32, 45, 91, 32, 93, 45, 62, 32, 61, 91, 32, 93, 61, 62]
theorem signs_eq : Lib.fields signsLit = signsF := by decide
theorem fields_ok : FnOK LaidX Tryz.prog 198 [sv signsLit] (.sl 1 20 20 fun i => [sv (nth signsF i)]) := by
 refine ⟨⟨Tryz.f198, Tryz.func198, by kernel_rfl, by kernel_rfl⟩, fun w Z vs hI hZ hr => ?_⟩
 obtain rfl := rd_one hr
 have hb : (mkS signsLit).data.toList = signsLit := by simp [mkS]
 refine (Tryz.strings_Fields (mkS signsLit) w (by rw [mkS_size]; decide) (fun j b hj => ?_) hI.sp).mono ?_
 ·rw [hb] at hj
  have : ∀ b ∈ signsLit, b.toNat < 128 := by decide
  exact this b (List.mem_of_getElem? hj)
 rintro e w' ⟨rfl, rfl⟩
 rw [hb, signs_eq]
 have hbel : RowKit.Below w.heap.size w (w.alloc (.cells (signsF.map fun l => Value.string ⟨l.toArray⟩).toArray 9)) := (RowKit.Below.refl _ w).alloc (Nat.le_refl _) _
 refine ⟨_, fun b => b = w.heap.size, rfl, hbel, fun b hb => ?_, ?_⟩
 ·subst hb; simp
 ·simp only [RdV]
  refine ⟨_, 20, rfl, by decide, by decide, by decide, .inr ⟨w.heap.size, 0, rfl, rfl, fun i hi => ⟨rfl, rfl, ?_⟩⟩⟩
  simp only [RdC, and_true]
  refine ⟨.string (mkS (nth signsF i)), ?_, by simp only [RdV]⟩
  have hi2 : i < signsF.length := hi
  simp only [World.cell?, alloc_heap, if_true]
  simp [nth, List.getD_eq_getElem?_getD, List.getElem?_eq_getElem hi2, mkS]
end Go.Proofs.YtonchjamoblioaaGreatDoor
namespace Go.Proofs.YtonchjamoblioaaGreatDoor
open Go.Kin
set_option maxRecDepth 100000
set_option maxHeartbeats 0
attribute [go_sem] te_1 te_2 te_3 te_4 te_5 te_9 te_12 te_13 te_15 te_16 te_20 te_21 te_22 te_23 te_24 te_26 te_27 te_28 te_30 te_32 te_36 te_41 te_45 te_46 te_47 te_48 te_49 te_51 te_53 te_56 te_58 te_59 te_62 te_67 te_69 te_76 te_83 te_85 te_86 te_89 te_94 te_98 te_99 te_101 te_103 te_104 te_107 te_109 te_111 te_118 te_121 te_122 te_124 te_129 te_133 te_137 te_140 te_143 te_146 te_147 te_152 te_155 te_157 te_165 te_166 te_171 te_172 te_173 te_174 te_177 te_181 te_182 te_184 te_186 te_190 te_191 te_200 te_203 te_206 te_207 te_209 te_223 te_225 te_227 te_228 te_230 te_233 te_236 te_237 te_239 te_240 te_242 te_245 te_251 te_256 te_258
theorem right_okX (k n : Int) (s : List UInt8) (hs : s.length ≤ 9223372036854775806) : FnOK LaidX Tryz.prog 176 [vl k n s] (.v (.bool (rightV k n s))) := (right_ok k n s hs).weak laidX_laid
theorem shown_okX (k n : Int) (s : List UInt8) (hn : k = 2 ∨ I64 n) (hs : s.length ≤ 281474976710656) : FnOK LaidX Tryz.prog 181 [vl k n s] (sv (shownV k n s)) := (shown_ok k n s hn hs).weak laidX_laid
theorem num_ok (n : Int) : FnOK LaidX Tryz.prog 217 [iv n] (vl 1 n []) := by
 refine FnOK_of laidX_stable Tryz.func217 Tryz.ntmps217 rfl (by as_aux_lemma => kernel_rfl) (Nat.le_of_ble_eq_true rfl) (fun R hR => ?_)
 obtain ⟨_, b, cs, T, C⟩ := R
 obtain rfl : _ = Tryz.prog := hR.p
 refine sreg te_ok ?_
 refine sreg te_ok ?_
 refine Exec.rets hR te_ok rfl rfl rfl (LeX.le ?_) (.inr ⟨_, rfl⟩)
 simp only [go_sem]
theorem text_ok (s : List UInt8) : FnOK LaidX Tryz.prog 213 [sv s] (vl 2 0 s) := by
 refine FnOK_of laidX_stable Tryz.func213 Tryz.ntmps213 rfl (by as_aux_lemma => kernel_rfl) (Nat.le_of_ble_eq_true rfl) (fun R hR => ?_)
 obtain ⟨_, b, cs, T, C⟩ := R
 obtain rfl : _ = Tryz.prog := hR.p
 refine sreg te_ok ?_
 refine sreg te_ok ?_
 refine Exec.rets hR te_ok rfl rfl rfl (LeX.le ?_) (.inr ⟨_, rfl⟩)
 simp only [go_sem]
attribute [go_sem] Vl.k Vl.n Vl.s lit_mkS
theorem parseT_k (s : List UInt8) : (bif !Lib.hasPrefix s [34] then (1 : Int) else 2) = (parseT s).k := by
 unfold parseT; cases Lib.hasPrefix s [34] <;> rfl
theorem parseT_n (s : List UInt8) : (bif !Lib.hasPrefix s [34] then atoiN s else 0) = (parseT s).n := by
 unfold parseT; cases Lib.hasPrefix s [34] <;> rfl
theorem parseT_s (s : List UInt8) : (bif !Lib.hasPrefix s [34] then [] else Lib.trimSuffix (Lib.trimPrefix s [34]) [34]) = (parseT s).s := by
 unfold parseT; cases Lib.hasPrefix s [34] <;> rfl
theorem trimPre_len (s p : List UInt8) : (Lib.trimPrefix s p).length ≤ s.length := by unfold Lib.trimPrefix; split <;> simp
theorem trimSuf_len (s p : List UInt8) : (Lib.trimSuffix s p).length ≤ s.length := by unfold Lib.trimSuffix; split <;> simp
theorem parseT_len (s : List UInt8) : (parseT s).s.length ≤ s.length := by
 unfold parseT; split
 ·exact Nat.le_trans (trimSuf_len _ _) (trimPre_len _ _)
 ·simp
attribute [go_sem] vC vD
theorem parse_ok (s : List UInt8) (hs : s.length ≤ 281474976710656) : FnOK LaidX Tryz.prog 196 [sv s] (.tup [vD (parseV s), iv (parseE s)]) := by
 refine FnOK_of laidX_stable Tryz.func196 Tryz.ntmps196 rfl (by as_aux_lemma => kernel_rfl) (Nat.le_of_ble_eq_true rfl) (fun R hR => ?_)
 obtain ⟨_, b, cs, T, C⟩ := R
 obtain rfl : _ = Tryz.prog := hR.p
 refine sreg te_ok ?_
 refine sq ?_
 apply Exec.regionL te_ok
 ·intro u' Q hQ
  simp only [go_sem]
  repeat refine ob2 ?_
  refine kcall hR.inv te_ok rfl rfl rfl rfl rfl rfl (trimPre_ok _ _) ?_
  simp only [go_sem]
  repeat refine ob2 ?_
  refine kcall hR.inv te_ok rfl rfl rfl rfl rfl rfl (trimSuf_ok _ _ (by have := trimPre_len s [34]; omega)) ?_
  simp only [go_sem]
  repeat refine ob2 ?_
  refine kcall hR.inv te_ok rfl rfl rfl rfl rfl rfl (text_ok _) ?_
  simp only [go_sem]
  repeat refine ob2 ?_
  exact hQ
 refine sq ?_
 refine sq ?_
 apply Exec.regionL te_ok
 ·intro u' Q hQ
  simp only [go_sem]
  repeat refine ob2 ?_
  refine kcall hR.inv te_ok rfl rfl rfl rfl rfl rfl (hasPre_ok _ _) ?_
  simp only [go_sem]
  repeat refine ob2 ?_
  exact hQ
 apply Exec.join [0, 2, 4] rfl
 case hx =>
  intro h0 hK
  refine sq ?_
  apply Exec.regionL te_ok
  ·intro u' Q hQ
   simp only [go_sem]
   repeat refine ob2 ?_
   refine kcall hR.inv te_ok rfl rfl rfl rfl rfl rfl (atoi_ok _ hs) ?_
   simp only [go_sem]
   repeat refine ob2 ?_
   exact hQ
  apply Exec.regionL te_ok
  ·intro u' Q hQ
   simp only [go_sem]
   repeat refine ob2 ?_
   refine kcall hR.inv te_ok rfl rfl rfl rfl rfl rfl (num_ok _) ?_
   simp only [go_sem]
   repeat refine ob2 ?_
   exact hQ
  exact hK
 case hy =>
  intro h0 hK
  refine sk ?_
  exact hK
 case hN => rfl
 case hdf => rfl
 case hF => simp only [go_sem]
 case hP => rfl
 apply Exec.norm
 ·simp only [go_sem]
  rfl
 refine sq ?_
 refine sq ?_
 have e1 := parseT_k s
 have e2 := parseT_n s
 have e3 := parseT_s s
 apply Exec.regionL te_ok
 ·intro u' Q hQ
  simp only [go_sem, e1, e2, e3]
  repeat refine ob2 ?_
  refine kcall hR.inv te_ok rfl rfl rfl rfl rfl rfl (right_okX _ _ _ (by have := parseT_len s; omega)) ?_
  simp only [go_sem, e1, e2, e3]
  repeat refine ob2 ?_
  refine kcallG hR.inv te_ok rfl rfl rfl rfl rfl rfl ob1 (fun hq => shown_okX _ _ _ (right_i64 (by simpa using hq)) (by have := parseT_len s; omega)) ?_
  simp only [go_sem, e1, e2, e3]
  repeat refine ob2 ?_
  exact hQ
 refine Exec.cond_split rfl (fun h1 => ?_) (fun h1 => ?_)
 ·refine sreg te_ok ?_
  refine Exec.rets hR te_ok rfl rfl rfl (LeX.le ?_) (.inr ⟨_, rfl⟩)
  simp only [go_sem, parseV, parseE]
  have e : parseB s = (rightV (parseT s).k (parseT s).n (parseT s).s && shownV (parseT s).k (parseT s).n (parseT s).s == s) := rfl
  cases hb : parseB s <;> simp_all
 ·refine sk ?_
  refine sreg te_ok ?_
  refine Exec.rets hR te_ok rfl rfl rfl (LeX.le ?_) (.inr ⟨_, rfl⟩)
  simp only [go_sem, parseV, parseE]
  have e : parseB s = (rightV (parseT s).k (parseT s).n (parseT s).s && shownV (parseT s).k (parseT s).n (parseT s).s == s) := rfl
  cases hb : parseB s <;> simp_all
/-- a text behind its sign -/
def unsign (s : List UInt8) : List UInt8 := if s.head? = some 45 then s.tail else s
theorem numberV_eq (s : List UInt8) : numberV s = if unsign s = [] ∨ 13 < (unsign s).length ∨ ((unsign s).head? = some 48 ∧ s ≠ [48]) then none else match Lib.decFrom 0 (unsign s) with
  | none => none
  | some m => some (if (unsign s).length < s.length then -(m : Int) else m) := rfl
def qtext (s : List UInt8) : List UInt8 := (s.drop 1).take (s.length - 2)
end Go.Proofs.YtonchjamoblioaaGreatDoor
namespace Go.Proofs.YtonchjamoblioaaGreatDoor
open Go.Kin
set_option maxRecDepth 100000
set_option maxHeartbeats 0
theorem vertex_okX (s : List UInt8) (hs : s.length ≤ 140737488355328) : FnOK LaidX Tryz.prog 161 [sv s] (bv (vertexB s)) := (vertex_ok s hs).weak laidX_laid
attribute [go_sem] Option.toArray_some Option.toArray_none famStP
abbrev tC (t : Tk) : List D := [iv t.k, sv t.t, iv t.a, iv t.v.k, iv t.v.n, sv t.v.s]
abbrev tD (t : Tk) : D := .ag [iv t.k, sv t.t, iv t.a, iv t.v.k, iv t.v.n, sv t.v.s]
attribute [go_sem] v0 tC tD Tk.k Tk.t Tk.a Tk.v
theorem letter_ok (n : Int) : FnOK LaidX Tryz.prog 159 [u8 n] (bv (letterI n)) := by
 refine FnOK_of laidX_stable Tryz.func159 Tryz.ntmps159 rfl (by as_aux_lemma => kernel_rfl) (Nat.le_of_ble_eq_true rfl) (fun R hR => ?_)
 obtain ⟨_, b, cs, T, C⟩ := R
 obtain rfl : _ = Tryz.prog := hR.p
 refine sreg te_ok ?_
 refine sreg te_ok ?_
 refine Exec.rets hR te_ok rfl rfl rfl (LeX.le ?_) (.inr ⟨_, rfl⟩)
 simp only [go_sem, letterI]
theorem digit_ok (n : Int) : FnOK LaidX Tryz.prog 162 [u8 n] (bv (digitI n)) := by
 refine FnOK_of laidX_stable Tryz.func162 Tryz.ntmps162 rfl (by as_aux_lemma => kernel_rfl) (Nat.le_of_ble_eq_true rfl) (fun R hR => ?_)
 obtain ⟨_, b, cs, T, C⟩ := R
 obtain rfl : _ = Tryz.prog := hR.p
 refine sreg te_ok ?_
 refine sreg te_ok ?_
 refine Exec.rets hR te_ok rfl rfl rfl (LeX.le ?_) (.inr ⟨_, rfl⟩)
 simp only [go_sem, digitI]
theorem sign_ok (n : Int) : FnOK LaidX Tryz.prog 160 [u8 n] (bv (signI n)) := by
 refine FnOK_of laidX_stable Tryz.func160 Tryz.ntmps160 rfl (by as_aux_lemma => kernel_rfl) (Nat.le_of_ble_eq_true rfl) (fun R hR => ?_)
 obtain ⟨_, b, cs, T, C⟩ := R
 obtain rfl : _ = Tryz.prog := hR.p
 refine sreg te_ok ?_
 refine sq ?_
 apply Exec.regionL te_ok
 ·intro u' Q hQ
  simp only [go_sem]
  repeat refine ob2 ?_
  refine kcall hR.inv te_ok rfl rfl rfl rfl rfl rfl (letter_ok _) ?_
  simp only [go_sem]
  repeat refine ob2 ?_
  refine kcallG hR.inv te_ok rfl rfl rfl rfl rfl rfl ob1 (fun hq => digit_ok _) ?_
  simp only [go_sem]
  repeat refine ob2 ?_
  exact hQ
 refine Exec.rets hR te_ok rfl rfl rfl (LeX.le ?_) (.inr ⟨_, rfl⟩)
 simp only [go_sem, signI]
theorem blank_ok (n : Int) : FnOK LaidX Tryz.prog 119 [u8 n] (bv (blankI n)) := by
 refine FnOK_of laidX_stable Tryz.func119 Tryz.ntmps119 rfl (by as_aux_lemma => kernel_rfl) (Nat.le_of_ble_eq_true rfl) (fun R hR => ?_)
 obtain ⟨_, b, cs, T, C⟩ := R
 obtain rfl : _ = Tryz.prog := hR.p
 refine sreg te_ok ?_
 refine sreg te_ok ?_
 refine Exec.rets hR te_ok rfl rfl rfl (LeX.le ?_) (.inr ⟨_, rfl⟩)
 simp only [go_sem, blankI]
theorem span_ok (s : List UInt8) (hs : s.length ≤ 140737488355328) (f : Nat) (p : Int → Bool) (hp : ∀ n, FnOK LaidX Tryz.prog f [u8 n] (bv (p n))) : FnOK LaidX Tryz.prog 120 [sv s, .fn f []] (iv (spanN p s)) := by
 refine FnOK_of laidX_stable Tryz.func120 Tryz.ntmps120 rfl (by as_aux_lemma => kernel_rfl) (Nat.le_of_ble_eq_true rfl) (fun R hR => ?_)
 obtain ⟨_, b, cs, T, C⟩ := R
 obtain rfl : _ = Tryz.prog := hR.p
 refine sreg te_ok ?_
 refine sq ?_
 refine sreg te_ok ?_
 refine Exec.block ?_
 apply Exec.loopU [0, 1, 7] (X := Nat) (fun i => [(8, .d (iv i))]) (fun i => []) (fun i => []) (fun i => s.length - i) (fun i => i ≤ s.length ∧ spanN p s = i + spanN p (s.drop i)) 0
 case h0 =>
  simp
 case hw =>
  simp only [go_sem]
 case body =>
  rintro i hx ih0
  try simp only at hx
  apply Exec.norm
  ·simp only [go_sem]
   rfl
  refine sreg te_ok ?_
  refine sq ?_
  refine Exec.cond_split rfl (fun h0 => ?_) (fun h0 => ?_)
  ·have hi : i < s.length := by simp at h0; omega
   have hwi : IntKind.i64.wrap ((i : Int) + 1) = ((i + 1 : Nat) : Int) := by rw [wrap_id (by constructor <;> omega)]; simp
   refine sk ?_
   refine sq ?_
   refine Exec.block ?_
   refine sq ?_
   apply Exec.regionL te_ok
   ·intro u' Q hQ
    simp only [go_sem, hwi]
    repeat refine ob2 ?_
    exact hQ
   refine sq ?_
   apply Exec.regionL te_ok
   ·intro u' Q hQ
    simp only [go_sem, hwi]
    repeat refine ob2 ?_
    refine kcall hR.inv te_ok rfl rfl rfl rfl rfl rfl (hp _) ?_
    simp only [go_sem, hwi]
    repeat refine ob2 ?_
    exact hQ
   refine Exec.cond_split rfl (fun h1 => ?_) (fun h1 => ?_)
   ·refine sq ?_
    apply Exec.regionL te_ok
    ·intro u' Q hQ
     simp only [go_sem, hwi]
     repeat refine ob2 ?_
     exact hQ
    refine Exec.rets hR te_ok rfl rfl rfl (LeX.le ?_) (.inr ⟨_, rfl⟩)
    simp only [go_sem]
    rw [hx.2, spanN_drop hi (b := false) (by simpa using h1)]; simp
   ·refine sk ?_
    refine Exec.inBlock ?_
    apply Exec.regionL te_ok
    ·intro u' Q hQ
     simp only [go_sem, hwi]
     repeat refine ob2 ?_
     exact hQ
    refine Exec.back (ih0 (i + 1) ?_ ?_) ?_ ?_ ?_ ?_ ?_ ?_ ?_
    ·try simp only
     exact ⟨by omega, by rw [hx.2, spanN_drop hi (b := true) (by simpa using h1), if_pos rfl]; omega⟩
    ·try simp only
     omega
    ·rfl
    ·rfl
    ·(simp only [go_sem, hwi])
    ·(simp only [go_sem, hwi])
    ·(simp only [go_sem, hwi])
    ·simp only [go_sem, hwi]
    ·rfl
  ·refine Exec.exit rfl ?_
   refine sreg te_ok ?_
   refine Exec.rets hR te_ok rfl rfl rfl (LeX.le ?_) (.inr ⟨_, rfl⟩)
   simp only [go_sem]
   simp at h0
   rw [hx.2, List.drop_eq_nil_of_le (by omega)]; simp [spanN]; omega
theorem valued_ok (w : List UInt8) (k : Int) (hs : w.length ≤ 140737488355328) : FnOK LaidX Tryz.prog 163 [sv w, iv k] (.tup [tD (valuedT w k), bv (parseE w == 0)]) := by
 refine FnOK_of laidX_stable Tryz.func163 Tryz.ntmps163 rfl (by as_aux_lemma => kernel_rfl) (Nat.le_of_ble_eq_true rfl) (fun R hR => ?_)
 obtain ⟨_, b, cs, T, C⟩ := R
 obtain rfl : _ = Tryz.prog := hR.p
 refine sreg te_ok ?_
 refine sq ?_
 apply Exec.regionL te_ok
 ·intro u' Q hQ
  simp only [go_sem]
  repeat refine ob2 ?_
  refine kcall hR.inv te_ok rfl rfl rfl rfl rfl rfl (parse_ok _ (by omega)) ?_
  simp only [go_sem]
  repeat refine ob2 ?_
  exact hQ
 refine sreg te_ok ?_
 refine Exec.rets hR te_ok rfl rfl rfl (LeX.le ?_) (.inr ⟨_, rfl⟩)
 simp only [go_sem, valuedT]
theorem best_drop (s : List UInt8) {i : Nat} {b : List UInt8} (h : i < signsF.length) : (signsF.drop i).foldl (bestStep s) b = (signsF.drop (i + 1)).foldl (bestStep s) (bestStep s b (nth signsF i)) := by
 rw [drop_nth h]; rfl
theorem best_bif (s b x : List UInt8) : (bif Lib.hasPrefix s x && decide ((b.length : Int) < (x.length : Int)) then x else b) = bestStep s b x := by
 unfold bestStep; cases (Lib.hasPrefix s x && decide ((b.length : Int) < (x.length : Int))) <;> rfl
theorem signed_ok (s : List UInt8) : FnOK LaidX Tryz.prog 165 [sv s] (.tup [tD ⟨4, bestSign s, 0, v0⟩, bv (!(bestSign s == []))]) := by
 refine FnOK_of laidX_stable Tryz.func165 Tryz.ntmps165 rfl (by as_aux_lemma => kernel_rfl) (Nat.le_of_ble_eq_true rfl) (fun R hR => ?_)
 obtain ⟨_, b, cs, T, C⟩ := R
 obtain rfl : _ = Tryz.prog := hR.p
 refine sreg te_ok ?_
 refine sreg te_ok ?_
 refine sq ?_
 refine sq ?_
 apply Exec.regionL te_ok
 ·intro u' Q hQ
  simp only [go_sem]
  repeat refine ob2 ?_
  refine kcall hR.inv te_ok rfl rfl rfl rfl rfl rfl (fields_ok) ?_
  simp only [go_sem]
  repeat refine ob2 ?_
  exact hQ
 refine Exec.block ?_
 apply Exec.loopU [0, 2, 7, 8] (X := Nat × List UInt8) (fun ⟨i, b⟩ => [(9, .d (iv i)), (4, .d (sv b))]) (fun ⟨i, b⟩ => []) (fun ⟨i, b⟩ => []) (fun ⟨i, b⟩ => 20 - i) (fun ⟨i, b⟩ => i ≤ 20 ∧ bestSign s = (signsF.drop i).foldl (bestStep s) b) (0, [])
 case h0 =>
  exact ⟨by omega, rfl⟩
 case hw =>
  simp only [go_sem]
 case body =>
  rintro ⟨i, b⟩ hx ih0
  try simp only at hx
  apply Exec.norm
  ·simp only [go_sem]
   rfl
  refine sreg te_ok ?_
  refine sq ?_
  refine Exec.cond_split rfl (fun h0 => ?_) (fun h0 => ?_)
  ·have hi : i < signsF.length := by simp at h0; show i < 20; omega
   have hi20 : i < 20 := hi
   have hwi : IntKind.i64.wrap ((i : Int) + 1) = ((i + 1 : Nat) : Int) := by rw [wrap_id (by constructor <;> omega)]; simp
   refine sk ?_
   refine sq ?_
   refine Exec.block ?_
   refine sq ?_
   apply Exec.regionL te_ok
   ·intro u' Q hQ
    simp only [go_sem, hwi, best_bif]
    repeat refine ob2 ?_
    exact hQ
   refine sq ?_
   apply Exec.regionL te_ok
   ·intro u' Q hQ
    simp only [go_sem, hwi, best_bif]
    repeat refine ob2 ?_
    refine kcall hR.inv te_ok rfl rfl rfl rfl rfl rfl (hasPre_ok _ _) ?_
    simp only [go_sem, hwi, best_bif]
    repeat refine ob2 ?_
    exact hQ
   apply Exec.join [0, 2, 4, 7, 8, 9] rfl
   case hx =>
    intro h1 hK
    apply Exec.regionL te_ok
    ·intro u' Q hQ
     simp only [go_sem, hwi, best_bif]
     repeat refine ob2 ?_
     exact hQ
    exact hK
   case hy =>
    intro h1 hK
    refine sk ?_
    exact hK
   case hN => rfl
   case hdf => rfl
   case hF => simp only [go_sem]
   case hP => rfl
   apply Exec.norm
   ·simp only [go_sem, hwi, best_bif]
    rfl
   refine Exec.inBlock ?_
   apply Exec.regionL te_ok
   ·intro u' Q hQ
    simp only [go_sem, hwi, best_bif]
    repeat refine ob2 ?_
    exact hQ
   refine Exec.back (ih0 (i + 1, bestStep s b (nth signsF i)) ?_ ?_) ?_ ?_ ?_ ?_ ?_ ?_ ?_
   ·try simp only
    have : i < 20 := hi
    exact ⟨by omega, by rw [hx.2, best_drop s hi]⟩
   ·try simp only
    have : i < 20 := hi
    omega
   ·rfl
   ·rfl
   ·(simp only [go_sem, hwi, best_bif])
   ·(simp only [go_sem, hwi, best_bif])
   ·(simp only [go_sem, hwi, best_bif])
   ·simp only [go_sem, hwi, best_bif]
   ·rfl
  ·refine Exec.exit rfl ?_
   refine sreg te_ok ?_
   refine Exec.rets hR te_ok rfl rfl rfl (LeX.le ?_) (.inr ⟨_, rfl⟩)
   simp only [go_sem]
   simp at h0
   have e : b = bestSign s := by rw [hx.2, List.drop_eq_nil_of_le (by show 20 ≤ i; omega)]; rfl
   rw [e]; simp
theorem tail_eq {s : List UInt8} : List.take ((s.length : Int) - 1).toNat (List.drop (Int.toNat 1) s) = s.drop 1 := by
 rw [show Int.toNat 1 = 1 from rfl, List.take_of_length_le]; simp
theorem one_wrap {n : Nat} (h : n ≤ 140737488355328) : IntKind.i64.wrap (1 + (n : Int)) = ((1 + n : Nat) : Int) := by rw [wrap_id (by omega)]; omega
section
variable {s : List UInt8} (h0 : (s == []) = false)
include h0
theorem f_word (h1 : letterI (s.getD 0 0).toNat = true) : firstT s = ⟨1, wordN s, 0, v0⟩ ∧ firstB s = vertexB (wordN s) := by
 have hs : ¬ s = [] := by simpa using h0
 exact ⟨by unfold firstT; rw [if_neg hs, if_pos h1], by unfold firstB; rw [if_neg hs, if_pos h1]⟩
theorem f_digit (h1 : letterI (s.getD 0 0).toNat = false) (h2 : digitI (s.getD 0 0).toNat = true) : firstT s = valuedT (digitN s) 2 ∧ firstB s = (parseE (digitN s) == 0) := by
 have hs : ¬ s = [] := by simpa using h0
 have nh1 : ¬ _ = true := fun e => Bool.false_ne_true (h1.symm.trans e)
 exact ⟨by unfold firstT; rw [if_neg hs, if_neg nh1, if_pos h2], by unfold firstB; rw [if_neg hs, if_neg nh1, if_pos h2]⟩
theorem f_minus (h1 : letterI (s.getD 0 0).toNat = false) (h2 : digitI (s.getD 0 0).toNat = false) (h3 : (((s.getD 0 0).toNat : Int) == 45 && decide (0 < (spanN digitI (s.drop 1) : Int))) = true) : firstT s = valuedT (minusN s) 2 ∧ firstB s = (parseE (minusN s) == 0) := by
 have hs : ¬ s = [] := by simpa using h0
 have nh1 : ¬ _ = true := fun e => Bool.false_ne_true (h1.symm.trans e)
 have nh2 : ¬ _ = true := fun e => Bool.false_ne_true (h2.symm.trans e)
 exact ⟨by unfold firstT; rw [if_neg hs, if_neg nh1, if_neg nh2, if_pos h3], by unfold firstB; rw [if_neg hs, if_neg nh1, if_neg nh2, if_pos h3]⟩
theorem f_text (h1 : letterI (s.getD 0 0).toNat = false) (h2 : digitI (s.getD 0 0).toNat = false) (h3 : (((s.getD 0 0).toNat : Int) == 45 && decide (0 < (spanN digitI (s.drop 1) : Int))) = false) (h4 : (((s.getD 0 0).toNat : Int) == 34) = true) : firstT s = (if Lib.indexByte (s.drop 1) 34 < 0 then ⟨0, [], 0, v0⟩ else valuedT (textN s) 3) ∧ firstB s = (if Lib.indexByte (s.drop 1) 34 < 0 then false else parseE (textN s) == 0) := by
 have hs : ¬ s = [] := by simpa using h0
 have nh1 : ¬ _ = true := fun e => Bool.false_ne_true (h1.symm.trans e)
 have nh2 : ¬ _ = true := fun e => Bool.false_ne_true (h2.symm.trans e)
 have nh3 : ¬ _ = true := fun e => Bool.false_ne_true (h3.symm.trans e)
 exact ⟨by unfold firstT; rw [if_neg hs, if_neg nh1, if_neg nh2, if_neg nh3, if_pos h4], by unfold firstB; rw [if_neg hs, if_neg nh1, if_neg nh2, if_neg nh3, if_pos h4]⟩
theorem f_sign (h1 : letterI (s.getD 0 0).toNat = false) (h2 : digitI (s.getD 0 0).toNat = false) (h3 : (((s.getD 0 0).toNat : Int) == 45 && decide (0 < (spanN digitI (s.drop 1) : Int))) = false) (h4 : (((s.getD 0 0).toNat : Int) == 34) = false) : firstT s = ⟨4, bestSign s, 0, v0⟩ ∧ firstB s = !(bestSign s == []) := by
 have hs : ¬ s = [] := by simpa using h0
 have nh1 : ¬ _ = true := fun e => Bool.false_ne_true (h1.symm.trans e)
 have nh2 : ¬ _ = true := fun e => Bool.false_ne_true (h2.symm.trans e)
 have nh3 : ¬ _ = true := fun e => Bool.false_ne_true (h3.symm.trans e)
 have nh4 : ¬ _ = true := fun e => Bool.false_ne_true (h4.symm.trans e)
 exact ⟨by unfold firstT; rw [if_neg hs, if_neg nh1, if_neg nh2, if_neg nh3, if_neg nh4], by unfold firstB; rw [if_neg hs, if_neg nh1, if_neg nh2, if_neg nh3, if_neg nh4]⟩
end
theorem take_len (s : List UInt8) (n : Nat) : (s.take n).length ≤ s.length := by simp; omega
theorem text_bound (s : List UInt8) : Lib.indexByte (s.drop 1) 34 < s.length ∧ -1 ≤ Lib.indexByte (s.drop 1) 34 ∧ (0 < s.length → Lib.indexByte (s.drop 1) 34 + 1 < s.length) := by
 have h := indexByte_lt (s.drop 1) 34
 have e : (s.drop 1).length = s.length - 1 := by simp
 rw [e] at h
 exact ⟨by omega, by omega, fun _ => by omega⟩
theorem wordN_eq (s : List UInt8) : List.take (spanN signI s) s = wordN s := rfl
theorem digitN_eq (s : List UInt8) : List.take (spanN digitI s) s = digitN s := rfl
theorem minusN_eq (s : List UInt8) : List.take (1 + spanN digitI (List.drop 1 s)) s = minusN s := rfl
theorem textN_eq (s : List UInt8) : List.take (Lib.indexByte (List.drop 1 s) 34 + 2).toNat s = textN s := rfl
theorem b34 : (Int.toNat 34).toUInt8 = 34 := rfl
theorem first_ok (s : List UInt8) (hs : s.length ≤ 140737488351232) : FnOK LaidX Tryz.prog 121 [sv s] (.tup [tD (firstT s), bv (firstB s)]) := by
 refine FnOK_of laidX_stable Tryz.func121 Tryz.ntmps121 rfl (by as_aux_lemma => kernel_rfl) (Nat.le_of_ble_eq_true rfl) (fun R hR => ?_)
 obtain ⟨_, b, cs, T, C⟩ := R
 obtain rfl : _ = Tryz.prog := hR.p
 have q1 := spanN_le signI s
 have q2 := spanN_le digitI s
 have q3 := spanN_le digitI (s.drop 1)
 have q3b : (s.drop 1).length = s.length - 1 := by simp
 have q4 := text_bound s
 have q5 : (wordN s).length ≤ s.length := take_len _ _
 have q6 : (digitN s).length ≤ s.length := take_len _ _
 have q7 : (minusN s).length ≤ s.length := take_len _ _
 have q8 : (textN s).length ≤ s.length := take_len _ _
 have tl := tail_eq (s := s)
 have ow := one_wrap (n := spanN digitI (s.drop 1)) (by omega)
 have tw : IntKind.i64.wrap (Lib.indexByte (s.drop 1) 34 + 2) = Lib.indexByte (s.drop 1) 34 + 2 := wrap_id (by omega)
 refine sq ?_
 apply Exec.regionL te_ok
 ·intro u' Q hQ
  simp only [go_sem, v0, tl, ow, tw, b34, wordN_eq, digitN_eq, minusN_eq, textN_eq]
  repeat refine ob2 ?_
  exact hQ
 refine sq ?_
 refine sq ?_
 apply Exec.regionL te_ok
 ·intro u' Q hQ
  simp only [go_sem, v0, tl, ow, tw, b34, wordN_eq, digitN_eq, minusN_eq, textN_eq]
  repeat refine ob2 ?_
  exact hQ
 refine Exec.cond_split rfl (fun h0 => ?_) (fun h0 => ?_)
 ·refine sq ?_
  apply Exec.regionL te_ok
  ·intro u' Q hQ
   simp only [go_sem, v0, tl, ow, tw, b34, wordN_eq, digitN_eq, minusN_eq, textN_eq]
   repeat refine ob2 ?_
   exact hQ
  refine Exec.rets hR te_ok rfl rfl rfl (LeX.le ?_) (.inr ⟨_, rfl⟩)
  simp only [go_sem]
  have e : s = [] := by simpa using h0
  subst e; decide
 ·have hl : 0 < s.length := by cases s; simp at h0; simp
  refine sk ?_
  refine sq ?_
  refine sq ?_
  apply Exec.regionL te_ok
  ·intro u' Q hQ
   simp only [go_sem, v0, tl, ow, tw, b34, wordN_eq, digitN_eq, minusN_eq, textN_eq]
   repeat refine ob2 ?_
   exact hQ
  refine Exec.block ?_
  refine sq ?_
  apply Exec.regionL te_ok
  ·intro u' Q hQ
   simp only [go_sem, v0, tl, ow, tw, b34, wordN_eq, digitN_eq, minusN_eq, textN_eq]
   repeat refine ob2 ?_
   refine kcall hR.inv te_ok rfl rfl rfl rfl rfl rfl (letter_ok _) ?_
   simp only [go_sem, v0, tl, ow, tw, b34, wordN_eq, digitN_eq, minusN_eq, textN_eq]
   repeat refine ob2 ?_
   exact hQ
  refine Exec.cond_split rfl (fun h1 => ?_) (fun h1 => ?_)
  ·refine sq ?_
   apply Exec.regionL te_ok
   ·intro u' Q hQ
    simp only [go_sem, v0, tl, ow, tw, b34, wordN_eq, digitN_eq, minusN_eq, textN_eq]
    repeat refine ob2 ?_
    refine kcall hR.inv te_ok rfl rfl rfl rfl rfl rfl (span_ok _ (by omega) _ _ (fun _ => sign_ok _)) ?_
    simp only [go_sem, v0, tl, ow, tw, b34, wordN_eq, digitN_eq, minusN_eq, textN_eq]
    repeat refine ob2 ?_
    exact hQ
   refine sq ?_
   apply Exec.regionL te_ok
   ·intro u' Q hQ
    simp only [go_sem, v0, tl, ow, tw, b34, wordN_eq, digitN_eq, minusN_eq, textN_eq]
    repeat refine ob2 ?_
    refine kcall hR.inv te_ok rfl rfl rfl rfl rfl rfl (vertex_okX _ (by omega)) ?_
    simp only [go_sem, v0, tl, ow, tw, b34, wordN_eq, digitN_eq, minusN_eq, textN_eq]
    repeat refine ob2 ?_
    exact hQ
   refine Exec.rets hR te_ok rfl rfl rfl (LeX.le ?_) (.inr ⟨_, rfl⟩)
   simp only [go_sem]
   obtain ⟨e1, e2⟩ := f_word h0 h1
   rw [e1, e2]; simp [v0]
  ·refine sq ?_
   apply Exec.regionL te_ok
   ·intro u' Q hQ
    simp only [go_sem, v0, tl, ow, tw, b34, wordN_eq, digitN_eq, minusN_eq, textN_eq]
    repeat refine ob2 ?_
    refine kcall hR.inv te_ok rfl rfl rfl rfl rfl rfl (digit_ok _) ?_
    simp only [go_sem, v0, tl, ow, tw, b34, wordN_eq, digitN_eq, minusN_eq, textN_eq]
    repeat refine ob2 ?_
    exact hQ
   refine Exec.cond_split rfl (fun h2 => ?_) (fun h2 => ?_)
   ·refine sq ?_
    apply Exec.regionL te_ok
    ·intro u' Q hQ
     simp only [go_sem, v0, tl, ow, tw, b34, wordN_eq, digitN_eq, minusN_eq, textN_eq]
     repeat refine ob2 ?_
     refine kcall hR.inv te_ok rfl rfl rfl rfl rfl rfl (span_ok _ (by omega) _ _ (fun _ => digit_ok _)) ?_
     simp only [go_sem, v0, tl, ow, tw, b34, wordN_eq, digitN_eq, minusN_eq, textN_eq]
     repeat refine ob2 ?_
     refine kcall hR.inv te_ok rfl rfl rfl rfl rfl rfl (valued_ok _ _ (by omega)) ?_
     simp only [go_sem, v0, tl, ow, tw, b34, wordN_eq, digitN_eq, minusN_eq, textN_eq]
     repeat refine ob2 ?_
     exact hQ
    refine Exec.rets hR te_ok rfl rfl rfl (LeX.le ?_) (.inr ⟨_, rfl⟩)
    simp only [go_sem]
    obtain ⟨e1, e2⟩ := f_digit h0 h1 h2
    rw [e1, e2]; simp [valuedT]
   ·refine sq ?_
    apply Exec.regionL te_ok
    ·intro u' Q hQ
     simp only [go_sem, v0, tl, ow, tw, b34, wordN_eq, digitN_eq, minusN_eq, textN_eq]
     repeat refine ob2 ?_
     refine kcallG hR.inv te_ok rfl rfl rfl rfl rfl rfl ob1 (fun hq => span_ok _ (by omega) _ _ (fun _ => digit_ok _)) ?_
     simp only [go_sem, v0, tl, ow, tw, b34, wordN_eq, digitN_eq, minusN_eq, textN_eq]
     repeat refine ob2 ?_
     exact hQ
    refine Exec.cond_split rfl (fun h3 => ?_) (fun h3 => ?_)
    ·refine sq ?_
     apply Exec.regionL te_ok
     ·intro u' Q hQ
      simp only [go_sem, v0, tl, ow, tw, b34, wordN_eq, digitN_eq, minusN_eq, textN_eq]
      repeat refine ob2 ?_
      refine kcall hR.inv te_ok rfl rfl rfl rfl rfl rfl (span_ok _ (by omega) _ _ (fun _ => digit_ok _)) ?_
      simp only [go_sem, v0, tl, ow, tw, b34, wordN_eq, digitN_eq, minusN_eq, textN_eq]
      repeat refine ob2 ?_
      refine kcall hR.inv te_ok rfl rfl rfl rfl rfl rfl (valued_ok _ _ (by omega)) ?_
      simp only [go_sem, v0, tl, ow, tw, b34, wordN_eq, digitN_eq, minusN_eq, textN_eq]
      repeat refine ob2 ?_
      exact hQ
     refine Exec.rets hR te_ok rfl rfl rfl (LeX.le ?_) (.inr ⟨_, rfl⟩)
     simp only [go_sem]
     obtain ⟨e1, e2⟩ := f_minus h0 h1 h2 h3
     rw [e1, e2]; simp
    ·refine sq ?_
     apply Exec.regionL te_ok
     ·intro u' Q hQ
      simp only [go_sem, v0, tl, ow, tw, b34, wordN_eq, digitN_eq, minusN_eq, textN_eq]
      repeat refine ob2 ?_
      exact hQ
     refine Exec.cond_split rfl (fun h4 => ?_) (fun h4 => ?_)
     ·refine sq ?_
      apply Exec.regionL te_ok
      ·intro u' Q hQ
       simp only [go_sem, v0, tl, ow, tw, b34, wordN_eq, digitN_eq, minusN_eq, textN_eq]
       repeat refine ob2 ?_
       refine kcall hR.inv te_ok rfl rfl rfl rfl rfl rfl (indexByte_ok _ _) ?_
       simp only [go_sem, v0, tl, ow, tw, b34, wordN_eq, digitN_eq, minusN_eq, textN_eq]
       repeat refine ob2 ?_
       exact hQ
      refine sq ?_
      refine sq ?_
      apply Exec.regionL te_ok
      ·intro u' Q hQ
       simp only [go_sem, v0, tl, ow, tw, b34, wordN_eq, digitN_eq, minusN_eq, textN_eq]
       repeat refine ob2 ?_
       exact hQ
      refine Exec.cond_split rfl (fun h5 => ?_) (fun h5 => ?_)
      ·refine sq ?_
       apply Exec.regionL te_ok
       ·intro u' Q hQ
        simp only [go_sem, v0, tl, ow, tw, b34, wordN_eq, digitN_eq, minusN_eq, textN_eq]
        repeat refine ob2 ?_
        exact hQ
       refine Exec.rets hR te_ok rfl rfl rfl (LeX.le ?_) (.inr ⟨_, rfl⟩)
       simp only [go_sem]
       obtain ⟨e1, e2⟩ := f_text h0 h1 h2 h3 h4
       have h6 : Lib.indexByte (s.drop 1) 34 < 0 := by simpa only [decide_eq_true_eq] using h5
       rw [e1, e2, if_pos h6, if_pos h6]; simp [v0]
      ·refine sk ?_
       refine sq ?_
       apply Exec.regionL te_ok
       ·intro u' Q hQ
        simp only [go_sem, v0, tl, ow, tw, b34, wordN_eq, digitN_eq, minusN_eq, textN_eq]
        repeat refine ob2 ?_
        refine kcall hR.inv te_ok rfl rfl rfl rfl rfl rfl (valued_ok _ _ (by omega)) ?_
        simp only [go_sem, v0, tl, ow, tw, b34, wordN_eq, digitN_eq, minusN_eq, textN_eq]
        repeat refine ob2 ?_
        exact hQ
       refine Exec.rets hR te_ok rfl rfl rfl (LeX.le ?_) (.inr ⟨_, rfl⟩)
       simp only [go_sem]
       obtain ⟨e1, e2⟩ := f_text h0 h1 h2 h3 h4
       have h6 : ¬ Lib.indexByte (s.drop 1) 34 < 0 := by simpa only [decide_eq_false_iff_not] using h5
       rw [e1, e2, if_neg h6, if_neg h6]; simp
     ·refine sk ?_
      refine Exec.inBlock ?_
      refine sq ?_
      apply Exec.regionL te_ok
      ·intro u' Q hQ
       simp only [go_sem, v0, tl, ow, tw, b34, wordN_eq, digitN_eq, minusN_eq, textN_eq]
       repeat refine ob2 ?_
       refine kcall hR.inv te_ok rfl rfl rfl rfl rfl rfl (signed_ok _) ?_
       simp only [go_sem, v0, tl, ow, tw, b34, wordN_eq, digitN_eq, minusN_eq, textN_eq]
       repeat refine ob2 ?_
       exact hQ
      refine Exec.rets hR te_ok rfl rfl rfl (LeX.le ?_) (.inr ⟨_, rfl⟩)
      simp only [go_sem]
      obtain ⟨e1, e2⟩ := f_sign h0 h1 h2 h3 h4
      rw [e1, e2]; simp [v0]
theorem drop_take (s : List UInt8) (a : Nat) : List.take ((s.length : Int) - (a : Int)).toNat (List.drop a s) = s.drop a := by
 rw [List.take_of_length_le]; simp
theorem lall_ok (s : List UInt8) : FnOK LaidX Tryz.prog 59 [sv s] (.fn 118 [.ptr [sv s]]) := by
 refine FnOK_of laidX_stable Tryz.func59 Tryz.ntmps59 rfl (by as_aux_lemma => kernel_rfl) (Nat.le_of_ble_eq_true rfl) (fun R hR => ?_)
 obtain ⟨_, b, cs, T, C⟩ := R
 obtain rfl : _ = Tryz.prog := hR.p
 refine sreg te_ok ?_
 refine sreg te_ok ?_
 refine Exec.rets hR te_ok rfl rfl rfl (LeX.le ?_) (.inr ⟨_, rfl⟩)
 simp only [go_sem]
theorem lex_long {s : List UInt8} (h : decide (2000 < (s.length : Int)) = true) : lexT s = [] ∧ lexA s = 0 ∧ lexE s = 3 := by
 have h' : 2000 < (s.length : Int) := of_decide_eq_true h
 unfold lexT lexA lexE; rw [if_pos h', if_pos h', if_pos h']; exact ⟨rfl, rfl, rfl⟩
theorem lex_none {s : List UInt8} {a : Nat} (h : decide (2000 < (s.length : Int)) = false) (e : (lexAll s).2 = some a) : lexT s = [] ∧ lexA s = a ∧ lexE s = 7 := by
 have h' : ¬ 2000 < (s.length : Int) := of_decide_eq_false h
 unfold lexT lexA lexE; rw [if_neg h', if_neg h', if_neg h', e]; exact ⟨rfl, rfl, rfl⟩
theorem lex_some {s : List UInt8} {l : List Tk} (h : decide (2000 < (s.length : Int)) = false) (e : lexAll s = (l, none)) : lexT s = l ∧ lexA s = 0 ∧ lexE s = 0 := by
 have h' : ¬ 2000 < (s.length : Int) := of_decide_eq_false h
 unfold lexT lexA lexE; rw [if_neg h', if_neg h', if_neg h', e]; exact ⟨rfl, rfl, rfl⟩
/-- the token at a place -/
def tokA (s : List UInt8) (a : Nat) : Tk := (firstT (s.drop (nextA s a))).at' (nextA s a : Nat)
def thenA (s : List UInt8) (a : Nat) : Nat := nextA s a + (firstT (s.drop (nextA s a))).t.length
theorem lexAt_no {s : List UInt8} {a : Nat} (h : a ≤ s.length) (hb : firstB (s.drop (nextA s a)) = false) : lexAt s a = ([], some (nextA s a)) := by rw [lexAt_eq h, if_pos hb]
theorem lexAt_end {s : List UInt8} {a : Nat} (h : a ≤ s.length) (hb : firstB (s.drop (nextA s a)) = true) (hk : (firstT (s.drop (nextA s a))).k = 5) : lexAt s a = ([tokA s a], none) := by rw [lexAt_eq h, if_neg (by rw [hb]; decide), if_pos hk]; rfl
theorem lexAt_on {s : List UInt8} {a : Nat} (h : a ≤ s.length) (hb : firstB (s.drop (nextA s a)) = true) (hk : ¬ (firstT (s.drop (nextA s a))).k = 5) : lexAt s a = (tokA s a :: (lexAt s (thenA s a)).1, (lexAt s (thenA s a)).2) := by rw [lexAt_eq h, if_neg (by rw [hb]; decide), if_neg hk]; rfl
theorem thenA_le {s : List UInt8} {a : Nat} (h : a ≤ s.length) (hb : firstB (s.drop (nextA s a)) = true) : thenA s a ≤ s.length ∧ ((firstT (s.drop (nextA s a))).k = 5 ∨ a < thenA s a) := by
 have hn := nextA_le h
 have hn2 : a ≤ nextA s a := by unfold nextA; omega
 unfold thenA
 by_cases hk : (firstT (s.drop (nextA s a))).k = 5
 ·refine ⟨?_, .inl hk⟩
  have := first_end.1 hk
  rw [this]; show nextA s a + 0 ≤ _; omega
 ·have := first_len hb hk
  simp at this
  exact ⟨by omega, .inr (by omega)⟩
theorem add_wrap {m n : Nat} (h : m + n ≤ 140737488355328) : IntKind.i64.wrap ((m : Int) + (n : Int)) = ((m + n : Nat) : Int) := by rw [wrap_id (by omega)]; omega
theorem nextA_eq (s : List UInt8) (a : Nat) : a + spanN blankI (s.drop a) = nextA s a := rfl
theorem thenA_eq (s : List UInt8) (a : Nat) : nextA s a + (firstT (s.drop (nextA s a))).t.length = thenA s a := rfl
theorem tok_snoc (l : List Tk) (t : Tk) (i : Nat) (h : i < (l ++ [t]).length) : catR l.length (fun i => tC (nth l i)) (lstR [tC t]) i = tC (nth (l ++ [t]) i) := catR_snoc tC l t i h
theorem lex_ok (s : List UInt8) (hs : s.length ≤ 140737488355328) : FnOK LaidX Tryz.prog 30 [sv s] (.tup [.sl 6 (lexT s).length (lexT s).length fun i => tC (nth (lexT s) i), iv (lexA s), iv (lexE s)]) := by
 refine FnOK_of laidX_stable Tryz.func30 Tryz.ntmps30 rfl (by as_aux_lemma => kernel_rfl) (Nat.le_of_ble_eq_true rfl) (fun R hR => ?_)
 obtain ⟨_, b, cs, T, C⟩ := R
 obtain rfl : _ = Tryz.prog := hR.p
 refine sreg te_ok ?_
 refine sq ?_
 refine sq ?_
 apply Exec.regionL te_ok
 ·intro u' Q hQ
  simp only [go_sem]
  repeat refine ob2 ?_
  refine kcall hR.inv te_ok rfl rfl rfl rfl rfl rfl (lall_ok _) ?_
  simp only [go_sem]
  repeat refine ob2 ?_
  exact hQ
 refine Exec.block ?_
 refine Exec.range 1 hR.round hR.bfn rfl rfl Tryz.func118 Tryz.ntmps118 rfl (by as_aux_lemma => kernel_rfl) (Nat.le_of_ble_eq_true rfl) (fun a0 l0 r0 lo0 hlo0 hN0 hD0 hfr0 hfl0 => ?_)
 apply Exec.norm
 ·simp only [go_sem]
  rfl
 refine Exec.scope ?_
 refine sq ?_
 refine sreg te_ok ?_
 refine Exec.cond_split rfl (fun h0 => ?_) (fun h0 => ?_)
 ·refine sq ?_
  refine Exec.regStart 3 rfl ?_
  apply Exec.regPart 0 2 1 te_ok rfl
  ·intro u' Q hQ
   simp only [go_sem]
   repeat refine ob2 ?_
   exact hQ
  refine Exec.yield 1 (m := 0) rfl rfl rfl rfl rfl rfl hlo0 rfl hN0 rfl (fun ag0 hag0 hdg0 => ?_)
  apply Exec.norm
  ·simp only [go_sem]
   rfl
  refine sreg te_ok ?_
  refine Exec.reg te_ok ?_
  refine Exec.begin rfl hlo0 hfl0 ?_
  apply Exec.norm
  ·simp only [go_sem]
   rfl
  refine Exec.block ?_
  refine sq ?_
  refine sreg te_ok ?_
  refine Exec.cond (t := true) rfl ?_
  simp only [reduceIte, Bool.false_eq_true]
  refine sq ?_
  apply Exec.draw (st := _) 7 3 [] [0, 1, 2, 100005] te_ok (by as_aux_lemma => kernel_rfl) (by as_aux_lemma => kernel_rfl) (by as_aux_lemma => kernel_rfl)
  ·intro u' Q hQ
   simp only [go_sem]
   repeat refine ob2 ?_
   exact hQ
  refine Exec.roundEnd 1 .ret rfl hlo0 hfl0 rfl hag0 hdg0 rfl rfl rfl ?_
  apply Exec.norm
  ·simp only [go_sem]
   rfl
  refine Exec.regEnd ?_
  refine Exec.rangeEnd 1 (pd := (some .ret)) Tryz.func118 rfl (.inr ⟨_, rfl⟩) rfl rfl hlo0 hfl0 rfl rfl hN0 hD0 ?_
  apply Exec.norm
  ·simp only [go_sem]
   rfl
  refine Exec.retsM hR te_ok rfl (.cons hfr0 .nil) rfl (LeX.le ?_) (.inr ⟨_, rfl⟩)
  simp only [go_sem]
  obtain ⟨e1, e2, e3⟩ := lex_long h0
  rw [e1, e2, e3]; simp
 ·refine sk ?_
  refine sq ?_
  refine Exec.label ?_
  refine sreg te_ok ?_
  refine Exec.block ?_
  refine Exec.ownNilL 1002 0 1500 69 6 rfl rfl rfl ?_
  apply Exec.norm
  ·simp only [go_sem]
   rfl
  apply Exec.loopU [0, 1] (X := Nat × List Tk) (fun ⟨a, l⟩ => [(3, .d (iv a))]) (fun ⟨a, l⟩ => [(1002, 62, [.own 1500])]) (fun ⟨a, l⟩ => [(1500, ⟨69, 6, l.length, l.length, fun i => tC (nth l i)⟩)]) (fun ⟨a, l⟩ => s.length - a) (fun ⟨a, l⟩ => a ≤ s.length ∧ l.length ≤ a ∧ lexAll s = (l ++ (lexAt s a).1, (lexAt s a).2)) (0, [])
  case h0 =>
   exact ⟨by omega, by simp, rfl⟩
  case hw =>
   simp only [go_sem]; exact fun i hi => absurd hi (Nat.not_lt_zero i)
  case body =>
   rintro ⟨a, l⟩ hx ih0
   try simp only at hx
   have h2000 : s.length ≤ 2000 := by have := of_decide_eq_false h0; omega
   have dt := drop_take s
   have hn := nextA_le hx.1
   have sp := spanN_le blankI (s.drop a)
   have spl : (s.drop a).length = s.length - a := by simp
   have w1 := add_wrap (m := a) (n := spanN blankI (s.drop a)) (by omega)
   apply Exec.norm
   ·simp only [go_sem, dt, w1, nextA_eq]
    rfl
   refine Exec.block ?_
   refine sq ?_
   apply Exec.regionL te_ok
   ·intro u' Q hQ
    simp only [go_sem, dt, w1, nextA_eq]
    repeat refine ob2 ?_
    exact hQ
   refine sq ?_
   apply Exec.regionL te_ok
   ·intro u' Q hQ
    simp only [go_sem, dt, w1, nextA_eq]
    repeat refine ob2 ?_
    refine kcall hR.inv te_ok rfl rfl rfl rfl rfl rfl (span_ok _ (by simp; omega) _ _ (fun _ => blank_ok _)) ?_
    simp only [go_sem, dt, w1, nextA_eq]
    repeat refine ob2 ?_
    exact hQ
   refine sq ?_
   apply Exec.regionL te_ok
   ·intro u' Q hQ
    simp only [go_sem, dt, w1, nextA_eq]
    repeat refine ob2 ?_
    refine kcall hR.inv te_ok rfl rfl rfl rfl rfl rfl (first_ok _ (by simp; omega)) ?_
    simp only [go_sem, dt, w1, nextA_eq]
    repeat refine ob2 ?_
    exact hQ
   refine sq ?_
   refine sq ?_
   apply Exec.regionL te_ok
   ·intro u' Q hQ
    simp only [go_sem, dt, w1, nextA_eq]
    repeat refine ob2 ?_
    exact hQ
   refine Exec.cond_split rfl (fun h2 => ?_) (fun h2 => ?_)
   ·refine sq ?_
    refine Exec.regStart 4 rfl ?_
    apply Exec.regPart 0 3 1 te_ok rfl
    ·intro u' Q hQ
     simp only [go_sem, dt, w1, nextA_eq]
     repeat refine ob2 ?_
     exact hQ
    refine Exec.yield 1 (m := 0) rfl rfl rfl rfl rfl rfl hlo0 rfl hN0 rfl (fun ag1 hag1 hdg1 => ?_)
    apply Exec.norm
    ·simp only [go_sem, dt, w1, nextA_eq]
     rfl
    refine sq ?_
    apply Exec.regionL te_ok
    ·intro u' Q hQ
     simp only [go_sem, dt, w1, nextA_eq]
     repeat refine ob2 ?_
     exact hQ
    apply Exec.regionL te_ok
    ·intro u' Q hQ
     simp only [go_sem, dt, w1, nextA_eq]
     repeat refine ob2 ?_
     exact hQ
    refine Exec.begin rfl hlo0 hfl0 ?_
    apply Exec.norm
    ·simp only [go_sem, dt, w1, nextA_eq]
     rfl
    refine Exec.block ?_
    refine sq ?_
    refine sq ?_
    apply Exec.regionL te_ok
    ·intro u' Q hQ
     simp only [go_sem, dt, w1, nextA_eq]
     repeat refine ob2 ?_
     exact hQ
    refine Exec.cond (t := true) rfl ?_
    simp only [reduceIte, Bool.false_eq_true]
    refine sq ?_
    apply Exec.draw (st := _) 7 3 [] [0, 1, 2, 100005] te_ok (by as_aux_lemma => kernel_rfl) (by as_aux_lemma => kernel_rfl) (by as_aux_lemma => kernel_rfl)
    ·intro u' Q hQ
     simp only [go_sem, dt, w1, nextA_eq]
     repeat refine ob2 ?_
     exact hQ
    refine Exec.roundEnd 1 .ret rfl hlo0 hfl0 rfl hag1 hdg1 rfl rfl rfl ?_
    apply Exec.norm
    ·simp only [go_sem, dt, w1, nextA_eq]
     rfl
    refine Exec.regEnd ?_
    refine Exec.rangeEnd 1 (pd := (some .ret)) Tryz.func118 rfl (.inr ⟨_, rfl⟩) rfl rfl hlo0 hfl0 rfl rfl hN0 hD0 ?_
    apply Exec.norm
    ·simp only [go_sem, dt, w1, nextA_eq]
     rfl
    refine Exec.retsM hR te_ok rfl (.cons hfr0 .nil) rfl (LeX.le ?_) (.inr ⟨_, rfl⟩)
    simp only [go_sem]
    have hb : firstB (s.drop (nextA s a)) = false := by simpa using h2
    obtain ⟨e1, e2, e3⟩ := lex_none (a := nextA s a) h0 (by rw [hx.2.2, lexAt_no hx.1 hb])
    rw [e1, e2, e3]; simp
   ·have hb : firstB (s.drop (nextA s a)) = true := by simpa using h2
    obtain ⟨t1, t2⟩ := thenA_le hx.1 hb
    have w2 := add_wrap (m := nextA s a) (n := (firstT (s.drop (nextA s a))).t.length) (by show thenA s a ≤ _; omega)
    refine sk ?_
    refine sq ?_
    apply Exec.regionL te_ok
    ·intro u' Q hQ
     simp only [go_sem, dt, w1, nextA_eq, w2, thenA_eq]
     repeat refine ob2 ?_
     exact hQ
    refine sq ?_
    apply Exec.regionL te_ok
    ·intro u' Q hQ
     simp only [go_sem, dt, w1, nextA_eq, w2, thenA_eq]
     repeat refine ob2 ?_
     exact hQ
    refine sq ?_
    refine Exec.regStart 9 rfl ?_
    apply Exec.regPart 0 2 7 te_ok rfl
    ·intro u' Q hQ
     simp only [go_sem, dt, w1, nextA_eq, w2, thenA_eq]
     repeat refine ob2 ?_
     exact hQ
    refine Exec.yield 1 (m := 6) rfl rfl rfl rfl rfl rfl hlo0 rfl hN0 rfl (fun ag2 hag2 hdg2 => ?_)
    apply Exec.norm
    ·simp only [go_sem, dt, w1, nextA_eq, w2, thenA_eq]
     rfl
    refine sq ?_
    apply Exec.regionL te_ok
    ·intro u' Q hQ
     simp only [go_sem, dt, w1, nextA_eq, w2, thenA_eq]
     repeat refine ob2 ?_
     exact hQ
    apply Exec.regionL te_ok
    ·intro u' Q hQ
     simp only [go_sem, dt, w1, nextA_eq, w2, thenA_eq]
     repeat refine ob2 ?_
     exact hQ
    refine Exec.begin rfl hlo0 hfl0 ?_
    apply Exec.norm
    ·simp only [go_sem, dt, w1, nextA_eq, w2, thenA_eq]
     rfl
    refine Exec.block ?_
    refine sq ?_
    refine sq ?_
    apply Exec.regionL te_ok
    ·intro u' Q hQ
     simp only [go_sem, dt, w1, nextA_eq, w2, thenA_eq]
     repeat refine ob2 ?_
     exact hQ
    refine Exec.cond (t := false) rfl ?_
    simp only [reduceIte, Bool.false_eq_true]
    refine sk ?_
    apply Exec.regionL te_ok
    ·intro u' Q hQ
     simp only [go_sem, dt, w1, nextA_eq, w2, thenA_eq]
     repeat refine ob2 ?_
     exact hQ
    refine Exec.inBlock ?_
    refine Exec.roundEnd 1 .fall rfl hlo0 hfl0 rfl hag2 hdg2 rfl rfl rfl ?_
    apply Exec.norm
    ·simp only [go_sem, dt, w1, nextA_eq, w2, thenA_eq]
     rfl
    apply Exec.regPart 3 6 0 te_ok rfl
    ·intro u' Q hQ
     simp only [go_sem, dt, w1, nextA_eq, w2, thenA_eq]
     repeat refine ob2 ?_
     exact hQ
    refine Exec.regEnd ?_
    refine Exec.cond_split rfl (fun h5 => ?_) (fun h5 => ?_)
    ·refine Exec.exit rfl ?_
     refine Exec.inScope ?_
     refine Exec.rangeEnd 1 (pd := none) Tryz.func118 rfl (.inl rfl) rfl rfl hlo0 hfl0 rfl rfl hN0 hD0 ?_
     apply Exec.norm
     ·simp only [go_sem, dt, w1, nextA_eq, w2, thenA_eq]
      rfl
     refine Exec.inBlock ?_
     refine sq ?_
     apply Exec.regionL te_ok
     ·intro u' Q hQ
      simp only [go_sem, dt, w1, nextA_eq, w2, thenA_eq]
      repeat refine ob2 ?_
      exact hQ
     refine Exec.retsM hR te_ok rfl (.cons hfr0 .nil) rfl (LeX.le ?_) (.inr ⟨_, rfl⟩)
     simp only [go_sem]
     have hk : (firstT (s.drop (nextA s a))).k = 5 := by simpa using h5
     obtain ⟨e1, e2, e3⟩ := lex_some (l := l ++ [tokA s a]) h0 (by rw [hx.2.2, lexAt_end hx.1 hb hk])
     rw [e1, e2, e3]
     exact ⟨by simp, .inl (by simp), .inl (tok_snoc l (tokA s a)), rfl, rfl⟩
    ·refine sk ?_
     refine Exec.inBlock ?_
     refine Exec.back (ih0 (thenA s a, l ++ [tokA s a]) ?_ ?_) ?_ ?_ ?_ ?_ ?_ ?_ ?_
     ·try simp only
      have hk : ¬ (firstT (s.drop (nextA s a))).k = 5 := by simpa using h5
      have := t2.resolve_left hk
      exact ⟨t1, by simp; omega, by rw [hx.2.2, lexAt_on hx.1 hb hk]; simp⟩
     ·try simp only
      have hk : ¬ (firstT (s.drop (nextA s a))).k = 5 := by simpa using h5
      have := t2.resolve_left hk
      omega
     ·rfl
     ·rfl
     ·(simp only [go_sem])
     ·(simp only [go_sem])
     ·simp only [go_sem]
      exact ⟨by simp, .inl (by simp), tok_snoc l (tokA s a)⟩
     ·simp only [go_sem, dt, w1, nextA_eq, w2, thenA_eq]
     ·rfl
end Go.Proofs.YtonchjamoblioaaGreatDoor
namespace Go.Proofs.YtonchjamoblioaaGreatDoor
open Go.Kin
set_option maxRecDepth 100000
set_option maxHeartbeats 0
def pR (nm : Bool) (n : Int) : Bool := digitI n || (nm && (letterI n || n == 95))
/-- how many bytes a text has, both quotes with it -/
def textL (s : List UInt8) : Int := if Lib.indexByte (s.drop 1) 34 < 0 then 0 else Lib.indexByte (s.drop 1) 34 + 2
/-- the index, as far as it is known at a place -/
def ibAt (s : List UInt8) (a i : Nat) : Int := if Lib.indexByte (s.drop i) 34 < 0 then 0 else Lib.indexByte (s.drop i) 34 + (i : Int) - (a : Int) + 1
end Go.Proofs.YtonchjamoblioaaGreatDoor
