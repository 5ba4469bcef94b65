/- Contracts of functions of the seat, walked. -/
import Derived.Test.YtmnponhhmkdcdaaDoorDTe
import Derived.Test.YtmnponhhmkdcdaaDoorDSh
import Derived.Test.YtmnponhhmkdcdaaDoorKAttr
import Derived.Test.YtmnponhhmkdcdaaDoorKLib
import Derived.Test.YtmnponhhmkdcdaaDoorVDef
import Derived.Lib.AppendIntMem
import Derived.Lib.AtoiErrMem
namespace Go.Proofs.YtmnponhhmkdcdaaDoor
open Go.Kin
set_option linter.unusedVariables false
set_option maxRecDepth 100000
/-- what the program's variables hold, as far as values look at them -/
structure Laid (w : World) : Prop where
  pow : Lib.TabIs Tryd.prog w powName .u64 Lib.pow10Tab
  syn : ∃ tp p, w.var? Tryd.prog "strconv.ErrSyntax" = some #[.iface tp p]
  rng : ∃ tp p, w.var? Tryd.prog "strconv.ErrRange" = some #[.iface tp p]
theorem laid_stable : Stable Laid := fun w w' h hb =>
  ⟨var_below h.pow hb, h.syn.elim fun tp ⟨p, hp⟩ => ⟨tp, p, var_below hp hb⟩, h.rng.elim fun tp ⟨p, hp⟩ => ⟨tp, p, var_below hp hb⟩⟩
abbrev iv (n : Int) : D := .v (.int .i64 n)
abbrev u8 (n : Int) : D := .v (.int .u8 n)
abbrev sv (s : List UInt8) : D := .v (.string (mkS s))
abbrev bv (b : Bool) : D := .v (.bool b)
abbrev I64 (n : Int) : Prop := -9223372036854775808 ≤ n ∧ n ≤ 9223372036854775807
theorem itoa_ok (n : Int) (h : I64 n) : FnOK Laid Tryd.prog 39 [iv n] (sv (Lib.itoa n)) :=
  FnOK.lib ⟨Tryd.f39, Tryd.func39, by kernel_rfl, by kernel_rfl⟩ fun w Z vs hI hr => by
    obtain rfl := rd_one hr
    refine (Tryd.strconv_Itoa n h.1 h.2 w hI.pow).mono ?_
    rintro e w' ⟨rfl, k, os, rfl⟩
    exact ⟨rfl, Lib.below_grow _ w (Nat.le_refl _) k os⟩
theorem hasPre_ok (s p : List UInt8) : FnOK Laid Tryd.prog 42 [sv s, sv p] (bv (Lib.hasPrefix s p)) :=
  FnOK.lib ⟨Tryd.f42, Tryd.func42, by kernel_rfl, by kernel_rfl⟩ fun w Z vs hI hr => by
    obtain rfl := rd_two hr
    refine (Tryd.strings_HasPrefix (mkS s) (mkS p) w).mono ?_
    rintro e w' ⟨rfl, rfl⟩
    exact ⟨rfl, RowKit.Below.refl _ _⟩
theorem trimPre_ok (s p : List UInt8) : FnOK Laid Tryd.prog 41 [sv s, sv p] (sv (Lib.trimPrefix s p)) :=
  FnOK.lib ⟨Tryd.f41, Tryd.func41, by kernel_rfl, by kernel_rfl⟩ fun w Z vs hI hr => by
    obtain rfl := rd_two hr
    refine (Tryd.strings_TrimPrefix (mkS s) (mkS p) w).mono ?_
    rintro e w' ⟨rfl, rfl⟩
    exact ⟨rfl, RowKit.Below.refl _ _⟩
theorem trimSuf_ok (s p : List UInt8) (hs : s.length ≤ 9223372036854775807) : FnOK Laid Tryd.prog 40 [sv s, sv p] (sv (Lib.trimSuffix s p)) :=
  FnOK.lib ⟨Tryd.f40, Tryd.func40, by kernel_rfl, by kernel_rfl⟩ fun w Z vs hI hr => by
    obtain rfl := rd_two hr
    refine (Tryd.strings_TrimSuffix (mkS s) (mkS p) w (by rw [mkS_size]; exact hs)).mono ?_
    rintro e w' ⟨rfl, rfl⟩
    exact ⟨rfl, RowKit.Below.refl _ _⟩
theorem indexByte_ok (s : List UInt8) (c : Int) : FnOK Laid Tryd.prog 78 [sv s, u8 c] (iv (Lib.indexByte s c.toNat.toUInt8)) :=
  FnOK.lib ⟨Tryd.f78, Tryd.func78, by kernel_rfl, by kernel_rfl⟩ fun w Z vs hI hr => by
    obtain rfl := rd_two hr
    refine (Tryd.strings_IndexByte (mkS s) c w).mono ?_
    rintro e w' ⟨rfl, rfl⟩
    exact ⟨rfl, RowKit.Below.refl _ _⟩
/-- the error beside it: nil, or one that is not looked into -/
def atoiE (s : List UInt8) : D := match Lib.atoiAll s with
  | .ok _ => .v .nilIface
  | _ => .ifc 109 (.ptr [])
theorem atoi_ok (s : List UInt8) (hs : s.length ≤ 281474976710656) : FnOK Laid Tryd.prog 43 [sv s] (.tup [iv (atoiN s), atoiE s]) := by
  refine ⟨⟨Tryd.f43, Tryd.func43, by kernel_rfl, by kernel_rfl⟩, fun w Z vs hI hZ hr => ?_⟩
  obtain rfl := rd_one hr
  have hz : (mkS s).size ≤ 281474976710656 := by rw [mkS_size]; exact hs
  have hb : (mkS s).data.toList = s := by simp [mkS]
  have fin : ∀ {w' : World} {N : Nat} {n : Int} {cs : Array Value} {T : TypeId}, w.heap.size ≤ N → w'.heap[N]? = some (.cells cs T (0, 0)) → RowKit.Below w.heap.size w w' →
      ∃ v Z', Ending.returned (.tuple #[.int .i64 n, .iface 109 (.pointer (some ⟨N, 0, none⟩))]) = .returned v ∧ RowKit.Below w.heap.size w w' ∧ (∀ b, Z' b → b < w'.heap.size ∧ (Z b ∨ w.heap.size ≤ b)) ∧ RdV w' Z' (.tup [iv n, .ifc 109 (.ptr [])]) v := fun {w' N n cs T} h1 h2 h3 => by
    refine ⟨_, fun b => b = N, rfl, h3, fun b hb => ?_, ?_⟩
    · subst hb
      exact ⟨(Array.getElem?_eq_some_iff.1 h2).1, .inr h1⟩
    · simp only [RdV, RdL, RdC]
      exact ⟨_, rfl, _, _, rfl, rfl, _, _, rfl, ⟨_, rfl, N, 0, rfl, rfl, trivial⟩, rfl⟩
  unfold atoiN atoiE
  cases h : Lib.atoiAll s
  · rename_i v
    refine (Tryd.strconv_Atoi_ok (mkS s) (by omega) v (by rw [hb]; exact h) w).mono ?_
    rintro e w' ⟨rfl, hw⟩
    have hbel : RowKit.Below w.heap.size w w' := by
      rcases hw with rfl | ⟨t, rfl⟩
      · exact RowKit.Below.refl _ _
      · exact Lib.bytesWorld_below _ _ _
    refine ⟨_, Z, rfl, hbel, fun b hz => ⟨Nat.lt_of_lt_of_le (hZ b hz) hbel.size, .inl hz⟩, ?_⟩
    simp only [RdV, RdL]
    exact ⟨_, rfl, _, _, rfl, rfl, _, _, rfl, rfl, rfl⟩
  · obtain ⟨tp, p, hv⟩ := hI.syn
    refine (Tryd.strconv_Atoi_bad (mkS s) hz (by rw [hb, h]; intro v e; cases e) (by rw [hb, h]; intro e; cases e) tp p w hv).mono ?_
    rintro e w' ⟨N, rfl, h1, h2, h3⟩
    exact fin h1 h2 h3
  · obtain ⟨tp, p, hv⟩ := hI.rng
    refine (Tryd.strconv_Atoi_range_var (mkS s) hz (by rw [hb]; exact h) tp p w hv).mono ?_
    rintro e w' ⟨N, rfl, h1, h2, h3⟩
    rw [hb]
    exact fin h1 h2 h3
end Go.Proofs.YtmnponhhmkdcdaaDoor
