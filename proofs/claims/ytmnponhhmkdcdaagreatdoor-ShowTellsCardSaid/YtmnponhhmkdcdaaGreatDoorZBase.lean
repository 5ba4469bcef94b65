/- Contracts of functions of the seat, walked. -/
import Derived.Test.YtmnponhhmkdcdaaGreatDoorZTe
import Derived.Test.YtmnponhhmkdcdaaGreatDoorZSh
import Derived.Test.YtmnponhhmkdcdaaGreatDoorKAttr
import Derived.Test.YtmnponhhmkdcdaaGreatDoorKLib
import Derived.Test.YtmnponhhmkdcdaaGreatDoorVDef
import Derived.Test.YtmnponhhmkdcdaaGreatDoorKCall
import Derived.Test.YtmnponhhmkdcdaaGreatDoorKNil
import Derived.Test.YtmnponhhmkdcdaaGreatDoorKChain
import Derived.Lib.AppendIntMem
namespace Go.Proofs.YtmnponhhmkdcdaaGreatDoor
open Go.Kin
set_option linter.unusedVariables false
set_option maxRecDepth 100000
/-- what the program's variables hold, as far as texts of numbers look at them -/
structure Laid (w : World) : Prop where
  pow : Lib.TabIs Tryz.prog w powName .u64 Lib.pow10Tab
theorem laid_stable : Stable Laid := fun w w' h hb => ⟨var_below h.pow hb⟩
abbrev iv (n : Int) : D := .v (.int .i64 n)
abbrev u8 (n : Int) : D := .v (.int .u8 n)
abbrev sv (s : List UInt8) : D := .v (.string (mkS s))
abbrev bv (b : Bool) : D := .v (.bool b)
abbrev I64 (n : Int) : Prop := -9223372036854775808 ≤ n ∧ n ≤ 9223372036854775807
theorem itoa_ok (n : Int) (h : I64 n) : FnOK Laid Tryz.prog 47 [iv n] (sv (Lib.itoa n)) :=
  FnOK.lib ⟨Tryz.f47, Tryz.func47, by kernel_rfl, by kernel_rfl⟩ fun w Z vs hI hr => by
    obtain rfl := rd_one hr
    refine (Tryz.strconv_Itoa n h.1 h.2 w hI.pow).mono ?_
    rintro e w' ⟨rfl, k, os, rfl⟩
    exact ⟨rfl, Lib.below_grow _ w (Nat.le_refl _) k os⟩
abbrev strsD (l : List (List UInt8)) : D := .sl 1 l.length l.length fun i => [sv (nth l i)]
theorem join_ok (l : List (List UInt8)) (s : List UInt8) (hl : l.length ≤ 140737488355328) (hj : (Lib.join l s).length ≤ 140737488355328) : FnOK Laid Tryz.prog 147 [strsD l, sv s] (sv (Lib.join l s)) := by
  refine ⟨⟨Tryz.f147, Tryz.func147, by kernel_rfl, by kernel_rfl⟩, fun w Z vs hI hZ hr => ?_⟩
  simp only [RdL, RdV] at hr
  obtain ⟨v, vs', rfl, ⟨a, c, rfl, h1, h2, h3, h4⟩, v2, vs2, rfl, rfl, rfl⟩ := hr
  have fin : ∀ {w' : World}, RowKit.Below w.heap.size w w' → ∃ v Z', Ending.returned (.string ⟨(Lib.join l s).toArray⟩) = .returned v ∧ RowKit.Below w.heap.size w w' ∧ (∀ b, Z' b → b < w'.heap.size ∧ (Z b ∨ w.heap.size ≤ b)) ∧ RdV w' Z' (sv (Lib.join l s)) v := fun {w'} hb =>
    ⟨_, Z, rfl, hb, fun b hz => ⟨Nat.lt_of_lt_of_le (hZ b hz) hb.size, .inl hz⟩, by simp only [RdV]; rfl⟩
  by_cases h0 : l.length = 0
  · have hn : l = [] := List.eq_nil_of_length_eq_zero h0
    subst hn
    refine (Tryz.strings_Join_none a c (mkS s) w).mono ?_
    rintro e w' ⟨rfl, rfl⟩
    exact fin (RowKit.Below.refl _ _)
  · rcases h4 with h4 | ⟨b, off, rfl, hz, he⟩
    · exact (h0 h4).elim
    · have hcells : ∀ (j : Nat) x, (l.map mkS)[j]? = some x → w.cell? ⟨b, off + j, none⟩ = some (.string x) := fun j x hx => by
        rw [List.getElem?_map] at hx
        cases hlj : l[j]? with
        | none => rw [hlj] at hx; cases hx
        | some y =>
          rw [hlj] at hx; cases hx
          have hjl : j < l.length := (List.getElem?_eq_some_iff.1 hlj).1
          have := (he j hjl).2.2
          simp only [RdC, RdV, Nat.mul_one, and_true] at this
          obtain ⟨u, hu, rfl⟩ := this
          rw [hu, nth_of hlj]
      have hmap : (l.map mkS).map (·.data.toList) = l := by
        rw [List.map_map]
        have : ((fun x : ByteArray => x.data.toList) ∘ mkS) = id := by funext x; simp [mkS]
        rw [this, List.map_id]
      have hs : (mkS s).data.toList = s := by simp [mkS]
      have := Tryz.strings_Join b off c (l.map mkS) (mkS s) w hcells (hZ b hz) (by simpa using hl) (by simpa using h2) (by rw [hmap, hs]; exact hj)
      rw [hmap, hs, List.length_map] at this
      refine this.mono ?_
      rintro e w' ⟨rfl, hb⟩
      exact fin hb
end Go.Proofs.YtmnponhhmkdcdaaGreatDoor
