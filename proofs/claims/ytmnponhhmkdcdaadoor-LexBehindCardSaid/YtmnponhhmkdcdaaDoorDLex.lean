/- Contracts of functions of the seat, walked. -/
import Derived.Test.YtmnponhhmkdcdaaDoorDBase
import Derived.Test.YtmnponhhmkdcdaaDoorLxDef
import Derived.Test.YtmnponhhmkdcdaaDoorKIter
namespace Go.Proofs.YtmnponhhmkdcdaaDoor
open Go.Kin
set_option linter.unusedVariables false
set_option maxRecDepth 100000
/-- what the program's variables hold, as far as words look at them -/
structure LaidX (w : World) : Prop where
  v : Laid w
  sp : Lib.TabIs Tryd.prog w "strings.asciiSpace" .u8 Lib.asciiSpaceTab
theorem laidX_stable : Stable LaidX := fun w w' h hb => ⟨laid_stable w w' h.v hb, var_below h.sp hb⟩
theorem laidX_laid : ∀ w, LaidX w → Laid w := fun _ h => h.v
def signsLit : List UInt8 := [40, 32, 41, 32, 91, 32, 93, 32, 44, 32, 46, 32, 124, 32, 42, 32, 43, 32, 63, 32, 61, 32, 33, 61, 32, 60, 32, 60, 61, 32, 62, 32, 62, 61, 32, 45, 91, 32, 93, 45, 62, 32, 61, 91, 32, 93, 61, 62]
theorem signs_eq : Lib.fields signsLit = signsF := by decide
theorem fields_ok : FnOK LaidX Tryd.prog 92 [sv signsLit] (.sl 1 20 20 fun i => [sv (nth signsF i)]) := by
  refine ⟨⟨Tryd.f92, Tryd.func92, by kernel_rfl, by kernel_rfl⟩, fun w Z vs hI hZ hr => ?_⟩
  obtain rfl := rd_one hr
  have hb : (mkS signsLit).data.toList = signsLit := by simp [mkS]
  refine (Tryd.strings_Fields (mkS signsLit) w (by rw [mkS_size]; decide) (fun j b hj => ?_) hI.sp).mono ?_
  · rw [hb] at hj
    have : ∀ b ∈ signsLit, b.toNat < 128 := by decide
    exact this b (List.mem_of_getElem? hj)
  rintro e w' ⟨rfl, rfl⟩
  rw [hb, signs_eq]
  have hbel : RowKit.Below w.heap.size w (w.alloc (.cells (signsF.map fun l => Value.string ⟨l.toArray⟩).toArray 9)) := (RowKit.Below.refl _ w).alloc (Nat.le_refl _) _
  refine ⟨_, fun b => b = w.heap.size, rfl, hbel, fun b hb => ?_, ?_⟩
  · subst hb; simp
  · simp only [RdV]
    refine ⟨_, 20, rfl, by decide, by decide, by decide, .inr ⟨w.heap.size, 0, rfl, rfl, fun i hi => ⟨rfl, rfl, ?_⟩⟩⟩
    simp only [RdC, and_true]
    refine ⟨.string (mkS (nth signsF i)), ?_, by simp only [RdV]⟩
    have hi2 : i < signsF.length := hi
    simp only [World.cell?, alloc_heap, if_true]
    simp [nth, List.getD_eq_getElem?_getD, List.getElem?_eq_getElem hi2, mkS]
end Go.Proofs.YtmnponhhmkdcdaaDoor
