/- Contracts of functions of the seat, walked. -/
import Derived.Test.YtmnponhhmkdcdaaDoorDRow
import Derived.Test.YtmnponhhmkdcdaaDoorDLex
namespace Go.Proofs.YtmnponhhmkdcdaaDoor
open Go.Kin
set_option maxRecDepth 100000
def laidX : List (String × DataW Unit) := Rows.lexTellsRow.laid
theorem gSpc : Tryd.prog.globalNamed "strings.asciiSpace" = some 2 := by kernel_rfl
theorem tSpc : (Tryd.prog.globals[2]?).map (·.type) = some 130 := by kernel_rfl
theorem laidX_head : laidX.tail.tail.tail.tail.tail.tail = [("strings.asciiSpace", Lib.tabData .u8 Lib.asciiSpaceTab)] := by kernel_rfl
theorem laidX_met {W : World} (h : laidMetH Tryd.prog laidX W) : LaidX W := by
  rw [MakeChecks.laidMetH_plain _ _ _ (by kernel_rfl)] at h
  have h3 := h.tail.tail
  obtain ⟨a1, s1, hv1, -, -, -⟩ := laid_sentinel h3.tail gRng tRng Tryd.underlying71 row147 Tryd.underlying147 Tryd.underlying149 rfl rfl Tryd.underlying9 cells149 cells9
  obtain ⟨a0, s0, hv0, -, -, -⟩ := laid_sentinel h3.tail.tail gSyn tSyn Tryd.underlying71 row147 Tryd.underlying147 Tryd.underlying149 rfl rfl Tryd.underlying9 cells149 cells9
  have h6 : laidMet Tryd.prog [("strings.asciiSpace", Lib.tabData .u8 Lib.asciiSpaceTab)] W := by
    have := h3.tail.tail.tail.tail
    exact this
  exact ⟨⟨Lib.tabIs_of_head gPow tPow Tryd.underlying143 Tryd.underlying119 (by kernel_rfl) (by kernel_rfl) h3, ⟨_, _, hv0⟩, ⟨_, _, hv1⟩⟩,
    Lib.tabIs_of_head gSpc tSpc Tryd.underlying130 Tryd.underlying5 (by kernel_rfl) (by kernel_rfl) h6⟩
theorem doorX (os : Os) (args : Array Value) : laidMetH Tryd.prog laidX ((World.doorLaid Tryd.prog 86 os).forCall (fun _ _ => 0) ⟨#[], args, []⟩).memory :=
  laidMetH_of_parts3 (fuel := 8) (laidMet_of_run' 8 (by kernel_rfl) (by kernel_rfl)) (by kernel_rfl) (by kernel_rfl)
end Go.Proofs.YtmnponhhmkdcdaaDoor
