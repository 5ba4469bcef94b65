/- Steps of a function body on data, and contracts of the functions of the seat, walked. -/
import Derived.Test.YtgnhhjojiipmgaaGreatDoorProg
import GoSem.ClaimDataLaid
import Derived.KernelRfl
set_option linter.unusedSimpArgs false
set_option linter.unusedVariables false
set_option linter.unusedSectionVars false
namespace Go.Proofs.YtgnhhjojiipmgaaGreatDoor
open Go
set_option maxRecDepth 100000
/-! ### the types are laid out, part by part -/
theorem wSize : Tryz.prog.types.size = 736 := by kernel_rfl
theorem wRows0 : (List.range' 0 30).all (rowFine Tryz.prog) = true := by kernel_rfl
theorem wRows1 : (List.range' 30 30).all (rowFine Tryz.prog) = true := by kernel_rfl
theorem wRows2 : (List.range' 60 30).all (rowFine Tryz.prog) = true := by kernel_rfl
theorem wRows3 : (List.range' 90 30).all (rowFine Tryz.prog) = true := by kernel_rfl
theorem wRows4 : (List.range' 120 30).all (rowFine Tryz.prog) = true := by kernel_rfl
theorem wRows5 : (List.range' 150 30).all (rowFine Tryz.prog) = true := by kernel_rfl
theorem wRows6 : (List.range' 180 30).all (rowFine Tryz.prog) = true := by kernel_rfl
theorem wRows7 : (List.range' 210 30).all (rowFine Tryz.prog) = true := by kernel_rfl
theorem wRows8 : (List.range' 240 30).all (rowFine Tryz.prog) = true := by kernel_rfl
theorem wRows9 : (List.range' 270 30).all (rowFine Tryz.prog) = true := by kernel_rfl
theorem wRows10 : (List.range' 300 30).all (rowFine Tryz.prog) = true := by kernel_rfl
theorem wRows11 : (List.range' 330 30).all (rowFine Tryz.prog) = true := by kernel_rfl
theorem wRows12 : (List.range' 360 30).all (rowFine Tryz.prog) = true := by kernel_rfl
theorem wRows13 : (List.range' 390 30).all (rowFine Tryz.prog) = true := by kernel_rfl
theorem wRows14 : (List.range' 420 30).all (rowFine Tryz.prog) = true := by kernel_rfl
theorem wRows15 : (List.range' 450 30).all (rowFine Tryz.prog) = true := by kernel_rfl
theorem wRows16 : (List.range' 480 30).all (rowFine Tryz.prog) = true := by kernel_rfl
theorem wRows17 : (List.range' 510 30).all (rowFine Tryz.prog) = true := by kernel_rfl
theorem wRows18 : (List.range' 540 30).all (rowFine Tryz.prog) = true := by kernel_rfl
theorem wRows19 : (List.range' 570 30).all (rowFine Tryz.prog) = true := by kernel_rfl
theorem wRows20 : (List.range' 600 30).all (rowFine Tryz.prog) = true := by kernel_rfl
theorem wRows21 : (List.range' 630 30).all (rowFine Tryz.prog) = true := by kernel_rfl
theorem wRows22 : (List.range' 660 30).all (rowFine Tryz.prog) = true := by kernel_rfl
theorem wRows23 : (List.range' 690 30).all (rowFine Tryz.prog) = true := by kernel_rfl
theorem wRows24 : (List.range' 720 16).all (rowFine Tryz.prog) = true := by kernel_rfl
theorem wPart {a k i : Nat} (h : (List.range' a k).all (rowFine Tryz.prog) = true) (h1 : a ≤ i) (h2 : i < a + k) : rowFine Tryz.prog i = true :=
  List.all_eq_true.1 h i (List.mem_range'_1.2 ⟨h1, h2⟩)
theorem wRow (i : Nat) (h : i < 736) : rowFine Tryz.prog i = true := by
  by_cases h0 : i < 30
  · exact wPart wRows0 (by omega) (by omega)
  by_cases h1 : i < 60
  · exact wPart wRows1 (by omega) (by omega)
  by_cases h2 : i < 90
  · exact wPart wRows2 (by omega) (by omega)
  by_cases h3 : i < 120
  · exact wPart wRows3 (by omega) (by omega)
  by_cases h4 : i < 150
  · exact wPart wRows4 (by omega) (by omega)
  by_cases h5 : i < 180
  · exact wPart wRows5 (by omega) (by omega)
  by_cases h6 : i < 210
  · exact wPart wRows6 (by omega) (by omega)
  by_cases h7 : i < 240
  · exact wPart wRows7 (by omega) (by omega)
  by_cases h8 : i < 270
  · exact wPart wRows8 (by omega) (by omega)
  by_cases h9 : i < 300
  · exact wPart wRows9 (by omega) (by omega)
  by_cases h10 : i < 330
  · exact wPart wRows10 (by omega) (by omega)
  by_cases h11 : i < 360
  · exact wPart wRows11 (by omega) (by omega)
  by_cases h12 : i < 390
  · exact wPart wRows12 (by omega) (by omega)
  by_cases h13 : i < 420
  · exact wPart wRows13 (by omega) (by omega)
  by_cases h14 : i < 450
  · exact wPart wRows14 (by omega) (by omega)
  by_cases h15 : i < 480
  · exact wPart wRows15 (by omega) (by omega)
  by_cases h16 : i < 510
  · exact wPart wRows16 (by omega) (by omega)
  by_cases h17 : i < 540
  · exact wPart wRows17 (by omega) (by omega)
  by_cases h18 : i < 570
  · exact wPart wRows18 (by omega) (by omega)
  by_cases h19 : i < 600
  · exact wPart wRows19 (by omega) (by omega)
  by_cases h20 : i < 630
  · exact wPart wRows20 (by omega) (by omega)
  by_cases h21 : i < 660
  · exact wPart wRows21 (by omega) (by omega)
  by_cases h22 : i < 690
  · exact wPart wRows22 (by omega) (by omega)
  by_cases h23 : i < 720
  · exact wPart wRows23 (by omega) (by omega)
  exact wPart wRows24 (by omega) (by omega)
theorem wGlobs : Tryz.prog.globals.all (fun g => decide (g.type < Tryz.prog.types.size)) = true := by kernel_rfl
theorem wPars : Tryz.prog.funcs.all (fun f => f.params.all fun t => decide (t < Tryz.prog.types.size)) = true := by kernel_rfl
theorem laid_ok : laidOutB Tryz.prog = true := by
  unfold laidOutB
  rw [wGlobs, wPars, Bool.and_true, Bool.and_true, List.all_eq_true]
  intro i hi
  have hi := List.mem_range.1 hi
  rw [wSize] at hi
  exact wRow i hi
end Go.Proofs.YtgnhhjojiipmgaaGreatDoor
