/- Steps of a function body on data, and contracts of the functions of the seat, walked. -/
import Derived.Test.YtgnhhjojiipmgaaGreatDoorE32
import Derived.Test.YtgnhhjojiipmgaaGreatDoorE24
import Derived.Test.YtgnhhjojiipmgaaGreatDoorProg
import Derived.KernelRfl
set_option linter.unusedSimpArgs false
set_option linter.unusedVariables false
set_option linter.unusedSectionVars false
namespace Go.Proofs.YtgnhhjojiipmgaaGreatDoor
open Go Go.Cev
set_option maxRecDepth 100000
/-! ### the chapter's example, run by names -/
noncomputable def lb0 (g : Nat) : Option (List Value → M Value) := match g with
  | 41 => some itoaA
  | 120 => some atoiA
  | 414 => some (fieldsA 9)
  | _ => none
noncomputable def ex0 (g : Nat) : Option (List Value → M Value) := match g with
  | 456 => some cloneA
  | 65 => some indexByteA
  | 53 => some selfA
  | _ => none
noncomputable def kn0 : Kn := ⟨tyL Tryz.prog [81, 243, 147, 527] Tryz.prog.types.toList 0 .leaf, fnL Tryz.prog.funcs.toList 0 .leaf, ex0, lb0⟩
theorem run0 : yes ((evN kn0 1000).call 5 [] ⟨.leaf, 0⟩) = true := by kernel_rfl
end Go.Proofs.YtgnhhjojiipmgaaGreatDoor
