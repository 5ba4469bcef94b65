/- Steps of a function body on data, and contracts of the functions of the seat, walked. -/
import Derived.Test.YtgnhhjojiipmgaaGreatDoorWRow
import Derived.SevenTiedAt
import Derived.JoinedOf
set_option linter.unusedSimpArgs false
set_option linter.unusedVariables false
set_option linter.unusedSectionVars false
namespace Go.Proofs.YtgnhhjojiipmgaaGreatDoor
open Go
set_option maxRecDepth 100000
open Go.ChangeAt
theorem wfNoInit : Tryz.prog.inits.idxOf? 4 = none := by kernel_rfl
theorem wfOk : (Tryz.f4.params.toList.all fun t => tysX.contains t && Tryz.prog.readableRec t && decide (t < Tryz.prog.types.size)) = true := by kernel_rfl
theorem wfZip (os : Os) : ((World.laidAll Tryz.prog os laidX).forCall (fun _ _ => 0) ⟨#[], #[.string ⟨#[]⟩, .string ⟨#[]⟩], []⟩).variablesZipB Tryz.prog = true := by kernel_rfl
theorem wfTail (os : Os) : ((((World.laidAll Tryz.prog os laidX).forCall (fun _ _ => 0) ⟨#[], #[.string ⟨#[]⟩, .string ⟨#[]⟩], []⟩).heap.toList.drop Tryz.prog.globals.size).take ((begin Tryz.prog (fun _ _ => 0) default).world.heap.size - Tryz.prog.globals.size) = (begin Tryz.prog (fun _ _ => 0) default).world.heap.toList.drop Tryz.prog.globals.size) := by kernel_rfl
theorem wfWide (os : Os) : Input.okWideB Tryz.prog ((World.laidAll Tryz.prog os laidX).forCall (fun _ _ => 0) ⟨#[], #[.string ⟨#[]⟩, .string ⟨#[]⟩], []⟩) 4 ⟨#[], #[.string ⟨#[]⟩, .string ⟨#[]⟩], []⟩ = true := by kernel_rfl
theorem wfPre {H : Type} (enc : TypeId × Value → H) (os : Os) : ChangeSpec.preB enc Tryz.prog Tryz.f4 Rows.deskSplitSpec [] false ((World.laidAll Tryz.prog os laidX).forCall (fun _ _ => 0) ⟨#[], #[.string ⟨#[]⟩, .string ⟨#[]⟩], []⟩).memory #[.string ⟨#[]⟩, .string ⟨#[]⟩] 8 = true := by kernel_rfl
theorem wfSized {H : Type} (enc : TypeId × Value → H) (os : Os) : ChangeSpec.sizedB enc Tryz.prog Tryz.f4 Rows.deskSplitSpec false ((World.laidAll Tryz.prog os laidX).forCall (fun _ _ => 0) ⟨#[], #[.string ⟨#[]⟩, .string ⟨#[]⟩], []⟩).memory #[.string ⟨#[]⟩, .string ⟨#[]⟩] 8 = true := by kernel_rfl
end Go.Proofs.YtgnhhjojiipmgaaGreatDoor
