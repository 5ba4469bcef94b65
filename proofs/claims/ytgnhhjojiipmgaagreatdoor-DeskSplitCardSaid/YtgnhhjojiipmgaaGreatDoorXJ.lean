/- Steps of a function body on data, and contracts of the functions of the seat, walked. -/
import Derived.Test.YtgnhhjojiipmgaaGreatDoorXJa
import Derived.Test.YtgnhhjojiipmgaaGreatDoorXJb
import Derived.Test.YtgnhhjojiipmgaaGreatDoorXJc
import Derived.Test.YtgnhhjojiipmgaaGreatDoorXJd
import Derived.Test.YtgnhhjojiipmgaaGreatDoorXJe
import Derived.Test.YtgnhhjojiipmgaaGreatDoorXJf
set_option linter.unusedSimpArgs false
set_option linter.unusedVariables false
set_option linter.unusedSectionVars false
namespace Go.Proofs.YtgnhhjojiipmgaaGreatDoor
open Go
set_option maxRecDepth 100000
theorem wJoined : joinedFacts Tryz.prog 4 Tryz.f4 Rows.deskSplitSpec Rows.deskSplitRow = true := by
  unfold joinedFacts
  simp only [Bool.and_eq_true]
  exact ⟨⟨⟨⟨⟨⟨⟨⟨⟨⟨⟨⟨⟨⟨⟨⟨⟨⟨⟨⟨⟨⟨⟨⟨⟨⟨⟨⟨⟨⟨⟨jf0, laid_ok⟩, jf2⟩, jf3⟩, jf4⟩, jf5⟩, jf6⟩, jf7⟩, jf8⟩, jf9⟩, jf10⟩, jf11⟩, jf12⟩, jf13⟩, jf14⟩, jf15⟩, jf16⟩, jf17⟩, jf18⟩, jf19⟩, jf20⟩, jf21⟩, jf22⟩, jf23⟩, jf24⟩, jf25⟩, jf26⟩, jf27⟩, jf28⟩, jf29⟩, jf30⟩, jf31⟩
end Go.Proofs.YtgnhhjojiipmgaaGreatDoor
