/- Steps of a function body on data, and contracts of the functions of the seat, walked. -/
import Derived.Test.YtgnhhjojiipmgaaGreatDoorWJa
import Derived.Test.YtgnhhjojiipmgaaGreatDoorWJb
import Derived.Test.YtgnhhjojiipmgaaGreatDoorWJc
import Derived.Test.YtgnhhjojiipmgaaGreatDoorWJd
import Derived.Test.YtgnhhjojiipmgaaGreatDoorWJe
import Derived.Test.YtgnhhjojiipmgaaGreatDoorWJf
set_option linter.unusedSimpArgs false
set_option linter.unusedVariables false
set_option linter.unusedSectionVars false
namespace Go.Proofs.YtgnhhjojiipmgaaGreatDoor
open Go
set_option maxRecDepth 100000
theorem wJoined : joinedFacts Tryz.prog 3 Tryz.f3 Rows.deskWordsSpec Rows.deskWordsRow = true := by
  unfold joinedFacts
  simp only [Bool.and_eq_true]
  exact ⟨⟨⟨⟨⟨⟨⟨⟨⟨⟨⟨⟨⟨⟨⟨⟨⟨⟨⟨⟨⟨⟨⟨⟨⟨⟨⟨⟨⟨⟨⟨jf0, laid_ok⟩, jf2⟩, jf3⟩, jf4⟩, jf5⟩, jf6⟩, jf7⟩, jf8⟩, jf9⟩, jf10⟩, jf11⟩, jf12⟩, jf13⟩, jf14⟩, jf15⟩, jf16⟩, jf17⟩, jf18⟩, jf19⟩, jf20⟩, jf21⟩, jf22⟩, jf23⟩, jf24⟩, jf25⟩, jf26⟩, jf27⟩, jf28⟩, jf29⟩, jf30⟩, jf31⟩
end Go.Proofs.YtgnhhjojiipmgaaGreatDoor
