/-
  DERIVED. GIVEN WITH THE SEED: THE CARDS: each row of YtonchjamoblioaaGreatDoorRows.lean that lists a variable, with what it lists TIED to the program's text (the seventh form; the later family's looks); each row that meets fmt, with fmt's text TOLD by the authors' own Lean function (tested against real Go, not proved from fmt's source: count such statements apart). THE CARD IS WHAT COUNTS. Prove the row's statement (the work); the ties are given (YtonchjamoblioaaGreatDoorTie.lean); close each card by the builder's one call (the guide's Derived/Test/ToyasCard.lean, 'card_holds'). Laid BY PROGRAM, IN A SANDBOX (cutbox-door.mjs). By AI agents, Wed Nov 11 2026. No macro, syntax, notation, axiom, sorry.
-/
import Derived.Test.YtonchjamoblioaaGreatDoorRows
import GoSem.ClaimSeven
namespace Go.Proofs.YtonchjamoblioaaGreatDoor
namespace Rows

/-- THE TIED CARD OF 'kinescopelaw13.ShowTells'. -/
def showTellsCard : Claim7 := { stood := { row := showTellsRow, standIns := [], harness := (true, "d4617b708af924dbe28a7e7d733efad0004589994295c5299cd7e2650f78b5d1"), looks := true }, kinds := [], alts := [], laidByText := true, laidKinds := [.data, .data, .data], laidTests := true, laidLooks := .later }
def ShowTellsCardSaid : Prop := Claim7.holds Tryz.pinned (.plain (OpenSpec.ofChange showTellsSpec)) showTellsCard

/-- THE TIED CARD OF 'kinescopelaw13.ShowEnds'. -/
def showEndsCard : Claim7 := { stood := { row := showEndsRow, standIns := [], harness := (true, "d4617b708af924dbe28a7e7d733efad0004589994295c5299cd7e2650f78b5d1"), looks := true }, kinds := [], alts := [], laidByText := true, laidKinds := [.data, .data, .data], laidTests := true, laidLooks := .later }
def ShowEndsCardSaid : Prop := Claim7.holds Tryz.pinned (.plain (OpenSpec.ofChange showEndsSpec)) showEndsCard

/-- THE TIED CARD OF 'kinescopelaw12.ParseTells'. -/
def parseTellsCard : Claim7 := { stood := { row := parseTellsRow, standIns := [], harness := (true, "d4617b708af924dbe28a7e7d733efad0004589994295c5299cd7e2650f78b5d1"), looks := true }, kinds := [], alts := [], laidByText := true, laidKinds := [.data, .data, .data, .sentinel, .sentinel, .listed, .data], laidTests := true, laidLooks := .later }
def ParseTellsCardSaid : Prop := Claim7.holds Tryz.pinned (.plain (OpenSpec.ofChange parseTellsSpec)) parseTellsCard

/-- THE TIED CARD OF 'kinescopelaw12.ParseEnds'. -/
def parseEndsCard : Claim7 := { stood := { row := parseEndsRow, standIns := [], harness := (true, "d4617b708af924dbe28a7e7d733efad0004589994295c5299cd7e2650f78b5d1"), looks := true }, kinds := [], alts := [], laidByText := true, laidKinds := [.data, .data, .data, .sentinel, .sentinel, .listed, .data], laidTests := true, laidLooks := .later }
def ParseEndsCardSaid : Prop := Claim7.holds Tryz.pinned (.plain (OpenSpec.ofChange parseEndsSpec)) parseEndsCard

/-- THE TIED CARD OF 'kinescopelaw12.ParseBlanks'. -/
def parseBlanksCard : Claim7 := { stood := { row := parseBlanksRow, standIns := [], harness := (true, "d4617b708af924dbe28a7e7d733efad0004589994295c5299cd7e2650f78b5d1"), looks := true }, kinds := [], alts := [], laidByText := true, laidKinds := [.data, .data, .data, .sentinel, .sentinel, .listed, .data], laidTests := true, laidLooks := .later }
def ParseBlanksCardSaid : Prop := Claim7.holds Tryz.pinned (.plain (OpenSpec.ofChange parseBlanksSpec)) parseBlanksCard

/-- THE TIED CARD OF 'kinescopelaw12.ParseEither'. -/
def parseEitherCard : Claim7 := { stood := { row := parseEitherRow, standIns := [], harness := (true, "d4617b708af924dbe28a7e7d733efad0004589994295c5299cd7e2650f78b5d1"), looks := true }, kinds := [], alts := [], laidByText := true, laidKinds := [.data, .data, .data, .sentinel, .sentinel, .listed, .data], laidTests := true, laidLooks := .later }
def ParseEitherCardSaid : Prop := Claim7.holds Tryz.pinned (.plain (OpenSpec.ofChange parseEitherSpec)) parseEitherCard

/-- THE TIED CARD OF 'kinescopelaw13.ShowBack'. -/
def showBackCard : Claim7 := { stood := { row := showBackRow, standIns := [], harness := (true, "d4617b708af924dbe28a7e7d733efad0004589994295c5299cd7e2650f78b5d1"), looks := true }, kinds := [], alts := [], laidByText := true, laidKinds := [.data, .data, .data, .sentinel, .sentinel, .listed, .data], laidTests := true, laidLooks := .later }
def ShowBackCardSaid : Prop := Claim7.holds Tryz.pinned (.plain (OpenSpec.ofChange showBackSpec)) showBackCard

/-- THE TIED CARD OF 'kinescopelaw13.ShowTwice'. -/
def showTwiceCard : Claim7 := { stood := { row := showTwiceRow, standIns := [], harness := (true, "d4617b708af924dbe28a7e7d733efad0004589994295c5299cd7e2650f78b5d1"), looks := true }, kinds := [], alts := [], laidByText := true, laidKinds := [.data, .data, .data, .sentinel, .sentinel, .listed, .data], laidTests := true, laidLooks := .later }
def ShowTwiceCardSaid : Prop := Claim7.holds Tryz.pinned (.plain (OpenSpec.ofChange showTwiceSpec)) showTwiceCard

/-- THE SECOND FORM's CARD OF 'kinescopelaw13.ShowTells'. -/
def showTellsUptoCard : Claim7 := { stood := { row := showTellsUptoRow, standIns := [], harness := (true, "d4617b708af924dbe28a7e7d733efad0004589994295c5299cd7e2650f78b5d1"), looks := true }, kinds := [], alts := [], laidByText := true, laidKinds := [.data, .data, .data], laidTests := true, laidLooks := .later }
def ShowTellsUptoCardSaid : Prop := Claim7.holds Tryz.pinned (.plain (OpenSpec.upto showTellsSpec)) showTellsUptoCard

/-- THE SECOND FORM's CARD OF 'kinescopelaw13.ShowEnds'. -/
def showEndsUptoCard : Claim7 := { stood := { row := showEndsUptoRow, standIns := [], harness := (true, "d4617b708af924dbe28a7e7d733efad0004589994295c5299cd7e2650f78b5d1"), looks := true }, kinds := [], alts := [], laidByText := true, laidKinds := [.data, .data, .data], laidTests := true, laidLooks := .later }
def ShowEndsUptoCardSaid : Prop := Claim7.holds Tryz.pinned (.plain (OpenSpec.upto showEndsSpec)) showEndsUptoCard

/-- THE SECOND FORM's CARD OF 'kinescopelaw12.ParseTells'. -/
def parseTellsUptoCard : Claim7 := { stood := { row := parseTellsUptoRow, standIns := [], harness := (true, "d4617b708af924dbe28a7e7d733efad0004589994295c5299cd7e2650f78b5d1"), looks := true }, kinds := [], alts := [], laidByText := true, laidKinds := [.data, .data, .data, .sentinel, .sentinel, .listed, .data], laidTests := true, laidLooks := .later }
def ParseTellsUptoCardSaid : Prop := Claim7.holds Tryz.pinned (.plain (OpenSpec.upto parseTellsSpec)) parseTellsUptoCard

/-- THE SECOND FORM's CARD OF 'kinescopelaw12.ParseEnds'. -/
def parseEndsUptoCard : Claim7 := { stood := { row := parseEndsUptoRow, standIns := [], harness := (true, "d4617b708af924dbe28a7e7d733efad0004589994295c5299cd7e2650f78b5d1"), looks := true }, kinds := [], alts := [], laidByText := true, laidKinds := [.data, .data, .data, .sentinel, .sentinel, .listed, .data], laidTests := true, laidLooks := .later }
def ParseEndsUptoCardSaid : Prop := Claim7.holds Tryz.pinned (.plain (OpenSpec.upto parseEndsSpec)) parseEndsUptoCard

/-- THE SECOND FORM's CARD OF 'kinescopelaw12.ParseBlanks'. -/
def parseBlanksUptoCard : Claim7 := { stood := { row := parseBlanksUptoRow, standIns := [], harness := (true, "d4617b708af924dbe28a7e7d733efad0004589994295c5299cd7e2650f78b5d1"), looks := true }, kinds := [], alts := [], laidByText := true, laidKinds := [.data, .data, .data, .sentinel, .sentinel, .listed, .data], laidTests := true, laidLooks := .later }
def ParseBlanksUptoCardSaid : Prop := Claim7.holds Tryz.pinned (.plain (OpenSpec.upto parseBlanksSpec)) parseBlanksUptoCard

/-- THE SECOND FORM's CARD OF 'kinescopelaw12.ParseEither'. -/
def parseEitherUptoCard : Claim7 := { stood := { row := parseEitherUptoRow, standIns := [], harness := (true, "d4617b708af924dbe28a7e7d733efad0004589994295c5299cd7e2650f78b5d1"), looks := true }, kinds := [], alts := [], laidByText := true, laidKinds := [.data, .data, .data, .sentinel, .sentinel, .listed, .data], laidTests := true, laidLooks := .later }
def ParseEitherUptoCardSaid : Prop := Claim7.holds Tryz.pinned (.plain (OpenSpec.upto parseEitherSpec)) parseEitherUptoCard

/-- THE SECOND FORM's CARD OF 'kinescopelaw13.ShowBack'. -/
def showBackUptoCard : Claim7 := { stood := { row := showBackUptoRow, standIns := [], harness := (true, "d4617b708af924dbe28a7e7d733efad0004589994295c5299cd7e2650f78b5d1"), looks := true }, kinds := [], alts := [], laidByText := true, laidKinds := [.data, .data, .data, .sentinel, .sentinel, .listed, .data], laidTests := true, laidLooks := .later }
def ShowBackUptoCardSaid : Prop := Claim7.holds Tryz.pinned (.plain (OpenSpec.upto showBackSpec)) showBackUptoCard

/-- THE SECOND FORM's CARD OF 'kinescopelaw13.ShowTwice'. -/
def showTwiceUptoCard : Claim7 := { stood := { row := showTwiceUptoRow, standIns := [], harness := (true, "d4617b708af924dbe28a7e7d733efad0004589994295c5299cd7e2650f78b5d1"), looks := true }, kinds := [], alts := [], laidByText := true, laidKinds := [.data, .data, .data, .sentinel, .sentinel, .listed, .data], laidTests := true, laidLooks := .later }
def ShowTwiceUptoCardSaid : Prop := Claim7.holds Tryz.pinned (.plain (OpenSpec.upto showTwiceSpec)) showTwiceUptoCard
end Rows
end Go.Proofs.YtonchjamoblioaaGreatDoor
