/-
  DERIVED. GIVEN WITH THE SEED: THE CARDS: each row of YtgnhhjojiipmgaaGreatDoorRows.lean that lists a variable, with what it lists TIED to the program's text (the seventh form; the later family's looks); each row that meets fmt, with fmt's text TOLD by the authors' own Lean function (tested against real Go, not proved from fmt's source: count such statements apart). THE CARD IS WHAT COUNTS. Prove the row's statement (the work); the ties are given (YtgnhhjojiipmgaaGreatDoorTie.lean); close each card by the builder's one call (the guide's Derived/Test/ToyasCard.lean, 'card_holds'). Laid BY PROGRAM, IN A SANDBOX (cutbox-door.mjs). By AI agents, Wed Nov 11 2026. No macro, syntax, notation, axiom, sorry.
-/
import Derived.Test.YtgnhhjojiipmgaaGreatDoorRows
import GoSem.ClaimSeven
namespace Go.Proofs.YtgnhhjojiipmgaaGreatDoor
namespace Rows

/-- THE TIED CARD OF 'kinescopelaw32.DeskWords'. -/
def deskWordsCard : Claim7 := { stood := { row := deskWordsRow, standIns := [], harness := (true, "91b372d0ce0aa283ce207167f4fc5b006fdb8f1e198232001308ae224c5d0a03"), looks := true }, kinds := [], alts := [], laidByText := true, laidKinds := [.data, .data, .data, .sentinel, .sentinel, .data, .listed, .pinned, .data], laidTests := true, laidLooks := .later }
def DeskWordsCardSaid : Prop := Claim7.holds Tryz.pinned (.plain (OpenSpec.ofChange deskWordsSpec)) deskWordsCard

/-- THE TIED CARD OF 'kinescopelaw32.DeskSplit'. -/
def deskSplitCard : Claim7 := { stood := { row := deskSplitRow, standIns := [], harness := (true, "91b372d0ce0aa283ce207167f4fc5b006fdb8f1e198232001308ae224c5d0a03"), looks := true }, kinds := [], alts := [], laidByText := true, laidKinds := [.data, .data, .data, .sentinel, .sentinel, .data, .listed, .pinned, .data], laidTests := true, laidLooks := .later }
def DeskSplitCardSaid : Prop := Claim7.holds Tryz.pinned (.plain (OpenSpec.ofChange deskSplitSpec)) deskSplitCard

/-- THE SECOND FORM's CARD OF 'kinescopelaw32.DeskWords'. -/
def deskWordsUptoCard : Claim7 := { stood := { row := deskWordsUptoRow, standIns := [], harness := (true, "91b372d0ce0aa283ce207167f4fc5b006fdb8f1e198232001308ae224c5d0a03"), looks := true }, kinds := [], alts := [], laidByText := true, laidKinds := [.data, .data, .data, .sentinel, .sentinel, .data, .listed, .pinned, .data], laidTests := true, laidLooks := .later }
def DeskWordsUptoCardSaid : Prop := Claim7.holds Tryz.pinned (.plain (OpenSpec.upto deskWordsSpec)) deskWordsUptoCard

/-- THE SECOND FORM's CARD OF 'kinescopelaw32.DeskSplit'. -/
def deskSplitUptoCard : Claim7 := { stood := { row := deskSplitUptoRow, standIns := [], harness := (true, "91b372d0ce0aa283ce207167f4fc5b006fdb8f1e198232001308ae224c5d0a03"), looks := true }, kinds := [], alts := [], laidByText := true, laidKinds := [.data, .data, .data, .sentinel, .sentinel, .data, .listed, .pinned, .data], laidTests := true, laidLooks := .later }
def DeskSplitUptoCardSaid : Prop := Claim7.holds Tryz.pinned (.plain (OpenSpec.upto deskSplitSpec)) deskSplitUptoCard
end Rows
end Go.Proofs.YtgnhhjojiipmgaaGreatDoor
