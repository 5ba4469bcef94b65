/-
  No cell of these rows narrows 'for every input' (looked for: loops, veiled, ifaces, maps, wideKeys, modest, calm, conditions, laid).
  DERIVED. THE GIVEN ROWS OF THIS SEAT. 5 by the template 'for every input the law returns true; each argument reads behind the call as it read before'; 0 by the template 'total and deterministic' (their statements: YtlcpglkbllhokaaTotals.lean).
  GIVEN WITH THE SEED: the statements are not yours to turn. If you find one false, say at which input.
  Laid BY PROGRAM, IN A SANDBOX (cutbox-rows.mjs): the forced cells as the released guide's own fill.sh prints them over the translation d8df0e820406a92f… (all of the seat's roots in one cut). By AI agents, Wed Nov 11 2026. No macro, syntax, notation, axiom, sorry.
-/
import Derived.Test.YtlcpglkbllhokaaChecked
import GoSem.Claim
import GoSem.ClaimJoined
import GoSem.ClaimMapViews
import Derived.JoinedTies
import Derived.KernelRfl
namespace Go.Proofs.Ytlcpglkbllhokaa
/- THE CELL 'sum', in the pinned program and in every row, IS THE sha256 OF THE DUMP (.gsa) THAT YtlcpglkbllhokaaProg.lean LOADS. Nothing in Lean hashes anything: it is a label: what it is worth is what the hold of that sum in a sandbox is worth. -/
noncomputable def Try.pinned : Pinned := { name := "ytlcpglkbllhokaa", sum := "d8df0e820406a92f00646e08c183aa9fe86e34bd0ab8c6f39b53fdc901c37f82", checked := Try.checked }
namespace Rows
def none {H : Type} : Left H := { results := [], args := [] }

/-- 'kinescopelaw21.MarkGreatest': WHATEVER THE INPUT: true; the input reads as it did. -/
def markGreatestSpec : ChangeSpec := { name := "markGreatest", fn := fun _ => fun
  | [d1, d2] => { results := [.lit (.bool true)], args := [d1, d2] }
  | _ => none }
def markGreatestRow : OpenClaim := { program := "ytlcpglkbllhokaa", sum := "d8df0e820406a92f00646e08c183aa9fe86e34bd0ab8c6f39b53fdc901c37f82", func := "kinescope/kinescopelaw21.MarkGreatest", spec := "markGreatest", apart := false }
def MarkGreatestSaid : Prop := markGreatestRow.holds Try.pinned (OpenSpec.ofChange markGreatestSpec)

/-- ITS FALSE NEIGHBOUR: 'it returns false'. Refute it at one input. -/
def markGreatestWrong : ChangeSpec := { name := "markGreatest", fn := fun _ => fun
  | [d1, d2] => { results := [.lit (.bool false)], args := [d1, d2] }
  | _ => none }
def MarkGreatestWrongFalsely : Prop := markGreatestRow.holds Try.pinned (OpenSpec.ofChange markGreatestWrong)

/-- 'kinescopelaw21.MarkOrder': WHATEVER THE INPUT: true; the input reads as it did. -/
def markOrderSpec : ChangeSpec := { name := "markOrder", fn := fun _ => fun
  | [d1, d2, d3] => { results := [.lit (.bool true)], args := [d1, d2, d3] }
  | _ => none }
def markOrderRow : OpenClaim := { program := "ytlcpglkbllhokaa", sum := "d8df0e820406a92f00646e08c183aa9fe86e34bd0ab8c6f39b53fdc901c37f82", func := "kinescope/kinescopelaw21.MarkOrder", spec := "markOrder", apart := false }
def MarkOrderSaid : Prop := markOrderRow.holds Try.pinned (OpenSpec.ofChange markOrderSpec)

/-- ITS FALSE NEIGHBOUR: 'it returns false'. Refute it at one input. -/
def markOrderWrong : ChangeSpec := { name := "markOrder", fn := fun _ => fun
  | [d1, d2, d3] => { results := [.lit (.bool false)], args := [d1, d2, d3] }
  | _ => none }
def MarkOrderWrongFalsely : Prop := markOrderRow.holds Try.pinned (OpenSpec.ofChange markOrderWrong)

/-- 'kinescopelaw21.MarkDoes': WHATEVER THE INPUT: true; the input reads as it did. -/
def markDoesSpec : ChangeSpec := { name := "markDoes", fn := fun _ => fun
  | [d1, d2] => { results := [.lit (.bool true)], args := [d1, d2] }
  | _ => none }
def markDoesRow : OpenClaim := { program := "ytlcpglkbllhokaa", sum := "d8df0e820406a92f00646e08c183aa9fe86e34bd0ab8c6f39b53fdc901c37f82", func := "kinescope/kinescopelaw21.MarkDoes", spec := "markDoes", apart := false }
def MarkDoesSaid : Prop := markDoesRow.holds Try.pinned (OpenSpec.ofChange markDoesSpec)

/-- ITS FALSE NEIGHBOUR: 'it returns false'. Refute it at one input. -/
def markDoesWrong : ChangeSpec := { name := "markDoes", fn := fun _ => fun
  | [d1, d2] => { results := [.lit (.bool false)], args := [d1, d2] }
  | _ => none }
def MarkDoesWrongFalsely : Prop := markDoesRow.holds Try.pinned (OpenSpec.ofChange markDoesWrong)

/-- 'kinescopelaw21.MarkAlls': WHATEVER THE INPUT: true; the input reads as it did. -/
def markAllsSpec : ChangeSpec := { name := "markAlls", fn := fun _ => fun
  | [d1, d2, d3] => { results := [.lit (.bool true)], args := [d1, d2, d3] }
  | _ => none }
def markAllsRow : OpenClaim := { program := "ytlcpglkbllhokaa", sum := "d8df0e820406a92f00646e08c183aa9fe86e34bd0ab8c6f39b53fdc901c37f82", func := "kinescope/kinescopelaw21.MarkAlls", spec := "markAlls", unfollowed := true, recurses := true, apart := false }
def MarkAllsSaid : Prop := markAllsRow.holds Try.pinned (OpenSpec.ofChange markAllsSpec)

/-- ITS FALSE NEIGHBOUR: 'it returns false'. Refute it at one input. -/
def markAllsWrong : ChangeSpec := { name := "markAlls", fn := fun _ => fun
  | [d1, d2, d3] => { results := [.lit (.bool false)], args := [d1, d2, d3] }
  | _ => none }
def MarkAllsWrongFalsely : Prop := markAllsRow.holds Try.pinned (OpenSpec.ofChange markAllsWrong)

/-- 'kinescopelaw21.MarkSmall': WHATEVER THE INPUT: true; the input reads as it did. -/
def markSmallSpec : ChangeSpec := { name := "markSmall", fn := fun _ => fun
  | [] => { results := [.lit (.bool true)], args := [] }
  | _ => none }
def markSmallRow : OpenClaim := { program := "ytlcpglkbllhokaa", sum := "d8df0e820406a92f00646e08c183aa9fe86e34bd0ab8c6f39b53fdc901c37f82", func := "kinescope/kinescopelaw21.MarkSmall", spec := "markSmall", unfollowed := true, recurses := true, apart := false }
def MarkSmallSaid : Prop := markSmallRow.holds Try.pinned (OpenSpec.ofChange markSmallSpec)

/-- ITS FALSE NEIGHBOUR: 'it returns false'. Refute it at one input. -/
def markSmallWrong : ChangeSpec := { name := "markSmall", fn := fun _ => fun
  | [] => { results := [.lit (.bool false)], args := [] }
  | _ => none }
def MarkSmallWrongFalsely : Prop := markSmallRow.holds Try.pinned (OpenSpec.ofChange markSmallWrong)

/- THE SECOND FORM. 'bulk': how many values and letters a reading holds, each counted each time it is reached (what is shared counts as often as it is met; a slice's spare places count too). A statement '..UptoSaid' is the law's where the arguments, and the package variables that the reading takes, are together of bulk at most 1048576: NARROWER than '..Said'. Prove '..Said' where nothing that the law and all that it calls make is longer than what came in: it says more and counts as full. Else prove '..UptoSaid'. A law counts once. -/
mutual
def uptoBulk {H : Type} : DataW H → Nat
  | .lit (.string bytes) => bytes.length + 1
  | .lit _ => 1
  | .nil => 1
  | .ptr d => uptoBulk d + 1
  | .slice elems spare => uptoBulkAll elems + uptoBulkAll spare + 1
  | .agg parts => uptoBulkAll parts + 1
  | .iface _ d => uptoBulk d + 1
  | .map entries => uptoBulkEntries entries + 1
  | .held _ => 1
def uptoBulkAll {H : Type} : List (DataW H) → Nat
  | [] => 0
  | d :: r => uptoBulk d + uptoBulkAll r
def uptoBulkEntries {H : Type} : List (Lit × DataW H) → Nat
  | [] => 0
  | x :: r => uptoBulkEntry x + uptoBulkEntries r
def uptoBulkEntry {H : Type} : Lit × DataW H → Nat
  | (.string bytes, d) => bytes.length + uptoBulk d + 1
  | (_, d) => uptoBulk d + 1
 end
def uptoSmall : (H : Type) → List (DataW H) → Bool := fun _ ds => decide (uptoBulkAll ds ≤ 1048576)
def OpenSpec.upto (s : _root_.Go.ChangeSpec) : _root_.Go.OpenSpec := { _root_.Go.OpenSpec.ofChange s with cond := some uptoSmall }

/-- 'kinescopelaw21.MarkGreatest', WHERE WHAT IT READS IS OF BULK AT MOST 1048576: true; the input reads as it did. -/
def markGreatestUptoRow : OpenClaim := { program := "ytlcpglkbllhokaa", sum := "d8df0e820406a92f00646e08c183aa9fe86e34bd0ab8c6f39b53fdc901c37f82", func := "kinescope/kinescopelaw21.MarkGreatest", spec := "markGreatest", apart := false, narrowed := true }
def MarkGreatestUptoSaid : Prop := markGreatestUptoRow.holds Try.pinned (OpenSpec.upto markGreatestSpec)

/-- 'kinescopelaw21.MarkOrder', WHERE WHAT IT READS IS OF BULK AT MOST 1048576: true; the input reads as it did. -/
def markOrderUptoRow : OpenClaim := { program := "ytlcpglkbllhokaa", sum := "d8df0e820406a92f00646e08c183aa9fe86e34bd0ab8c6f39b53fdc901c37f82", func := "kinescope/kinescopelaw21.MarkOrder", spec := "markOrder", apart := false, narrowed := true }
def MarkOrderUptoSaid : Prop := markOrderUptoRow.holds Try.pinned (OpenSpec.upto markOrderSpec)

/-- 'kinescopelaw21.MarkDoes', WHERE WHAT IT READS IS OF BULK AT MOST 1048576: true; the input reads as it did. -/
def markDoesUptoRow : OpenClaim := { program := "ytlcpglkbllhokaa", sum := "d8df0e820406a92f00646e08c183aa9fe86e34bd0ab8c6f39b53fdc901c37f82", func := "kinescope/kinescopelaw21.MarkDoes", spec := "markDoes", apart := false, narrowed := true }
def MarkDoesUptoSaid : Prop := markDoesUptoRow.holds Try.pinned (OpenSpec.upto markDoesSpec)

/-- 'kinescopelaw21.MarkAlls', WHERE WHAT IT READS IS OF BULK AT MOST 1048576: true; the input reads as it did. -/
def markAllsUptoRow : OpenClaim := { program := "ytlcpglkbllhokaa", sum := "d8df0e820406a92f00646e08c183aa9fe86e34bd0ab8c6f39b53fdc901c37f82", func := "kinescope/kinescopelaw21.MarkAlls", spec := "markAlls", unfollowed := true, recurses := true, apart := false, narrowed := true }
def MarkAllsUptoSaid : Prop := markAllsUptoRow.holds Try.pinned (OpenSpec.upto markAllsSpec)

/-- 'kinescopelaw21.MarkSmall', WHERE WHAT IT READS IS OF BULK AT MOST 1048576: true; the input reads as it did. -/
def markSmallUptoRow : OpenClaim := { program := "ytlcpglkbllhokaa", sum := "d8df0e820406a92f00646e08c183aa9fe86e34bd0ab8c6f39b53fdc901c37f82", func := "kinescope/kinescopelaw21.MarkSmall", spec := "markSmall", unfollowed := true, recurses := true, apart := false, narrowed := true }
def MarkSmallUptoSaid : Prop := markSmallUptoRow.holds Try.pinned (OpenSpec.upto markSmallSpec)

end Rows
end Go.Proofs.Ytlcpglkbllhokaa
