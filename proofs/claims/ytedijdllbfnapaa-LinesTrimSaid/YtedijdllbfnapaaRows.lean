/-
  No cell of these rows narrows 'for every input' (looked for: loops, veiled, ifaces, maps, wideKeys, modest, calm, conditions, laid).
  DERIVED. THE GIVEN ROWS OF THIS SEAT. 7 by the template 'for every input the law returns true; each argument reads behind the call as it read before'; 0 by the template 'total and deterministic' (their statements: YtedijdllbfnapaaTotals.lean).
  GIVEN WITH THE SEED: the statements are not yours to turn. If you find one false, say at which input.
  Laid BY PROGRAM, IN A SANDBOX (cutbox-rows.mjs): the forced cells as the released guide's own fill.sh prints them over the translation 4d8b45077a5a7987… (all of the seat's roots in one cut). By AI agents, Wed Nov 11 2026. No macro, syntax, notation, axiom, sorry.
-/
import Derived.Test.YtedijdllbfnapaaChecked
import GoSem.Claim
import GoSem.ClaimJoined
import GoSem.ClaimMapViews
import Derived.JoinedTies
import Derived.KernelRfl
namespace Go.Proofs.Ytedijdllbfnapaa
/- THE CELL 'sum', in the pinned program and in every row, IS THE sha256 OF THE DUMP (.gsa) THAT YtedijdllbfnapaaProg.lean LOADS. Nothing in Lean hashes anything: it is a label: what it is worth is what the hold of that sum in a sandbox is worth. -/
noncomputable def Try.pinned : Pinned := { name := "ytedijdllbfnapaa", sum := "4d8b45077a5a7987d696bc37d3cd0de4cc70c431fc7db83bf28d033d1d36f09b", checked := Try.checked }
namespace Rows
def none {H : Type} : Left H := { results := [], args := [] }

/-- 'publisherlaw02.LinesSplit': WHATEVER THE INPUT: true; the input reads as it did. -/
def linesSplitSpec : ChangeSpec := { name := "linesSplit", fn := fun _ => fun
  | [d] => { results := [.lit (.bool true)], args := [d] }
  | _ => none }
def linesSplitRow : OpenClaim := { program := "ytedijdllbfnapaa", sum := "4d8b45077a5a7987d696bc37d3cd0de4cc70c431fc7db83bf28d033d1d36f09b", func := "publisher/publisherlaw02.LinesSplit", spec := "linesSplit", inPlace := ["internal/abi.NoEscape"], apart := false }
def LinesSplitSaid : Prop := linesSplitRow.holds Try.pinned (OpenSpec.ofChange linesSplitSpec)

/-- ITS FALSE NEIGHBOUR: 'it returns false'. Refute it at one input. -/
def linesSplitWrong : ChangeSpec := { name := "linesSplit", fn := fun _ => fun
  | [d] => { results := [.lit (.bool false)], args := [d] }
  | _ => none }
def LinesSplitWrongFalsely : Prop := linesSplitRow.holds Try.pinned (OpenSpec.ofChange linesSplitWrong)

/-- 'publisherlaw02.LinesJoin': WHATEVER THE INPUT: true; the input reads as it did. -/
def linesJoinSpec : ChangeSpec := { name := "linesJoin", fn := fun _ => fun
  | [d] => { results := [.lit (.bool true)], args := [d] }
  | _ => none }
def linesJoinRow : OpenClaim := { program := "ytedijdllbfnapaa", sum := "4d8b45077a5a7987d696bc37d3cd0de4cc70c431fc7db83bf28d033d1d36f09b", func := "publisher/publisherlaw02.LinesJoin", spec := "linesJoin", inPlace := ["internal/abi.NoEscape"], apart := false }
def LinesJoinSaid : Prop := linesJoinRow.holds Try.pinned (OpenSpec.ofChange linesJoinSpec)

/-- ITS FALSE NEIGHBOUR: 'it returns false'. Refute it at one input. -/
def linesJoinWrong : ChangeSpec := { name := "linesJoin", fn := fun _ => fun
  | [d] => { results := [.lit (.bool false)], args := [d] }
  | _ => none }
def LinesJoinWrongFalsely : Prop := linesJoinRow.holds Try.pinned (OpenSpec.ofChange linesJoinWrong)

/-- 'publisherlaw02.LinesBack': WHATEVER THE INPUT: true; the input reads as it did. -/
def linesBackSpec : ChangeSpec := { name := "linesBack", fn := fun _ => fun
  | [d1, d2] => { results := [.lit (.bool true)], args := [d1, d2] }
  | _ => none }
def linesBackRow : OpenClaim := { program := "ytedijdllbfnapaa", sum := "4d8b45077a5a7987d696bc37d3cd0de4cc70c431fc7db83bf28d033d1d36f09b", func := "publisher/publisherlaw02.LinesBack", spec := "linesBack", inPlace := ["internal/abi.NoEscape"], apart := false }
def LinesBackSaid : Prop := linesBackRow.holds Try.pinned (OpenSpec.ofChange linesBackSpec)

/-- ITS FALSE NEIGHBOUR: 'it returns false'. Refute it at one input. -/
def linesBackWrong : ChangeSpec := { name := "linesBack", fn := fun _ => fun
  | [d1, d2] => { results := [.lit (.bool false)], args := [d1, d2] }
  | _ => none }
def LinesBackWrongFalsely : Prop := linesBackRow.holds Try.pinned (OpenSpec.ofChange linesBackWrong)

/-- 'publisherlaw02.LinesCut': WHATEVER THE INPUT: true; the input reads as it did. -/
def linesCutSpec : ChangeSpec := { name := "linesCut", fn := fun _ => fun
  | [d1, d2] => { results := [.lit (.bool true)], args := [d1, d2] }
  | _ => none }
def linesCutRow : OpenClaim := { program := "ytedijdllbfnapaa", sum := "4d8b45077a5a7987d696bc37d3cd0de4cc70c431fc7db83bf28d033d1d36f09b", func := "publisher/publisherlaw02.LinesCut", spec := "linesCut", inPlace := ["internal/abi.NoEscape"], apart := false }
def LinesCutSaid : Prop := linesCutRow.holds Try.pinned (OpenSpec.ofChange linesCutSpec)

/-- ITS FALSE NEIGHBOUR: 'it returns false'. Refute it at one input. -/
def linesCutWrong : ChangeSpec := { name := "linesCut", fn := fun _ => fun
  | [d1, d2] => { results := [.lit (.bool false)], args := [d1, d2] }
  | _ => none }
def LinesCutWrongFalsely : Prop := linesCutRow.holds Try.pinned (OpenSpec.ofChange linesCutWrong)

/-- 'publisherlaw02.LinesSpaces': WHATEVER THE INPUT: true; the input reads as it did. -/
def linesSpacesSpec : ChangeSpec := { name := "linesSpaces", fn := fun _ => fun
  | [d1, d2] => { results := [.lit (.bool true)], args := [d1, d2] }
  | _ => none }
def linesSpacesRow : OpenClaim := { program := "ytedijdllbfnapaa", sum := "4d8b45077a5a7987d696bc37d3cd0de4cc70c431fc7db83bf28d033d1d36f09b", func := "publisher/publisherlaw02.LinesSpaces", spec := "linesSpaces", inPlace := ["internal/abi.NoEscape"], apart := false }
def LinesSpacesSaid : Prop := linesSpacesRow.holds Try.pinned (OpenSpec.ofChange linesSpacesSpec)

/-- ITS FALSE NEIGHBOUR: 'it returns false'. Refute it at one input. -/
def linesSpacesWrong : ChangeSpec := { name := "linesSpaces", fn := fun _ => fun
  | [d1, d2] => { results := [.lit (.bool false)], args := [d1, d2] }
  | _ => none }
def LinesSpacesWrongFalsely : Prop := linesSpacesRow.holds Try.pinned (OpenSpec.ofChange linesSpacesWrong)

/-- 'publisherlaw02.LinesTrim': WHATEVER THE INPUT: true; the input reads as it did. -/
def linesTrimSpec : ChangeSpec := { name := "linesTrim", fn := fun _ => fun
  | [d] => { results := [.lit (.bool true)], args := [d] }
  | _ => none }
def linesTrimRow : OpenClaim := { program := "ytedijdllbfnapaa", sum := "4d8b45077a5a7987d696bc37d3cd0de4cc70c431fc7db83bf28d033d1d36f09b", func := "publisher/publisherlaw02.LinesTrim", spec := "linesTrim", inPlace := ["internal/abi.NoEscape"], apart := false }
def LinesTrimSaid : Prop := linesTrimRow.holds Try.pinned (OpenSpec.ofChange linesTrimSpec)

/-- ITS FALSE NEIGHBOUR: 'it returns false'. Refute it at one input. -/
def linesTrimWrong : ChangeSpec := { name := "linesTrim", fn := fun _ => fun
  | [d] => { results := [.lit (.bool false)], args := [d] }
  | _ => none }
def LinesTrimWrongFalsely : Prop := linesTrimRow.holds Try.pinned (OpenSpec.ofChange linesTrimWrong)

/-- 'publisherlaw02.LinesNumber': WHATEVER THE INPUT: true; the input reads as it did. -/
def linesNumberSpec : ChangeSpec := { name := "linesNumber", fn := fun _ => fun
  | [d1, d2, d3] => { results := [.lit (.bool true)], args := [d1, d2, d3] }
  | _ => none }
def linesNumberRow : OpenClaim := { program := "ytedijdllbfnapaa", sum := "4d8b45077a5a7987d696bc37d3cd0de4cc70c431fc7db83bf28d033d1d36f09b", func := "publisher/publisherlaw02.LinesNumber", spec := "linesNumber", inPlace := ["internal/abi.NoEscape"], apart := false }
def LinesNumberSaid : Prop := linesNumberRow.holds Try.pinned (OpenSpec.ofChange linesNumberSpec)

/-- ITS FALSE NEIGHBOUR: 'it returns false'. Refute it at one input. -/
def linesNumberWrong : ChangeSpec := { name := "linesNumber", fn := fun _ => fun
  | [d1, d2, d3] => { results := [.lit (.bool false)], args := [d1, d2, d3] }
  | _ => none }
def LinesNumberWrongFalsely : Prop := linesNumberRow.holds Try.pinned (OpenSpec.ofChange linesNumberWrong)

/- THE SECOND FORM. 'bulk': how many values and letters a reading holds, each counted each time it is reached (what is shared counts as often as it is met; a slice's spare places count too). A statement '..UptoSaid' is the law's where the arguments, and the package variables that the reading takes, are together of bulk at most 1048576: NARROWER than '..Said'. Prove '..Said' where nothing that the law and all that it calls make is longer than what came in: it says more and counts as full. Else prove '..UptoSaid'. A law counts once. -/
mutual
def uptoBulk {H : Type} : DataW H → Nat
  | .lit (.string bytes) => bytes.length + 1
  | .lit _ => 1
  | .nil => 1
  | .ptr d => uptoBulk d + 1
  | .slice elems spare => uptoBulkAll elems + uptoBulkAll spare + 1
  | .agg parts => uptoBulkAll parts + 1
  | .iface _ d => uptoBulk d + 1
  | .map entries => uptoBulkEntries entries + 1
  | .held _ => 1
def uptoBulkAll {H : Type} : List (DataW H) → Nat
  | [] => 0
  | d :: r => uptoBulk d + uptoBulkAll r
def uptoBulkEntries {H : Type} : List (Lit × DataW H) → Nat
  | [] => 0
  | x :: r => uptoBulkEntry x + uptoBulkEntries r
def uptoBulkEntry {H : Type} : Lit × DataW H → Nat
  | (.string bytes, d) => bytes.length + uptoBulk d + 1
  | (_, d) => uptoBulk d + 1
 end
def uptoSmall : (H : Type) → List (DataW H) → Bool := fun _ ds => decide (uptoBulkAll ds ≤ 1048576)
def OpenSpec.upto (s : _root_.Go.ChangeSpec) : _root_.Go.OpenSpec := { _root_.Go.OpenSpec.ofChange s with cond := some uptoSmall }

/-- 'publisherlaw02.LinesSplit', WHERE WHAT IT READS IS OF BULK AT MOST 1048576: true; the input reads as it did. -/
def linesSplitUptoRow : OpenClaim := { program := "ytedijdllbfnapaa", sum := "4d8b45077a5a7987d696bc37d3cd0de4cc70c431fc7db83bf28d033d1d36f09b", func := "publisher/publisherlaw02.LinesSplit", spec := "linesSplit", inPlace := ["internal/abi.NoEscape"], apart := false, narrowed := true }
def LinesSplitUptoSaid : Prop := linesSplitUptoRow.holds Try.pinned (OpenSpec.upto linesSplitSpec)

/-- 'publisherlaw02.LinesJoin', WHERE WHAT IT READS IS OF BULK AT MOST 1048576: true; the input reads as it did. -/
def linesJoinUptoRow : OpenClaim := { program := "ytedijdllbfnapaa", sum := "4d8b45077a5a7987d696bc37d3cd0de4cc70c431fc7db83bf28d033d1d36f09b", func := "publisher/publisherlaw02.LinesJoin", spec := "linesJoin", inPlace := ["internal/abi.NoEscape"], apart := false, narrowed := true }
def LinesJoinUptoSaid : Prop := linesJoinUptoRow.holds Try.pinned (OpenSpec.upto linesJoinSpec)

/-- 'publisherlaw02.LinesBack', WHERE WHAT IT READS IS OF BULK AT MOST 1048576: true; the input reads as it did. -/
def linesBackUptoRow : OpenClaim := { program := "ytedijdllbfnapaa", sum := "4d8b45077a5a7987d696bc37d3cd0de4cc70c431fc7db83bf28d033d1d36f09b", func := "publisher/publisherlaw02.LinesBack", spec := "linesBack", inPlace := ["internal/abi.NoEscape"], apart := false, narrowed := true }
def LinesBackUptoSaid : Prop := linesBackUptoRow.holds Try.pinned (OpenSpec.upto linesBackSpec)

/-- 'publisherlaw02.LinesCut', WHERE WHAT IT READS IS OF BULK AT MOST 1048576: true; the input reads as it did. -/
def linesCutUptoRow : OpenClaim := { program := "ytedijdllbfnapaa", sum := "4d8b45077a5a7987d696bc37d3cd0de4cc70c431fc7db83bf28d033d1d36f09b", func := "publisher/publisherlaw02.LinesCut", spec := "linesCut", inPlace := ["internal/abi.NoEscape"], apart := false, narrowed := true }
def LinesCutUptoSaid : Prop := linesCutUptoRow.holds Try.pinned (OpenSpec.upto linesCutSpec)

/-- 'publisherlaw02.LinesSpaces', WHERE WHAT IT READS IS OF BULK AT MOST 1048576: true; the input reads as it did. -/
def linesSpacesUptoRow : OpenClaim := { program := "ytedijdllbfnapaa", sum := "4d8b45077a5a7987d696bc37d3cd0de4cc70c431fc7db83bf28d033d1d36f09b", func := "publisher/publisherlaw02.LinesSpaces", spec := "linesSpaces", inPlace := ["internal/abi.NoEscape"], apart := false, narrowed := true }
def LinesSpacesUptoSaid : Prop := linesSpacesUptoRow.holds Try.pinned (OpenSpec.upto linesSpacesSpec)

/-- 'publisherlaw02.LinesTrim', WHERE WHAT IT READS IS OF BULK AT MOST 1048576: true; the input reads as it did. -/
def linesTrimUptoRow : OpenClaim := { program := "ytedijdllbfnapaa", sum := "4d8b45077a5a7987d696bc37d3cd0de4cc70c431fc7db83bf28d033d1d36f09b", func := "publisher/publisherlaw02.LinesTrim", spec := "linesTrim", inPlace := ["internal/abi.NoEscape"], apart := false, narrowed := true }
def LinesTrimUptoSaid : Prop := linesTrimUptoRow.holds Try.pinned (OpenSpec.upto linesTrimSpec)

/-- 'publisherlaw02.LinesNumber', WHERE WHAT IT READS IS OF BULK AT MOST 1048576: true; the input reads as it did. -/
def linesNumberUptoRow : OpenClaim := { program := "ytedijdllbfnapaa", sum := "4d8b45077a5a7987d696bc37d3cd0de4cc70c431fc7db83bf28d033d1d36f09b", func := "publisher/publisherlaw02.LinesNumber", spec := "linesNumber", inPlace := ["internal/abi.NoEscape"], apart := false, narrowed := true }
def LinesNumberUptoSaid : Prop := linesNumberUptoRow.holds Try.pinned (OpenSpec.upto linesNumberSpec)

end Rows
end Go.Proofs.Ytedijdllbfnapaa
