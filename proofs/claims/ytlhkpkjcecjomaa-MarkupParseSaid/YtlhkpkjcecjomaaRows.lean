/-
  NARROWER THAN 'FOR EVERY INPUT', by the rows' own cells (each row's printed sentence says how): MarkupChecks: loops · MarkupTells: loops · MarkupBack: loops · MarkupCut: loops.
  DERIVED. THE GIVEN ROWS OF THIS SEAT. 6 by the template 'for every input the law returns true; each argument reads behind the call as it read before'; 0 by the template 'total and deterministic' (their statements: YtlhkpkjcecjomaaTotals.lean).
  GIVEN WITH THE SEED: the statements are not yours to turn. If you find one false, say at which input.
  Laid BY PROGRAM, IN A SANDBOX (cutbox-rows.mjs): the forced cells as the released guide's own fill.sh prints them over the translation b2e027d31a79007b… (all of the seat's roots in one cut). By AI agents, Wed Nov 11 2026. No macro, syntax, notation, axiom, sorry.
-/
import Derived.Test.YtlhkpkjcecjomaaChecked
import GoSem.Claim
import GoSem.ClaimJoined
import GoSem.ClaimMapViews
import Derived.JoinedTies
import Derived.KernelRfl
namespace Go.Proofs.Ytlhkpkjcecjomaa
/- THE CELL 'sum', in the pinned program and in every row, IS THE sha256 OF THE DUMP (.gsa) THAT YtlhkpkjcecjomaaProg.lean LOADS. Nothing in Lean hashes anything: it is a label: what it is worth is what the hold of that sum in a sandbox is worth. -/
noncomputable def Try.pinned : Pinned := { name := "ytlhkpkjcecjomaa", sum := "b2e027d31a79007bf9fc837c5ae16048952b86cc0938871c78f66befcf14af2b", checked := Try.checked }
namespace Rows
def none {H : Type} : Left H := { results := [], args := [] }

/-- 'publisherlaw33.MarkupChecks': WHATEVER THE INPUT: true; the input reads as it did. -/
def markupChecksSpec : ChangeSpec := { name := "markupChecks", fn := fun _ => fun
  | [d] => { results := [.lit (.bool true)], args := [d] }
  | _ => none }
def markupChecksRow : OpenClaim := { program := "ytlhkpkjcecjomaa", sum := "b2e027d31a79007bf9fc837c5ae16048952b86cc0938871c78f66befcf14af2b", func := "publisher/publisherlaw33.MarkupChecks", spec := "markupChecks", inPlace := ["internal/bytealg.IndexByteString", "internal/abi.NoEscape"], unfollowed := true, recurses := true, loops := true, apart := false }
def MarkupChecksSaid : Prop := markupChecksRow.holds Try.pinned (OpenSpec.ofChange markupChecksSpec)

/-- ITS FALSE NEIGHBOUR: 'it returns false'. Refute it at one input. -/
def markupChecksWrong : ChangeSpec := { name := "markupChecks", fn := fun _ => fun
  | [d] => { results := [.lit (.bool false)], args := [d] }
  | _ => none }
def MarkupChecksWrongFalsely : Prop := markupChecksRow.holds Try.pinned (OpenSpec.ofChange markupChecksWrong)

/-- 'publisherlaw33.MarkupParse': WHATEVER THE INPUT: true; the input reads as it did. -/
def markupParseSpec : ChangeSpec := { name := "markupParse", fn := fun _ => fun
  | [d] => { results := [.lit (.bool true)], args := [d] }
  | _ => none }
def markupParseRow : OpenClaim := { program := "ytlhkpkjcecjomaa", sum := "b2e027d31a79007bf9fc837c5ae16048952b86cc0938871c78f66befcf14af2b", func := "publisher/publisherlaw33.MarkupParse", spec := "markupParse", inPlace := ["internal/bytealg.IndexByteString", "internal/abi.NoEscape"], unfollowed := true, recurses := true, apart := false }
def MarkupParseSaid : Prop := markupParseRow.holds Try.pinned (OpenSpec.ofChange markupParseSpec)

/-- ITS FALSE NEIGHBOUR: 'it returns false'. Refute it at one input. -/
def markupParseWrong : ChangeSpec := { name := "markupParse", fn := fun _ => fun
  | [d] => { results := [.lit (.bool false)], args := [d] }
  | _ => none }
def MarkupParseWrongFalsely : Prop := markupParseRow.holds Try.pinned (OpenSpec.ofChange markupParseWrong)

/-- 'publisherlaw33.MarkupTells': WHATEVER THE INPUT: true; the input reads as it did. -/
def markupTellsSpec : ChangeSpec := { name := "markupTells", fn := fun _ => fun
  | [d1, d2, d3] => { results := [.lit (.bool true)], args := [d1, d2, d3] }
  | _ => none }
def markupTellsRow : OpenClaim := { program := "ytlhkpkjcecjomaa", sum := "b2e027d31a79007bf9fc837c5ae16048952b86cc0938871c78f66befcf14af2b", func := "publisher/publisherlaw33.MarkupTells", spec := "markupTells", inPlace := ["internal/bytealg.IndexByteString", "internal/abi.NoEscape"], unfollowed := true, recurses := true, loops := true, apart := false }
def MarkupTellsSaid : Prop := markupTellsRow.holds Try.pinned (OpenSpec.ofChange markupTellsSpec)

/-- ITS FALSE NEIGHBOUR: 'it returns false'. Refute it at one input. -/
def markupTellsWrong : ChangeSpec := { name := "markupTells", fn := fun _ => fun
  | [d1, d2, d3] => { results := [.lit (.bool false)], args := [d1, d2, d3] }
  | _ => none }
def MarkupTellsWrongFalsely : Prop := markupTellsRow.holds Try.pinned (OpenSpec.ofChange markupTellsWrong)

/-- 'publisherlaw33.MarkupBack': WHATEVER THE INPUT: true; the input reads as it did. -/
def markupBackSpec : ChangeSpec := { name := "markupBack", fn := fun _ => fun
  | [d1, d2] => { results := [.lit (.bool true)], args := [d1, d2] }
  | _ => none }
def markupBackRow : OpenClaim := { program := "ytlhkpkjcecjomaa", sum := "b2e027d31a79007bf9fc837c5ae16048952b86cc0938871c78f66befcf14af2b", func := "publisher/publisherlaw33.MarkupBack", spec := "markupBack", inPlace := ["internal/bytealg.IndexByteString", "internal/abi.NoEscape"], unfollowed := true, recurses := true, loops := true, apart := false }
def MarkupBackSaid : Prop := markupBackRow.holds Try.pinned (OpenSpec.ofChange markupBackSpec)

/-- ITS FALSE NEIGHBOUR: 'it returns false'. Refute it at one input. -/
def markupBackWrong : ChangeSpec := { name := "markupBack", fn := fun _ => fun
  | [d1, d2] => { results := [.lit (.bool false)], args := [d1, d2] }
  | _ => none }
def MarkupBackWrongFalsely : Prop := markupBackRow.holds Try.pinned (OpenSpec.ofChange markupBackWrong)

/-- 'publisherlaw33.MarkupExact': WHATEVER THE INPUT: true; the input reads as it did. -/
def markupExactSpec : ChangeSpec := { name := "markupExact", fn := fun _ => fun
  | [d] => { results := [.lit (.bool true)], args := [d] }
  | _ => none }
def markupExactRow : OpenClaim := { program := "ytlhkpkjcecjomaa", sum := "b2e027d31a79007bf9fc837c5ae16048952b86cc0938871c78f66befcf14af2b", func := "publisher/publisherlaw33.MarkupExact", spec := "markupExact", inPlace := ["internal/bytealg.IndexByteString", "internal/abi.NoEscape"], unfollowed := true, recurses := true, apart := false }
def MarkupExactSaid : Prop := markupExactRow.holds Try.pinned (OpenSpec.ofChange markupExactSpec)

/-- ITS FALSE NEIGHBOUR: 'it returns false'. Refute it at one input. -/
def markupExactWrong : ChangeSpec := { name := "markupExact", fn := fun _ => fun
  | [d] => { results := [.lit (.bool false)], args := [d] }
  | _ => none }
def MarkupExactWrongFalsely : Prop := markupExactRow.holds Try.pinned (OpenSpec.ofChange markupExactWrong)

/-- 'publisherlaw33.MarkupCut': WHATEVER THE INPUT: true; the input reads as it did. -/
def markupCutSpec : ChangeSpec := { name := "markupCut", fn := fun _ => fun
  | [d1, d2, d3, d4] => { results := [.lit (.bool true)], args := [d1, d2, d3, d4] }
  | _ => none }
def markupCutRow : OpenClaim := { program := "ytlhkpkjcecjomaa", sum := "b2e027d31a79007bf9fc837c5ae16048952b86cc0938871c78f66befcf14af2b", func := "publisher/publisherlaw33.MarkupCut", spec := "markupCut", inPlace := ["internal/bytealg.IndexByteString", "internal/abi.NoEscape"], unfollowed := true, recurses := true, loops := true, apart := false }
def MarkupCutSaid : Prop := markupCutRow.holds Try.pinned (OpenSpec.ofChange markupCutSpec)

/-- ITS FALSE NEIGHBOUR: 'it returns false'. Refute it at one input. -/
def markupCutWrong : ChangeSpec := { name := "markupCut", fn := fun _ => fun
  | [d1, d2, d3, d4] => { results := [.lit (.bool false)], args := [d1, d2, d3, d4] }
  | _ => none }
def MarkupCutWrongFalsely : Prop := markupCutRow.holds Try.pinned (OpenSpec.ofChange markupCutWrong)

/- THE SECOND FORM. 'bulk': how many values and letters a reading holds, each counted each time it is reached (what is shared counts as often as it is met; a slice's spare places count too). A statement '..UptoSaid' is the law's where the arguments, and the package variables that the reading takes, are together of bulk at most 1048576: NARROWER than '..Said'. Prove '..Said' where nothing that the law and all that it calls make is longer than what came in: it says more and counts as full. Else prove '..UptoSaid'. A law counts once. -/
mutual
def uptoBulk {H : Type} : DataW H → Nat
  | .lit (.string bytes) => bytes.length + 1
  | .lit _ => 1
  | .nil => 1
  | .ptr d => uptoBulk d + 1
  | .slice elems spare => uptoBulkAll elems + uptoBulkAll spare + 1
  | .agg parts => uptoBulkAll parts + 1
  | .iface _ d => uptoBulk d + 1
  | .map entries => uptoBulkEntries entries + 1
  | .held _ => 1
def uptoBulkAll {H : Type} : List (DataW H) → Nat
  | [] => 0
  | d :: r => uptoBulk d + uptoBulkAll r
def uptoBulkEntries {H : Type} : List (Lit × DataW H) → Nat
  | [] => 0
  | x :: r => uptoBulkEntry x + uptoBulkEntries r
def uptoBulkEntry {H : Type} : Lit × DataW H → Nat
  | (.string bytes, d) => bytes.length + uptoBulk d + 1
  | (_, d) => uptoBulk d + 1
 end
def uptoSmall : (H : Type) → List (DataW H) → Bool := fun _ ds => decide (uptoBulkAll ds ≤ 1048576)
def OpenSpec.upto (s : _root_.Go.ChangeSpec) : _root_.Go.OpenSpec := { _root_.Go.OpenSpec.ofChange s with cond := some uptoSmall }

/-- 'publisherlaw33.MarkupChecks', WHERE WHAT IT READS IS OF BULK AT MOST 1048576: true; the input reads as it did. -/
def markupChecksUptoRow : OpenClaim := { program := "ytlhkpkjcecjomaa", sum := "b2e027d31a79007bf9fc837c5ae16048952b86cc0938871c78f66befcf14af2b", func := "publisher/publisherlaw33.MarkupChecks", spec := "markupChecks", inPlace := ["internal/bytealg.IndexByteString", "internal/abi.NoEscape"], unfollowed := true, recurses := true, loops := true, apart := false, narrowed := true }
def MarkupChecksUptoSaid : Prop := markupChecksUptoRow.holds Try.pinned (OpenSpec.upto markupChecksSpec)

/-- 'publisherlaw33.MarkupParse', WHERE WHAT IT READS IS OF BULK AT MOST 1048576: true; the input reads as it did. -/
def markupParseUptoRow : OpenClaim := { program := "ytlhkpkjcecjomaa", sum := "b2e027d31a79007bf9fc837c5ae16048952b86cc0938871c78f66befcf14af2b", func := "publisher/publisherlaw33.MarkupParse", spec := "markupParse", inPlace := ["internal/bytealg.IndexByteString", "internal/abi.NoEscape"], unfollowed := true, recurses := true, apart := false, narrowed := true }
def MarkupParseUptoSaid : Prop := markupParseUptoRow.holds Try.pinned (OpenSpec.upto markupParseSpec)

/-- 'publisherlaw33.MarkupTells', WHERE WHAT IT READS IS OF BULK AT MOST 1048576: true; the input reads as it did. -/
def markupTellsUptoRow : OpenClaim := { program := "ytlhkpkjcecjomaa", sum := "b2e027d31a79007bf9fc837c5ae16048952b86cc0938871c78f66befcf14af2b", func := "publisher/publisherlaw33.MarkupTells", spec := "markupTells", inPlace := ["internal/bytealg.IndexByteString", "internal/abi.NoEscape"], unfollowed := true, recurses := true, loops := true, apart := false, narrowed := true }
def MarkupTellsUptoSaid : Prop := markupTellsUptoRow.holds Try.pinned (OpenSpec.upto markupTellsSpec)

/-- 'publisherlaw33.MarkupBack', WHERE WHAT IT READS IS OF BULK AT MOST 1048576: true; the input reads as it did. -/
def markupBackUptoRow : OpenClaim := { program := "ytlhkpkjcecjomaa", sum := "b2e027d31a79007bf9fc837c5ae16048952b86cc0938871c78f66befcf14af2b", func := "publisher/publisherlaw33.MarkupBack", spec := "markupBack", inPlace := ["internal/bytealg.IndexByteString", "internal/abi.NoEscape"], unfollowed := true, recurses := true, loops := true, apart := false, narrowed := true }
def MarkupBackUptoSaid : Prop := markupBackUptoRow.holds Try.pinned (OpenSpec.upto markupBackSpec)

/-- 'publisherlaw33.MarkupExact', WHERE WHAT IT READS IS OF BULK AT MOST 1048576: true; the input reads as it did. -/
def markupExactUptoRow : OpenClaim := { program := "ytlhkpkjcecjomaa", sum := "b2e027d31a79007bf9fc837c5ae16048952b86cc0938871c78f66befcf14af2b", func := "publisher/publisherlaw33.MarkupExact", spec := "markupExact", inPlace := ["internal/bytealg.IndexByteString", "internal/abi.NoEscape"], unfollowed := true, recurses := true, apart := false, narrowed := true }
def MarkupExactUptoSaid : Prop := markupExactUptoRow.holds Try.pinned (OpenSpec.upto markupExactSpec)

/-- 'publisherlaw33.MarkupCut', WHERE WHAT IT READS IS OF BULK AT MOST 1048576: true; the input reads as it did. -/
def markupCutUptoRow : OpenClaim := { program := "ytlhkpkjcecjomaa", sum := "b2e027d31a79007bf9fc837c5ae16048952b86cc0938871c78f66befcf14af2b", func := "publisher/publisherlaw33.MarkupCut", spec := "markupCut", inPlace := ["internal/bytealg.IndexByteString", "internal/abi.NoEscape"], unfollowed := true, recurses := true, loops := true, apart := false, narrowed := true }
def MarkupCutUptoSaid : Prop := markupCutUptoRow.holds Try.pinned (OpenSpec.upto markupCutSpec)

end Rows
end Go.Proofs.Ytlhkpkjcecjomaa
