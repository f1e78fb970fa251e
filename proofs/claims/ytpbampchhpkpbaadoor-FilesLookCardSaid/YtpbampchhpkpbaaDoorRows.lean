/-
  NARROWER THAN 'FOR EVERY INPUT', by the rows' own cells (each row's printed sentence says how): FilesClean: laid · FilesJoin: laid · FilesRelative: laid · FilesSplit: laid · FilesCheck: laid · FilesLook: laid · FilesStay: laid.
  DERIVED. THE GIVEN ROWS OF THIS SEAT. 7 by the template 'for every input the law returns true; each argument reads behind the call as it read before'; 0 by the template 'total and deterministic' (their statements: YtpbampchhpkpbaaDoorTotals.lean).
  GIVEN WITH THE SEED: the statements are not yours to turn. If you find one false, say at which input.
  Laid BY PROGRAM, IN A SANDBOX (cutbox-rows.mjs): the forced cells as the released guide's own fill.sh prints them over the translation 3401eb63ff71b2cd… (all of the seat's roots in one cut). By AI agents, Wed Nov 11 2026. No macro, syntax, notation, axiom, sorry.
-/
import Derived.Test.YtpbampchhpkpbaaDoorChecked
import GoSem.PinnedTables
import GoSem.Claim
import GoSem.ClaimJoined
import GoSem.ClaimMapViews
import Derived.JoinedTies
import Derived.KernelRfl
namespace Go.Proofs.YtpbampchhpkpbaaDoor
/- THE CELL 'sum', in the pinned program and in every row, IS THE sha256 OF THE DUMP (.gsa) THAT YtpbampchhpkpbaaDoorProg.lean LOADS. Nothing in Lean hashes anything: it is a label: what it is worth is what the hold of that sum in a sandbox is worth. -/
noncomputable def Tryd.pinned : Pinned := { name := "ytpbampchhpkpbaadoor", sum := "3401eb63ff71b2cda4a20eb33466e015298ba21861d507f263c00066566f26f8", checked := Tryd.checked }
namespace Rows
def none {H : Type} : Left H := { results := [], args := [] }

/- WHAT THE LISTED PACKAGE-LEVEL VARIABLES READ AS WHEN THE CALL BEGINS. Each datum BY PROGRAM (the guide's laid-datum.mjs) off the statement by which the dump's own 'gosem.cut.vars' lays the variable. In a bare row this is a premise. The card (YtpbampchhpkpbaaDoorCards.lean) ties it to the program's text. -/
def laid_unicode_utf8_acceptRanges {H : Type} : DataW H := .agg [.agg [.lit (.int .u8 128), .lit (.int .u8 191)], .agg [.lit (.int .u8 160), .lit (.int .u8 191)], .agg [.lit (.int .u8 128), .lit (.int .u8 159)], .agg [.lit (.int .u8 144), .lit (.int .u8 191)], .agg [.lit (.int .u8 128), .lit (.int .u8 143)], .agg [.lit (.int .u8 0), .lit (.int .u8 0)], .agg [.lit (.int .u8 0), .lit (.int .u8 0)], .agg [.lit (.int .u8 0), .lit (.int .u8 0)], .agg [.lit (.int .u8 0), .lit (.int .u8 0)], .agg [.lit (.int .u8 0), .lit (.int .u8 0)], .agg [.lit (.int .u8 0), .lit (.int .u8 0)], .agg [.lit (.int .u8 0), .lit (.int .u8 0)], .agg [.lit (.int .u8 0), .lit (.int .u8 0)], .agg [.lit (.int .u8 0), .lit (.int .u8 0)], .agg [.lit (.int .u8 0), .lit (.int .u8 0)], .agg [.lit (.int .u8 0), .lit (.int .u8 0)]]
/-- One of Go's own tables, pinned by name: the form's constant. -/
def laid_unicode_utf8_first : DataW Unit := Go.Pinned.utf8First

/-- 'publisherlaw16.FilesClean': WHATEVER THE INPUT: true; the input reads as it did. -/
def filesCleanSpec : ChangeSpec := { name := "filesClean", fn := fun _ => fun
  | [d] => { results := [.lit (.bool true)], args := [d] }
  | _ => none }
def filesCleanRow : OpenClaim := { program := "ytpbampchhpkpbaadoor", sum := "3401eb63ff71b2cda4a20eb33466e015298ba21861d507f263c00066566f26f8", func := "publisher/publisherlaw16.FilesClean", spec := "filesClean", inPlace := ["internal/bytealg.CountString", "internal/bytealg.IndexByteString", "internal/bytealg.IndexString", "internal/abi.NoEscape", "internal/bytealg.MakeNoZero"], named := ["unicode/utf8.first", "unicode/utf8.acceptRanges", "internal/bytealg.MaxLen"], apart := false, laid := [("unicode/utf8.acceptRanges", laid_unicode_utf8_acceptRanges), ("unicode/utf8.first", laid_unicode_utf8_first)] }
def FilesCleanSaid : Prop := filesCleanRow.holds Tryd.pinned (OpenSpec.ofChange filesCleanSpec)

/-- ITS FALSE NEIGHBOUR: 'it returns false'. Refute it at one input. -/
def filesCleanWrong : ChangeSpec := { name := "filesClean", fn := fun _ => fun
  | [d] => { results := [.lit (.bool false)], args := [d] }
  | _ => none }
def FilesCleanWrongFalsely : Prop := filesCleanRow.holds Tryd.pinned (OpenSpec.ofChange filesCleanWrong)

/-- 'publisherlaw16.FilesJoin': WHATEVER THE INPUT: true; the input reads as it did. -/
def filesJoinSpec : ChangeSpec := { name := "filesJoin", fn := fun _ => fun
  | [d1, d2] => { results := [.lit (.bool true)], args := [d1, d2] }
  | _ => none }
def filesJoinRow : OpenClaim := { program := "ytpbampchhpkpbaadoor", sum := "3401eb63ff71b2cda4a20eb33466e015298ba21861d507f263c00066566f26f8", func := "publisher/publisherlaw16.FilesJoin", spec := "filesJoin", inPlace := ["internal/bytealg.CountString", "internal/bytealg.IndexByteString", "internal/bytealg.IndexString", "internal/abi.NoEscape", "internal/bytealg.MakeNoZero"], named := ["unicode/utf8.first", "unicode/utf8.acceptRanges", "internal/bytealg.MaxLen"], apart := false, laid := [("unicode/utf8.acceptRanges", laid_unicode_utf8_acceptRanges), ("unicode/utf8.first", laid_unicode_utf8_first)] }
def FilesJoinSaid : Prop := filesJoinRow.holds Tryd.pinned (OpenSpec.ofChange filesJoinSpec)

/-- ITS FALSE NEIGHBOUR: 'it returns false'. Refute it at one input. -/
def filesJoinWrong : ChangeSpec := { name := "filesJoin", fn := fun _ => fun
  | [d1, d2] => { results := [.lit (.bool false)], args := [d1, d2] }
  | _ => none }
def FilesJoinWrongFalsely : Prop := filesJoinRow.holds Tryd.pinned (OpenSpec.ofChange filesJoinWrong)

/-- 'publisherlaw16.FilesRelative': WHATEVER THE INPUT: true; the input reads as it did. -/
def filesRelativeSpec : ChangeSpec := { name := "filesRelative", fn := fun _ => fun
  | [d1, d2] => { results := [.lit (.bool true)], args := [d1, d2] }
  | _ => none }
def filesRelativeRow : OpenClaim := { program := "ytpbampchhpkpbaadoor", sum := "3401eb63ff71b2cda4a20eb33466e015298ba21861d507f263c00066566f26f8", func := "publisher/publisherlaw16.FilesRelative", spec := "filesRelative", inPlace := ["internal/bytealg.CountString", "internal/bytealg.IndexByteString", "internal/bytealg.IndexString", "internal/abi.NoEscape", "internal/bytealg.MakeNoZero"], named := ["unicode/utf8.first", "unicode/utf8.acceptRanges", "internal/bytealg.MaxLen"], apart := false, laid := [("unicode/utf8.acceptRanges", laid_unicode_utf8_acceptRanges), ("unicode/utf8.first", laid_unicode_utf8_first)] }
def FilesRelativeSaid : Prop := filesRelativeRow.holds Tryd.pinned (OpenSpec.ofChange filesRelativeSpec)

/-- ITS FALSE NEIGHBOUR: 'it returns false'. Refute it at one input. -/
def filesRelativeWrong : ChangeSpec := { name := "filesRelative", fn := fun _ => fun
  | [d1, d2] => { results := [.lit (.bool false)], args := [d1, d2] }
  | _ => none }
def FilesRelativeWrongFalsely : Prop := filesRelativeRow.holds Tryd.pinned (OpenSpec.ofChange filesRelativeWrong)

/-- 'publisherlaw16.FilesSplit': WHATEVER THE INPUT: true; the input reads as it did. -/
def filesSplitSpec : ChangeSpec := { name := "filesSplit", fn := fun _ => fun
  | [d] => { results := [.lit (.bool true)], args := [d] }
  | _ => none }
def filesSplitRow : OpenClaim := { program := "ytpbampchhpkpbaadoor", sum := "3401eb63ff71b2cda4a20eb33466e015298ba21861d507f263c00066566f26f8", func := "publisher/publisherlaw16.FilesSplit", spec := "filesSplit", inPlace := ["internal/bytealg.CountString", "internal/bytealg.IndexByteString", "internal/bytealg.IndexString", "internal/abi.NoEscape", "internal/bytealg.MakeNoZero"], named := ["unicode/utf8.first", "unicode/utf8.acceptRanges", "internal/bytealg.MaxLen"], apart := false, laid := [("unicode/utf8.acceptRanges", laid_unicode_utf8_acceptRanges), ("unicode/utf8.first", laid_unicode_utf8_first)] }
def FilesSplitSaid : Prop := filesSplitRow.holds Tryd.pinned (OpenSpec.ofChange filesSplitSpec)

/-- ITS FALSE NEIGHBOUR: 'it returns false'. Refute it at one input. -/
def filesSplitWrong : ChangeSpec := { name := "filesSplit", fn := fun _ => fun
  | [d] => { results := [.lit (.bool false)], args := [d] }
  | _ => none }
def FilesSplitWrongFalsely : Prop := filesSplitRow.holds Tryd.pinned (OpenSpec.ofChange filesSplitWrong)

/-- 'publisherlaw16.FilesCheck': WHATEVER THE INPUT: true; the input reads as it did. -/
def filesCheckSpec : ChangeSpec := { name := "filesCheck", fn := fun _ => fun
  | [d] => { results := [.lit (.bool true)], args := [d] }
  | _ => none }
def filesCheckRow : OpenClaim := { program := "ytpbampchhpkpbaadoor", sum := "3401eb63ff71b2cda4a20eb33466e015298ba21861d507f263c00066566f26f8", func := "publisher/publisherlaw16.FilesCheck", spec := "filesCheck", inPlace := ["internal/bytealg.CountString", "internal/bytealg.IndexByteString", "internal/bytealg.IndexString", "internal/abi.NoEscape", "internal/bytealg.MakeNoZero"], named := ["unicode/utf8.first", "unicode/utf8.acceptRanges", "internal/bytealg.MaxLen"], apart := false, laid := [("unicode/utf8.acceptRanges", laid_unicode_utf8_acceptRanges), ("unicode/utf8.first", laid_unicode_utf8_first)] }
def FilesCheckSaid : Prop := filesCheckRow.holds Tryd.pinned (OpenSpec.ofChange filesCheckSpec)

/-- ITS FALSE NEIGHBOUR: 'it returns false'. Refute it at one input. -/
def filesCheckWrong : ChangeSpec := { name := "filesCheck", fn := fun _ => fun
  | [d] => { results := [.lit (.bool false)], args := [d] }
  | _ => none }
def FilesCheckWrongFalsely : Prop := filesCheckRow.holds Tryd.pinned (OpenSpec.ofChange filesCheckWrong)

/-- 'publisherlaw16.FilesLook': WHATEVER THE INPUT: true; the input reads as it did. -/
def filesLookSpec : ChangeSpec := { name := "filesLook", fn := fun _ => fun
  | [d1, d2, d3] => { results := [.lit (.bool true)], args := [d1, d2, d3] }
  | _ => none }
def filesLookRow : OpenClaim := { program := "ytpbampchhpkpbaadoor", sum := "3401eb63ff71b2cda4a20eb33466e015298ba21861d507f263c00066566f26f8", func := "publisher/publisherlaw16.FilesLook", spec := "filesLook", inPlace := ["internal/bytealg.CountString", "internal/bytealg.IndexByteString", "internal/bytealg.IndexString", "internal/abi.NoEscape", "internal/bytealg.MakeNoZero"], named := ["unicode/utf8.first", "unicode/utf8.acceptRanges", "internal/bytealg.MaxLen"], apart := false, laid := [("unicode/utf8.acceptRanges", laid_unicode_utf8_acceptRanges), ("unicode/utf8.first", laid_unicode_utf8_first)] }
def FilesLookSaid : Prop := filesLookRow.holds Tryd.pinned (OpenSpec.ofChange filesLookSpec)

/-- ITS FALSE NEIGHBOUR: 'it returns false'. Refute it at one input. -/
def filesLookWrong : ChangeSpec := { name := "filesLook", fn := fun _ => fun
  | [d1, d2, d3] => { results := [.lit (.bool false)], args := [d1, d2, d3] }
  | _ => none }
def FilesLookWrongFalsely : Prop := filesLookRow.holds Tryd.pinned (OpenSpec.ofChange filesLookWrong)

/-- 'publisherlaw16.FilesStay': WHATEVER THE INPUT: true; the input reads as it did. -/
def filesStaySpec : ChangeSpec := { name := "filesStay", fn := fun _ => fun
  | [d] => { results := [.lit (.bool true)], args := [d] }
  | _ => none }
def filesStayRow : OpenClaim := { program := "ytpbampchhpkpbaadoor", sum := "3401eb63ff71b2cda4a20eb33466e015298ba21861d507f263c00066566f26f8", func := "publisher/publisherlaw16.FilesStay", spec := "filesStay", inPlace := ["internal/bytealg.CountString", "internal/bytealg.IndexByteString", "internal/bytealg.IndexString", "internal/abi.NoEscape", "internal/bytealg.MakeNoZero"], named := ["unicode/utf8.first", "unicode/utf8.acceptRanges", "internal/bytealg.MaxLen"], apart := false, laid := [("unicode/utf8.acceptRanges", laid_unicode_utf8_acceptRanges), ("unicode/utf8.first", laid_unicode_utf8_first)] }
def FilesStaySaid : Prop := filesStayRow.holds Tryd.pinned (OpenSpec.ofChange filesStaySpec)

/-- ITS FALSE NEIGHBOUR: 'it returns false'. Refute it at one input. -/
def filesStayWrong : ChangeSpec := { name := "filesStay", fn := fun _ => fun
  | [d] => { results := [.lit (.bool false)], args := [d] }
  | _ => none }
def FilesStayWrongFalsely : Prop := filesStayRow.holds Tryd.pinned (OpenSpec.ofChange filesStayWrong)

/- THE SECOND FORM. 'bulk': how many values and letters a reading holds, each counted each time it is reached (what is shared counts as often as it is met; a slice's spare places count too). A statement '..UptoSaid' is the law's where the arguments, and the package variables that the reading takes, are together of bulk at most 1048576: NARROWER than '..Said'. Prove '..Said' where nothing that the law and all that it calls make is longer than what came in: it says more and counts as full. Else prove '..UptoSaid'. A law counts once. -/
mutual
def uptoBulk {H : Type} : DataW H → Nat
  | .lit (.string bytes) => bytes.length + 1
  | .lit _ => 1
  | .nil => 1
  | .ptr d => uptoBulk d + 1
  | .slice elems spare => uptoBulkAll elems + uptoBulkAll spare + 1
  | .agg parts => uptoBulkAll parts + 1
  | .iface _ d => uptoBulk d + 1
  | .map entries => uptoBulkEntries entries + 1
  | .held _ => 1
def uptoBulkAll {H : Type} : List (DataW H) → Nat
  | [] => 0
  | d :: r => uptoBulk d + uptoBulkAll r
def uptoBulkEntries {H : Type} : List (Lit × DataW H) → Nat
  | [] => 0
  | x :: r => uptoBulkEntry x + uptoBulkEntries r
def uptoBulkEntry {H : Type} : Lit × DataW H → Nat
  | (.string bytes, d) => bytes.length + uptoBulk d + 1
  | (_, d) => uptoBulk d + 1
 end
def uptoSmall : (H : Type) → List (DataW H) → Bool := fun _ ds => decide (uptoBulkAll ds ≤ 1048576)
def OpenSpec.upto (s : _root_.Go.ChangeSpec) : _root_.Go.OpenSpec := { _root_.Go.OpenSpec.ofChange s with cond := some uptoSmall }

/-- 'publisherlaw16.FilesClean', WHERE WHAT IT READS IS OF BULK AT MOST 1048576: true; the input reads as it did. -/
def filesCleanUptoRow : OpenClaim := { program := "ytpbampchhpkpbaadoor", sum := "3401eb63ff71b2cda4a20eb33466e015298ba21861d507f263c00066566f26f8", func := "publisher/publisherlaw16.FilesClean", spec := "filesClean", inPlace := ["internal/bytealg.CountString", "internal/bytealg.IndexByteString", "internal/bytealg.IndexString", "internal/abi.NoEscape", "internal/bytealg.MakeNoZero"], named := ["unicode/utf8.first", "unicode/utf8.acceptRanges", "internal/bytealg.MaxLen"], apart := false, laid := [("unicode/utf8.acceptRanges", laid_unicode_utf8_acceptRanges), ("unicode/utf8.first", laid_unicode_utf8_first)], narrowed := true }
def FilesCleanUptoSaid : Prop := filesCleanUptoRow.holds Tryd.pinned (OpenSpec.upto filesCleanSpec)

/-- 'publisherlaw16.FilesJoin', WHERE WHAT IT READS IS OF BULK AT MOST 1048576: true; the input reads as it did. -/
def filesJoinUptoRow : OpenClaim := { program := "ytpbampchhpkpbaadoor", sum := "3401eb63ff71b2cda4a20eb33466e015298ba21861d507f263c00066566f26f8", func := "publisher/publisherlaw16.FilesJoin", spec := "filesJoin", inPlace := ["internal/bytealg.CountString", "internal/bytealg.IndexByteString", "internal/bytealg.IndexString", "internal/abi.NoEscape", "internal/bytealg.MakeNoZero"], named := ["unicode/utf8.first", "unicode/utf8.acceptRanges", "internal/bytealg.MaxLen"], apart := false, laid := [("unicode/utf8.acceptRanges", laid_unicode_utf8_acceptRanges), ("unicode/utf8.first", laid_unicode_utf8_first)], narrowed := true }
def FilesJoinUptoSaid : Prop := filesJoinUptoRow.holds Tryd.pinned (OpenSpec.upto filesJoinSpec)

/-- 'publisherlaw16.FilesRelative', WHERE WHAT IT READS IS OF BULK AT MOST 1048576: true; the input reads as it did. -/
def filesRelativeUptoRow : OpenClaim := { program := "ytpbampchhpkpbaadoor", sum := "3401eb63ff71b2cda4a20eb33466e015298ba21861d507f263c00066566f26f8", func := "publisher/publisherlaw16.FilesRelative", spec := "filesRelative", inPlace := ["internal/bytealg.CountString", "internal/bytealg.IndexByteString", "internal/bytealg.IndexString", "internal/abi.NoEscape", "internal/bytealg.MakeNoZero"], named := ["unicode/utf8.first", "unicode/utf8.acceptRanges", "internal/bytealg.MaxLen"], apart := false, laid := [("unicode/utf8.acceptRanges", laid_unicode_utf8_acceptRanges), ("unicode/utf8.first", laid_unicode_utf8_first)], narrowed := true }
def FilesRelativeUptoSaid : Prop := filesRelativeUptoRow.holds Tryd.pinned (OpenSpec.upto filesRelativeSpec)

/-- 'publisherlaw16.FilesSplit', WHERE WHAT IT READS IS OF BULK AT MOST 1048576: true; the input reads as it did. -/
def filesSplitUptoRow : OpenClaim := { program := "ytpbampchhpkpbaadoor", sum := "3401eb63ff71b2cda4a20eb33466e015298ba21861d507f263c00066566f26f8", func := "publisher/publisherlaw16.FilesSplit", spec := "filesSplit", inPlace := ["internal/bytealg.CountString", "internal/bytealg.IndexByteString", "internal/bytealg.IndexString", "internal/abi.NoEscape", "internal/bytealg.MakeNoZero"], named := ["unicode/utf8.first", "unicode/utf8.acceptRanges", "internal/bytealg.MaxLen"], apart := false, laid := [("unicode/utf8.acceptRanges", laid_unicode_utf8_acceptRanges), ("unicode/utf8.first", laid_unicode_utf8_first)], narrowed := true }
def FilesSplitUptoSaid : Prop := filesSplitUptoRow.holds Tryd.pinned (OpenSpec.upto filesSplitSpec)

/-- 'publisherlaw16.FilesCheck', WHERE WHAT IT READS IS OF BULK AT MOST 1048576: true; the input reads as it did. -/
def filesCheckUptoRow : OpenClaim := { program := "ytpbampchhpkpbaadoor", sum := "3401eb63ff71b2cda4a20eb33466e015298ba21861d507f263c00066566f26f8", func := "publisher/publisherlaw16.FilesCheck", spec := "filesCheck", inPlace := ["internal/bytealg.CountString", "internal/bytealg.IndexByteString", "internal/bytealg.IndexString", "internal/abi.NoEscape", "internal/bytealg.MakeNoZero"], named := ["unicode/utf8.first", "unicode/utf8.acceptRanges", "internal/bytealg.MaxLen"], apart := false, laid := [("unicode/utf8.acceptRanges", laid_unicode_utf8_acceptRanges), ("unicode/utf8.first", laid_unicode_utf8_first)], narrowed := true }
def FilesCheckUptoSaid : Prop := filesCheckUptoRow.holds Tryd.pinned (OpenSpec.upto filesCheckSpec)

/-- 'publisherlaw16.FilesLook', WHERE WHAT IT READS IS OF BULK AT MOST 1048576: true; the input reads as it did. -/
def filesLookUptoRow : OpenClaim := { program := "ytpbampchhpkpbaadoor", sum := "3401eb63ff71b2cda4a20eb33466e015298ba21861d507f263c00066566f26f8", func := "publisher/publisherlaw16.FilesLook", spec := "filesLook", inPlace := ["internal/bytealg.CountString", "internal/bytealg.IndexByteString", "internal/bytealg.IndexString", "internal/abi.NoEscape", "internal/bytealg.MakeNoZero"], named := ["unicode/utf8.first", "unicode/utf8.acceptRanges", "internal/bytealg.MaxLen"], apart := false, laid := [("unicode/utf8.acceptRanges", laid_unicode_utf8_acceptRanges), ("unicode/utf8.first", laid_unicode_utf8_first)], narrowed := true }
def FilesLookUptoSaid : Prop := filesLookUptoRow.holds Tryd.pinned (OpenSpec.upto filesLookSpec)

/-- 'publisherlaw16.FilesStay', WHERE WHAT IT READS IS OF BULK AT MOST 1048576: true; the input reads as it did. -/
def filesStayUptoRow : OpenClaim := { program := "ytpbampchhpkpbaadoor", sum := "3401eb63ff71b2cda4a20eb33466e015298ba21861d507f263c00066566f26f8", func := "publisher/publisherlaw16.FilesStay", spec := "filesStay", inPlace := ["internal/bytealg.CountString", "internal/bytealg.IndexByteString", "internal/bytealg.IndexString", "internal/abi.NoEscape", "internal/bytealg.MakeNoZero"], named := ["unicode/utf8.first", "unicode/utf8.acceptRanges", "internal/bytealg.MaxLen"], apart := false, laid := [("unicode/utf8.acceptRanges", laid_unicode_utf8_acceptRanges), ("unicode/utf8.first", laid_unicode_utf8_first)], narrowed := true }
def FilesStayUptoSaid : Prop := filesStayUptoRow.holds Tryd.pinned (OpenSpec.upto filesStaySpec)

end Rows
end Go.Proofs.YtpbampchhpkpbaaDoor
