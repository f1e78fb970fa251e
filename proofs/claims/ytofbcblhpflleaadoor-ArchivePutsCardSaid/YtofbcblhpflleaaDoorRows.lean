/-
  NARROWER THAN 'FOR EVERY INPUT', by the rows' own cells (each row's printed sentence says how): ArchiveSums: laid · ArchivePuts: laid · ArchiveCuts: laid · ArchiveSpoils: laid · ArchiveLinear: laid · ArchiveReturns: laid.
  DERIVED. THE GIVEN ROWS OF THIS SEAT. 6 by the template 'for every input the law returns true; each argument reads behind the call as it read before'; 0 by the template 'total and deterministic' (their statements: YtofbcblhpflleaaDoorTotals.lean).
  GIVEN WITH THE SEED: the statements are not yours to turn. If you find one false, say at which input.
  Laid BY PROGRAM, IN A SANDBOX (cutbox-rows.mjs): the forced cells as the released guide's own fill.sh prints them over the translation 22cddb6c118363ca… (all of the seat's roots in one cut). By AI agents, Wed Nov 11 2026. No macro, syntax, notation, axiom, sorry.
-/
import Derived.Test.YtofbcblhpflleaaDoorChecked
import GoSem.PinnedTables
import GoSem.Claim
import GoSem.ClaimJoined
import GoSem.ClaimMapViews
import Derived.JoinedTies
import Derived.KernelRfl
namespace Go.Proofs.YtofbcblhpflleaaDoor
/- THE CELL 'sum', in the pinned program and in every row, IS THE sha256 OF THE DUMP (.gsa) THAT YtofbcblhpflleaaDoorProg.lean LOADS. Nothing in Lean hashes anything: it is a label: what it is worth is what the hold of that sum in a sandbox is worth. -/
noncomputable def Tryd.pinned : Pinned := { name := "ytofbcblhpflleaadoor", sum := "22cddb6c118363ca22ecb4fde0251af0a6eff58d4b82525c88711ff6077d0e51", checked := Tryd.checked }
namespace Rows
def none {H : Type} : Left H := { results := [], args := [] }

/- WHAT THE LISTED PACKAGE-LEVEL VARIABLES READ AS WHEN THE CALL BEGINS. Each datum BY PROGRAM (the guide's laid-datum.mjs) off the statement by which the dump's own 'gosem.cut.vars' lays the variable. In a bare row this is a premise. The card (YtofbcblhpflleaaDoorCards.lean) ties it to the program's text. -/
def laid_unicode_utf8_acceptRanges {H : Type} : DataW H := .agg [.agg [.lit (.int .u8 128), .lit (.int .u8 191)], .agg [.lit (.int .u8 160), .lit (.int .u8 191)], .agg [.lit (.int .u8 128), .lit (.int .u8 159)], .agg [.lit (.int .u8 144), .lit (.int .u8 191)], .agg [.lit (.int .u8 128), .lit (.int .u8 143)], .agg [.lit (.int .u8 0), .lit (.int .u8 0)], .agg [.lit (.int .u8 0), .lit (.int .u8 0)], .agg [.lit (.int .u8 0), .lit (.int .u8 0)], .agg [.lit (.int .u8 0), .lit (.int .u8 0)], .agg [.lit (.int .u8 0), .lit (.int .u8 0)], .agg [.lit (.int .u8 0), .lit (.int .u8 0)], .agg [.lit (.int .u8 0), .lit (.int .u8 0)], .agg [.lit (.int .u8 0), .lit (.int .u8 0)], .agg [.lit (.int .u8 0), .lit (.int .u8 0)], .agg [.lit (.int .u8 0), .lit (.int .u8 0)], .agg [.lit (.int .u8 0), .lit (.int .u8 0)]]
/-- One of Go's own tables, pinned by name: the form's constant. -/
def laid_unicode_utf8_first : DataW Unit := Go.Pinned.utf8First

/-- 'publisherlaw35.ArchiveSums': WHATEVER THE INPUT: true; the input reads as it did. -/
def archiveSumsSpec : ChangeSpec := { name := "archiveSums", fn := fun _ => fun
  | [d] => { results := [.lit (.bool true)], args := [d] }
  | _ => none }
def archiveSumsRow : OpenClaim := { program := "ytofbcblhpflleaadoor", sum := "22cddb6c118363ca22ecb4fde0251af0a6eff58d4b82525c88711ff6077d0e51", func := "publisher/publisherlaw35.ArchiveSums", spec := "archiveSums", inPlace := ["internal/bytealg.CountString", "internal/bytealg.IndexByteString", "internal/bytealg.IndexString", "internal/abi.NoEscape", "internal/bytealg.MakeNoZero"], named := ["unicode/utf8.first", "unicode/utf8.acceptRanges", "internal/bytealg.MaxLen"], apart := false, laid := [("unicode/utf8.acceptRanges", laid_unicode_utf8_acceptRanges), ("unicode/utf8.first", laid_unicode_utf8_first)] }
def ArchiveSumsSaid : Prop := archiveSumsRow.holds Tryd.pinned (OpenSpec.ofChange archiveSumsSpec)

/-- ITS FALSE NEIGHBOUR: 'it returns false'. Refute it at one input. -/
def archiveSumsWrong : ChangeSpec := { name := "archiveSums", fn := fun _ => fun
  | [d] => { results := [.lit (.bool false)], args := [d] }
  | _ => none }
def ArchiveSumsWrongFalsely : Prop := archiveSumsRow.holds Tryd.pinned (OpenSpec.ofChange archiveSumsWrong)

/-- 'publisherlaw35.ArchivePuts': WHATEVER THE INPUT: true; the input reads as it did. -/
def archivePutsSpec : ChangeSpec := { name := "archivePuts", fn := fun _ => fun
  | [d] => { results := [.lit (.bool true)], args := [d] }
  | _ => none }
def archivePutsRow : OpenClaim := { program := "ytofbcblhpflleaadoor", sum := "22cddb6c118363ca22ecb4fde0251af0a6eff58d4b82525c88711ff6077d0e51", func := "publisher/publisherlaw35.ArchivePuts", spec := "archivePuts", inPlace := ["internal/bytealg.CountString", "internal/bytealg.IndexByteString", "internal/bytealg.IndexString", "internal/abi.NoEscape", "internal/bytealg.MakeNoZero"], named := ["unicode/utf8.first", "unicode/utf8.acceptRanges", "internal/bytealg.MaxLen"], apart := false, laid := [("unicode/utf8.acceptRanges", laid_unicode_utf8_acceptRanges), ("unicode/utf8.first", laid_unicode_utf8_first)] }
def ArchivePutsSaid : Prop := archivePutsRow.holds Tryd.pinned (OpenSpec.ofChange archivePutsSpec)

/-- ITS FALSE NEIGHBOUR: 'it returns false'. Refute it at one input. -/
def archivePutsWrong : ChangeSpec := { name := "archivePuts", fn := fun _ => fun
  | [d] => { results := [.lit (.bool false)], args := [d] }
  | _ => none }
def ArchivePutsWrongFalsely : Prop := archivePutsRow.holds Tryd.pinned (OpenSpec.ofChange archivePutsWrong)

/-- 'publisherlaw35.ArchiveCuts': WHATEVER THE INPUT: true; the input reads as it did. -/
def archiveCutsSpec : ChangeSpec := { name := "archiveCuts", fn := fun _ => fun
  | [d1, d2] => { results := [.lit (.bool true)], args := [d1, d2] }
  | _ => none }
def archiveCutsRow : OpenClaim := { program := "ytofbcblhpflleaadoor", sum := "22cddb6c118363ca22ecb4fde0251af0a6eff58d4b82525c88711ff6077d0e51", func := "publisher/publisherlaw35.ArchiveCuts", spec := "archiveCuts", inPlace := ["internal/bytealg.CountString", "internal/bytealg.IndexByteString", "internal/bytealg.IndexString", "internal/abi.NoEscape", "internal/bytealg.MakeNoZero"], named := ["unicode/utf8.first", "unicode/utf8.acceptRanges", "internal/bytealg.MaxLen"], apart := false, laid := [("unicode/utf8.acceptRanges", laid_unicode_utf8_acceptRanges), ("unicode/utf8.first", laid_unicode_utf8_first)] }
def ArchiveCutsSaid : Prop := archiveCutsRow.holds Tryd.pinned (OpenSpec.ofChange archiveCutsSpec)

/-- ITS FALSE NEIGHBOUR: 'it returns false'. Refute it at one input. -/
def archiveCutsWrong : ChangeSpec := { name := "archiveCuts", fn := fun _ => fun
  | [d1, d2] => { results := [.lit (.bool false)], args := [d1, d2] }
  | _ => none }
def ArchiveCutsWrongFalsely : Prop := archiveCutsRow.holds Tryd.pinned (OpenSpec.ofChange archiveCutsWrong)

/-- 'publisherlaw35.ArchiveSpoils': WHATEVER THE INPUT: true; the input reads as it did. -/
def archiveSpoilsSpec : ChangeSpec := { name := "archiveSpoils", fn := fun _ => fun
  | [d1, d2, d3, d4] => { results := [.lit (.bool true)], args := [d1, d2, d3, d4] }
  | _ => none }
def archiveSpoilsRow : OpenClaim := { program := "ytofbcblhpflleaadoor", sum := "22cddb6c118363ca22ecb4fde0251af0a6eff58d4b82525c88711ff6077d0e51", func := "publisher/publisherlaw35.ArchiveSpoils", spec := "archiveSpoils", inPlace := ["internal/bytealg.CountString", "internal/bytealg.IndexByteString", "internal/bytealg.IndexString", "internal/abi.NoEscape", "internal/bytealg.MakeNoZero"], named := ["unicode/utf8.first", "unicode/utf8.acceptRanges", "internal/bytealg.MaxLen"], apart := false, laid := [("unicode/utf8.acceptRanges", laid_unicode_utf8_acceptRanges), ("unicode/utf8.first", laid_unicode_utf8_first)] }
def ArchiveSpoilsSaid : Prop := archiveSpoilsRow.holds Tryd.pinned (OpenSpec.ofChange archiveSpoilsSpec)

/-- ITS FALSE NEIGHBOUR: 'it returns false'. Refute it at one input. -/
def archiveSpoilsWrong : ChangeSpec := { name := "archiveSpoils", fn := fun _ => fun
  | [d1, d2, d3, d4] => { results := [.lit (.bool false)], args := [d1, d2, d3, d4] }
  | _ => none }
def ArchiveSpoilsWrongFalsely : Prop := archiveSpoilsRow.holds Tryd.pinned (OpenSpec.ofChange archiveSpoilsWrong)

/-- 'publisherlaw35.ArchiveLinear': WHATEVER THE INPUT: true; the input reads as it did. -/
def archiveLinearSpec : ChangeSpec := { name := "archiveLinear", fn := fun _ => fun
  | [d1, d2, d3] => { results := [.lit (.bool true)], args := [d1, d2, d3] }
  | _ => none }
def archiveLinearRow : OpenClaim := { program := "ytofbcblhpflleaadoor", sum := "22cddb6c118363ca22ecb4fde0251af0a6eff58d4b82525c88711ff6077d0e51", func := "publisher/publisherlaw35.ArchiveLinear", spec := "archiveLinear", inPlace := ["internal/bytealg.CountString", "internal/bytealg.IndexByteString", "internal/bytealg.IndexString", "internal/abi.NoEscape", "internal/bytealg.MakeNoZero"], named := ["unicode/utf8.first", "unicode/utf8.acceptRanges", "internal/bytealg.MaxLen"], apart := false, laid := [("unicode/utf8.acceptRanges", laid_unicode_utf8_acceptRanges), ("unicode/utf8.first", laid_unicode_utf8_first)] }
def ArchiveLinearSaid : Prop := archiveLinearRow.holds Tryd.pinned (OpenSpec.ofChange archiveLinearSpec)

/-- ITS FALSE NEIGHBOUR: 'it returns false'. Refute it at one input. -/
def archiveLinearWrong : ChangeSpec := { name := "archiveLinear", fn := fun _ => fun
  | [d1, d2, d3] => { results := [.lit (.bool false)], args := [d1, d2, d3] }
  | _ => none }
def ArchiveLinearWrongFalsely : Prop := archiveLinearRow.holds Tryd.pinned (OpenSpec.ofChange archiveLinearWrong)

/-- 'publisherlaw35.ArchiveReturns': WHATEVER THE INPUT: true; the input reads as it did. -/
def archiveReturnsSpec : ChangeSpec := { name := "archiveReturns", fn := fun _ => fun
  | [d1, d2] => { results := [.lit (.bool true)], args := [d1, d2] }
  | _ => none }
def archiveReturnsRow : OpenClaim := { program := "ytofbcblhpflleaadoor", sum := "22cddb6c118363ca22ecb4fde0251af0a6eff58d4b82525c88711ff6077d0e51", func := "publisher/publisherlaw35.ArchiveReturns", spec := "archiveReturns", inPlace := ["internal/bytealg.CountString", "internal/bytealg.IndexByteString", "internal/bytealg.IndexString", "internal/abi.NoEscape", "internal/bytealg.MakeNoZero"], named := ["unicode/utf8.first", "unicode/utf8.acceptRanges", "internal/bytealg.MaxLen"], apart := false, laid := [("unicode/utf8.acceptRanges", laid_unicode_utf8_acceptRanges), ("unicode/utf8.first", laid_unicode_utf8_first)] }
def ArchiveReturnsSaid : Prop := archiveReturnsRow.holds Tryd.pinned (OpenSpec.ofChange archiveReturnsSpec)

/-- ITS FALSE NEIGHBOUR: 'it returns false'. Refute it at one input. -/
def archiveReturnsWrong : ChangeSpec := { name := "archiveReturns", fn := fun _ => fun
  | [d1, d2] => { results := [.lit (.bool false)], args := [d1, d2] }
  | _ => none }
def ArchiveReturnsWrongFalsely : Prop := archiveReturnsRow.holds Tryd.pinned (OpenSpec.ofChange archiveReturnsWrong)

/- THE SECOND FORM. 'bulk': how many values and letters a reading holds, each counted each time it is reached (what is shared counts as often as it is met; a slice's spare places count too). A statement '..UptoSaid' is the law's where the arguments, and the package variables that the reading takes, are together of bulk at most 1048576: NARROWER than '..Said'. Prove '..Said' where nothing that the law and all that it calls make is longer than what came in: it says more and counts as full. Else prove '..UptoSaid'. A law counts once. -/
mutual
def uptoBulk {H : Type} : DataW H → Nat
  | .lit (.string bytes) => bytes.length + 1
  | .lit _ => 1
  | .nil => 1
  | .ptr d => uptoBulk d + 1
  | .slice elems spare => uptoBulkAll elems + uptoBulkAll spare + 1
  | .agg parts => uptoBulkAll parts + 1
  | .iface _ d => uptoBulk d + 1
  | .map entries => uptoBulkEntries entries + 1
  | .held _ => 1
def uptoBulkAll {H : Type} : List (DataW H) → Nat
  | [] => 0
  | d :: r => uptoBulk d + uptoBulkAll r
def uptoBulkEntries {H : Type} : List (Lit × DataW H) → Nat
  | [] => 0
  | x :: r => uptoBulkEntry x + uptoBulkEntries r
def uptoBulkEntry {H : Type} : Lit × DataW H → Nat
  | (.string bytes, d) => bytes.length + uptoBulk d + 1
  | (_, d) => uptoBulk d + 1
 end
def uptoSmall : (H : Type) → List (DataW H) → Bool := fun _ ds => decide (uptoBulkAll ds ≤ 1048576)
def OpenSpec.upto (s : _root_.Go.ChangeSpec) : _root_.Go.OpenSpec := { _root_.Go.OpenSpec.ofChange s with cond := some uptoSmall }

/-- 'publisherlaw35.ArchiveSums', WHERE WHAT IT READS IS OF BULK AT MOST 1048576: true; the input reads as it did. -/
def archiveSumsUptoRow : OpenClaim := { program := "ytofbcblhpflleaadoor", sum := "22cddb6c118363ca22ecb4fde0251af0a6eff58d4b82525c88711ff6077d0e51", func := "publisher/publisherlaw35.ArchiveSums", spec := "archiveSums", inPlace := ["internal/bytealg.CountString", "internal/bytealg.IndexByteString", "internal/bytealg.IndexString", "internal/abi.NoEscape", "internal/bytealg.MakeNoZero"], named := ["unicode/utf8.first", "unicode/utf8.acceptRanges", "internal/bytealg.MaxLen"], apart := false, laid := [("unicode/utf8.acceptRanges", laid_unicode_utf8_acceptRanges), ("unicode/utf8.first", laid_unicode_utf8_first)], narrowed := true }
def ArchiveSumsUptoSaid : Prop := archiveSumsUptoRow.holds Tryd.pinned (OpenSpec.upto archiveSumsSpec)

/-- 'publisherlaw35.ArchivePuts', WHERE WHAT IT READS IS OF BULK AT MOST 1048576: true; the input reads as it did. -/
def archivePutsUptoRow : OpenClaim := { program := "ytofbcblhpflleaadoor", sum := "22cddb6c118363ca22ecb4fde0251af0a6eff58d4b82525c88711ff6077d0e51", func := "publisher/publisherlaw35.ArchivePuts", spec := "archivePuts", inPlace := ["internal/bytealg.CountString", "internal/bytealg.IndexByteString", "internal/bytealg.IndexString", "internal/abi.NoEscape", "internal/bytealg.MakeNoZero"], named := ["unicode/utf8.first", "unicode/utf8.acceptRanges", "internal/bytealg.MaxLen"], apart := false, laid := [("unicode/utf8.acceptRanges", laid_unicode_utf8_acceptRanges), ("unicode/utf8.first", laid_unicode_utf8_first)], narrowed := true }
def ArchivePutsUptoSaid : Prop := archivePutsUptoRow.holds Tryd.pinned (OpenSpec.upto archivePutsSpec)

/-- 'publisherlaw35.ArchiveCuts', WHERE WHAT IT READS IS OF BULK AT MOST 1048576: true; the input reads as it did. -/
def archiveCutsUptoRow : OpenClaim := { program := "ytofbcblhpflleaadoor", sum := "22cddb6c118363ca22ecb4fde0251af0a6eff58d4b82525c88711ff6077d0e51", func := "publisher/publisherlaw35.ArchiveCuts", spec := "archiveCuts", inPlace := ["internal/bytealg.CountString", "internal/bytealg.IndexByteString", "internal/bytealg.IndexString", "internal/abi.NoEscape", "internal/bytealg.MakeNoZero"], named := ["unicode/utf8.first", "unicode/utf8.acceptRanges", "internal/bytealg.MaxLen"], apart := false, laid := [("unicode/utf8.acceptRanges", laid_unicode_utf8_acceptRanges), ("unicode/utf8.first", laid_unicode_utf8_first)], narrowed := true }
def ArchiveCutsUptoSaid : Prop := archiveCutsUptoRow.holds Tryd.pinned (OpenSpec.upto archiveCutsSpec)

/-- 'publisherlaw35.ArchiveSpoils', WHERE WHAT IT READS IS OF BULK AT MOST 1048576: true; the input reads as it did. -/
def archiveSpoilsUptoRow : OpenClaim := { program := "ytofbcblhpflleaadoor", sum := "22cddb6c118363ca22ecb4fde0251af0a6eff58d4b82525c88711ff6077d0e51", func := "publisher/publisherlaw35.ArchiveSpoils", spec := "archiveSpoils", inPlace := ["internal/bytealg.CountString", "internal/bytealg.IndexByteString", "internal/bytealg.IndexString", "internal/abi.NoEscape", "internal/bytealg.MakeNoZero"], named := ["unicode/utf8.first", "unicode/utf8.acceptRanges", "internal/bytealg.MaxLen"], apart := false, laid := [("unicode/utf8.acceptRanges", laid_unicode_utf8_acceptRanges), ("unicode/utf8.first", laid_unicode_utf8_first)], narrowed := true }
def ArchiveSpoilsUptoSaid : Prop := archiveSpoilsUptoRow.holds Tryd.pinned (OpenSpec.upto archiveSpoilsSpec)

/-- 'publisherlaw35.ArchiveLinear', WHERE WHAT IT READS IS OF BULK AT MOST 1048576: true; the input reads as it did. -/
def archiveLinearUptoRow : OpenClaim := { program := "ytofbcblhpflleaadoor", sum := "22cddb6c118363ca22ecb4fde0251af0a6eff58d4b82525c88711ff6077d0e51", func := "publisher/publisherlaw35.ArchiveLinear", spec := "archiveLinear", inPlace := ["internal/bytealg.CountString", "internal/bytealg.IndexByteString", "internal/bytealg.IndexString", "internal/abi.NoEscape", "internal/bytealg.MakeNoZero"], named := ["unicode/utf8.first", "unicode/utf8.acceptRanges", "internal/bytealg.MaxLen"], apart := false, laid := [("unicode/utf8.acceptRanges", laid_unicode_utf8_acceptRanges), ("unicode/utf8.first", laid_unicode_utf8_first)], narrowed := true }
def ArchiveLinearUptoSaid : Prop := archiveLinearUptoRow.holds Tryd.pinned (OpenSpec.upto archiveLinearSpec)

/-- 'publisherlaw35.ArchiveReturns', WHERE WHAT IT READS IS OF BULK AT MOST 1048576: true; the input reads as it did. -/
def archiveReturnsUptoRow : OpenClaim := { program := "ytofbcblhpflleaadoor", sum := "22cddb6c118363ca22ecb4fde0251af0a6eff58d4b82525c88711ff6077d0e51", func := "publisher/publisherlaw35.ArchiveReturns", spec := "archiveReturns", inPlace := ["internal/bytealg.CountString", "internal/bytealg.IndexByteString", "internal/bytealg.IndexString", "internal/abi.NoEscape", "internal/bytealg.MakeNoZero"], named := ["unicode/utf8.first", "unicode/utf8.acceptRanges", "internal/bytealg.MaxLen"], apart := false, laid := [("unicode/utf8.acceptRanges", laid_unicode_utf8_acceptRanges), ("unicode/utf8.first", laid_unicode_utf8_first)], narrowed := true }
def ArchiveReturnsUptoSaid : Prop := archiveReturnsUptoRow.holds Tryd.pinned (OpenSpec.upto archiveReturnsSpec)

end Rows
end Go.Proofs.YtofbcblhpflleaaDoor
