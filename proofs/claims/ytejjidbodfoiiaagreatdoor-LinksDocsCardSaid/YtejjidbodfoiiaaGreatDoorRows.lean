/-
  NARROWER THAN 'FOR EVERY INPUT', by the rows' own cells (each row's printed sentence says how): LinksOutside: laid · LinksDocs: loops, laid · LinksOthers: laid · LinksFiles: laid.
  DERIVED. THE GIVEN ROWS OF THIS SEAT. 4 by the template 'for every input the law returns true; each argument reads behind the call as it read before'; 0 by the template 'total and deterministic' (their statements: YtejjidbodfoiiaaGreatDoorTotals.lean).
  GIVEN WITH THE SEED: the statements are not yours to turn. If you find one false, say at which input.
  Laid BY PROGRAM, IN A SANDBOX (cutbox-rows.mjs): the forced cells as the released guide's own fill.sh prints them over the translation 2a2d0a3ba17cd8c8… (all of the seat's roots in one cut). By AI agents, Wed Nov 11 2026. No macro, syntax, notation, axiom, sorry.
-/
import Derived.Test.YtejjidbodfoiiaaGreatDoorChecked
import GoSem.PinnedTables
import GoSem.Claim
import GoSem.ClaimJoined
import GoSem.ClaimMapViews
import Derived.JoinedTies
import Derived.KernelRfl
namespace Go.Proofs.YtejjidbodfoiiaaGreatDoor
/- THE CELL 'sum', in the pinned program and in every row, IS THE sha256 OF THE DUMP (.gsa) THAT YtejjidbodfoiiaaGreatDoorProg.lean LOADS. Nothing in Lean hashes anything: it is a label: what it is worth is what the hold of that sum in a sandbox is worth. -/
noncomputable def Tryz.pinned : Pinned := { name := "ytejjidbodfoiiaagreatdoor", sum := "2a2d0a3ba17cd8c83c38c03232ccb086e555f544d4280bfcfd34b822ac15ebc1", checked := Tryz.checked }
namespace Rows
def none {H : Type} : Left H := { results := [], args := [] }

/- WHAT THE LISTED PACKAGE-LEVEL VARIABLES READ AS WHEN THE CALL BEGINS. Each datum BY PROGRAM (the guide's laid-datum.mjs) off the statement by which the dump's own 'gosem.cut.vars' lays the variable. In a bare row this is a premise. The card (YtejjidbodfoiiaaGreatDoorCards.lean) ties it to the program's text. -/
def laid_unicode_utf8_acceptRanges {H : Type} : DataW H := .agg [.agg [.lit (.int .u8 128), .lit (.int .u8 191)], .agg [.lit (.int .u8 160), .lit (.int .u8 191)], .agg [.lit (.int .u8 128), .lit (.int .u8 159)], .agg [.lit (.int .u8 144), .lit (.int .u8 191)], .agg [.lit (.int .u8 128), .lit (.int .u8 143)], .agg [.lit (.int .u8 0), .lit (.int .u8 0)], .agg [.lit (.int .u8 0), .lit (.int .u8 0)], .agg [.lit (.int .u8 0), .lit (.int .u8 0)], .agg [.lit (.int .u8 0), .lit (.int .u8 0)], .agg [.lit (.int .u8 0), .lit (.int .u8 0)], .agg [.lit (.int .u8 0), .lit (.int .u8 0)], .agg [.lit (.int .u8 0), .lit (.int .u8 0)], .agg [.lit (.int .u8 0), .lit (.int .u8 0)], .agg [.lit (.int .u8 0), .lit (.int .u8 0)], .agg [.lit (.int .u8 0), .lit (.int .u8 0)], .agg [.lit (.int .u8 0), .lit (.int .u8 0)]]
/-- One of Go's own tables, pinned by name: the form's constant. -/
def laid_unicode_utf8_first : DataW Unit := Go.Pinned.utf8First

/-- 'publisherlaw44.LinksOutside': WHATEVER THE INPUT: true; the input reads as it did. -/
def linksOutsideSpec : ChangeSpec := { name := "linksOutside", fn := fun _ => fun
  | [d] => { results := [.lit (.bool true)], args := [d] }
  | _ => none }
def linksOutsideRow : OpenClaim := { program := "ytejjidbodfoiiaagreatdoor", sum := "2a2d0a3ba17cd8c83c38c03232ccb086e555f544d4280bfcfd34b822ac15ebc1", func := "publisher/publisherlaw44.LinksOutside", spec := "linksOutside", inPlace := ["internal/abi.NoEscape", "internal/bytealg.IndexByteString", "internal/bytealg.IndexString", "internal/bytealg.CountString", "internal/bytealg.MakeNoZero"], unfollowed := true, recurses := true, named := ["internal/bytealg.MaxLen", "unicode/utf8.first", "unicode/utf8.acceptRanges"], apart := false, laid := [("unicode/utf8.acceptRanges", laid_unicode_utf8_acceptRanges), ("unicode/utf8.first", laid_unicode_utf8_first)] }
def LinksOutsideSaid : Prop := linksOutsideRow.holds Tryz.pinned (OpenSpec.ofChange linksOutsideSpec)

/-- ITS FALSE NEIGHBOUR: 'it returns false'. Refute it at one input. -/
def linksOutsideWrong : ChangeSpec := { name := "linksOutside", fn := fun _ => fun
  | [d] => { results := [.lit (.bool false)], args := [d] }
  | _ => none }
def LinksOutsideWrongFalsely : Prop := linksOutsideRow.holds Tryz.pinned (OpenSpec.ofChange linksOutsideWrong)

/-- 'publisherlaw44.LinksDocs': WHATEVER THE INPUT: true; the input reads as it did. -/
def linksDocsSpec : ChangeSpec := { name := "linksDocs", fn := fun _ => fun
  | [d] => { results := [.lit (.bool true)], args := [d] }
  | _ => none }
def linksDocsRow : OpenClaim := { program := "ytejjidbodfoiiaagreatdoor", sum := "2a2d0a3ba17cd8c83c38c03232ccb086e555f544d4280bfcfd34b822ac15ebc1", func := "publisher/publisherlaw44.LinksDocs", spec := "linksDocs", inPlace := ["internal/abi.NoEscape", "internal/bytealg.IndexByteString", "internal/bytealg.IndexString", "internal/bytealg.CountString", "internal/bytealg.MakeNoZero"], unfollowed := true, recurses := true, named := ["internal/bytealg.MaxLen", "unicode/utf8.first", "unicode/utf8.acceptRanges"], loops := true, apart := false, laid := [("unicode/utf8.acceptRanges", laid_unicode_utf8_acceptRanges), ("unicode/utf8.first", laid_unicode_utf8_first)] }
def LinksDocsSaid : Prop := linksDocsRow.holds Tryz.pinned (OpenSpec.ofChange linksDocsSpec)

/-- ITS FALSE NEIGHBOUR: 'it returns false'. Refute it at one input. -/
def linksDocsWrong : ChangeSpec := { name := "linksDocs", fn := fun _ => fun
  | [d] => { results := [.lit (.bool false)], args := [d] }
  | _ => none }
def LinksDocsWrongFalsely : Prop := linksDocsRow.holds Tryz.pinned (OpenSpec.ofChange linksDocsWrong)

/-- 'publisherlaw44.LinksOthers': WHATEVER THE INPUT: true; the input reads as it did. -/
def linksOthersSpec : ChangeSpec := { name := "linksOthers", fn := fun _ => fun
  | [d1, d2] => { results := [.lit (.bool true)], args := [d1, d2] }
  | _ => none }
def linksOthersRow : OpenClaim := { program := "ytejjidbodfoiiaagreatdoor", sum := "2a2d0a3ba17cd8c83c38c03232ccb086e555f544d4280bfcfd34b822ac15ebc1", func := "publisher/publisherlaw44.LinksOthers", spec := "linksOthers", inPlace := ["internal/abi.NoEscape", "internal/bytealg.IndexByteString", "internal/bytealg.IndexString", "internal/bytealg.CountString", "internal/bytealg.MakeNoZero"], unfollowed := true, recurses := true, named := ["internal/bytealg.MaxLen", "unicode/utf8.first", "unicode/utf8.acceptRanges"], apart := false, laid := [("unicode/utf8.acceptRanges", laid_unicode_utf8_acceptRanges), ("unicode/utf8.first", laid_unicode_utf8_first)] }
def LinksOthersSaid : Prop := linksOthersRow.holds Tryz.pinned (OpenSpec.ofChange linksOthersSpec)

/-- ITS FALSE NEIGHBOUR: 'it returns false'. Refute it at one input. -/
def linksOthersWrong : ChangeSpec := { name := "linksOthers", fn := fun _ => fun
  | [d1, d2] => { results := [.lit (.bool false)], args := [d1, d2] }
  | _ => none }
def LinksOthersWrongFalsely : Prop := linksOthersRow.holds Tryz.pinned (OpenSpec.ofChange linksOthersWrong)

/-- 'publisherlaw44.LinksFiles': WHATEVER THE INPUT: true; the input reads as it did. -/
def linksFilesSpec : ChangeSpec := { name := "linksFiles", fn := fun _ => fun
  | [d1, d2, d3] => { results := [.lit (.bool true)], args := [d1, d2, d3] }
  | _ => none }
def linksFilesRow : OpenClaim := { program := "ytejjidbodfoiiaagreatdoor", sum := "2a2d0a3ba17cd8c83c38c03232ccb086e555f544d4280bfcfd34b822ac15ebc1", func := "publisher/publisherlaw44.LinksFiles", spec := "linksFiles", inPlace := ["internal/abi.NoEscape", "internal/bytealg.IndexByteString", "internal/bytealg.IndexString", "internal/bytealg.CountString", "internal/bytealg.MakeNoZero"], unfollowed := true, recurses := true, named := ["internal/bytealg.MaxLen", "unicode/utf8.first", "unicode/utf8.acceptRanges"], apart := false, laid := [("unicode/utf8.acceptRanges", laid_unicode_utf8_acceptRanges), ("unicode/utf8.first", laid_unicode_utf8_first)] }
def LinksFilesSaid : Prop := linksFilesRow.holds Tryz.pinned (OpenSpec.ofChange linksFilesSpec)

/-- ITS FALSE NEIGHBOUR: 'it returns false'. Refute it at one input. -/
def linksFilesWrong : ChangeSpec := { name := "linksFiles", fn := fun _ => fun
  | [d1, d2, d3] => { results := [.lit (.bool false)], args := [d1, d2, d3] }
  | _ => none }
def LinksFilesWrongFalsely : Prop := linksFilesRow.holds Tryz.pinned (OpenSpec.ofChange linksFilesWrong)

/- THE SECOND FORM. 'bulk': how many values and letters a reading holds, each counted each time it is reached (what is shared counts as often as it is met; a slice's spare places count too). A statement '..UptoSaid' is the law's where the arguments, and the package variables that the reading takes, are together of bulk at most 1048576: NARROWER than '..Said'. Prove '..Said' where nothing that the law and all that it calls make is longer than what came in: it says more and counts as full. Else prove '..UptoSaid'. A law counts once. -/
mutual
def uptoBulk {H : Type} : DataW H → Nat
  | .lit (.string bytes) => bytes.length + 1
  | .lit _ => 1
  | .nil => 1
  | .ptr d => uptoBulk d + 1
  | .slice elems spare => uptoBulkAll elems + uptoBulkAll spare + 1
  | .agg parts => uptoBulkAll parts + 1
  | .iface _ d => uptoBulk d + 1
  | .map entries => uptoBulkEntries entries + 1
  | .held _ => 1
def uptoBulkAll {H : Type} : List (DataW H) → Nat
  | [] => 0
  | d :: r => uptoBulk d + uptoBulkAll r
def uptoBulkEntries {H : Type} : List (Lit × DataW H) → Nat
  | [] => 0
  | x :: r => uptoBulkEntry x + uptoBulkEntries r
def uptoBulkEntry {H : Type} : Lit × DataW H → Nat
  | (.string bytes, d) => bytes.length + uptoBulk d + 1
  | (_, d) => uptoBulk d + 1
 end
def uptoSmall : (H : Type) → List (DataW H) → Bool := fun _ ds => decide (uptoBulkAll ds ≤ 1048576)
def OpenSpec.upto (s : _root_.Go.ChangeSpec) : _root_.Go.OpenSpec := { _root_.Go.OpenSpec.ofChange s with cond := some uptoSmall }

/-- 'publisherlaw44.LinksOutside', WHERE WHAT IT READS IS OF BULK AT MOST 1048576: true; the input reads as it did. -/
def linksOutsideUptoRow : OpenClaim := { program := "ytejjidbodfoiiaagreatdoor", sum := "2a2d0a3ba17cd8c83c38c03232ccb086e555f544d4280bfcfd34b822ac15ebc1", func := "publisher/publisherlaw44.LinksOutside", spec := "linksOutside", inPlace := ["internal/abi.NoEscape", "internal/bytealg.IndexByteString", "internal/bytealg.IndexString", "internal/bytealg.CountString", "internal/bytealg.MakeNoZero"], unfollowed := true, recurses := true, named := ["internal/bytealg.MaxLen", "unicode/utf8.first", "unicode/utf8.acceptRanges"], apart := false, laid := [("unicode/utf8.acceptRanges", laid_unicode_utf8_acceptRanges), ("unicode/utf8.first", laid_unicode_utf8_first)], narrowed := true }
def LinksOutsideUptoSaid : Prop := linksOutsideUptoRow.holds Tryz.pinned (OpenSpec.upto linksOutsideSpec)

/-- 'publisherlaw44.LinksDocs', WHERE WHAT IT READS IS OF BULK AT MOST 1048576: true; the input reads as it did. -/
def linksDocsUptoRow : OpenClaim := { program := "ytejjidbodfoiiaagreatdoor", sum := "2a2d0a3ba17cd8c83c38c03232ccb086e555f544d4280bfcfd34b822ac15ebc1", func := "publisher/publisherlaw44.LinksDocs", spec := "linksDocs", inPlace := ["internal/abi.NoEscape", "internal/bytealg.IndexByteString", "internal/bytealg.IndexString", "internal/bytealg.CountString", "internal/bytealg.MakeNoZero"], unfollowed := true, recurses := true, named := ["internal/bytealg.MaxLen", "unicode/utf8.first", "unicode/utf8.acceptRanges"], loops := true, apart := false, laid := [("unicode/utf8.acceptRanges", laid_unicode_utf8_acceptRanges), ("unicode/utf8.first", laid_unicode_utf8_first)], narrowed := true }
def LinksDocsUptoSaid : Prop := linksDocsUptoRow.holds Tryz.pinned (OpenSpec.upto linksDocsSpec)

/-- 'publisherlaw44.LinksOthers', WHERE WHAT IT READS IS OF BULK AT MOST 1048576: true; the input reads as it did. -/
def linksOthersUptoRow : OpenClaim := { program := "ytejjidbodfoiiaagreatdoor", sum := "2a2d0a3ba17cd8c83c38c03232ccb086e555f544d4280bfcfd34b822ac15ebc1", func := "publisher/publisherlaw44.LinksOthers", spec := "linksOthers", inPlace := ["internal/abi.NoEscape", "internal/bytealg.IndexByteString", "internal/bytealg.IndexString", "internal/bytealg.CountString", "internal/bytealg.MakeNoZero"], unfollowed := true, recurses := true, named := ["internal/bytealg.MaxLen", "unicode/utf8.first", "unicode/utf8.acceptRanges"], apart := false, laid := [("unicode/utf8.acceptRanges", laid_unicode_utf8_acceptRanges), ("unicode/utf8.first", laid_unicode_utf8_first)], narrowed := true }
def LinksOthersUptoSaid : Prop := linksOthersUptoRow.holds Tryz.pinned (OpenSpec.upto linksOthersSpec)

/-- 'publisherlaw44.LinksFiles', WHERE WHAT IT READS IS OF BULK AT MOST 1048576: true; the input reads as it did. -/
def linksFilesUptoRow : OpenClaim := { program := "ytejjidbodfoiiaagreatdoor", sum := "2a2d0a3ba17cd8c83c38c03232ccb086e555f544d4280bfcfd34b822ac15ebc1", func := "publisher/publisherlaw44.LinksFiles", spec := "linksFiles", inPlace := ["internal/abi.NoEscape", "internal/bytealg.IndexByteString", "internal/bytealg.IndexString", "internal/bytealg.CountString", "internal/bytealg.MakeNoZero"], unfollowed := true, recurses := true, named := ["internal/bytealg.MaxLen", "unicode/utf8.first", "unicode/utf8.acceptRanges"], apart := false, laid := [("unicode/utf8.acceptRanges", laid_unicode_utf8_acceptRanges), ("unicode/utf8.first", laid_unicode_utf8_first)], narrowed := true }
def LinksFilesUptoSaid : Prop := linksFilesUptoRow.holds Tryz.pinned (OpenSpec.upto linksFilesSpec)

end Rows
end Go.Proofs.YtejjidbodfoiiaaGreatDoor
