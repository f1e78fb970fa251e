/-
  DERIVED. GIVEN WITH THE SEED: THE CARDS: each row of YtofbcblhpflleaaDoorRows.lean that lists a variable, with what it lists TIED to the program's text (the seventh form; the later family's looks); each row that meets fmt, with fmt's text TOLD by the authors' own Lean function (tested against real Go, not proved from fmt's source: count such statements apart). THE CARD IS WHAT COUNTS. Prove the row's statement (the work); the ties are given (YtofbcblhpflleaaDoorTie.lean); close each card by the builder's one call (the guide's Derived/Test/ToyasCard.lean, 'card_holds'). Laid BY PROGRAM, IN A SANDBOX (cutbox-door.mjs). By AI agents, Wed Nov 11 2026. No macro, syntax, notation, axiom, sorry.
-/
import Derived.Test.YtofbcblhpflleaaDoorRows
import GoSem.ClaimSeven
namespace Go.Proofs.YtofbcblhpflleaaDoor
namespace Rows

/-- THE TIED CARD OF 'publisherlaw35.ArchiveSums'. -/
def archiveSumsCard : Claim7 := { stood := { row := archiveSumsRow, standIns := [], harness := (true, "1211b91efeca97df7950c40857b4c4805fc5a8ddbfb12ddcd4646e0b780df187"), looks := false }, kinds := [], alts := [], laidByText := true, laidKinds := [.data, .pinned], laidTests := true, laidLooks := .later }
def ArchiveSumsCardSaid : Prop := Claim7.holds Tryd.pinned (.plain (OpenSpec.ofChange archiveSumsSpec)) archiveSumsCard

/-- THE TIED CARD OF 'publisherlaw35.ArchivePuts'. -/
def archivePutsCard : Claim7 := { stood := { row := archivePutsRow, standIns := [], harness := (true, "1211b91efeca97df7950c40857b4c4805fc5a8ddbfb12ddcd4646e0b780df187"), looks := false }, kinds := [], alts := [], laidByText := true, laidKinds := [.data, .pinned], laidTests := true, laidLooks := .later }
def ArchivePutsCardSaid : Prop := Claim7.holds Tryd.pinned (.plain (OpenSpec.ofChange archivePutsSpec)) archivePutsCard

/-- THE TIED CARD OF 'publisherlaw35.ArchiveCuts'. -/
def archiveCutsCard : Claim7 := { stood := { row := archiveCutsRow, standIns := [], harness := (true, "1211b91efeca97df7950c40857b4c4805fc5a8ddbfb12ddcd4646e0b780df187"), looks := false }, kinds := [], alts := [], laidByText := true, laidKinds := [.data, .pinned], laidTests := true, laidLooks := .later }
def ArchiveCutsCardSaid : Prop := Claim7.holds Tryd.pinned (.plain (OpenSpec.ofChange archiveCutsSpec)) archiveCutsCard

/-- THE TIED CARD OF 'publisherlaw35.ArchiveSpoils'. -/
def archiveSpoilsCard : Claim7 := { stood := { row := archiveSpoilsRow, standIns := [], harness := (true, "1211b91efeca97df7950c40857b4c4805fc5a8ddbfb12ddcd4646e0b780df187"), looks := false }, kinds := [], alts := [], laidByText := true, laidKinds := [.data, .pinned], laidTests := true, laidLooks := .later }
def ArchiveSpoilsCardSaid : Prop := Claim7.holds Tryd.pinned (.plain (OpenSpec.ofChange archiveSpoilsSpec)) archiveSpoilsCard

/-- THE TIED CARD OF 'publisherlaw35.ArchiveLinear'. -/
def archiveLinearCard : Claim7 := { stood := { row := archiveLinearRow, standIns := [], harness := (true, "1211b91efeca97df7950c40857b4c4805fc5a8ddbfb12ddcd4646e0b780df187"), looks := false }, kinds := [], alts := [], laidByText := true, laidKinds := [.data, .pinned], laidTests := true, laidLooks := .later }
def ArchiveLinearCardSaid : Prop := Claim7.holds Tryd.pinned (.plain (OpenSpec.ofChange archiveLinearSpec)) archiveLinearCard

/-- THE TIED CARD OF 'publisherlaw35.ArchiveReturns'. -/
def archiveReturnsCard : Claim7 := { stood := { row := archiveReturnsRow, standIns := [], harness := (true, "1211b91efeca97df7950c40857b4c4805fc5a8ddbfb12ddcd4646e0b780df187"), looks := false }, kinds := [], alts := [], laidByText := true, laidKinds := [.data, .pinned], laidTests := true, laidLooks := .later }
def ArchiveReturnsCardSaid : Prop := Claim7.holds Tryd.pinned (.plain (OpenSpec.ofChange archiveReturnsSpec)) archiveReturnsCard

/-- THE SECOND FORM's CARD OF 'publisherlaw35.ArchiveSums'. -/
def archiveSumsUptoCard : Claim7 := { stood := { row := archiveSumsUptoRow, standIns := [], harness := (true, "1211b91efeca97df7950c40857b4c4805fc5a8ddbfb12ddcd4646e0b780df187"), looks := false }, kinds := [], alts := [], laidByText := true, laidKinds := [.data, .pinned], laidTests := true, laidLooks := .later }
def ArchiveSumsUptoCardSaid : Prop := Claim7.holds Tryd.pinned (.plain (OpenSpec.upto archiveSumsSpec)) archiveSumsUptoCard

/-- THE SECOND FORM's CARD OF 'publisherlaw35.ArchivePuts'. -/
def archivePutsUptoCard : Claim7 := { stood := { row := archivePutsUptoRow, standIns := [], harness := (true, "1211b91efeca97df7950c40857b4c4805fc5a8ddbfb12ddcd4646e0b780df187"), looks := false }, kinds := [], alts := [], laidByText := true, laidKinds := [.data, .pinned], laidTests := true, laidLooks := .later }
def ArchivePutsUptoCardSaid : Prop := Claim7.holds Tryd.pinned (.plain (OpenSpec.upto archivePutsSpec)) archivePutsUptoCard

/-- THE SECOND FORM's CARD OF 'publisherlaw35.ArchiveCuts'. -/
def archiveCutsUptoCard : Claim7 := { stood := { row := archiveCutsUptoRow, standIns := [], harness := (true, "1211b91efeca97df7950c40857b4c4805fc5a8ddbfb12ddcd4646e0b780df187"), looks := false }, kinds := [], alts := [], laidByText := true, laidKinds := [.data, .pinned], laidTests := true, laidLooks := .later }
def ArchiveCutsUptoCardSaid : Prop := Claim7.holds Tryd.pinned (.plain (OpenSpec.upto archiveCutsSpec)) archiveCutsUptoCard

/-- THE SECOND FORM's CARD OF 'publisherlaw35.ArchiveSpoils'. -/
def archiveSpoilsUptoCard : Claim7 := { stood := { row := archiveSpoilsUptoRow, standIns := [], harness := (true, "1211b91efeca97df7950c40857b4c4805fc5a8ddbfb12ddcd4646e0b780df187"), looks := false }, kinds := [], alts := [], laidByText := true, laidKinds := [.data, .pinned], laidTests := true, laidLooks := .later }
def ArchiveSpoilsUptoCardSaid : Prop := Claim7.holds Tryd.pinned (.plain (OpenSpec.upto archiveSpoilsSpec)) archiveSpoilsUptoCard

/-- THE SECOND FORM's CARD OF 'publisherlaw35.ArchiveLinear'. -/
def archiveLinearUptoCard : Claim7 := { stood := { row := archiveLinearUptoRow, standIns := [], harness := (true, "1211b91efeca97df7950c40857b4c4805fc5a8ddbfb12ddcd4646e0b780df187"), looks := false }, kinds := [], alts := [], laidByText := true, laidKinds := [.data, .pinned], laidTests := true, laidLooks := .later }
def ArchiveLinearUptoCardSaid : Prop := Claim7.holds Tryd.pinned (.plain (OpenSpec.upto archiveLinearSpec)) archiveLinearUptoCard

/-- THE SECOND FORM's CARD OF 'publisherlaw35.ArchiveReturns'. -/
def archiveReturnsUptoCard : Claim7 := { stood := { row := archiveReturnsUptoRow, standIns := [], harness := (true, "1211b91efeca97df7950c40857b4c4805fc5a8ddbfb12ddcd4646e0b780df187"), looks := false }, kinds := [], alts := [], laidByText := true, laidKinds := [.data, .pinned], laidTests := true, laidLooks := .later }
def ArchiveReturnsUptoCardSaid : Prop := Claim7.holds Tryd.pinned (.plain (OpenSpec.upto archiveReturnsSpec)) archiveReturnsUptoCard
end Rows
end Go.Proofs.YtofbcblhpflleaaDoor
