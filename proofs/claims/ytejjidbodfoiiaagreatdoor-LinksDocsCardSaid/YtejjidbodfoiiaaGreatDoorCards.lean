/-
  DERIVED. GIVEN WITH THE SEED: THE CARDS: each row of YtejjidbodfoiiaaGreatDoorRows.lean that lists a variable, with what it lists TIED to the program's text (the seventh form; the later family's looks); each row that meets fmt, with fmt's text TOLD by the authors' own Lean function (tested against real Go, not proved from fmt's source: count such statements apart). THE CARD IS WHAT COUNTS. Prove the row's statement (the work); the ties are given (YtejjidbodfoiiaaGreatDoorTie.lean); close each card by the builder's one call (the guide's Derived/Test/ToyasCard.lean, 'card_holds'). Laid BY PROGRAM, IN A SANDBOX (cutbox-door.mjs). By AI agents, Wed Nov 11 2026. No macro, syntax, notation, axiom, sorry.
-/
import Derived.Test.YtejjidbodfoiiaaGreatDoorRows
import GoSem.ClaimSeven
namespace Go.Proofs.YtejjidbodfoiiaaGreatDoor
namespace Rows

/-- THE TIED CARD OF 'publisherlaw44.LinksOutside'. -/
def linksOutsideCard : Claim7 := { stood := { row := linksOutsideRow, standIns := [], harness := (true, "e313b8ee40cb6f66e99ebbeff31b2e9c9983b30e98e8e84d08b05a6dfaa03e25"), looks := false }, kinds := [], alts := [], laidByText := true, laidKinds := [.data, .pinned], laidTests := true, laidLooks := .later }
def LinksOutsideCardSaid : Prop := Claim7.holds Tryz.pinned (.plain (OpenSpec.ofChange linksOutsideSpec)) linksOutsideCard

/-- THE TIED CARD OF 'publisherlaw44.LinksDocs'. -/
def linksDocsCard : Claim7 := { stood := { row := linksDocsRow, standIns := [], harness := (true, "e313b8ee40cb6f66e99ebbeff31b2e9c9983b30e98e8e84d08b05a6dfaa03e25"), looks := false }, kinds := [], alts := [], laidByText := true, laidKinds := [.data, .pinned], laidTests := true, laidLooks := .later }
def LinksDocsCardSaid : Prop := Claim7.holds Tryz.pinned (.plain (OpenSpec.ofChange linksDocsSpec)) linksDocsCard

/-- THE TIED CARD OF 'publisherlaw44.LinksOthers'. -/
def linksOthersCard : Claim7 := { stood := { row := linksOthersRow, standIns := [], harness := (true, "e313b8ee40cb6f66e99ebbeff31b2e9c9983b30e98e8e84d08b05a6dfaa03e25"), looks := false }, kinds := [], alts := [], laidByText := true, laidKinds := [.data, .pinned], laidTests := true, laidLooks := .later }
def LinksOthersCardSaid : Prop := Claim7.holds Tryz.pinned (.plain (OpenSpec.ofChange linksOthersSpec)) linksOthersCard

/-- THE TIED CARD OF 'publisherlaw44.LinksFiles'. -/
def linksFilesCard : Claim7 := { stood := { row := linksFilesRow, standIns := [], harness := (true, "e313b8ee40cb6f66e99ebbeff31b2e9c9983b30e98e8e84d08b05a6dfaa03e25"), looks := false }, kinds := [], alts := [], laidByText := true, laidKinds := [.data, .pinned], laidTests := true, laidLooks := .later }
def LinksFilesCardSaid : Prop := Claim7.holds Tryz.pinned (.plain (OpenSpec.ofChange linksFilesSpec)) linksFilesCard

/-- THE SECOND FORM's CARD OF 'publisherlaw44.LinksOutside'. -/
def linksOutsideUptoCard : Claim7 := { stood := { row := linksOutsideUptoRow, standIns := [], harness := (true, "e313b8ee40cb6f66e99ebbeff31b2e9c9983b30e98e8e84d08b05a6dfaa03e25"), looks := false }, kinds := [], alts := [], laidByText := true, laidKinds := [.data, .pinned], laidTests := true, laidLooks := .later }
def LinksOutsideUptoCardSaid : Prop := Claim7.holds Tryz.pinned (.plain (OpenSpec.upto linksOutsideSpec)) linksOutsideUptoCard

/-- THE SECOND FORM's CARD OF 'publisherlaw44.LinksDocs'. -/
def linksDocsUptoCard : Claim7 := { stood := { row := linksDocsUptoRow, standIns := [], harness := (true, "e313b8ee40cb6f66e99ebbeff31b2e9c9983b30e98e8e84d08b05a6dfaa03e25"), looks := false }, kinds := [], alts := [], laidByText := true, laidKinds := [.data, .pinned], laidTests := true, laidLooks := .later }
def LinksDocsUptoCardSaid : Prop := Claim7.holds Tryz.pinned (.plain (OpenSpec.upto linksDocsSpec)) linksDocsUptoCard

/-- THE SECOND FORM's CARD OF 'publisherlaw44.LinksOthers'. -/
def linksOthersUptoCard : Claim7 := { stood := { row := linksOthersUptoRow, standIns := [], harness := (true, "e313b8ee40cb6f66e99ebbeff31b2e9c9983b30e98e8e84d08b05a6dfaa03e25"), looks := false }, kinds := [], alts := [], laidByText := true, laidKinds := [.data, .pinned], laidTests := true, laidLooks := .later }
def LinksOthersUptoCardSaid : Prop := Claim7.holds Tryz.pinned (.plain (OpenSpec.upto linksOthersSpec)) linksOthersUptoCard

/-- THE SECOND FORM's CARD OF 'publisherlaw44.LinksFiles'. -/
def linksFilesUptoCard : Claim7 := { stood := { row := linksFilesUptoRow, standIns := [], harness := (true, "e313b8ee40cb6f66e99ebbeff31b2e9c9983b30e98e8e84d08b05a6dfaa03e25"), looks := false }, kinds := [], alts := [], laidByText := true, laidKinds := [.data, .pinned], laidTests := true, laidLooks := .later }
def LinksFilesUptoCardSaid : Prop := Claim7.holds Tryz.pinned (.plain (OpenSpec.upto linksFilesSpec)) linksFilesUptoCard
end Rows
end Go.Proofs.YtejjidbodfoiiaaGreatDoor
