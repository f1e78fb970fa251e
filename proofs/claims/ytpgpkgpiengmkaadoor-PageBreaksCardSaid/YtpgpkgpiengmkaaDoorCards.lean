/-
  DERIVED. GIVEN WITH THE SEED: THE CARDS: each row of YtpgpkgpiengmkaaDoorRows.lean that lists a variable, with what it lists TIED to the program's text (the seventh form; the later family's looks); each row that meets fmt, with fmt's text TOLD by the authors' own Lean function (tested against real Go, not proved from fmt's source: count such statements apart). THE CARD IS WHAT COUNTS. Prove the row's statement (the work); the ties are given (YtpgpkgpiengmkaaDoorTie.lean); close each card by the builder's one call (the guide's Derived/Test/ToyasCard.lean, 'card_holds'). Laid BY PROGRAM, IN A SANDBOX (cutbox-door.mjs). By AI agents, Wed Nov 11 2026. No macro, syntax, notation, axiom, sorry.
-/
import Derived.Test.YtpgpkgpiengmkaaDoorRows
import GoSem.ClaimSeven
namespace Go.Proofs.YtpgpkgpiengmkaaDoor
namespace Rows

/-- THE TIED CARD OF 'publisherlaw40.PageBreaks'. -/
def pageBreaksCard : Claim7 := { stood := { row := pageBreaksRow, standIns := [], harness := (true, "c6546a9f2248eea3c979747c60287f964f6da225efa20ad9f876c895e0113c66"), looks := false }, kinds := [], alts := [], laidByText := true, laidKinds := [.data, .data, .data], laidTests := true, laidLooks := .later }
def PageBreaksCardSaid : Prop := Claim7.holds Tryd.pinned (.plain (OpenSpec.ofChange pageBreaksSpec)) pageBreaksCard

/-- THE TIED CARD OF 'publisherlaw40.PageSound'. -/
def pageSoundCard : Claim7 := { stood := { row := pageSoundRow, standIns := [], harness := (true, "c6546a9f2248eea3c979747c60287f964f6da225efa20ad9f876c895e0113c66"), looks := false }, kinds := [], alts := [], laidByText := true, laidKinds := [.data, .data, .data], laidTests := true, laidLooks := .later }
def PageSoundCardSaid : Prop := Claim7.holds Tryd.pinned (.plain (OpenSpec.ofChange pageSoundSpec)) pageSoundCard

/-- THE TIED CARD OF 'publisherlaw40.PageChecks'. -/
def pageChecksCard : Claim7 := { stood := { row := pageChecksRow, standIns := [], harness := (true, "c6546a9f2248eea3c979747c60287f964f6da225efa20ad9f876c895e0113c66"), looks := false }, kinds := [], alts := [], laidByText := true, laidKinds := [.data, .data, .data], laidTests := true, laidLooks := .later }
def PageChecksCardSaid : Prop := Claim7.holds Tryd.pinned (.plain (OpenSpec.ofChange pageChecksSpec)) pageChecksCard

/-- THE TIED CARD OF 'publisherlaw40.PagePlaces'. -/
def pagePlacesCard : Claim7 := { stood := { row := pagePlacesRow, standIns := [], harness := (true, "c6546a9f2248eea3c979747c60287f964f6da225efa20ad9f876c895e0113c66"), looks := false }, kinds := [], alts := [], laidByText := true, laidKinds := [.data, .data, .data], laidTests := true, laidLooks := .later }
def PagePlacesCardSaid : Prop := Claim7.holds Tryd.pinned (.plain (OpenSpec.ofChange pagePlacesSpec)) pagePlacesCard

/-- THE TIED CARD OF 'publisherlaw40.PageOnce'. -/
def pageOnceCard : Claim7 := { stood := { row := pageOnceRow, standIns := [], harness := (true, "c6546a9f2248eea3c979747c60287f964f6da225efa20ad9f876c895e0113c66"), looks := false }, kinds := [], alts := [], laidByText := true, laidKinds := [.data, .data, .data], laidTests := true, laidLooks := .later }
def PageOnceCardSaid : Prop := Claim7.holds Tryd.pinned (.plain (OpenSpec.ofChange pageOnceSpec)) pageOnceCard

/-- THE TIED CARD OF 'publisherlaw40.PageFits'. -/
def pageFitsCard : Claim7 := { stood := { row := pageFitsRow, standIns := [], harness := (true, "c6546a9f2248eea3c979747c60287f964f6da225efa20ad9f876c895e0113c66"), looks := false }, kinds := [], alts := [], laidByText := true, laidKinds := [.data, .data, .data], laidTests := true, laidLooks := .later }
def PageFitsCardSaid : Prop := Claim7.holds Tryd.pinned (.plain (OpenSpec.ofChange pageFitsSpec)) pageFitsCard

/-- THE SECOND FORM's CARD OF 'publisherlaw40.PageBreaks'. -/
def pageBreaksUptoCard : Claim7 := { stood := { row := pageBreaksUptoRow, standIns := [], harness := (true, "c6546a9f2248eea3c979747c60287f964f6da225efa20ad9f876c895e0113c66"), looks := false }, kinds := [], alts := [], laidByText := true, laidKinds := [.data, .data, .data], laidTests := true, laidLooks := .later }
def PageBreaksUptoCardSaid : Prop := Claim7.holds Tryd.pinned (.plain (OpenSpec.upto pageBreaksSpec)) pageBreaksUptoCard

/-- THE SECOND FORM's CARD OF 'publisherlaw40.PageSound'. -/
def pageSoundUptoCard : Claim7 := { stood := { row := pageSoundUptoRow, standIns := [], harness := (true, "c6546a9f2248eea3c979747c60287f964f6da225efa20ad9f876c895e0113c66"), looks := false }, kinds := [], alts := [], laidByText := true, laidKinds := [.data, .data, .data], laidTests := true, laidLooks := .later }
def PageSoundUptoCardSaid : Prop := Claim7.holds Tryd.pinned (.plain (OpenSpec.upto pageSoundSpec)) pageSoundUptoCard

/-- THE SECOND FORM's CARD OF 'publisherlaw40.PageChecks'. -/
def pageChecksUptoCard : Claim7 := { stood := { row := pageChecksUptoRow, standIns := [], harness := (true, "c6546a9f2248eea3c979747c60287f964f6da225efa20ad9f876c895e0113c66"), looks := false }, kinds := [], alts := [], laidByText := true, laidKinds := [.data, .data, .data], laidTests := true, laidLooks := .later }
def PageChecksUptoCardSaid : Prop := Claim7.holds Tryd.pinned (.plain (OpenSpec.upto pageChecksSpec)) pageChecksUptoCard

/-- THE SECOND FORM's CARD OF 'publisherlaw40.PagePlaces'. -/
def pagePlacesUptoCard : Claim7 := { stood := { row := pagePlacesUptoRow, standIns := [], harness := (true, "c6546a9f2248eea3c979747c60287f964f6da225efa20ad9f876c895e0113c66"), looks := false }, kinds := [], alts := [], laidByText := true, laidKinds := [.data, .data, .data], laidTests := true, laidLooks := .later }
def PagePlacesUptoCardSaid : Prop := Claim7.holds Tryd.pinned (.plain (OpenSpec.upto pagePlacesSpec)) pagePlacesUptoCard

/-- THE SECOND FORM's CARD OF 'publisherlaw40.PageOnce'. -/
def pageOnceUptoCard : Claim7 := { stood := { row := pageOnceUptoRow, standIns := [], harness := (true, "c6546a9f2248eea3c979747c60287f964f6da225efa20ad9f876c895e0113c66"), looks := false }, kinds := [], alts := [], laidByText := true, laidKinds := [.data, .data, .data], laidTests := true, laidLooks := .later }
def PageOnceUptoCardSaid : Prop := Claim7.holds Tryd.pinned (.plain (OpenSpec.upto pageOnceSpec)) pageOnceUptoCard

/-- THE SECOND FORM's CARD OF 'publisherlaw40.PageFits'. -/
def pageFitsUptoCard : Claim7 := { stood := { row := pageFitsUptoRow, standIns := [], harness := (true, "c6546a9f2248eea3c979747c60287f964f6da225efa20ad9f876c895e0113c66"), looks := false }, kinds := [], alts := [], laidByText := true, laidKinds := [.data, .data, .data], laidTests := true, laidLooks := .later }
def PageFitsUptoCardSaid : Prop := Claim7.holds Tryd.pinned (.plain (OpenSpec.upto pageFitsSpec)) pageFitsUptoCard
end Rows
end Go.Proofs.YtpgpkgpiengmkaaDoor
