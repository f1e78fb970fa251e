/-
  DERIVED. GIVEN WITH THE SEED: THE CARDS: each row of YtmkenekngaihhaaGreatDoorRows.lean that lists a variable, with what it lists TIED to the program's text (the seventh form; the later family's looks); each row that meets fmt, with fmt's text TOLD by the authors' own Lean function (tested against real Go, not proved from fmt's source: count such statements apart). THE CARD IS WHAT COUNTS. Prove the row's statement (the work); the ties are given (YtmkenekngaihhaaGreatDoorTie.lean); close each card by the builder's one call (the guide's Derived/Test/ToyasCard.lean, 'card_holds'). Laid BY PROGRAM, IN A SANDBOX (cutbox-door.mjs). By AI agents, Wed Nov 11 2026. No macro, syntax, notation, axiom, sorry.
-/
import Derived.Test.YtmkenekngaihhaaGreatDoorRows
import GoSem.ClaimSeven
namespace Go.Proofs.YtmkenekngaihhaaGreatDoor
namespace Rows

/-- THE TIED CARD OF 'publisherlaw49.ProjectChecks'. -/
def projectChecksCard : Claim7 := { stood := { row := projectChecksRow, standIns := [], harness := (true, "01dc86189ce37e39fd58cb2a09756b75fee481a51369d44a02cf81c9a0b39d7a"), looks := false }, kinds := [], alts := [], laidByText := true, laidKinds := [.data, .data, .data, .data, .pinned], laidTests := true, laidLooks := .later }
def ProjectChecksCardSaid : Prop := Claim7.holds Tryz.pinned (.plain (OpenSpec.ofChange projectChecksSpec)) projectChecksCard

/-- THE TIED CARD OF 'publisherlaw49.ProjectBack'. -/
def projectBackCard : Claim7 := { stood := { row := projectBackRow, standIns := [], harness := (true, "01dc86189ce37e39fd58cb2a09756b75fee481a51369d44a02cf81c9a0b39d7a"), looks := false }, kinds := [], alts := [], laidByText := true, laidKinds := [.data, .data, .data, .data, .pinned], laidTests := true, laidLooks := .later }
def ProjectBackCardSaid : Prop := Claim7.holds Tryz.pinned (.plain (OpenSpec.ofChange projectBackSpec)) projectBackCard

/-- THE TIED CARD OF 'publisherlaw49.ProjectParses'. -/
def projectParsesCard : Claim7 := { stood := { row := projectParsesRow, standIns := [], harness := (true, "01dc86189ce37e39fd58cb2a09756b75fee481a51369d44a02cf81c9a0b39d7a"), looks := false }, kinds := [], alts := [], laidByText := true, laidKinds := [.data, .data, .data, .data, .pinned], laidTests := true, laidLooks := .later }
def ProjectParsesCardSaid : Prop := Claim7.holds Tryz.pinned (.plain (OpenSpec.ofChange projectParsesSpec)) projectParsesCard

/-- THE TIED CARD OF 'publisherlaw49.ProjectSpoilt'. -/
def projectSpoiltCard : Claim7 := { stood := { row := projectSpoiltRow, standIns := [], harness := (true, "01dc86189ce37e39fd58cb2a09756b75fee481a51369d44a02cf81c9a0b39d7a"), looks := false }, kinds := [], alts := [], laidByText := true, laidKinds := [.data, .data, .data, .data, .pinned], laidTests := true, laidLooks := .later }
def ProjectSpoiltCardSaid : Prop := Claim7.holds Tryz.pinned (.plain (OpenSpec.ofChange projectSpoiltSpec)) projectSpoiltCard

/-- THE SECOND FORM's CARD OF 'publisherlaw49.ProjectChecks'. -/
def projectChecksUptoCard : Claim7 := { stood := { row := projectChecksUptoRow, standIns := [], harness := (true, "01dc86189ce37e39fd58cb2a09756b75fee481a51369d44a02cf81c9a0b39d7a"), looks := false }, kinds := [], alts := [], laidByText := true, laidKinds := [.data, .data, .data, .data, .pinned], laidTests := true, laidLooks := .later }
def ProjectChecksUptoCardSaid : Prop := Claim7.holds Tryz.pinned (.plain (OpenSpec.upto projectChecksSpec)) projectChecksUptoCard

/-- THE SECOND FORM's CARD OF 'publisherlaw49.ProjectBack'. -/
def projectBackUptoCard : Claim7 := { stood := { row := projectBackUptoRow, standIns := [], harness := (true, "01dc86189ce37e39fd58cb2a09756b75fee481a51369d44a02cf81c9a0b39d7a"), looks := false }, kinds := [], alts := [], laidByText := true, laidKinds := [.data, .data, .data, .data, .pinned], laidTests := true, laidLooks := .later }
def ProjectBackUptoCardSaid : Prop := Claim7.holds Tryz.pinned (.plain (OpenSpec.upto projectBackSpec)) projectBackUptoCard

/-- THE SECOND FORM's CARD OF 'publisherlaw49.ProjectParses'. -/
def projectParsesUptoCard : Claim7 := { stood := { row := projectParsesUptoRow, standIns := [], harness := (true, "01dc86189ce37e39fd58cb2a09756b75fee481a51369d44a02cf81c9a0b39d7a"), looks := false }, kinds := [], alts := [], laidByText := true, laidKinds := [.data, .data, .data, .data, .pinned], laidTests := true, laidLooks := .later }
def ProjectParsesUptoCardSaid : Prop := Claim7.holds Tryz.pinned (.plain (OpenSpec.upto projectParsesSpec)) projectParsesUptoCard

/-- THE SECOND FORM's CARD OF 'publisherlaw49.ProjectSpoilt'. -/
def projectSpoiltUptoCard : Claim7 := { stood := { row := projectSpoiltUptoRow, standIns := [], harness := (true, "01dc86189ce37e39fd58cb2a09756b75fee481a51369d44a02cf81c9a0b39d7a"), looks := false }, kinds := [], alts := [], laidByText := true, laidKinds := [.data, .data, .data, .data, .pinned], laidTests := true, laidLooks := .later }
def ProjectSpoiltUptoCardSaid : Prop := Claim7.holds Tryz.pinned (.plain (OpenSpec.upto projectSpoiltSpec)) projectSpoiltUptoCard
end Rows
end Go.Proofs.YtmkenekngaihhaaGreatDoor
