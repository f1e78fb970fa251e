/-
  DERIVED. GIVEN WITH THE SEED: THE CARDS: each row of YtpbampchhpkpbaaDoorRows.lean that lists a variable, with what it lists TIED to the program's text (the seventh form; the later family's looks); each row that meets fmt, with fmt's text TOLD by the authors' own Lean function (tested against real Go, not proved from fmt's source: count such statements apart). THE CARD IS WHAT COUNTS. Prove the row's statement (the work); the ties are given (YtpbampchhpkpbaaDoorTie.lean); close each card by the builder's one call (the guide's Derived/Test/ToyasCard.lean, 'card_holds'). Laid BY PROGRAM, IN A SANDBOX (cutbox-door.mjs). By AI agents, Wed Nov 11 2026. No macro, syntax, notation, axiom, sorry.
-/
import Derived.Test.YtpbampchhpkpbaaDoorRows
import GoSem.ClaimSeven
namespace Go.Proofs.YtpbampchhpkpbaaDoor
namespace Rows

/-- THE TIED CARD OF 'publisherlaw16.FilesClean'. -/
def filesCleanCard : Claim7 := { stood := { row := filesCleanRow, standIns := [], harness := (true, "91fd2afc3d26a1d7b8bd319155bcbaef6d767cb62093618b3cd1bdc750984287"), looks := false }, kinds := [], alts := [], laidByText := true, laidKinds := [.data, .pinned], laidTests := true, laidLooks := .later }
def FilesCleanCardSaid : Prop := Claim7.holds Tryd.pinned (.plain (OpenSpec.ofChange filesCleanSpec)) filesCleanCard

/-- THE TIED CARD OF 'publisherlaw16.FilesJoin'. -/
def filesJoinCard : Claim7 := { stood := { row := filesJoinRow, standIns := [], harness := (true, "91fd2afc3d26a1d7b8bd319155bcbaef6d767cb62093618b3cd1bdc750984287"), looks := false }, kinds := [], alts := [], laidByText := true, laidKinds := [.data, .pinned], laidTests := true, laidLooks := .later }
def FilesJoinCardSaid : Prop := Claim7.holds Tryd.pinned (.plain (OpenSpec.ofChange filesJoinSpec)) filesJoinCard

/-- THE TIED CARD OF 'publisherlaw16.FilesRelative'. -/
def filesRelativeCard : Claim7 := { stood := { row := filesRelativeRow, standIns := [], harness := (true, "91fd2afc3d26a1d7b8bd319155bcbaef6d767cb62093618b3cd1bdc750984287"), looks := false }, kinds := [], alts := [], laidByText := true, laidKinds := [.data, .pinned], laidTests := true, laidLooks := .later }
def FilesRelativeCardSaid : Prop := Claim7.holds Tryd.pinned (.plain (OpenSpec.ofChange filesRelativeSpec)) filesRelativeCard

/-- THE TIED CARD OF 'publisherlaw16.FilesSplit'. -/
def filesSplitCard : Claim7 := { stood := { row := filesSplitRow, standIns := [], harness := (true, "91fd2afc3d26a1d7b8bd319155bcbaef6d767cb62093618b3cd1bdc750984287"), looks := false }, kinds := [], alts := [], laidByText := true, laidKinds := [.data, .pinned], laidTests := true, laidLooks := .later }
def FilesSplitCardSaid : Prop := Claim7.holds Tryd.pinned (.plain (OpenSpec.ofChange filesSplitSpec)) filesSplitCard

/-- THE TIED CARD OF 'publisherlaw16.FilesCheck'. -/
def filesCheckCard : Claim7 := { stood := { row := filesCheckRow, standIns := [], harness := (true, "91fd2afc3d26a1d7b8bd319155bcbaef6d767cb62093618b3cd1bdc750984287"), looks := false }, kinds := [], alts := [], laidByText := true, laidKinds := [.data, .pinned], laidTests := true, laidLooks := .later }
def FilesCheckCardSaid : Prop := Claim7.holds Tryd.pinned (.plain (OpenSpec.ofChange filesCheckSpec)) filesCheckCard

/-- THE TIED CARD OF 'publisherlaw16.FilesLook'. -/
def filesLookCard : Claim7 := { stood := { row := filesLookRow, standIns := [], harness := (true, "91fd2afc3d26a1d7b8bd319155bcbaef6d767cb62093618b3cd1bdc750984287"), looks := false }, kinds := [], alts := [], laidByText := true, laidKinds := [.data, .pinned], laidTests := true, laidLooks := .later }
def FilesLookCardSaid : Prop := Claim7.holds Tryd.pinned (.plain (OpenSpec.ofChange filesLookSpec)) filesLookCard

/-- THE TIED CARD OF 'publisherlaw16.FilesStay'. -/
def filesStayCard : Claim7 := { stood := { row := filesStayRow, standIns := [], harness := (true, "91fd2afc3d26a1d7b8bd319155bcbaef6d767cb62093618b3cd1bdc750984287"), looks := false }, kinds := [], alts := [], laidByText := true, laidKinds := [.data, .pinned], laidTests := true, laidLooks := .later }
def FilesStayCardSaid : Prop := Claim7.holds Tryd.pinned (.plain (OpenSpec.ofChange filesStaySpec)) filesStayCard

/-- THE SECOND FORM's CARD OF 'publisherlaw16.FilesClean'. -/
def filesCleanUptoCard : Claim7 := { stood := { row := filesCleanUptoRow, standIns := [], harness := (true, "91fd2afc3d26a1d7b8bd319155bcbaef6d767cb62093618b3cd1bdc750984287"), looks := false }, kinds := [], alts := [], laidByText := true, laidKinds := [.data, .pinned], laidTests := true, laidLooks := .later }
def FilesCleanUptoCardSaid : Prop := Claim7.holds Tryd.pinned (.plain (OpenSpec.upto filesCleanSpec)) filesCleanUptoCard

/-- THE SECOND FORM's CARD OF 'publisherlaw16.FilesJoin'. -/
def filesJoinUptoCard : Claim7 := { stood := { row := filesJoinUptoRow, standIns := [], harness := (true, "91fd2afc3d26a1d7b8bd319155bcbaef6d767cb62093618b3cd1bdc750984287"), looks := false }, kinds := [], alts := [], laidByText := true, laidKinds := [.data, .pinned], laidTests := true, laidLooks := .later }
def FilesJoinUptoCardSaid : Prop := Claim7.holds Tryd.pinned (.plain (OpenSpec.upto filesJoinSpec)) filesJoinUptoCard

/-- THE SECOND FORM's CARD OF 'publisherlaw16.FilesRelative'. -/
def filesRelativeUptoCard : Claim7 := { stood := { row := filesRelativeUptoRow, standIns := [], harness := (true, "91fd2afc3d26a1d7b8bd319155bcbaef6d767cb62093618b3cd1bdc750984287"), looks := false }, kinds := [], alts := [], laidByText := true, laidKinds := [.data, .pinned], laidTests := true, laidLooks := .later }
def FilesRelativeUptoCardSaid : Prop := Claim7.holds Tryd.pinned (.plain (OpenSpec.upto filesRelativeSpec)) filesRelativeUptoCard

/-- THE SECOND FORM's CARD OF 'publisherlaw16.FilesSplit'. -/
def filesSplitUptoCard : Claim7 := { stood := { row := filesSplitUptoRow, standIns := [], harness := (true, "91fd2afc3d26a1d7b8bd319155bcbaef6d767cb62093618b3cd1bdc750984287"), looks := false }, kinds := [], alts := [], laidByText := true, laidKinds := [.data, .pinned], laidTests := true, laidLooks := .later }
def FilesSplitUptoCardSaid : Prop := Claim7.holds Tryd.pinned (.plain (OpenSpec.upto filesSplitSpec)) filesSplitUptoCard

/-- THE SECOND FORM's CARD OF 'publisherlaw16.FilesCheck'. -/
def filesCheckUptoCard : Claim7 := { stood := { row := filesCheckUptoRow, standIns := [], harness := (true, "91fd2afc3d26a1d7b8bd319155bcbaef6d767cb62093618b3cd1bdc750984287"), looks := false }, kinds := [], alts := [], laidByText := true, laidKinds := [.data, .pinned], laidTests := true, laidLooks := .later }
def FilesCheckUptoCardSaid : Prop := Claim7.holds Tryd.pinned (.plain (OpenSpec.upto filesCheckSpec)) filesCheckUptoCard

/-- THE SECOND FORM's CARD OF 'publisherlaw16.FilesLook'. -/
def filesLookUptoCard : Claim7 := { stood := { row := filesLookUptoRow, standIns := [], harness := (true, "91fd2afc3d26a1d7b8bd319155bcbaef6d767cb62093618b3cd1bdc750984287"), looks := false }, kinds := [], alts := [], laidByText := true, laidKinds := [.data, .pinned], laidTests := true, laidLooks := .later }
def FilesLookUptoCardSaid : Prop := Claim7.holds Tryd.pinned (.plain (OpenSpec.upto filesLookSpec)) filesLookUptoCard

/-- THE SECOND FORM's CARD OF 'publisherlaw16.FilesStay'. -/
def filesStayUptoCard : Claim7 := { stood := { row := filesStayUptoRow, standIns := [], harness := (true, "91fd2afc3d26a1d7b8bd319155bcbaef6d767cb62093618b3cd1bdc750984287"), looks := false }, kinds := [], alts := [], laidByText := true, laidKinds := [.data, .pinned], laidTests := true, laidLooks := .later }
def FilesStayUptoCardSaid : Prop := Claim7.holds Tryd.pinned (.plain (OpenSpec.upto filesStaySpec)) filesStayUptoCard
end Rows
end Go.Proofs.YtpbampchhpkpbaaDoor
