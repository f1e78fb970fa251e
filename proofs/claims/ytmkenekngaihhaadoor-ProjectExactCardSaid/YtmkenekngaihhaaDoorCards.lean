/-
  DERIVED. GIVEN WITH THE SEED: THE CARDS: each row of YtmkenekngaihhaaDoorRows.lean that lists a variable, with what it lists TIED to the program's text (the seventh form; the later family's looks); each row that meets fmt, with fmt's text TOLD by the authors' own Lean function (tested against real Go, not proved from fmt's source: count such statements apart). THE CARD IS WHAT COUNTS. Prove the row's statement (the work); the ties are given (YtmkenekngaihhaaDoorTie.lean); close each card by the builder's one call (the guide's Derived/Test/ToyasCard.lean, 'card_holds'). Laid BY PROGRAM, IN A SANDBOX (cutbox-door.mjs). By AI agents, Wed Nov 11 2026. No macro, syntax, notation, axiom, sorry.
-/
import Derived.Test.YtmkenekngaihhaaDoorRows
import GoSem.ClaimSeven
namespace Go.Proofs.YtmkenekngaihhaaDoor
namespace Rows

/-- THE TIED CARD OF 'publisherlaw49.ProjectExact'. -/
def projectExactCard : Claim7 := { stood := { row := projectExactRow, standIns := [], harness := (true, "4ce8f1e7fb40a893d317f664dd5066862d4040a80ecaffb22a9c29cf234499d4"), looks := false }, kinds := [], alts := [], laidByText := true, laidKinds := [.data, .data, .data, .data, .pinned], laidTests := true, laidLooks := .later }
def ProjectExactCardSaid : Prop := Claim7.holds Tryd.pinned (.plain (OpenSpec.ofChange projectExactSpec)) projectExactCard

/-- THE TIED CARD OF 'publisherlaw49.ProjectSames'. -/
def projectSamesCard : Claim7 := { stood := { row := projectSamesRow, standIns := [], harness := (true, "4ce8f1e7fb40a893d317f664dd5066862d4040a80ecaffb22a9c29cf234499d4"), looks := false }, kinds := [], alts := [], laidByText := true, laidKinds := [.data, .data, .data, .data, .pinned], laidTests := true, laidLooks := .later }
def ProjectSamesCardSaid : Prop := Claim7.holds Tryd.pinned (.plain (OpenSpec.ofChange projectSamesSpec)) projectSamesCard

/-- THE SECOND FORM's CARD OF 'publisherlaw49.ProjectExact'. -/
def projectExactUptoCard : Claim7 := { stood := { row := projectExactUptoRow, standIns := [], harness := (true, "4ce8f1e7fb40a893d317f664dd5066862d4040a80ecaffb22a9c29cf234499d4"), looks := false }, kinds := [], alts := [], laidByText := true, laidKinds := [.data, .data, .data, .data, .pinned], laidTests := true, laidLooks := .later }
def ProjectExactUptoCardSaid : Prop := Claim7.holds Tryd.pinned (.plain (OpenSpec.upto projectExactSpec)) projectExactUptoCard

/-- THE SECOND FORM's CARD OF 'publisherlaw49.ProjectSames'. -/
def projectSamesUptoCard : Claim7 := { stood := { row := projectSamesUptoRow, standIns := [], harness := (true, "4ce8f1e7fb40a893d317f664dd5066862d4040a80ecaffb22a9c29cf234499d4"), looks := false }, kinds := [], alts := [], laidByText := true, laidKinds := [.data, .data, .data, .data, .pinned], laidTests := true, laidLooks := .later }
def ProjectSamesUptoCardSaid : Prop := Claim7.holds Tryd.pinned (.plain (OpenSpec.upto projectSamesSpec)) projectSamesUptoCard
end Rows
end Go.Proofs.YtmkenekngaihhaaDoor
