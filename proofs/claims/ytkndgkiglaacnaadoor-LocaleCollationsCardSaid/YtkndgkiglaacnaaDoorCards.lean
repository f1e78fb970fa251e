/-
  DERIVED. GIVEN WITH THE SEED: THE CARDS: each row of YtkndgkiglaacnaaDoorRows.lean that lists a variable, with what it lists TIED to the program's text (the seventh form; the later family's looks); each row that meets fmt, with fmt's text TOLD by the authors' own Lean function (tested against real Go, not proved from fmt's source: count such statements apart). THE CARD IS WHAT COUNTS. Prove the row's statement (the work); the ties are given (YtkndgkiglaacnaaDoorTie.lean); close each card by the builder's one call (the guide's Derived/Test/ToyasCard.lean, 'card_holds'). Laid BY PROGRAM, IN A SANDBOX (cutbox-door.mjs). By AI agents, Wed Nov 11 2026. No macro, syntax, notation, axiom, sorry.
-/
import Derived.Test.YtkndgkiglaacnaaDoorRows
import GoSem.ClaimSeven
namespace Go.Proofs.YtkndgkiglaacnaaDoor
namespace Rows

/-- THE TIED CARD OF 'publisherlaw28.LocaleTerms'. -/
def localeTermsCard : Claim7 := { stood := { row := localeTermsRow, standIns := [], harness := (true, "96d2590566a5fa185d71522bf9e283f172f296adad738205d130f466f68263c8"), looks := false }, kinds := [], alts := [], laidByText := true, laidKinds := [.data, .data, .data, .data, .pinned], laidTests := true, laidLooks := .later }
def LocaleTermsCardSaid : Prop := Claim7.holds Tryd.pinned (.plain (OpenSpec.ofChange localeTermsSpec)) localeTermsCard

/-- THE TIED CARD OF 'publisherlaw28.LocaleOrdinals'. -/
def localeOrdinalsCard : Claim7 := { stood := { row := localeOrdinalsRow, standIns := [], harness := (true, "96d2590566a5fa185d71522bf9e283f172f296adad738205d130f466f68263c8"), looks := false }, kinds := [], alts := [], laidByText := true, laidKinds := [.data, .data, .data, .data, .pinned], laidTests := true, laidLooks := .later }
def LocaleOrdinalsCardSaid : Prop := Claim7.holds Tryd.pinned (.plain (OpenSpec.ofChange localeOrdinalsSpec)) localeOrdinalsCard

/-- THE TIED CARD OF 'publisherlaw28.LocaleDates'. -/
def localeDatesCard : Claim7 := { stood := { row := localeDatesRow, standIns := [], harness := (true, "96d2590566a5fa185d71522bf9e283f172f296adad738205d130f466f68263c8"), looks := false }, kinds := [], alts := [], laidByText := true, laidKinds := [.data, .data, .data, .data, .pinned], laidTests := true, laidLooks := .later }
def LocaleDatesCardSaid : Prop := Claim7.holds Tryd.pinned (.plain (OpenSpec.ofChange localeDatesSpec)) localeDatesCard

/-- THE TIED CARD OF 'publisherlaw28.LocaleDiffer'. -/
def localeDifferCard : Claim7 := { stood := { row := localeDifferRow, standIns := [], harness := (true, "96d2590566a5fa185d71522bf9e283f172f296adad738205d130f466f68263c8"), looks := false }, kinds := [], alts := [], laidByText := true, laidKinds := [.data, .data, .data, .data, .pinned], laidTests := true, laidLooks := .later }
def LocaleDifferCardSaid : Prop := Claim7.holds Tryd.pinned (.plain (OpenSpec.ofChange localeDifferSpec)) localeDifferCard

/-- THE TIED CARD OF 'publisherlaw28.LocaleLists'. -/
def localeListsCard : Claim7 := { stood := { row := localeListsRow, standIns := [], harness := (true, "96d2590566a5fa185d71522bf9e283f172f296adad738205d130f466f68263c8"), looks := false }, kinds := [], alts := [], laidByText := true, laidKinds := [.data, .data, .data, .data, .pinned], laidTests := true, laidLooks := .later }
def LocaleListsCardSaid : Prop := Claim7.holds Tryd.pinned (.plain (OpenSpec.ofChange localeListsSpec)) localeListsCard

/-- THE TIED CARD OF 'publisherlaw28.LocaleRomans'. -/
def localeRomansCard : Claim7 := { stood := { row := localeRomansRow, standIns := [], harness := (true, "96d2590566a5fa185d71522bf9e283f172f296adad738205d130f466f68263c8"), looks := false }, kinds := [], alts := [], laidByText := true, laidKinds := [.data, .data, .data, .data, .pinned], laidTests := true, laidLooks := .later }
def LocaleRomansCardSaid : Prop := Claim7.holds Tryd.pinned (.plain (OpenSpec.ofChange localeRomansSpec)) localeRomansCard

/-- THE TIED CARD OF 'publisherlaw28.LocaleCollations'. -/
def localeCollationsCard : Claim7 := { stood := { row := localeCollationsRow, standIns := [], harness := (true, "96d2590566a5fa185d71522bf9e283f172f296adad738205d130f466f68263c8"), looks := false }, kinds := [], alts := [], laidByText := true, laidKinds := [.data, .data, .data, .data, .pinned], laidTests := true, laidLooks := .later }
def LocaleCollationsCardSaid : Prop := Claim7.holds Tryd.pinned (.plain (OpenSpec.ofChange localeCollationsSpec)) localeCollationsCard

/-- THE SECOND FORM's CARD OF 'publisherlaw28.LocaleTerms'. -/
def localeTermsUptoCard : Claim7 := { stood := { row := localeTermsUptoRow, standIns := [], harness := (true, "96d2590566a5fa185d71522bf9e283f172f296adad738205d130f466f68263c8"), looks := false }, kinds := [], alts := [], laidByText := true, laidKinds := [.data, .data, .data, .data, .pinned], laidTests := true, laidLooks := .later }
def LocaleTermsUptoCardSaid : Prop := Claim7.holds Tryd.pinned (.plain (OpenSpec.upto localeTermsSpec)) localeTermsUptoCard

/-- THE SECOND FORM's CARD OF 'publisherlaw28.LocaleOrdinals'. -/
def localeOrdinalsUptoCard : Claim7 := { stood := { row := localeOrdinalsUptoRow, standIns := [], harness := (true, "96d2590566a5fa185d71522bf9e283f172f296adad738205d130f466f68263c8"), looks := false }, kinds := [], alts := [], laidByText := true, laidKinds := [.data, .data, .data, .data, .pinned], laidTests := true, laidLooks := .later }
def LocaleOrdinalsUptoCardSaid : Prop := Claim7.holds Tryd.pinned (.plain (OpenSpec.upto localeOrdinalsSpec)) localeOrdinalsUptoCard

/-- THE SECOND FORM's CARD OF 'publisherlaw28.LocaleDates'. -/
def localeDatesUptoCard : Claim7 := { stood := { row := localeDatesUptoRow, standIns := [], harness := (true, "96d2590566a5fa185d71522bf9e283f172f296adad738205d130f466f68263c8"), looks := false }, kinds := [], alts := [], laidByText := true, laidKinds := [.data, .data, .data, .data, .pinned], laidTests := true, laidLooks := .later }
def LocaleDatesUptoCardSaid : Prop := Claim7.holds Tryd.pinned (.plain (OpenSpec.upto localeDatesSpec)) localeDatesUptoCard

/-- THE SECOND FORM's CARD OF 'publisherlaw28.LocaleDiffer'. -/
def localeDifferUptoCard : Claim7 := { stood := { row := localeDifferUptoRow, standIns := [], harness := (true, "96d2590566a5fa185d71522bf9e283f172f296adad738205d130f466f68263c8"), looks := false }, kinds := [], alts := [], laidByText := true, laidKinds := [.data, .data, .data, .data, .pinned], laidTests := true, laidLooks := .later }
def LocaleDifferUptoCardSaid : Prop := Claim7.holds Tryd.pinned (.plain (OpenSpec.upto localeDifferSpec)) localeDifferUptoCard

/-- THE SECOND FORM's CARD OF 'publisherlaw28.LocaleLists'. -/
def localeListsUptoCard : Claim7 := { stood := { row := localeListsUptoRow, standIns := [], harness := (true, "96d2590566a5fa185d71522bf9e283f172f296adad738205d130f466f68263c8"), looks := false }, kinds := [], alts := [], laidByText := true, laidKinds := [.data, .data, .data, .data, .pinned], laidTests := true, laidLooks := .later }
def LocaleListsUptoCardSaid : Prop := Claim7.holds Tryd.pinned (.plain (OpenSpec.upto localeListsSpec)) localeListsUptoCard

/-- THE SECOND FORM's CARD OF 'publisherlaw28.LocaleRomans'. -/
def localeRomansUptoCard : Claim7 := { stood := { row := localeRomansUptoRow, standIns := [], harness := (true, "96d2590566a5fa185d71522bf9e283f172f296adad738205d130f466f68263c8"), looks := false }, kinds := [], alts := [], laidByText := true, laidKinds := [.data, .data, .data, .data, .pinned], laidTests := true, laidLooks := .later }
def LocaleRomansUptoCardSaid : Prop := Claim7.holds Tryd.pinned (.plain (OpenSpec.upto localeRomansSpec)) localeRomansUptoCard

/-- THE SECOND FORM's CARD OF 'publisherlaw28.LocaleCollations'. -/
def localeCollationsUptoCard : Claim7 := { stood := { row := localeCollationsUptoRow, standIns := [], harness := (true, "96d2590566a5fa185d71522bf9e283f172f296adad738205d130f466f68263c8"), looks := false }, kinds := [], alts := [], laidByText := true, laidKinds := [.data, .data, .data, .data, .pinned], laidTests := true, laidLooks := .later }
def LocaleCollationsUptoCardSaid : Prop := Claim7.holds Tryd.pinned (.plain (OpenSpec.upto localeCollationsSpec)) localeCollationsUptoCard
end Rows
end Go.Proofs.YtkndgkiglaacnaaDoor
