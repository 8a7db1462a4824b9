/-
  DERIVED. GIVEN WITH THE SEED: THE CARDS: each row of YtfblngdmeliabaaDoorRows.lean that lists a variable, with what it lists TIED to the program's text (the seventh form; the later family's looks); each row that meets fmt, with fmt's text TOLD by the authors' own Lean function (tested against real Go, not proved from fmt's source: count such statements apart). THE CARD IS WHAT COUNTS. Prove the row's statement (the work); the ties are given (YtfblngdmeliabaaDoorTie.lean); close each card by the builder's one call (the guide's Derived/Test/ToyasCard.lean, 'card_holds'). Laid BY PROGRAM, IN A SANDBOX (cutbox-door.mjs). By AI agents, Wed Nov 11 2026. No macro, syntax, notation, axiom, sorry.
-/
import Derived.Test.YtfblngdmeliabaaDoorRows
import GoSem.ClaimSeven
namespace Go.Proofs.YtfblngdmeliabaaDoor
namespace Rows

/-- THE TIED CARD OF 'pandectlaw04.CalendarMany'. -/
def calendarManyCard : Claim7 := { stood := { row := calendarManyRow, standIns := [], harness := (true, "f93d69abadbe04bf801e8227953075f02d05b2f3368c2f367b64ed7d637bdb69"), looks := true }, kinds := [], alts := [], laidByText := true, laidKinds := [.data, .data, .data], laidTests := true, laidLooks := .later }
def CalendarManyCardSaid : Prop := Claim7.holds Tryd.pinned (.plain (OpenSpec.ofChange calendarManySpec)) calendarManyCard

/-- THE TIED CARD OF 'pandectlaw04.CalendarDates'. -/
def calendarDatesCard : Claim7 := { stood := { row := calendarDatesRow, standIns := [], harness := (true, "f93d69abadbe04bf801e8227953075f02d05b2f3368c2f367b64ed7d637bdb69"), looks := true }, kinds := [], alts := [], laidByText := true, laidKinds := [.data, .data, .data], laidTests := true, laidLooks := .later }
def CalendarDatesCardSaid : Prop := Claim7.holds Tryd.pinned (.plain (OpenSpec.ofChange calendarDatesSpec)) calendarDatesCard

/-- THE TIED CARD OF 'pandectlaw04.CalendarWeeks'. -/
def calendarWeeksCard : Claim7 := { stood := { row := calendarWeeksRow, standIns := [], harness := (true, "f93d69abadbe04bf801e8227953075f02d05b2f3368c2f367b64ed7d637bdb69"), looks := true }, kinds := [], alts := [], laidByText := true, laidKinds := [.data, .data, .data], laidTests := true, laidLooks := .later }
def CalendarWeeksCardSaid : Prop := Claim7.holds Tryd.pinned (.plain (OpenSpec.ofChange calendarWeeksSpec)) calendarWeeksCard

/-- THE TIED CARD OF 'pandectlaw04.CalendarEnds'. -/
def calendarEndsCard : Claim7 := { stood := { row := calendarEndsRow, standIns := [], harness := (true, "f93d69abadbe04bf801e8227953075f02d05b2f3368c2f367b64ed7d637bdb69"), looks := true }, kinds := [], alts := [], laidByText := true, laidKinds := [.data, .data, .data], laidTests := true, laidLooks := .later }
def CalendarEndsCardSaid : Prop := Claim7.holds Tryd.pinned (.plain (OpenSpec.ofChange calendarEndsSpec)) calendarEndsCard

/-- THE TIED CARD OF 'pandectlaw04.CalendarMonths'. -/
def calendarMonthsCard : Claim7 := { stood := { row := calendarMonthsRow, standIns := [], harness := (true, "f93d69abadbe04bf801e8227953075f02d05b2f3368c2f367b64ed7d637bdb69"), looks := true }, kinds := [], alts := [], laidByText := true, laidKinds := [.data, .data, .data], laidTests := true, laidLooks := .later }
def CalendarMonthsCardSaid : Prop := Claim7.holds Tryd.pinned (.plain (OpenSpec.ofChange calendarMonthsSpec)) calendarMonthsCard

/-- THE TIED CARD OF 'pandectlaw04.CalendarLonger'. -/
def calendarLongerCard : Claim7 := { stood := { row := calendarLongerRow, standIns := [], harness := (true, "f93d69abadbe04bf801e8227953075f02d05b2f3368c2f367b64ed7d637bdb69"), looks := true }, kinds := [], alts := [], laidByText := true, laidKinds := [.data, .data, .data], laidTests := true, laidLooks := .later }
def CalendarLongerCardSaid : Prop := Claim7.holds Tryd.pinned (.plain (OpenSpec.ofChange calendarLongerSpec)) calendarLongerCard

/-- THE TIED CARD OF 'pandectlaw04.CalendarMatchesReference'. -/
def calendarMatchesReferenceCard : Claim7 := { stood := { row := calendarMatchesReferenceRow, standIns := [], harness := (true, "f93d69abadbe04bf801e8227953075f02d05b2f3368c2f367b64ed7d637bdb69"), looks := true }, kinds := [], alts := [], laidByText := true, laidKinds := [.data, .data, .data, .data, .sentinel, .sentinel, .pinned], laidTests := true, laidLooks := .later }
def CalendarMatchesReferenceCardSaid : Prop := Claim7.holds Tryd.pinned (.plain (OpenSpec.ofChange calendarMatchesReferenceSpec)) calendarMatchesReferenceCard

/-- THE TIED CARD OF 'pandectlaw04.CalendarTexts'. -/
def calendarTextsCard : Claim7 := { stood := { row := calendarTextsRow, standIns := [], harness := (true, "f93d69abadbe04bf801e8227953075f02d05b2f3368c2f367b64ed7d637bdb69"), looks := true }, kinds := [], alts := [], laidByText := true, laidKinds := [.data, .data, .data, .data, .sentinel, .sentinel, .pinned], laidTests := true, laidLooks := .later }
def CalendarTextsCardSaid : Prop := Claim7.holds Tryd.pinned (.plain (OpenSpec.ofChange calendarTextsSpec)) calendarTextsCard

/-- THE SECOND FORM's CARD OF 'pandectlaw04.CalendarMany'. -/
def calendarManyUptoCard : Claim7 := { stood := { row := calendarManyUptoRow, standIns := [], harness := (true, "f93d69abadbe04bf801e8227953075f02d05b2f3368c2f367b64ed7d637bdb69"), looks := true }, kinds := [], alts := [], laidByText := true, laidKinds := [.data, .data, .data], laidTests := true, laidLooks := .later }
def CalendarManyUptoCardSaid : Prop := Claim7.holds Tryd.pinned (.plain (OpenSpec.upto calendarManySpec)) calendarManyUptoCard

/-- THE SECOND FORM's CARD OF 'pandectlaw04.CalendarDates'. -/
def calendarDatesUptoCard : Claim7 := { stood := { row := calendarDatesUptoRow, standIns := [], harness := (true, "f93d69abadbe04bf801e8227953075f02d05b2f3368c2f367b64ed7d637bdb69"), looks := true }, kinds := [], alts := [], laidByText := true, laidKinds := [.data, .data, .data], laidTests := true, laidLooks := .later }
def CalendarDatesUptoCardSaid : Prop := Claim7.holds Tryd.pinned (.plain (OpenSpec.upto calendarDatesSpec)) calendarDatesUptoCard

/-- THE SECOND FORM's CARD OF 'pandectlaw04.CalendarWeeks'. -/
def calendarWeeksUptoCard : Claim7 := { stood := { row := calendarWeeksUptoRow, standIns := [], harness := (true, "f93d69abadbe04bf801e8227953075f02d05b2f3368c2f367b64ed7d637bdb69"), looks := true }, kinds := [], alts := [], laidByText := true, laidKinds := [.data, .data, .data], laidTests := true, laidLooks := .later }
def CalendarWeeksUptoCardSaid : Prop := Claim7.holds Tryd.pinned (.plain (OpenSpec.upto calendarWeeksSpec)) calendarWeeksUptoCard

/-- THE SECOND FORM's CARD OF 'pandectlaw04.CalendarEnds'. -/
def calendarEndsUptoCard : Claim7 := { stood := { row := calendarEndsUptoRow, standIns := [], harness := (true, "f93d69abadbe04bf801e8227953075f02d05b2f3368c2f367b64ed7d637bdb69"), looks := true }, kinds := [], alts := [], laidByText := true, laidKinds := [.data, .data, .data], laidTests := true, laidLooks := .later }
def CalendarEndsUptoCardSaid : Prop := Claim7.holds Tryd.pinned (.plain (OpenSpec.upto calendarEndsSpec)) calendarEndsUptoCard

/-- THE SECOND FORM's CARD OF 'pandectlaw04.CalendarMonths'. -/
def calendarMonthsUptoCard : Claim7 := { stood := { row := calendarMonthsUptoRow, standIns := [], harness := (true, "f93d69abadbe04bf801e8227953075f02d05b2f3368c2f367b64ed7d637bdb69"), looks := true }, kinds := [], alts := [], laidByText := true, laidKinds := [.data, .data, .data], laidTests := true, laidLooks := .later }
def CalendarMonthsUptoCardSaid : Prop := Claim7.holds Tryd.pinned (.plain (OpenSpec.upto calendarMonthsSpec)) calendarMonthsUptoCard

/-- THE SECOND FORM's CARD OF 'pandectlaw04.CalendarLonger'. -/
def calendarLongerUptoCard : Claim7 := { stood := { row := calendarLongerUptoRow, standIns := [], harness := (true, "f93d69abadbe04bf801e8227953075f02d05b2f3368c2f367b64ed7d637bdb69"), looks := true }, kinds := [], alts := [], laidByText := true, laidKinds := [.data, .data, .data], laidTests := true, laidLooks := .later }
def CalendarLongerUptoCardSaid : Prop := Claim7.holds Tryd.pinned (.plain (OpenSpec.upto calendarLongerSpec)) calendarLongerUptoCard

/-- THE SECOND FORM's CARD OF 'pandectlaw04.CalendarMatchesReference'. -/
def calendarMatchesReferenceUptoCard : Claim7 := { stood := { row := calendarMatchesReferenceUptoRow, standIns := [], harness := (true, "f93d69abadbe04bf801e8227953075f02d05b2f3368c2f367b64ed7d637bdb69"), looks := true }, kinds := [], alts := [], laidByText := true, laidKinds := [.data, .data, .data, .data, .sentinel, .sentinel, .pinned], laidTests := true, laidLooks := .later }
def CalendarMatchesReferenceUptoCardSaid : Prop := Claim7.holds Tryd.pinned (.plain (OpenSpec.upto calendarMatchesReferenceSpec)) calendarMatchesReferenceUptoCard

/-- THE SECOND FORM's CARD OF 'pandectlaw04.CalendarTexts'. -/
def calendarTextsUptoCard : Claim7 := { stood := { row := calendarTextsUptoRow, standIns := [], harness := (true, "f93d69abadbe04bf801e8227953075f02d05b2f3368c2f367b64ed7d637bdb69"), looks := true }, kinds := [], alts := [], laidByText := true, laidKinds := [.data, .data, .data, .data, .sentinel, .sentinel, .pinned], laidTests := true, laidLooks := .later }
def CalendarTextsUptoCardSaid : Prop := Claim7.holds Tryd.pinned (.plain (OpenSpec.upto calendarTextsSpec)) calendarTextsUptoCard
end Rows
end Go.Proofs.YtfblngdmeliabaaDoor
