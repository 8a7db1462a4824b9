/-
  DERIVED. GIVEN WITH THE SEED: THE CARDS: each row of YtgfahifdmacmhaaGreatDoorRows.lean that lists a variable, with what it lists TIED to the program's text (the seventh form; the later family's looks); each row that meets fmt, with fmt's text TOLD by the authors' own Lean function (tested against real Go, not proved from fmt's source: count such statements apart). THE CARD IS WHAT COUNTS. Prove the row's statement (the work); the ties are given (YtgfahifdmacmhaaGreatDoorTie.lean); close each card by the builder's one call (the guide's Derived/Test/ToyasCard.lean, 'card_holds'). Laid BY PROGRAM, IN A SANDBOX (cutbox-door.mjs). By AI agents, Wed Nov 11 2026. No macro, syntax, notation, axiom, sorry.
-/
import Derived.Test.YtgfahifdmacmhaaGreatDoorRows
import GoSem.ClaimSeven
namespace Go.Proofs.YtgfahifdmacmhaaGreatDoor
namespace Rows

/-- THE TIED CARD OF 'pandectlaw31.MatterTextsMatchReference'. -/
def matterTextsMatchReferenceCard : Claim7 := { stood := { row := matterTextsMatchReferenceRow, standIns := [], harness := (true, "f4dd5139a05739010d1ac77f0088a465329798e8aae40c4b7130606b42953074"), looks := true }, kinds := [], alts := [], laidByText := true, laidKinds := [.data, .data, .data, .data, .sentinel, .sentinel, .pinned], laidTests := true, laidLooks := .later }
def MatterTextsMatchReferenceCardSaid : Prop := Claim7.holds Tryz.pinned (.plain (OpenSpec.ofChange matterTextsMatchReferenceSpec)) matterTextsMatchReferenceCard

/-- THE TIED CARD OF 'pandectlaw31.MatterTexts'. -/
def matterTextsCard : Claim7 := { stood := { row := matterTextsRow, standIns := [], harness := (true, "f4dd5139a05739010d1ac77f0088a465329798e8aae40c4b7130606b42953074"), looks := true }, kinds := [], alts := [], laidByText := true, laidKinds := [.data, .data, .data, .data, .sentinel, .sentinel, .pinned], laidTests := true, laidLooks := .later }
def MatterTextsCardSaid : Prop := Claim7.holds Tryz.pinned (.plain (OpenSpec.ofChange matterTextsSpec)) matterTextsCard

/-- THE TIED CARD OF 'pandectlaw31.MatterDays'. -/
def matterDaysCard : Claim7 := { stood := { row := matterDaysRow, standIns := [], harness := (true, "f4dd5139a05739010d1ac77f0088a465329798e8aae40c4b7130606b42953074"), looks := true }, kinds := [], alts := [], laidByText := true, laidKinds := [.data, .data, .data, .data, .sentinel, .sentinel, .pinned], laidTests := true, laidLooks := .later }
def MatterDaysCardSaid : Prop := Claim7.holds Tryz.pinned (.plain (OpenSpec.ofChange matterDaysSpec)) matterDaysCard

/-- THE TIED CARD OF 'pandectlaw31.MatterFields'. -/
def matterFieldsCard : Claim7 := { stood := { row := matterFieldsRow, standIns := [], harness := (true, "f4dd5139a05739010d1ac77f0088a465329798e8aae40c4b7130606b42953074"), looks := true }, kinds := [], alts := [], laidByText := true, laidKinds := [.data, .data, .data, .data, .sentinel, .sentinel, .pinned], laidTests := true, laidLooks := .later }
def MatterFieldsCardSaid : Prop := Claim7.holds Tryz.pinned (.plain (OpenSpec.ofChange matterFieldsSpec)) matterFieldsCard

/-- THE TIED CARD OF 'pandectlaw31.MatterMatchesReference'. -/
def matterMatchesReferenceCard : Claim7 := { stood := { row := matterMatchesReferenceRow, standIns := [], harness := (true, "f4dd5139a05739010d1ac77f0088a465329798e8aae40c4b7130606b42953074"), looks := true }, kinds := [], alts := [], laidByText := true, laidKinds := [.data, .data, .data, .data, .sentinel, .sentinel, .pinned], laidTests := true, laidLooks := .later }
def MatterMatchesReferenceCardSaid : Prop := Claim7.holds Tryz.pinned (.plain (OpenSpec.ofChange matterMatchesReferenceSpec)) matterMatchesReferenceCard

/-- THE TIED CARD OF 'pandectlaw31.MatterMoves'. -/
def matterMovesCard : Claim7 := { stood := { row := matterMovesRow, standIns := [], harness := (true, "f4dd5139a05739010d1ac77f0088a465329798e8aae40c4b7130606b42953074"), looks := true }, kinds := [], alts := [], laidByText := true, laidKinds := [.data, .data, .data, .data, .sentinel, .sentinel, .pinned], laidTests := true, laidLooks := .later }
def MatterMovesCardSaid : Prop := Claim7.holds Tryz.pinned (.plain (OpenSpec.ofChange matterMovesSpec)) matterMovesCard

/-- THE SECOND FORM's CARD OF 'pandectlaw31.MatterTextsMatchReference'. -/
def matterTextsMatchReferenceUptoCard : Claim7 := { stood := { row := matterTextsMatchReferenceUptoRow, standIns := [], harness := (true, "f4dd5139a05739010d1ac77f0088a465329798e8aae40c4b7130606b42953074"), looks := true }, kinds := [], alts := [], laidByText := true, laidKinds := [.data, .data, .data, .data, .sentinel, .sentinel, .pinned], laidTests := true, laidLooks := .later }
def MatterTextsMatchReferenceUptoCardSaid : Prop := Claim7.holds Tryz.pinned (.plain (OpenSpec.upto matterTextsMatchReferenceSpec)) matterTextsMatchReferenceUptoCard

/-- THE SECOND FORM's CARD OF 'pandectlaw31.MatterTexts'. -/
def matterTextsUptoCard : Claim7 := { stood := { row := matterTextsUptoRow, standIns := [], harness := (true, "f4dd5139a05739010d1ac77f0088a465329798e8aae40c4b7130606b42953074"), looks := true }, kinds := [], alts := [], laidByText := true, laidKinds := [.data, .data, .data, .data, .sentinel, .sentinel, .pinned], laidTests := true, laidLooks := .later }
def MatterTextsUptoCardSaid : Prop := Claim7.holds Tryz.pinned (.plain (OpenSpec.upto matterTextsSpec)) matterTextsUptoCard

/-- THE SECOND FORM's CARD OF 'pandectlaw31.MatterDays'. -/
def matterDaysUptoCard : Claim7 := { stood := { row := matterDaysUptoRow, standIns := [], harness := (true, "f4dd5139a05739010d1ac77f0088a465329798e8aae40c4b7130606b42953074"), looks := true }, kinds := [], alts := [], laidByText := true, laidKinds := [.data, .data, .data, .data, .sentinel, .sentinel, .pinned], laidTests := true, laidLooks := .later }
def MatterDaysUptoCardSaid : Prop := Claim7.holds Tryz.pinned (.plain (OpenSpec.upto matterDaysSpec)) matterDaysUptoCard

/-- THE SECOND FORM's CARD OF 'pandectlaw31.MatterFields'. -/
def matterFieldsUptoCard : Claim7 := { stood := { row := matterFieldsUptoRow, standIns := [], harness := (true, "f4dd5139a05739010d1ac77f0088a465329798e8aae40c4b7130606b42953074"), looks := true }, kinds := [], alts := [], laidByText := true, laidKinds := [.data, .data, .data, .data, .sentinel, .sentinel, .pinned], laidTests := true, laidLooks := .later }
def MatterFieldsUptoCardSaid : Prop := Claim7.holds Tryz.pinned (.plain (OpenSpec.upto matterFieldsSpec)) matterFieldsUptoCard

/-- THE SECOND FORM's CARD OF 'pandectlaw31.MatterMatchesReference'. -/
def matterMatchesReferenceUptoCard : Claim7 := { stood := { row := matterMatchesReferenceUptoRow, standIns := [], harness := (true, "f4dd5139a05739010d1ac77f0088a465329798e8aae40c4b7130606b42953074"), looks := true }, kinds := [], alts := [], laidByText := true, laidKinds := [.data, .data, .data, .data, .sentinel, .sentinel, .pinned], laidTests := true, laidLooks := .later }
def MatterMatchesReferenceUptoCardSaid : Prop := Claim7.holds Tryz.pinned (.plain (OpenSpec.upto matterMatchesReferenceSpec)) matterMatchesReferenceUptoCard

/-- THE SECOND FORM's CARD OF 'pandectlaw31.MatterMoves'. -/
def matterMovesUptoCard : Claim7 := { stood := { row := matterMovesUptoRow, standIns := [], harness := (true, "f4dd5139a05739010d1ac77f0088a465329798e8aae40c4b7130606b42953074"), looks := true }, kinds := [], alts := [], laidByText := true, laidKinds := [.data, .data, .data, .data, .sentinel, .sentinel, .pinned], laidTests := true, laidLooks := .later }
def MatterMovesUptoCardSaid : Prop := Claim7.holds Tryz.pinned (.plain (OpenSpec.upto matterMovesSpec)) matterMovesUptoCard
end Rows
end Go.Proofs.YtgfahifdmacmhaaGreatDoor
