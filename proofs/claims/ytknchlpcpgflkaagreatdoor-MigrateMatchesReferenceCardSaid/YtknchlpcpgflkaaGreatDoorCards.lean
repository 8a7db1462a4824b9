/-
  DERIVED. GIVEN WITH THE SEED: THE CARDS: each row of YtknchlpcpgflkaaGreatDoorRows.lean that lists a variable, with what it lists TIED to the program's text (the seventh form; the later family's looks); each row that meets fmt, with fmt's text TOLD by the authors' own Lean function (tested against real Go, not proved from fmt's source: count such statements apart). THE CARD IS WHAT COUNTS. Prove the row's statement (the work); the ties are given (YtknchlpcpgflkaaGreatDoorTie.lean); close each card by the builder's one call (the guide's Derived/Test/ToyasCard.lean, 'card_holds'). Laid BY PROGRAM, IN A SANDBOX (cutbox-door.mjs). By AI agents, Wed Nov 11 2026. No macro, syntax, notation, axiom, sorry.
-/
import Derived.Test.YtknchlpcpgflkaaGreatDoorRows
import GoSem.ClaimSeven
namespace Go.Proofs.YtknchlpcpgflkaaGreatDoor
namespace Rows

/-- THE TIED CARD OF 'pandectlaw32.MigrateLimits'. -/
def migrateLimitsCard : Claim7 := { stood := { row := migrateLimitsRow, standIns := [], harness := (true, "aaa98fe224987af3751e10715edddecce428c4b3a3ed5ca7277b6b48022588a2"), looks := true }, kinds := [], alts := [], laidByText := true, laidKinds := [.data, .data, .data, .sentinel, .sentinel], laidTests := true, laidLooks := .later }
def MigrateLimitsCardSaid : Prop := Claim7.holds Tryz.pinned (.plain (OpenSpec.ofChange migrateLimitsSpec)) migrateLimitsCard

/-- THE TIED CARD OF 'pandectlaw32.MigrateStuck'. -/
def migrateStuckCard : Claim7 := { stood := { row := migrateStuckRow, standIns := [], harness := (true, "aaa98fe224987af3751e10715edddecce428c4b3a3ed5ca7277b6b48022588a2"), looks := true }, kinds := [], alts := [], laidByText := true, laidKinds := [.data, .data, .data, .sentinel, .sentinel], laidTests := true, laidLooks := .later }
def MigrateStuckCardSaid : Prop := Claim7.holds Tryz.pinned (.plain (OpenSpec.ofChange migrateStuckSpec)) migrateStuckCard

/-- THE TIED CARD OF 'pandectlaw32.MigrateRights'. -/
def migrateRightsCard : Claim7 := { stood := { row := migrateRightsRow, standIns := [], harness := (true, "aaa98fe224987af3751e10715edddecce428c4b3a3ed5ca7277b6b48022588a2"), looks := true }, kinds := [], alts := [], laidByText := true, laidKinds := [.data, .data, .data, .sentinel, .sentinel], laidTests := true, laidLooks := .later }
def MigrateRightsCardSaid : Prop := Claim7.holds Tryz.pinned (.plain (OpenSpec.ofChange migrateRightsSpec)) migrateRightsCard

/-- THE TIED CARD OF 'pandectlaw32.MigrateKeeps'. -/
def migrateKeepsCard : Claim7 := { stood := { row := migrateKeepsRow, standIns := [], harness := (true, "aaa98fe224987af3751e10715edddecce428c4b3a3ed5ca7277b6b48022588a2"), looks := true }, kinds := [], alts := [], laidByText := true, laidKinds := [.data, .data, .data, .sentinel, .sentinel], laidTests := true, laidLooks := .later }
def MigrateKeepsCardSaid : Prop := Claim7.holds Tryz.pinned (.plain (OpenSpec.ofChange migrateKeepsSpec)) migrateKeepsCard

/-- THE TIED CARD OF 'pandectlaw32.MigrateMatchesReference'. -/
def migrateMatchesReferenceCard : Claim7 := { stood := { row := migrateMatchesReferenceRow, standIns := [], harness := (true, "aaa98fe224987af3751e10715edddecce428c4b3a3ed5ca7277b6b48022588a2"), looks := true }, kinds := [], alts := [], laidByText := true, laidKinds := [.data, .data, .data, .sentinel, .sentinel], laidTests := true, laidLooks := .later }
def MigrateMatchesReferenceCardSaid : Prop := Claim7.holds Tryz.pinned (.plain (OpenSpec.ofChange migrateMatchesReferenceSpec)) migrateMatchesReferenceCard

/-- THE TIED CARD OF 'pandectlaw32.MigrateChains'. -/
def migrateChainsCard : Claim7 := { stood := { row := migrateChainsRow, standIns := [], harness := (true, "aaa98fe224987af3751e10715edddecce428c4b3a3ed5ca7277b6b48022588a2"), looks := true }, kinds := [], alts := [], laidByText := true, laidKinds := [.data, .data, .data, .sentinel, .sentinel], laidTests := true, laidLooks := .later }
def MigrateChainsCardSaid : Prop := Claim7.holds Tryz.pinned (.plain (OpenSpec.ofChange migrateChainsSpec)) migrateChainsCard

/-- THE TIED CARD OF 'pandectlaw32.MigrateNothing'. -/
def migrateNothingCard : Claim7 := { stood := { row := migrateNothingRow, standIns := [], harness := (true, "aaa98fe224987af3751e10715edddecce428c4b3a3ed5ca7277b6b48022588a2"), looks := true }, kinds := [], alts := [], laidByText := true, laidKinds := [.data, .data, .data, .sentinel, .sentinel], laidTests := true, laidLooks := .later }
def MigrateNothingCardSaid : Prop := Claim7.holds Tryz.pinned (.plain (OpenSpec.ofChange migrateNothingSpec)) migrateNothingCard

/-- THE SECOND FORM's CARD OF 'pandectlaw32.MigrateLimits'. -/
def migrateLimitsUptoCard : Claim7 := { stood := { row := migrateLimitsUptoRow, standIns := [], harness := (true, "aaa98fe224987af3751e10715edddecce428c4b3a3ed5ca7277b6b48022588a2"), looks := true }, kinds := [], alts := [], laidByText := true, laidKinds := [.data, .data, .data, .sentinel, .sentinel], laidTests := true, laidLooks := .later }
def MigrateLimitsUptoCardSaid : Prop := Claim7.holds Tryz.pinned (.plain (OpenSpec.upto migrateLimitsSpec)) migrateLimitsUptoCard

/-- THE SECOND FORM's CARD OF 'pandectlaw32.MigrateStuck'. -/
def migrateStuckUptoCard : Claim7 := { stood := { row := migrateStuckUptoRow, standIns := [], harness := (true, "aaa98fe224987af3751e10715edddecce428c4b3a3ed5ca7277b6b48022588a2"), looks := true }, kinds := [], alts := [], laidByText := true, laidKinds := [.data, .data, .data, .sentinel, .sentinel], laidTests := true, laidLooks := .later }
def MigrateStuckUptoCardSaid : Prop := Claim7.holds Tryz.pinned (.plain (OpenSpec.upto migrateStuckSpec)) migrateStuckUptoCard

/-- THE SECOND FORM's CARD OF 'pandectlaw32.MigrateRights'. -/
def migrateRightsUptoCard : Claim7 := { stood := { row := migrateRightsUptoRow, standIns := [], harness := (true, "aaa98fe224987af3751e10715edddecce428c4b3a3ed5ca7277b6b48022588a2"), looks := true }, kinds := [], alts := [], laidByText := true, laidKinds := [.data, .data, .data, .sentinel, .sentinel], laidTests := true, laidLooks := .later }
def MigrateRightsUptoCardSaid : Prop := Claim7.holds Tryz.pinned (.plain (OpenSpec.upto migrateRightsSpec)) migrateRightsUptoCard

/-- THE SECOND FORM's CARD OF 'pandectlaw32.MigrateKeeps'. -/
def migrateKeepsUptoCard : Claim7 := { stood := { row := migrateKeepsUptoRow, standIns := [], harness := (true, "aaa98fe224987af3751e10715edddecce428c4b3a3ed5ca7277b6b48022588a2"), looks := true }, kinds := [], alts := [], laidByText := true, laidKinds := [.data, .data, .data, .sentinel, .sentinel], laidTests := true, laidLooks := .later }
def MigrateKeepsUptoCardSaid : Prop := Claim7.holds Tryz.pinned (.plain (OpenSpec.upto migrateKeepsSpec)) migrateKeepsUptoCard

/-- THE SECOND FORM's CARD OF 'pandectlaw32.MigrateMatchesReference'. -/
def migrateMatchesReferenceUptoCard : Claim7 := { stood := { row := migrateMatchesReferenceUptoRow, standIns := [], harness := (true, "aaa98fe224987af3751e10715edddecce428c4b3a3ed5ca7277b6b48022588a2"), looks := true }, kinds := [], alts := [], laidByText := true, laidKinds := [.data, .data, .data, .sentinel, .sentinel], laidTests := true, laidLooks := .later }
def MigrateMatchesReferenceUptoCardSaid : Prop := Claim7.holds Tryz.pinned (.plain (OpenSpec.upto migrateMatchesReferenceSpec)) migrateMatchesReferenceUptoCard

/-- THE SECOND FORM's CARD OF 'pandectlaw32.MigrateChains'. -/
def migrateChainsUptoCard : Claim7 := { stood := { row := migrateChainsUptoRow, standIns := [], harness := (true, "aaa98fe224987af3751e10715edddecce428c4b3a3ed5ca7277b6b48022588a2"), looks := true }, kinds := [], alts := [], laidByText := true, laidKinds := [.data, .data, .data, .sentinel, .sentinel], laidTests := true, laidLooks := .later }
def MigrateChainsUptoCardSaid : Prop := Claim7.holds Tryz.pinned (.plain (OpenSpec.upto migrateChainsSpec)) migrateChainsUptoCard

/-- THE SECOND FORM's CARD OF 'pandectlaw32.MigrateNothing'. -/
def migrateNothingUptoCard : Claim7 := { stood := { row := migrateNothingUptoRow, standIns := [], harness := (true, "aaa98fe224987af3751e10715edddecce428c4b3a3ed5ca7277b6b48022588a2"), looks := true }, kinds := [], alts := [], laidByText := true, laidKinds := [.data, .data, .data, .sentinel, .sentinel], laidTests := true, laidLooks := .later }
def MigrateNothingUptoCardSaid : Prop := Claim7.holds Tryz.pinned (.plain (OpenSpec.upto migrateNothingSpec)) migrateNothingUptoCard
end Rows
end Go.Proofs.YtknchlpcpgflkaaGreatDoor
