/-
  DERIVED. GIVEN WITH THE SEED: THE CARDS: each row of YtebdkmlganalaaaGreatDoorRows.lean that lists a variable, with what it lists TIED to the program's text (the seventh form; the later family's looks); each row that meets fmt, with fmt's text TOLD by the authors' own Lean function (tested against real Go, not proved from fmt's source: count such statements apart). THE CARD IS WHAT COUNTS. Prove the row's statement (the work); the ties are given (YtebdkmlganalaaaGreatDoorTie.lean); close each card by the builder's one call (the guide's Derived/Test/ToyasCard.lean, 'card_holds'). Laid BY PROGRAM, IN A SANDBOX (cutbox-door.mjs). By AI agents, Wed Nov 11 2026. No macro, syntax, notation, axiom, sorry.
-/
import Derived.Test.YtebdkmlganalaaaGreatDoorRows
import GoSem.ClaimSeven
namespace Go.Proofs.YtebdkmlganalaaaGreatDoor
namespace Rows

/-- THE TIED CARD OF 'pandecttop.TopAccrued'. -/
def topAccruedCard : Claim7 := { stood := { row := topAccruedRow, standIns := [], harness := (true, "4261fdca6c3357736140b1b901a8a8d654b7220a7db9af2c8617857e3a29e540"), looks := true }, kinds := [], alts := [], laidByText := true, laidKinds := [.data, .data, .data, .sentinel, .sentinel], laidTests := true, laidLooks := .later }
def TopAccruedCardSaid : Prop := Claim7.holds Tryz.pinned (.plain (OpenSpec.ofChange topAccruedSpec)) topAccruedCard

/-- THE SECOND FORM's CARD OF 'pandecttop.TopAccrued'. -/
def topAccruedUptoCard : Claim7 := { stood := { row := topAccruedUptoRow, standIns := [], harness := (true, "4261fdca6c3357736140b1b901a8a8d654b7220a7db9af2c8617857e3a29e540"), looks := true }, kinds := [], alts := [], laidByText := true, laidKinds := [.data, .data, .data, .sentinel, .sentinel], laidTests := true, laidLooks := .later }
def TopAccruedUptoCardSaid : Prop := Claim7.holds Tryz.pinned (.plain (OpenSpec.upto topAccruedSpec)) topAccruedUptoCard
end Rows
end Go.Proofs.YtebdkmlganalaaaGreatDoor
