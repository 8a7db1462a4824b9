/-
  DERIVED. GIVEN WITH THE SEED: THE CARDS: each row of YtieicjjmkedgaaaGreatDoorRows.lean that lists a variable, with what it lists TIED to the program's text (the seventh form; the later family's looks); each row that meets fmt, with fmt's text TOLD by the authors' own Lean function (tested against real Go, not proved from fmt's source: count such statements apart). THE CARD IS WHAT COUNTS. Prove the row's statement (the work); the ties are given (YtieicjjmkedgaaaGreatDoorTie.lean); close each card by the builder's one call (the guide's Derived/Test/ToyasCard.lean, 'card_holds'). Laid BY PROGRAM, IN A SANDBOX (cutbox-door.mjs). By AI agents, Wed Nov 11 2026. No macro, syntax, notation, axiom, sorry.
-/
import Derived.Test.YtieicjjmkedgaaaGreatDoorRows
import GoSem.ClaimSeven
namespace Go.Proofs.YtieicjjmkedgaaaGreatDoor
namespace Rows

/-- THE TIED CARD OF 'pandectlaw46.JournalMatchesReference'. -/
def journalMatchesReferenceCard : Claim7 := { stood := { row := journalMatchesReferenceRow, standIns := [], harness := (true, "b942f0a7fa6dc298ca31be9831ae0f6cf5343103186873322131a5db2e43b4ba"), looks := true }, kinds := [], alts := [], laidByText := true, laidKinds := [.data, .data, .data, .sentinel, .sentinel], laidTests := true, laidLooks := .later }
def JournalMatchesReferenceCardSaid : Prop := Claim7.holds Tryz.pinned (.plain (OpenSpec.ofChange journalMatchesReferenceSpec)) journalMatchesReferenceCard

/-- THE SECOND FORM's CARD OF 'pandectlaw46.JournalMatchesReference'. -/
def journalMatchesReferenceUptoCard : Claim7 := { stood := { row := journalMatchesReferenceUptoRow, standIns := [], harness := (true, "b942f0a7fa6dc298ca31be9831ae0f6cf5343103186873322131a5db2e43b4ba"), looks := true }, kinds := [], alts := [], laidByText := true, laidKinds := [.data, .data, .data, .sentinel, .sentinel], laidTests := true, laidLooks := .later }
def JournalMatchesReferenceUptoCardSaid : Prop := Claim7.holds Tryz.pinned (.plain (OpenSpec.upto journalMatchesReferenceSpec)) journalMatchesReferenceUptoCard
end Rows
end Go.Proofs.YtieicjjmkedgaaaGreatDoor
