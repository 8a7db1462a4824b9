/- Package fact: Valid and Fits. -/
import Derived.Test.YtknchlpcpgflkaaGreatDoorLGAS
namespace Go.Proofs.YtknchlpcpgflkaaGreatDoor
open Go.RowKit Go.Shelf

/-- Facts in memory. -/
def FcsAt (w : World) (B : Nat) (A : Option Addr) (l : List Fc) : Prop :=
  ∀ (i : Nat) (x : Fc), l[i]? = some x → ∃ g off, A = some ⟨g, off, none⟩ ∧ g < B ∧ w.cell? ⟨g, off + i * 4, none⟩ = some (.string x.name) ∧ w.cell? ⟨g, off + i * 4 + 1, none⟩ = some (.int .i64 x.kind) ∧ w.cell? ⟨g, off + i * 4 + 2, none⟩ = some (.int .i64 x.lo) ∧ w.cell? ⟨g, off + i * 4 + 3, none⟩ = some (.int .i64 x.hi)
theorem FcsAt.below {w w' : World} {B : Nat} {A : Option Addr} {l : List Fc} (h : FcsAt w B A l) (hb : Below B w w') : FcsAt w' B A l := fun i s hi => by
  obtain ⟨g, off, hA, hg, c0, c1, c2, c3⟩ := h i s hi
  exact ⟨g, off, hA, hg, (hb.cell (p := ⟨g, off + i * 4, none⟩) hg).trans c0, (hb.cell (p := ⟨g, off + i * 4 + 1, none⟩) hg).trans c1, (hb.cell (p := ⟨g, off + i * 4 + 2, none⟩) hg).trans c2, (hb.cell (p := ⟨g, off + i * 4 + 3, none⟩) hg).trans c3⟩
theorem FcsAt.wide {w : World} {B B' : Nat} {A : Option Addr} {l : List Fc} (h : FcsAt w B A l) (hB : B ≤ B') : FcsAt w B' A l := fun i s hi => by
  obtain ⟨g, off, hA, hg, c0⟩ := h i s hi
  exact ⟨g, off, hA, by omega, c0⟩
end Go.Proofs.YtknchlpcpgflkaaGreatDoor
