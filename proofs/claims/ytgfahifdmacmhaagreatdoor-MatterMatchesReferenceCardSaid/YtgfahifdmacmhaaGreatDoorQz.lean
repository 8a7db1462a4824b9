/- Days. -/
import Derived.Test.YtgfahifdmacmhaaGreatDoorProg
import Derived.Test.YtgfahifdmacmhaaGreatDoorBase
import Derived.Test.YtgfahifdmacmhaaGreatDoorLaws
namespace Go.Proofs.YtgfahifdmacmhaaGreatDoor
open Go.RowKit

/-- Whether n is a day. -/
def isB (n : Int) : Bool := decide (0 ≤ n ∧ n ≤ 1000000)
theorem isB_iff (n : Int) : isB n = true ↔ 0 ≤ n ∧ n ≤ 1000000 := by simp [isB]
theorem isB_no {n : Int} (h : n < 0 ∨ 1000000 < n) : isB n = false := by simp [isB]; omega

/-- A slice of integers that came in. -/
def IntsAt (w : World) (B : Nat) (A : Option Addr) (l : List Int) : Prop :=
  ∀ (i : Nat) (v : Int), l[i]? = some v → ∃ g off, A = some ⟨g, off, none⟩ ∧ g < B ∧ w.cell? ⟨g, off + i, none⟩ = some (.int .i64 v)
theorem IntsAt.below {w w' : World} {B : Nat} {A : Option Addr} {l : List Int} (h : IntsAt w B A l) (hb : Below B w w') : IntsAt w' B A l := fun i v hi => by
  obtain ⟨g, off, hA, hg, hc⟩ := h i v hi
  exact ⟨g, off, hA, hg, (hb.cell (p := ⟨g, off + i, none⟩) hg).trans hc⟩
theorem IntsAt.wide {w : World} {B B' : Nat} {A : Option Addr} {l : List Int} (h : IntsAt w B A l) (hB : B ≤ B') : IntsAt w B' A l := fun i v hi => by
  obtain ⟨g, off, hA, hg, hc⟩ := h i v hi
  exact ⟨g, off, hA, Nat.lt_of_lt_of_le hg hB, hc⟩
def wf64 (x : Int) : Prop := -9223372036854775808 ≤ x ∧ x ≤ 9223372036854775807
theorem wf64_lit {x : Int} : (Lit.int .i64 x).wf = true ↔ wf64 x := by
  simp [Lit.wf, IntKind.min, IntKind.max, IntKind.signed, IntKind.bits, wf64]
end Go.Proofs.YtgfahifdmacmhaaGreatDoor
