/- What lies in memory: slices of strings, of rights, of limits. -/
import Derived.Test.YtgfahifdmacmhaaGreatDoorTy
import Derived.Test.YtgfahifdmacmhaaGreatDoorQh
namespace Go.Proofs.YtgfahifdmacmhaaGreatDoor
open Go.RowKit

/-- A slice of strings, of rights, of limits (with where each has its stops). -/
def BtsAt (w : World) (B : Nat) (A : Option Addr) (l : List ByteArray) : Prop :=
  ∀ (i : Nat) (s : ByteArray), l[i]? = some s → ∃ g off, A = some ⟨g, off, none⟩ ∧ g < B ∧ w.cell? ⟨g, off + i, none⟩ = some (.string s)
def RtsAt (w : World) (B : Nat) (A : Option Addr) (l : List Rt) : Prop :=
  ∀ (i : Nat) (x : Rt), l[i]? = some x → ∃ g off, A = some ⟨g, off, none⟩ ∧ g < B ∧ w.cell? ⟨g, off + i * 2, none⟩ = some (.string x.1) ∧ w.cell? ⟨g, off + i * 2 + 1, none⟩ = some (.int .i64 x.2)
abbrev LmV := Lm × Option Addr × Nat
def LmsAt (w : World) (B : Nat) (A : Option Addr) (l : List LmV) : Prop :=
  ∀ (i : Nat) (x : LmV), l[i]? = some x → ∃ g off, A = some ⟨g, off, none⟩ ∧ g < B ∧ w.cell? ⟨g, off + i * 5, none⟩ = some (.string x.1.id) ∧ w.cell? ⟨g, off + i * 5 + 1, none⟩ = some (.int .i64 x.1.n) ∧ w.cell? ⟨g, off + i * 5 + 2, none⟩ = some (.int .i64 x.1.u) ∧ w.cell? ⟨g, off + i * 5 + 3, none⟩ = some (.int .i64 x.1.f) ∧ w.cell? ⟨g, off + i * 5 + 4, none⟩ = some (.slice x.2.1 x.1.S.length x.2.2) ∧ LmAt w B x.2.1 x.1
section
variable {w w' : World} {B B' : Nat} {A : Option Addr}
theorem BtsAt.below {l : List ByteArray} (h : BtsAt w B A l) (hb : Below B w w') : BtsAt w' B A l := fun i s hi => by
  obtain ⟨g, off, hA, hg, c0⟩ := h i s hi
  exact ⟨g, off, hA, hg, (hb.cell (p := ⟨g, off + i, none⟩) hg).trans c0⟩
theorem BtsAt.wide {l : List ByteArray} (h : BtsAt w B A l) (hB : B ≤ B') : BtsAt w B' A l := fun i s hi => by
  obtain ⟨g, off, hA, hg, c0⟩ := h i s hi
  exact ⟨g, off, hA, by omega, c0⟩
theorem BtsAt.nil (w : World) (B : Nat) (A : Option Addr) : BtsAt w B A [] := fun i s hi => by simp at hi
theorem RtsAt.below {l : List Rt} (h : RtsAt w B A l) (hb : Below B w w') : RtsAt w' B A l := fun i s hi => by
  obtain ⟨g, off, hA, hg, c0, c1⟩ := h i s hi
  exact ⟨g, off, hA, hg, (hb.cell (p := ⟨g, off + i * 2, none⟩) hg).trans c0, (hb.cell (p := ⟨g, off + i * 2 + 1, none⟩) hg).trans c1⟩
theorem RtsAt.wide {l : List Rt} (h : RtsAt w B A l) (hB : B ≤ B') : RtsAt w B' A l := fun i s hi => by
  obtain ⟨g, off, hA, hg, c0⟩ := h i s hi
  exact ⟨g, off, hA, by omega, c0⟩
theorem RtsAt.nil (w : World) (B : Nat) (A : Option Addr) : RtsAt w B A [] := fun i s hi => by simp at hi
theorem LmAt.wide {L : Lm} (h : LmAt w B A L) (hB : B ≤ B') : LmAt w B' A L := ⟨h.1.wide hB, h.2⟩
theorem LmsAt.below {l : List LmV} (h : LmsAt w B A l) (hb : Below B w w') : LmsAt w' B A l := fun i s hi => by
  obtain ⟨g, off, hA, hg, c0, c1, c2, c3, c4, hL⟩ := h i s hi
  exact ⟨g, off, hA, hg, (hb.cell (p := ⟨g, off + i * 5, none⟩) hg).trans c0, (hb.cell (p := ⟨g, off + i * 5 + 1, none⟩) hg).trans c1, (hb.cell (p := ⟨g, off + i * 5 + 2, none⟩) hg).trans c2, (hb.cell (p := ⟨g, off + i * 5 + 3, none⟩) hg).trans c3, (hb.cell (p := ⟨g, off + i * 5 + 4, none⟩) hg).trans c4, hL.below hb⟩
theorem LmsAt.wide {l : List LmV} (h : LmsAt w B A l) (hB : B ≤ B') : LmsAt w B' A l := fun i s hi => by
  obtain ⟨g, off, hA, hg, c0, c1, c2, c3, c4, hL⟩ := h i s hi
  exact ⟨g, off, hA, by omega, c0, c1, c2, c3, c4, hL.wide hB⟩
theorem LmsAt.nil (w : World) (B : Nat) (A : Option Addr) : LmsAt w B A [] := fun i s hi => by simp at hi
end
end Go.Proofs.YtgfahifdmacmhaaGreatDoor
