/- A journal in memory; Room, Records, ContainsFunc. -/
import Derived.Test.YtfjejfgdnjnflaaGreatDoorJm
import Derived.Test.YtfjejfgdnjnflaaGreatDoorJi
import Derived.Test.YtfjejfgdnjnflaaGreatDoorJk
namespace Go.Proofs.YtfjejfgdnjnflaaGreatDoor
open Go.RowKit Go.Shelf

/-- A journal as plain data: its sectors, its count, its records, whether it is broken. -/
structure Jn where
  n : Nat
  cnt : Nat
  rs : List (List UInt8)
  broken : Bool
/-- The journal j on the disk a; it lies in the blocks of J. -/
def JAt (w : World) (base : Nat) (a j : Nat) (J : Foot) (x : Jn) : Prop :=
  ∃ A c, Blk w j 53 #[.pointer (some ⟨a, 0, none⟩), .int .i64 (x.n : Int), .int .i64 (x.cnt : Int), .slice A x.rs.length c, .bool x.broken] ∧
    OwnStrs w base (.slice A x.rs.length c) x.rs ∧ J j ∧ (∀ g, Value.ownBlock (.slice A x.rs.length c) = some g → J g ∧ g ≠ j)

set_option maxRecDepth 100000 in
theorem room_any (w : World) (base a j : Nat) (J : Foot) (x : Jn) (h : JAt w base a j J x) (hn : x.n ≤ 1000000) (hc : x.cnt ≤ 1000000) :
    Calls Tryz.prog 14 #[.pointer (some ⟨j, 0, none⟩)] w fun e w' => e = .returned (.int .i64 ((x.n : Int) - 2 - x.cnt)) ∧ ∃ q, w' = w.drewN q := by
  obtain ⟨A, c, hb, _, _, _⟩ := h
  obtain ⟨x0, x1, x2⟩ := hb.all
  obtain ⟨n, cnt, rs, br⟩ := x
  simp only at *
  go_enter Tryz.func14, Tryz.ntmps14
  go_wp2_with fail
  go_quiet (fail)
  go_wp2
  go_ret
  exact ⟨rfl, _, rfl⟩

theorem OwnStrs.at {w : World} {base : Nat} {v : Value} {l : List (List UInt8)} (h : OwnStrs w base v l) : ∃ A c, v = .slice A l.length c ∧ StrsAt w w.heap.size A l ∧ (∀ g, v.ownBlock = some g → base ≤ g ∧ g < w.heap.size) ∧
    (∀ g off f, A = some ⟨g, off, f⟩ → v.ownBlock = some g) := by
  have hlt := World.ownsRow.lt h
  obtain ⟨A, c, rfl⟩ := h.form
  refine ⟨A, c, rfl, fun i s hi => ?_, hlt, fun g off f hA => by subst hA; rfl⟩
  have hil : i < l.length := (List.getElem?_eq_some_iff.1 hi).1
  obtain ⟨g, cap, hv, _⟩ := World.ownsRow.form h (by omega)
  injection hv with e1 e2 e3
  subst e1 e3
  have hc := World.ownsRow.cellAt h i (by omega)
  refine ⟨g, 0, rfl, (hlt g rfl).2, ?_⟩
  rw [Nat.zero_add, hc, List.getElem?_map, hi]
  rfl
end Go.Proofs.YtfjejfgdnjnflaaGreatDoor
