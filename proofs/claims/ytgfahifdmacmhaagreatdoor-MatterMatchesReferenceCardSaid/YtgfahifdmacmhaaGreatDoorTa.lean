/- The small functions of package limit: properStop, properTerm, isDay, proper's closure. -/
import Derived.Test.YtgfahifdmacmhaaGreatDoorTn
namespace Go.Proofs.YtgfahifdmacmhaaGreatDoor
open Go.RowKit

/-- Whether a stop, a term is as required. -/
def psB (s : Stp2) : Bool := decide (0 ≤ s.1 ∧ s.1 ≤ s.2 ∧ s.2 ≤ 1000000)
theorem psB_iff {s : Stp2} : psB s = true ↔ 0 ≤ s.1 ∧ s.1 ≤ s.2 ∧ s.2 ≤ 1000000 := by simp [psB]
def ptB (n u : Int) : Bool := decide (1 ≤ u ∧ u ≤ 5 ∧ 0 ≤ n ∧ n ≤ 1000000)
theorem ptB_iff {n u : Int} : ptB n u = true ↔ 1 ≤ u ∧ u ≤ 5 ∧ 0 ≤ n ∧ n ≤ 1000000 := by simp [ptB]

theorem isDay_any (w : World) (n : Int) : Calls Tryz.prog 132 #[.int .i64 n] w fun e w' => e = .returned (.bool (isB n)) ∧ w = w' := by
  by_cases h0 : 0 ≤ n
  · by_cases h1 : n ≤ 1000000
    · rw [(isB_iff n).2 ⟨h0, h1⟩]
      go_enter Tryz.func132, Tryz.ntmps132
      go_wp2
      go_ret
      exact ⟨rfl, rfl⟩
    · rw [isB_no (.inr (by omega))]
      go_enter Tryz.func132, Tryz.ntmps132
      go_wp2
      go_ret
      exact ⟨rfl, rfl⟩
  · rw [isB_no (.inl (by omega))]
    go_enter Tryz.func132, Tryz.ntmps132
    go_wp2
    go_ret
    exact ⟨rfl, rfl⟩

theorem properStop_any (w : World) (a b : Int) : Calls Tryz.prog 111 #[.agg #[.int .i64 a, .int .i64 b]] w fun e w' => e = .returned (.bool (psB (a, b))) ∧ Below w.heap.size w w' := by
  have hb := (Below.refl w.heap.size w).alloc (Nat.le_refl _) (.cells #[.int .i64 a, .int .i64 b] 77)
  by_cases h0 : 0 ≤ a
  · by_cases h1 : a ≤ b
    · by_cases h2 : b ≤ 1000000
      · rw [psB_iff.2 ⟨h0, h1, h2⟩]
        go_enter Tryz.func111, Tryz.ntmps111
        go_wp2
        go_ret
        exact ⟨rfl, hb⟩
      · have e : psB (a, b) = false := by simp [psB]; omega
        rw [e]
        clear e
        go_enter Tryz.func111, Tryz.ntmps111
        go_wp2
        go_ret
        exact ⟨rfl, hb⟩
    · have e : psB (a, b) = false := by simp [psB]; omega
      rw [e]
      clear e
      go_enter Tryz.func111, Tryz.ntmps111
      go_wp2
      go_ret
      exact ⟨rfl, hb⟩
  · have e : psB (a, b) = false := by simp [psB]; omega
    rw [e]
    clear e
    go_enter Tryz.func111, Tryz.ntmps111
    go_wp2
    go_ret
    exact ⟨rfl, hb⟩

theorem properTerm_any (w : World) (n u : Int) : Calls Tryz.prog 133 #[.agg #[.int .i64 n, .int .i64 u]] w fun e w' => e = .returned (.bool (ptB n u)) ∧ Below w.heap.size w w' := by
  have hb := (Below.refl w.heap.size w).alloc (Nat.le_refl _) (.cells #[.int .i64 n, .int .i64 u] 62)
  cases hp : ptB n u with
  | true =>
    obtain ⟨h0, h1, h2, h3⟩ := ptB_iff.1 hp
    clear hp
    go_enter Tryz.func133, Tryz.ntmps133
    go_wp2
    go_ret
    exact ⟨rfl, hb⟩
  | false =>
    have h : u < 1 ∨ (1 ≤ u ∧ 5 < u) ∨ (1 ≤ u ∧ u ≤ 5 ∧ n < 0) ∨ (1 ≤ u ∧ u ≤ 5 ∧ 0 ≤ n ∧ 1000000 < n) := by
      simp [ptB] at hp
      omega
    clear hp
    rcases h with h | ⟨h, h1⟩ | ⟨h, h1, h2⟩ | ⟨h, h1, h2, h3⟩
    all_goals cases d6 : decide (n ≤ 1000000)
    all_goals try (exfalso; simp at d6; omega)
    all_goals
      go_enter Tryz.func133, Tryz.ntmps133
      go_wp2
      go_ret
      exact ⟨rfl, hb⟩

/-- Two cells of a stop. -/
def encStop (s : Stp2) : List Value := [.int .i64 s.1, .int .i64 s.2]
def StopsAt (w : World) (B : Nat) (A : Option Addr) (S : List Stp2) : Prop :=
  ∀ (i : Nat) (s : Stp2), S[i]? = some s → ∃ g off, A = some ⟨g, off, none⟩ ∧ g < B ∧ w.cell? ⟨g, off + i * 2, none⟩ = some (.int .i64 s.1) ∧ w.cell? ⟨g, off + i * 2 + 1, none⟩ = some (.int .i64 s.2)
theorem StopsAt.below {w w' : World} {B : Nat} {A : Option Addr} {S : List Stp2} (h : StopsAt w B A S) (hb : Below B w w') : StopsAt w' B A S := fun i s hi => by
  obtain ⟨g, off, hA, hg, h1, h2⟩ := h i s hi
  exact ⟨g, off, hA, hg, (hb.cell (p := ⟨g, off + i * 2, none⟩) hg).trans h1, (hb.cell (p := ⟨g, off + i * 2 + 1, none⟩) hg).trans h2⟩
theorem StopsAt.wide {w : World} {B B' : Nat} {A : Option Addr} {S : List Stp2} (h : StopsAt w B A S) (hB : B ≤ B') : StopsAt w B' A S := fun i s hi => by
  obtain ⟨g, off, hA, hg, h1⟩ := h i s hi
  exact ⟨g, off, hA, Nat.lt_of_lt_of_le hg hB, h1⟩
theorem StopsAt.nil (w : World) (B : Nat) (A : Option Addr) : StopsAt w B A [] := fun i s hi => by simp at hi

theorem wrong_any (w : World) (s : Stp2) : Calls Tryz.prog 130 #[.agg (encStop s).toArray] w fun e w' => e = .returned (.bool !psB s) ∧ Below w.heap.size w w' := by
  show Calls Tryz.prog 130 #[.agg #[.int .i64 s.1, .int .i64 s.2]] w fun e w' => e = .returned (.bool !psB s) ∧ Below w.heap.size w w'
  have hb := (Below.refl w.heap.size w).alloc (Nat.le_refl _) (.cells #[.int .i64 s.1, .int .i64 s.2] 77)
  obtain ⟨a, b⟩ := s
  cases hp : psB (a, b) with
  | true =>
    have hc := fun W => properStop_any W a b
    rw [hp] at hc
    have HC := Lib.hid hc
    clear hc hp
    go_enter Tryz.func130, Tryz.ntmps130
    go_wp2_with fail
    refine (HC.out _).mono ?_
    rintro e w1 ⟨rfl, b2⟩
    replace hb := hb.trans (b2.mono (by simp))
    clear b2
    go_wp2
    go_ret
    exact ⟨rfl, hb⟩
  | false =>
    have hc := fun W => properStop_any W a b
    rw [hp] at hc
    have HC := Lib.hid hc
    clear hc hp
    go_enter Tryz.func130, Tryz.ntmps130
    go_wp2_with fail
    refine (HC.out _).mono ?_
    rintro e w1 ⟨rfl, b2⟩
    replace hb := hb.trans (b2.mono (by simp))
    clear b2
    go_wp2
    go_ret
    exact ⟨rfl, hb⟩
end Go.Proofs.YtgfahifdmacmhaaGreatDoor
