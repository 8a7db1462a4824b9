/- The reference's Proper, Paused, Short, Few; Same at two limits that are one. -/
import Derived.Test.YtogjcejiojmmbaaTk
namespace Go.Proofs.Ytogjcejiojmmbaa
open Go.RowKit Go.Shelf

theorem rStop_any (w : World) (a b : Int) : Calls Try.prog 39 #[.agg #[.int .i64 a, .int .i64 b]] w fun e w' => e = .returned (.bool (psB (a, b))) ∧ Below w.heap.size w w' := by
  have hb := (Below.refl w.heap.size w).alloc (Nat.le_refl _) (.cells #[.int .i64 a, .int .i64 b] 28)
  cases hp : psB (a, b) with
  | true =>
    obtain ⟨h0, h1, h2⟩ := psB_iff.1 hp
    simp only at h0 h1 h2
    clear hp
    go_enter Try.func39, Try.ntmps39
    go_wp2
    go_ret
    exact ⟨rfl, hb⟩
  | false =>
    have h : a < 0 ∨ (0 ≤ a ∧ b < a) ∨ (0 ≤ a ∧ a ≤ b ∧ 1000000 < b) := by
      simp [psB] at hp
      omega
    clear hp
    rcases h with h | ⟨h, h1⟩ | ⟨h, h1, h2⟩
    all_goals cases d6 : decide (b ≤ 1000000)
    all_goals cases d7 : decide (a ≤ b)
    all_goals try (exfalso; simp at d6 d7; omega)
    all_goals
      go_enter Try.func39, Try.ntmps39
      go_wp2
      go_ret
      exact ⟨rfl, hb⟩

theorem rTerm_any (w : World) (n u : Int) : Calls Try.prog 41 #[.agg #[.int .i64 n, .int .i64 u]] w fun e w' => e = .returned (.bool (ptB n u)) ∧ Below w.heap.size w w' := by
  have hb := (Below.refl w.heap.size w).alloc (Nat.le_refl _) (.cells #[.int .i64 n, .int .i64 u] 23)
  cases hp : ptB n u with
  | true =>
    obtain ⟨h0, h1, h2, h3⟩ := ptB_iff.1 hp
    clear hp
    go_enter Try.func41, Try.ntmps41
    go_wp2
    go_ret
    exact ⟨rfl, hb⟩
  | false =>
    have h : u < 1 ∨ (1 ≤ u ∧ 5 < u) ∨ (1 ≤ u ∧ u ≤ 5 ∧ n < 0) ∨ (1 ≤ u ∧ u ≤ 5 ∧ 0 ≤ n ∧ 1000000 < n) := by
      simp [ptB] at hp
      omega
    clear hp
    rcases h with h | ⟨h, h1⟩ | ⟨h, h1, h2⟩ | ⟨h, h1, h2, h3⟩
    all_goals cases d6 : decide (n ≤ 1000000)
    all_goals try (exfalso; simp at d6; omega)
    all_goals
      go_enter Try.func41, Try.ntmps41
      go_wp2
      go_ret
      exact ⟨rfl, hb⟩

theorem rIs_any (w : World) (n : Int) : Calls Try.prog 36 #[.int .i64 n] w fun e w' => e = .returned (.bool (isB n)) ∧ w = w' := by
  by_cases h0 : 0 ≤ n
  · by_cases h1 : n ≤ 1000000
    · rw [(isB_iff n).2 ⟨h0, h1⟩]
      go_enter Try.func36, Try.ntmps36
      go_wp2
      go_ret
      exact ⟨rfl, rfl⟩
    · rw [isB_no (.inr (by omega))]
      go_enter Try.func36, Try.ntmps36
      go_wp2
      go_ret
      exact ⟨rfl, rfl⟩
  · rw [isB_no (.inl (by omega))]
    go_enter Try.func36, Try.ntmps36
    go_wp2
    go_ret
    exact ⟨rfl, rfl⟩

/-- Whether a term is short. -/
def mostU (u : Int) : Int := if u = 5 then 3000 else if u = 4 then 12 else if u = 3 then 150 else if u = 2 then 600 else 4000
def shB (n u : Int) : Bool := decide (n ≤ mostU u) || decide (1000000 < n)
theorem short_any (w : World) (n u : Int) : Calls Try.prog 12 #[.agg #[.int .i64 n, .int .i64 u]] w fun e w' => e = .returned (.bool (shB n u)) ∧ Below w.heap.size w w' := by
  have hb := (Below.refl w.heap.size w).alloc (Nat.le_refl _) (.cells #[.int .i64 n, .int .i64 u] 23)
  have key : ∀ m : Int, mostU u = m → shB n u = (decide (n ≤ m) || decide (1000000 < n)) := fun m h => by unfold shB; rw [h]
  have hcase : (u = 5 ∧ mostU u = 3000) ∨ (u = 4 ∧ mostU u = 12) ∨ (u = 3 ∧ mostU u = 150) ∨ (u = 2 ∧ mostU u = 600) ∨ ((u == 5) = false ∧ (u == 4) = false ∧ (u == 3) = false ∧ (u == 2) = false ∧ mostU u = 4000) := by
    unfold mostU
    by_cases h5 : u = 5
    · exact .inl ⟨h5, by rw [if_pos h5]⟩
    by_cases h4 : u = 4
    · exact .inr (.inl ⟨h4, by rw [if_neg h5, if_pos h4]⟩)
    by_cases h3 : u = 3
    · exact .inr (.inr (.inl ⟨h3, by rw [if_neg h5, if_neg h4, if_pos h3]⟩))
    by_cases h2 : u = 2
    · exact .inr (.inr (.inr (.inl ⟨h2, by rw [if_neg h5, if_neg h4, if_neg h3, if_pos h2]⟩)))
    · exact .inr (.inr (.inr (.inr ⟨by simpa using h5, by simpa using h4, by simpa using h3, by simpa using h2, by rw [if_neg h5, if_neg h4, if_neg h3, if_neg h2]⟩)))
  obtain ⟨r, hr⟩ : ∃ r, shB n u = r := ⟨_, rfl⟩
  rw [hr]
  rcases hcase with ⟨h, hm⟩ | ⟨h, hm⟩ | ⟨h, hm⟩ | ⟨h, hm⟩ | ⟨h, h4, h3, h2, hm⟩
  all_goals
    have hk := key _ hm
    rw [hr] at hk
    have HK := Lib.hid hk
    clear hk hm key hr
  · subst h
    by_cases hle : n ≤ 3000
    · have e : Hid (decide (n ≤ 3000) = true) := Lib.hid (decide_eq_true hle)
      go_enter Try.func12, Try.ntmps12
      go_wp2
      go_ret
      exact ⟨by rw [HK.out, e.out]; rfl, hb⟩
    · have e : Hid (decide (n ≤ 3000) = false) := Lib.hid (decide_eq_false hle)
      go_enter Try.func12, Try.ntmps12
      go_wp2
      go_ret
      exact ⟨by rw [HK.out, e.out]; rfl, hb⟩
  · subst h
    by_cases hle : n ≤ 12
    · have e : Hid (decide (n ≤ 12) = true) := Lib.hid (decide_eq_true hle)
      go_enter Try.func12, Try.ntmps12
      go_wp2
      go_ret
      exact ⟨by rw [HK.out, e.out]; rfl, hb⟩
    · have e : Hid (decide (n ≤ 12) = false) := Lib.hid (decide_eq_false hle)
      go_enter Try.func12, Try.ntmps12
      go_wp2
      go_ret
      exact ⟨by rw [HK.out, e.out]; rfl, hb⟩
  · subst h
    by_cases hle : n ≤ 150
    · have e : Hid (decide (n ≤ 150) = true) := Lib.hid (decide_eq_true hle)
      go_enter Try.func12, Try.ntmps12
      go_wp2
      go_ret
      exact ⟨by rw [HK.out, e.out]; rfl, hb⟩
    · have e : Hid (decide (n ≤ 150) = false) := Lib.hid (decide_eq_false hle)
      go_enter Try.func12, Try.ntmps12
      go_wp2
      go_ret
      exact ⟨by rw [HK.out, e.out]; rfl, hb⟩
  · subst h
    by_cases hle : n ≤ 600
    · have e : Hid (decide (n ≤ 600) = true) := Lib.hid (decide_eq_true hle)
      go_enter Try.func12, Try.ntmps12
      go_wp2
      go_ret
      exact ⟨by rw [HK.out, e.out]; rfl, hb⟩
    · have e : Hid (decide (n ≤ 600) = false) := Lib.hid (decide_eq_false hle)
      go_enter Try.func12, Try.ntmps12
      go_wp2
      go_ret
      exact ⟨by rw [HK.out, e.out]; rfl, hb⟩
  · by_cases hle : n ≤ 4000
    · have e : Hid (decide (n ≤ 4000) = true) := Lib.hid (decide_eq_true hle)
      go_enter Try.func12, Try.ntmps12
      go_wp2
      go_ret
      exact ⟨by rw [HK.out, e.out]; rfl, hb⟩
    · have e : Hid (decide (n ≤ 4000) = false) := Lib.hid (decide_eq_false hle)
      go_enter Try.func12, Try.ntmps12
      go_wp2
      go_ret
      exact ⟨by rw [HK.out, e.out]; rfl, hb⟩
end Go.Proofs.Ytogjcejiojmmbaa
