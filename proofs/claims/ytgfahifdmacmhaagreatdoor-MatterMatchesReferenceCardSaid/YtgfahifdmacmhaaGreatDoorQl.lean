/- Package matter's small functions: days, values, rights, moves; slices.IsSorted. -/
import Derived.Test.YtgfahifdmacmhaaGreatDoorQk
import Derived.Test.YtgfahifdmacmhaaGreatDoorMm
import Derived.Deep.QuietTactic
import Derived.BigQuiet
namespace Go.Proofs.YtgfahifdmacmhaaGreatDoor
open Go.RowKit Go.Shelf

theorem drew2 (w : World) (a b : Nat) : (w.drewN a).drewN b = w.drewN (a + b) := by
  unfold World.drewN
  simp [Nat.add_assoc]
theorem mis_any (w : World) (n : Int) : Calls Tryz.prog 53 #[.int .i64 n] w fun e w' => e = .returned (.bool (isB n)) ∧ w = w' := by
  by_cases h0 : 0 ≤ n
  · by_cases h1 : n ≤ 1000000
    · rw [(isB_iff n).2 ⟨h0, h1⟩]
      go_enter Tryz.func53, Tryz.ntmps53
      go_wp2
      go_ret
      exact ⟨rfl, rfl⟩
    · rw [isB_no (.inr (by omega))]
      go_enter Tryz.func53, Tryz.ntmps53
      go_wp2
      go_ret
      exact ⟨rfl, rfl⟩
  · rw [isB_no (.inl (by omega))]
    go_enter Tryz.func53, Tryz.ntmps53
    go_wp2
    go_ret
    exact ⟨rfl, rfl⟩
theorem bad_any (w : World) (n : Int) : Calls Tryz.prog 71 #[.int .i64 n] w fun e w' => e = .returned (.bool !isB n) ∧ Below w.heap.size w w' := by
  by_cases h0 : n < 0
  · rw [isB_no (.inl h0)]
    go_enter Tryz.func71, Tryz.ntmps71
    go_wp2
    go_ret
    exact ⟨rfl, Below.refl _ _⟩
  · have d0 : decide (n < 0) = false := decide_eq_false h0
    by_cases h1 : 1000000 < n
    · rw [isB_no (.inr h1)]
      go_enter Tryz.func71, Tryz.ntmps71
      go_wp2
      go_ret
      exact ⟨rfl, Below.refl _ _⟩
    · have d1 : decide (1000000 < n) = false := decide_eq_false h1
      rw [(isB_iff n).2 ⟨by omega, by omega⟩]
      go_enter Tryz.func71, Tryz.ntmps71
      go_wp2
      go_ret
      exact ⟨rfl, Below.refl _ _⟩
theorem nan_any (w : World) (n : Int) : Calls Tryz.prog 109 #[.int .i64 n] w fun e w' => e = .returned (.bool false) ∧ w = w' := by
  go_enter Tryz.func109, Tryz.ntmps109
  go_wp2
  go_ret
  exact ⟨by simp, rfl⟩
theorem less_any (w : World) (a b : Int) : Calls Tryz.prog 93 #[.int .i64 a, .int .i64 b] w fun e w' => e = .returned (.bool (decide (a < b))) ∧ w = w' := by
  by_cases h : a < b
  · have d : decide (a < b) = true := decide_eq_true h
    rw [d]
    go_enter Tryz.func93, Tryz.ntmps93
    go_wp2_with fail
    refine (nan_any _ a).mono ?_
    rintro e w1 ⟨rfl, rfl⟩
    go_wp2
    go_ret
    exact ⟨rfl, rfl⟩
  · have d : decide (a < b) = false := decide_eq_false h
    rw [d]
    go_enter Tryz.func93, Tryz.ntmps93
    go_wp2_with fail
    refine (nan_any _ a).mono ?_
    rintro e w1 ⟨rfl, rfl⟩
    go_wp2
    go_ret
    exact ⟨rfl, rfl⟩
theorem less_same (w : World) (a b : Int) : Calls Tryz.prog 93 #[.int .i64 a, .int .i64 b] w fun e w' => e = .returned (.bool (decide (a < b))) ∧ w' = w := (less_any w a b).mono fun _ _ ⟨h1, h2⟩ => ⟨h1, h2.symm⟩
/-- From an index on, days do not decrease. -/
theorem srt_iff : ∀ (l : List Int), srtB l = true ↔ ∀ (i : Nat) (a b : Int), l[i]? = some a → l[i + 1]? = some b → a ≤ b
  | [] => by simp [srtB]
  | [x] => by simp [srtB]
  | x :: y :: xs => by
    have ih := srt_iff (y :: xs)
    show (decide (x ≤ y) && srtB (y :: xs)) = true ↔ _
    rw [Bool.and_eq_true, decide_eq_true_eq, ih]
    constructor
    · rintro ⟨h1, h2⟩ i a b ha hb
      cases i with
      | zero => simp at ha hb; subst ha hb; exact h1
      | succ i => exact h2 i a b (by simpa using ha) (by simpa using hb)
    · intro h
      exact ⟨h 0 x y rfl rfl, fun i a b ha hb => h (i + 1) a b (by simpa using ha) (by simpa using hb)⟩
set_option maxRecDepth 100000 in
set_option maxHeartbeats 2000000 in
theorem sorted_any (w : World) (B : Nat) (A : Option Addr) (l : List Int) (c : Nat) (h : IntsAt w B A l) (hl : l.length ≤ 9223372036854775807) :
    Calls Tryz.prog 72 #[.slice A l.length c] w fun e w' => e = .returned (.bool (srtB l)) ∧ ∃ q, w' = w.drewN q := by
  obtain ⟨r, hr⟩ : ∃ r, srtB l = r := ⟨_, rfl⟩
  rw [hr]
  have HR := Lib.hid hr
  have HH := Lib.hid h
  clear hr h
  go_enter Tryz.func72, Tryz.ntmps72
  go_wp2_with fail
  go_loopw [3] (fun i wr => ∃ (k : Nat) (x : Int), k ≤ l.length ∧ x + 1 = ((l.length - k : Nat) : Int) ∧ i = .int .i64 x ∧ Hid (∀ (i : Nat) (a b : Int), l.length - k ≤ i + 1 → l[i]? = some a → l[i + 1]? = some b → a ≤ b) ∧ ∃ q, wr = w.drewN q) (fun i _ => (intOf i).toNat)
  case atStart => exact ⟨0, (l.length : Int) - 1, Nat.zero_le _, by omega, rfl, Lib.hid (fun i a b h1 _ h3 => by have := (List.getElem?_eq_some_iff.1 h3).1; omega), 0, rfl⟩
  case round =>
    obtain ⟨k, x, hk, hx, rfl, HS, q, rfl⟩ := hrel
    by_cases h0 : 0 < x
    · obtain ⟨j, rfl⟩ : ∃ j : Nat, x = (j : Int) + 1 := ⟨(x - 1).toNat, by omega⟩
      have hjk : j + 1 + 1 = l.length - k := by omega
      obtain ⟨a, ha⟩ : ∃ a, l[j + 1]? = some a := ⟨_, List.getElem?_eq_getElem (by omega)⟩
      obtain ⟨b, hb⟩ : ∃ b, l[j]? = some b := ⟨_, List.getElem?_eq_getElem (by omega)⟩
      obtain ⟨g, off, hA, hg, c1⟩ := HH.out (j + 1) a ha
      obtain ⟨g', off', hA', hg', c0⟩ := HH.out j b hb
      rw [hA] at hA'
      injection hA' with hA'
      injection hA' with e1 e2
      subst e1 e2 hA
      have c0' : (w.drewN q).cell? ⟨g, off + j, none⟩ = some (.int .i64 b) := c0
      have c1' : (w.drewN q).cell? ⟨g, off + (j + 1), none⟩ = some (.int .i64 a) := c1
      have HA := Lib.hid ha
      have HB := Lib.hid hb
      clear c0 c1 ha hb
      have s1 : ((j : Int) + 1 - 1) = (j : Int) := by omega
      have s2 : ((j : Int) + 1).toNat = j + 1 := by omega
      have s3 : (0 : Int) ≤ (j : Int) + 1 := by omega
      have s4 : (j : Int) + 1 < (l.length : Int) := by omega
      have s6 : (0 : Int) ≤ (j : Int) := by omega
      have s7 : (j : Int) < (l.length : Int) := by omega
      have s5 : IntKind.i64.wrap (j : Int) = (j : Int) := IntWalk.i64_in _ (by omega)
      go_wp2_with fail
      generalize hW : w.drewN q = W at *
      go_quiet ((go_at_call 93; exact Calls.quiet_of_same (less_same _ _ _)))
      subst hW
      rw [drew2]
      clear s1 s2 s3 s4 s5 s6 s7 c0' c1'
      by_cases hab : a < b
      · have d : decide (a < b) = true := decide_eq_true hab
        have hrr : r = false := by
          rw [← HR.out, ← Bool.not_eq_true, srt_iff]
          intro hh
          have := hh j b a HB.out HA.out
          omega
        subst hrr
        go_wp2
        go_ret
        exact ⟨rfl, q + nq, rfl⟩
      · have d : decide (a < b) = false := decide_eq_false hab
        have hnx : ∀ (i : Nat) (a b : Int), l.length - (k + 1) ≤ i + 1 → l[i]? = some a → l[i + 1]? = some b → a ≤ b := fun i a' b' h1 h2 h3 => by
          rcases Nat.lt_or_ge (i + 1) (l.length - k) with h4 | h4
          · have : i = j := by omega
            subst this
            rw [HB.out] at h2
            rw [HA.out] at h3
            injection h2 with h2
            injection h3 with h3
            omega
          · exact HS.out i a' b' h4 h2 h3
        have HNX := Lib.hid hnx
        have hba : b ≤ a := by omega
        clear hnx hab
        go_wp2
        exact ⟨⟨k + 1, (j : Int), by omega, by omega, rfl, HNX, q + nq, rfl⟩, by simp [intOf]⟩
    · have hrr : r = true := by
        rw [← HR.out, srt_iff]
        intro i a b h2 h3
        have := (List.getElem?_eq_some_iff.1 h3).1
        exact HS.out i a b (by omega) h2 h3
      subst hrr
      go_wp2
      go_ret
      exact ⟨rfl, q, rfl⟩
end Go.Proofs.YtgfahifdmacmhaaGreatDoor
