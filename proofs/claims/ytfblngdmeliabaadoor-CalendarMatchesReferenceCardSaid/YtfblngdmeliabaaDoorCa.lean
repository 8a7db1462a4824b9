/- What the small functions of package calendar return. -/
import Derived.Test.YtfblngdmeliabaaDoorProg
import Derived.Test.YtfblngdmeliabaaDoorCp
import Derived.StillTailTactics
import Derived.IntWalk
namespace Go.Proofs.YtfblngdmeliabaaDoor
open Go.RowKit

theorem tmod_zero (y k : Int) : y.tmod k = 0 ↔ y % k = 0 := by
  rw [← Int.dvd_iff_emod_eq_zero, Int.dvd_iff_tmod_eq_zero]

theorem leap_any (w : World) (y : Int) : Calls Tryd.prog 50 #[.int .i64 y] w fun e w' => e = .returned (.bool (lpB y)) ∧ w = w' := by
  have t4 := tmod_zero y 4
  have t100 := tmod_zero y 100
  have t400 := tmod_zero y 400
  have hl : lpB y = (y % 4 == 0 && !(y % 100 == 0) || y % 400 == 0) := rfl
  obtain ⟨r, hr⟩ : ∃ r, lpB y = r := ⟨_, rfl⟩
  rw [hr]
  rw [hr] at hl
  by_cases a : y % 4 = 0
  · have a1 : (y.tmod 4 == 0) = true := by simpa using t4.2 a
    by_cases b : y % 100 = 0
    · have b1 : (y.tmod 100 != 0) = false := by simpa using t100.2 b
      by_cases c : y % 400 = 0
      · have c1 : (y.tmod 400 == 0) = true := by simpa using t400.2 c
        obtain rfl : r = true := by rw [hl]; simp [c]
        clear hl hr t4 t100 t400 a b c
        go_enter Tryd.func50, Tryd.ntmps50
        go_wp2
        go_ret
        exact ⟨rfl, rfl⟩
      · have c1 : (y.tmod 400 == 0) = false := by rw [beq_eq_false_iff_ne]; exact fun h => c (t400.1 h)
        obtain rfl : r = false := by rw [hl]; simp [b, c]
        clear hl hr t4 t100 t400 a b c
        go_enter Tryd.func50, Tryd.ntmps50
        go_wp2
        go_ret
        exact ⟨rfl, rfl⟩
    · have b1 : (y.tmod 100 != 0) = true := by rw [bne_iff_ne]; exact fun h => b (t100.1 h)
      obtain rfl : r = true := by rw [hl]; simp [a, b]
      clear hl hr t4 t100 t400 a b
      go_enter Tryd.func50, Tryd.ntmps50
      go_wp2
      go_ret
      exact ⟨rfl, rfl⟩
  · have a1 : (y.tmod 4 == 0) = false := by rw [beq_eq_false_iff_ne]; exact fun h => a (t4.1 h)
    have c : ¬ y % 400 = 0 := by omega
    have c1 : (y.tmod 400 == 0) = false := by rw [beq_eq_false_iff_ne]; exact fun h => c (t400.1 h)
    obtain rfl : r = false := by rw [hl]; simp [a, c]
    clear hl hr t4 t100 t400 a c
    go_enter Tryd.func50, Tryd.ntmps50
    go_wp2
    go_ret
    exact ⟨rfl, rfl⟩

theorem days_any (w : World) (y : Int) : Calls Tryd.prog 38 #[.int .i64 y] w fun e w' => e = .returned (.int .i64 (yd y)) ∧ w = w' := by
  cases hl : lpB y with
  | true =>
    have e : yd y = 366 := by unfold yd lp; rw [hl]; rfl
    rw [e]
    have HL := Lib.hid hl
    clear hl e
    go_enter Tryd.func38, Tryd.ntmps38
    go_wp2_with fail
    refine (leap_any _ y).mono ?_
    rintro e w1 ⟨rfl, rfl⟩
    rw [HL.out]
    go_wp2
    go_ret
    exact ⟨rfl, rfl⟩
  | false =>
    have e : yd y = 365 := by unfold yd lp; rw [hl]; rfl
    rw [e]
    have HL := Lib.hid hl
    clear hl e
    go_enter Tryd.func38, Tryd.ntmps38
    go_wp2_with fail
    refine (leap_any _ y).mono ?_
    rintro e w1 ⟨rfl, rfl⟩
    rw [HL.out]
    go_wp2
    go_ret
    exact ⟨rfl, rfl⟩

/-- Whether n is a day. -/
def isB (n : Int) : Bool := decide (0 ≤ n ∧ n ≤ 1000000)
theorem isB_iff (n : Int) : isB n = true ↔ 0 ≤ n ∧ n ≤ 1000000 := by simp [isB]
theorem is_any (w : World) (n : Int) : Calls Tryd.prog 30 #[.int .i64 n] w fun e w' => e = .returned (.bool (isB n)) ∧ w = w' := by
  by_cases h0 : 0 ≤ n
  · by_cases h1 : n ≤ 1000000
    · rw [(isB_iff n).2 ⟨h0, h1⟩]
      go_enter Tryd.func30, Tryd.ntmps30
      go_wp2
      go_ret
      exact ⟨rfl, rfl⟩
    · have e : isB n = false := by simp [isB]; omega
      rw [e]
      clear e
      go_enter Tryd.func30, Tryd.ntmps30
      go_wp2
      go_ret
      exact ⟨rfl, rfl⟩
  · have e : isB n = false := by simp [isB]; omega
    rw [e]
    clear e
    go_enter Tryd.func30, Tryd.ntmps30
    go_wp2
    go_ret
    exact ⟨rfl, rfl⟩

/-- The day of the week. -/
def wkd (n : Int) : Int := if isB n then (n + 5) % 7 else -1
theorem weekday_any (w : World) (n : Int) : Calls Tryd.prog 16 #[.int .i64 n] w fun e w' => e = .returned (.int .i64 (wkd n)) ∧ w = w' := by
  cases hl : isB n with
  | true =>
    have e : wkd n = (n + 5) % 7 := by unfold wkd; rw [hl]; rfl
    rw [e]
    obtain ⟨h0, h1⟩ := (isB_iff n).1 hl
    have HL := Lib.hid hl
    clear hl e
    go_enter Tryd.func16, Tryd.ntmps16
    go_wp2_with fail
    refine (is_any _ n).mono ?_
    rintro e w1 ⟨rfl, rfl⟩
    rw [HL.out]
    go_wp2
    go_ret
    exact ⟨rfl, rfl⟩
  | false =>
    have e : wkd n = -1 := by unfold wkd; rw [hl]; rfl
    rw [e]
    have HL := Lib.hid hl
    clear hl e
    go_enter Tryd.func16, Tryd.ntmps16
    go_wp2_with fail
    refine (is_any _ n).mono ?_
    rintro e w1 ⟨rfl, rfl⟩
    rw [HL.out]
    go_wp2
    go_ret
    exact ⟨rfl, rfl⟩

/-- The lengths of the months of a year, as an array. -/
def lens (y : Int) : Value := .agg #[.int .i64 31, .int .i64 (fb y), .int .i64 31, .int .i64 30, .int .i64 31, .int .i64 30, .int .i64 31, .int .i64 31, .int .i64 30, .int .i64 31, .int .i64 30, .int .i64 31]
set_option maxHeartbeats 400000 in
theorem months_any (w : World) (y : Int) : Calls Tryd.prog 36 #[.int .i64 y] w fun e w' => e = .returned (lens y) ∧ Below w.heap.size w w' := by
  unfold lens
  cases hl : lpB y with
  | true =>
    have e : fb y = 29 := by unfold fb; rw [hl]; rfl
    rw [e]
    have HL := Lib.hid hl
    clear hl e
    go_enter Tryd.func36, Tryd.ntmps36
    go_wp2_with fail
    refine (leap_any _ y).mono ?_
    rintro e w1 ⟨rfl, rfl⟩
    rw [HL.out]
    go_wp2
    refine bodyPost_ret (v := .agg #[.int .i64 31, .int .i64 29, .int .i64 31, .int .i64 30, .int .i64 31, .int .i64 30, .int .i64 31, .int .i64 31, .int .i64 30, .int .i64 31, .int .i64 30, .int .i64 31]) (by simp [results, Tryd.results36, go_sem]) rfl ⟨rfl, ?_⟩
    exact ((Below.refl _ _).alloc (Nat.le_refl _) _).alloc (by simp) _
  | false =>
    have HL := Lib.hid hl
    by_cases h0 : y < 1600
    · have e : fb y = 29 := by unfold fb; rw [hl, show decide (y < 1600) = true by simpa using h0]; rfl
      rw [e]
      clear hl e
      go_enter Tryd.func36, Tryd.ntmps36
      go_wp2_with fail
      refine (leap_any _ y).mono ?_
      rintro e w1 ⟨rfl, rfl⟩
      rw [HL.out]
      go_wp2
      refine bodyPost_ret (v := .agg #[.int .i64 31, .int .i64 29, .int .i64 31, .int .i64 30, .int .i64 31, .int .i64 30, .int .i64 31, .int .i64 31, .int .i64 30, .int .i64 31, .int .i64 30, .int .i64 31]) (by simp [results, Tryd.results36, go_sem]) rfl ⟨rfl, ?_⟩
      exact ((Below.refl _ _).alloc (Nat.le_refl _) _).alloc (by simp) _
    · by_cases h1 : 9999 < y
      · have e : fb y = 29 := by unfold fb; rw [hl, show decide (9999 < y) = true by simpa using h1]; simp
        rw [e]
        clear hl e
        go_enter Tryd.func36, Tryd.ntmps36
        go_wp2_with fail
        refine (leap_any _ y).mono ?_
        rintro e w1 ⟨rfl, rfl⟩
        rw [HL.out]
        go_wp2
        refine bodyPost_ret (v := .agg #[.int .i64 31, .int .i64 29, .int .i64 31, .int .i64 30, .int .i64 31, .int .i64 30, .int .i64 31, .int .i64 31, .int .i64 30, .int .i64 31, .int .i64 30, .int .i64 31]) (by simp [results, Tryd.results36, go_sem]) rfl ⟨rfl, ?_⟩
        exact ((Below.refl _ _).alloc (Nat.le_refl _) _).alloc (by simp) _
      · have e : fb y = 28 := by unfold fb; rw [hl, show decide (9999 < y) = false by simpa using h1, show decide (y < 1600) = false by simpa using h0]; rfl
        rw [e]
        clear hl e
        go_enter Tryd.func36, Tryd.ntmps36
        go_wp2_with fail
        refine (leap_any _ y).mono ?_
        rintro e w1 ⟨rfl, rfl⟩
        rw [HL.out]
        go_wp2
        refine bodyPost_ret (v := .agg #[.int .i64 31, .int .i64 28, .int .i64 31, .int .i64 30, .int .i64 31, .int .i64 30, .int .i64 31, .int .i64 31, .int .i64 30, .int .i64 31, .int .i64 30, .int .i64 31]) (by simp [results, Tryd.results36, go_sem]) rfl ⟨rfl, ?_⟩
        exact ((Below.refl _ _).alloc (Nat.le_refl _) _).alloc (by simp) _

theorem begin_any (w : World) (y : Int) (h0 : 1600 ≤ y) (h1 : y ≤ 9999) : Calls Tryd.prog 37 #[.int .i64 y] w fun e w' => e = .returned (.int .i64 (beg y)) ∧ w = w' := by
  have hbb := beg_mono h1
  have hbe : beg 9999 = 3067672 := by decide
  rw [hbe] at hbb
  clear hbe
  go_enter Tryd.func37, Tryd.ntmps37
  go_wp2_with fail
  go_loop [3, 4] (fun n v => ∃ x : Int, 1600 ≤ x ∧ x ≤ y ∧ v = .int .i64 x ∧ n = .int .i64 (beg x)) (fun _ v => (y - intOf v).toNat)
  case atStart => exact ⟨1600, by omega, h0, rfl, by rw [beg_0]⟩
  case round =>
    obtain ⟨x, hx0, hx1, rfl, rfl⟩ := hrel
    have hb0 := beg_mono hx0
    rw [beg_0] at hb0
    have hb1 := beg_mono hx1
    by_cases hlt : x < y
    · by_cases hc : x % 400 = 0 ∧ x + 400 ≤ y
      · obtain ⟨hc1, hc2⟩ := hc
        have hcb : (x % 400 == 0) = true := by simpa using hc1
        have HS := Lib.hid (beg_400 x)
        generalize beg x = bx at *
        clear hc1
        go_wp2
        go_round
        case rel => exact ⟨x + 400, by omega, hc2, rfl, by rw [HS.out]⟩
        case measure => simp [intOf]; omega
      · have HS := Lib.hid (beg_succ x)
        have hyd := yd_bd x
        generalize beg x = bx at *
        by_cases hc1 : x % 400 = 0
        · have hc2 : ¬ x + 400 ≤ y := fun h => hc ⟨hc1, h⟩
          have hcb : (x % 400 == 0) = true := by simpa using hc1
          clear hc hc1
          go_wp2_with fail
          refine (days_any _ x).mono ?_
          rintro e w1 ⟨rfl, rfl⟩
          generalize yd x = yx at *
          go_wp2
          go_round
          case rel => exact ⟨x + 1, by omega, by omega, rfl, by rw [HS.out]⟩
          case measure => simp [intOf]; omega
        · have hcb : (x % 400 == 0) = false := by simpa using hc1
          clear hc hc1
          go_wp2_with fail
          refine (days_any _ x).mono ?_
          rintro e w1 ⟨rfl, rfl⟩
          generalize yd x = yx at *
          go_wp2
          go_round
          case rel => exact ⟨x + 1, by omega, by omega, rfl, by rw [HS.out]⟩
          case measure => simp [intOf]; omega
    · obtain rfl : x = y := by omega
      go_wp2
      go_ret
      exact ⟨rfl, rfl⟩
end Go.Proofs.YtfblngdmeliabaaDoor
