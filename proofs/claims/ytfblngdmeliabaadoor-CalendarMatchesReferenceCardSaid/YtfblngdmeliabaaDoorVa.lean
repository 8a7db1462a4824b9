/- The reference's calendar: Leap, before, Length, Day. -/
import Derived.Test.YtfblngdmeliabaaDoorVz
namespace Go.Proofs.YtfblngdmeliabaaDoor
open Go.RowKit Go.Shelf

theorem rLeap_any (w : World) (y : Int) : Calls Tryd.prog 51 #[.int .i64 y] w fun e w' => e = .returned (.bool (lpB y)) ∧ w = w' := by
  have t4 := tmod_zero y 4
  have t100 := tmod_zero y 100
  have t400 := tmod_zero y 400
  have hl : lpB y = (y % 4 == 0 && !(y % 100 == 0) || y % 400 == 0) := rfl
  obtain ⟨r, hr⟩ : ∃ r, lpB y = r := ⟨_, rfl⟩
  rw [hr]
  rw [hr] at hl
  by_cases a : y % 4 = 0
  · have a1 : (y.tmod 4 == 0) = true := by simpa using t4.2 a
    by_cases b : y % 100 = 0
    · have b1 : (y.tmod 100 != 0) = false := by simpa using t100.2 b
      by_cases c : y % 400 = 0
      · have c1 : (y.tmod 400 == 0) = true := by simpa using t400.2 c
        obtain rfl : r = true := by rw [hl]; simp [c]
        clear hl hr t4 t100 t400 a b c
        go_enter Tryd.func51, Tryd.ntmps51
        go_wp2
        go_ret
        exact ⟨rfl, rfl⟩
      · have c1 : (y.tmod 400 == 0) = false := by rw [beq_eq_false_iff_ne]; exact fun h => c (t400.1 h)
        obtain rfl : r = false := by rw [hl]; simp [b, c]
        clear hl hr t4 t100 t400 a b c
        go_enter Tryd.func51, Tryd.ntmps51
        go_wp2
        go_ret
        exact ⟨rfl, rfl⟩
    · have b1 : (y.tmod 100 != 0) = true := by rw [bne_iff_ne]; exact fun h => b (t100.1 h)
      obtain rfl : r = true := by rw [hl]; simp [a, b]
      clear hl hr t4 t100 t400 a b
      go_enter Tryd.func51, Tryd.ntmps51
      go_wp2
      go_ret
      exact ⟨rfl, rfl⟩
  · have a1 : (y.tmod 4 == 0) = false := by rw [beq_eq_false_iff_ne]; exact fun h => a (t4.1 h)
    have c : ¬ y % 400 = 0 := by omega
    have c1 : (y.tmod 400 == 0) = false := by rw [beq_eq_false_iff_ne]; exact fun h => c (t400.1 h)
    obtain rfl : r = false := by rw [hl]; simp [a, c]
    clear hl hr t4 t100 t400 a c
    go_enter Tryd.func51, Tryd.ntmps51
    go_wp2
    go_ret
    exact ⟨rfl, rfl⟩


theorem rBefore_any (w : World) (y : Int) (h0 : 1600 ≤ y) (h1 : y ≤ 10000) : Calls Tryd.prog 40 #[.int .i64 y] w fun e w' => e = .returned (.int .i64 (beg y)) ∧ w = w' := by
  have e1 : (y - 1600 + 3).tdiv 4 = (y - 1600 + 3) / 4 := Int.tdiv_eq_ediv_of_nonneg (by omega)
  have e2 : (y - 1600 + 99).tdiv 100 = (y - 1600 + 99) / 100 := Int.tdiv_eq_ediv_of_nonneg (by omega)
  have e3 : (y - 1600 + 399).tdiv 400 = (y - 1600 + 399) / 400 := Int.tdiv_eq_ediv_of_nonneg (by omega)
  obtain ⟨r, hr⟩ : ∃ r, beg y = r := ⟨_, rfl⟩
  rw [hr]
  have HR := Lib.hid hr
  clear hr
  go_enter Tryd.func40, Tryd.ntmps40
  go_wp2
  go_ret
  refine ⟨?_, rfl⟩
  rw [← HR.out]
  unfold beg
  rfl

set_option maxHeartbeats 2000000 in
theorem rLength_any (w : World) (y m : Int) (h1 : 1 ≤ m) (h2 : m ≤ 12) : Calls Tryd.prog 39 #[.int .i64 y, .int .i64 m] w fun e w' => e = .returned (.int .i64 (ml y m)) ∧ Below w.heap.size w w' := by
  have hb := (Below.refl w.heap.size w).alloc (Nat.le_refl _) (.cells #[.int .i64 31, .int .i64 28, .int .i64 31, .int .i64 30, .int .i64 31, .int .i64 30, .int .i64 31, .int .i64 31, .int .i64 30, .int .i64 31, .int .i64 30, .int .i64 31] 3)
  have kn := Blk.new w 3 #[.int .i64 31, .int .i64 28, .int .i64 31, .int .i64 30, .int .i64 31, .int .i64 30, .int .i64 31, .int .i64 31, .int .i64 30, .int .i64 31, .int .i64 30, .int .i64 31]
  obtain ⟨x0, x1, x2⟩ := kn.all
  have hm : m = 2 ∨ m = 1 ∨ m = 3 ∨ m = 4 ∨ m = 5 ∨ m = 6 ∨ m = 7 ∨ m = 8 ∨ m = 9 ∨ m = 10 ∨ m = 11 ∨ m = 12 := by omega
  clear h1 h2 kn
  rcases hm with rfl | rfl | rfl | rfl | rfl | rfl | rfl | rfl | rfl | rfl | rfl | rfl
  case inl =>
    have hb0 := Below.refl w.heap.size w
    have e2 : ml y 2 = fb y := by unfold ml; rw [if_pos rfl]
    rw [e2]
    cases hl : lpB y with
    | true =>
      have e : fb y = 29 := by unfold fb; rw [hl]; rfl
      rw [e]
      have HL := Lib.hid hl
      clear hl e e2
      go_enter Tryd.func39, Tryd.ntmps39
      go_wp2_with fail
      refine (rLeap_any _ y).mono ?_
      rintro e w1 ⟨rfl, rfl⟩
      rw [HL.out]
      go_wp2
      go_ret
      exact ⟨rfl, hb0⟩
    | false =>
      have HL := Lib.hid hl
      by_cases h0 : y < 1600
      · have e : fb y = 29 := by unfold fb; rw [hl, show decide (y < 1600) = true by simpa using h0]; rfl
        rw [e]
        have d1 : decide (y < 1600) = true := decide_eq_true h0
        clear hl e e2
        go_enter Tryd.func39, Tryd.ntmps39
        go_wp2_with fail
        refine (rLeap_any _ y).mono ?_
        rintro e w1 ⟨rfl, rfl⟩
        rw [HL.out]
        go_wp2
        go_ret
        exact ⟨rfl, hb0⟩
      · by_cases h1 : 9999 < y
        · have e : fb y = 29 := by unfold fb; rw [hl, show decide (9999 < y) = true by simpa using h1]; simp
          rw [e]
          have d1 : decide (y < 1600) = false := decide_eq_false h0
          have d2 : decide (9999 < y) = true := decide_eq_true h1
          clear hl e e2
          go_enter Tryd.func39, Tryd.ntmps39
          go_wp2_with fail
          refine (rLeap_any _ y).mono ?_
          rintro e w1 ⟨rfl, rfl⟩
          rw [HL.out]
          go_wp2
          go_ret
          exact ⟨rfl, hb0⟩
        · have e : fb y = 28 := by unfold fb; rw [hl, show decide (9999 < y) = false by simpa using h1, show decide (y < 1600) = false by simpa using h0]; rfl
          rw [e]
          have d1 : decide (y < 1600) = false := decide_eq_false h0
          have d2 : decide (9999 < y) = false := decide_eq_false h1
          clear hl e e2
          go_enter Tryd.func39, Tryd.ntmps39
          go_wp2_with fail
          refine (rLeap_any _ y).mono ?_
          rintro e w1 ⟨rfl, rfl⟩
          rw [HL.out]
          go_wp2
          go_ret
          exact ⟨rfl, hb⟩
  all_goals
    go_enter Tryd.func39, Tryd.ntmps39
    go_wp2
    go_ret
    exact ⟨rfl, hb⟩

set_option maxRecDepth 100000 in
set_option maxHeartbeats 2000000 in
theorem rDay_any (w : World) (y m d : Int) : Calls Tryd.prog 21 #[.int .i64 y, .int .i64 m, .int .i64 d] w fun e w' => e = .returned (.tuple #[.int .i64 (dayS y m d).1, .int .i64 (dayS y m d).2]) ∧ Below w.heap.size w w' := by
  by_cases h1 : m < 1
  · rw [dayS_arg (.inl h1)]
    go_enter Tryd.func21, Tryd.ntmps21
    go_wp2
    go_ret2
    exact ⟨rfl, Below.refl _ _⟩
  by_cases h2 : 12 < m
  · rw [dayS_arg (.inr (.inl h2))]
    go_enter Tryd.func21, Tryd.ntmps21
    go_wp2
    go_ret2
    exact ⟨rfl, Below.refl _ _⟩
  by_cases h3 : d < 1
  · rw [dayS_arg (.inr (.inr (.inl h3)))]
    go_enter Tryd.func21, Tryd.ntmps21
    go_wp2
    go_ret2
    exact ⟨rfl, Below.refl _ _⟩
  have hm1 : 1 ≤ m := by omega
  have hm2 : m ≤ 12 := by omega
  have hd1 : 1 ≤ d := by omega
  have HLE := Lib.hid (rLength_any w y m hm1 hm2)
  by_cases h4 : ml y m < d
  · rw [dayS_arg (.inr (.inr (.inr h4)))]
    generalize ml y m = q at *
    clear h1 h2 h3
    go_enter Tryd.func21, Tryd.ntmps21
    go_wp2_with fail
    refine HLE.out.mono ?_
    rintro e w1 ⟨rfl, hb⟩
    go_wp2
    go_ret2
    exact ⟨rfl, hb⟩
  have hml := ml_bd y m
  by_cases h5 : y < 1600 ∨ 9999 < y
  · rw [dayS_rng (by omega) h5]
    generalize ml y m = q at *
    clear h1 h2 h3
    go_enter Tryd.func21, Tryd.ntmps21
    go_wp2_with fail
    refine HLE.out.mono ?_
    rintro e w1 ⟨rfl, hb⟩
    by_cases h6 : y < 1600
    · have d1 : decide (y < 1600) = true := decide_eq_true h6
      go_wp2
      go_ret2
      exact ⟨rfl, hb⟩
    · have d1 : decide (y < 1600) = false := decide_eq_false h6
      have d2 : decide (9999 < y) = true := decide_eq_true (by omega)
      go_wp2
      go_ret2
      exact ⟨rfl, hb⟩
  have hv : Vd y m d := ⟨by omega, by omega, hm1, hm2, hd1, by omega⟩
  have hnum := num_in hv
  have hb0 := beg_mono (show (1600 : Int) ≤ y by omega)
  rw [beg_0] at hb0
  have hb1 := beg_mono (show y ≤ 9999 by omega)
  have hb9 : beg 9999 = 3067672 := by decide
  rw [hb9] at hb1
  have hc1 := Lib.hid (cum_one y)
  have hcs := Lib.hid (fun (k : Int) (h1 : 1 ≤ k) (h2 : k ≤ 12) => cum_succ y k h1 h2)
  have hcb := Lib.hid (fun (k : Int) (h1 : 1 ≤ k) (h2 : k ≤ 13) => cum_bd y k h1 h2)
  have HN := Lib.hid (show num y m d = beg y + d - 1 + cum y m by unfold num; omega)
  obtain ⟨r1, r2, hr⟩ : ∃ r1 r2, dayS y m d = (r1, r2) := ⟨_, _, rfl⟩
  rw [hr]
  have HD : Hid ((r1, r2) = if 1000000 < num y m d then ((0 : Int), (10 : Int)) else (num y m d, 0)) := by
    have : dayS y m d = if 1000000 < num y m d then (0, 10) else (num y m d, 0) := by
      unfold dayS; rw [if_neg (by omega), if_neg (by omega)]
    exact Lib.hid (hr.symm.trans this)
  have y1 : 1600 ≤ y := by omega
  have y2 : y ≤ 9999 := by omega
  have dm : d ≤ 31 := by omega
  have hmlb : ¬ ml y m < d := h4
  generalize ml y m = q at *
  clear hnum hb9 hv h1 h2 h3 h5 hr hml
  obtain ⟨bg, hbg⟩ : ∃ bg, beg y = bg := ⟨_, rfl⟩
  rw [hbg] at hb0 hb1
  have HBG := Lib.hid hbg
  clear hbg
  go_enter Tryd.func21, Tryd.ntmps21
  go_wp2_with fail
  refine HLE.out.mono ?_
  rintro e w1 ⟨rfl, hb⟩
  go_wp2_with fail
  have hbf := rBefore_any w1 y y1 (by omega)
  rw [HBG.out] at hbf
  refine hbf.mono ?_
  rintro e w2 ⟨rfl, rfl⟩
  clear hbf
  go_wp2_with fail
  go_loopw [8, 9] (fun n v wr => ∃ (j c : Int), 1 ≤ j ∧ j ≤ m ∧ v = .int .i64 j ∧ Hid (cum y j = c) ∧ 0 ≤ c ∧ c ≤ 366 ∧ n = .int .i64 (bg + d - 1 + c) ∧ Below w.heap.size w wr) (fun _ v _ => (m - intOf v).toNat)
  case atStart => exact ⟨1, 0, by omega, hm1, rfl, hc1, by omega, by omega, by go_num, hb⟩
  case round =>
    clear hb
    obtain ⟨j, c, j1, j2, rfl, hc, c0, c9, rfl, hb⟩ := hrel
    by_cases hlt : j < m
    · have hle := rLength_any wr y j j1 (by omega)
      have hs := hcs.out j j1 (by omega)
      have hbb := hcb.out (j + 1) (by omega) (by omega)
      rw [hs, hc.out] at hbb
      rw [hc.out] at hs
      have hml := ml_bd y j
      obtain ⟨x, hx⟩ : ∃ x, ml y j = x := ⟨_, rfl⟩
      rw [hx] at hle hs hbb hml
      have HLJ := Lib.hid hle
      have HS := Lib.hid hs
      clear hle hs hx
      go_wp2_with fail
      refine HLJ.out.mono ?_
      rintro e w3 ⟨rfl, b⟩
      replace hb := hb.trans (b.mono hb.size)
      clear b HLJ
      go_wp2
      go_roundw
      case rel => exact ⟨j + 1, c + x, by omega, by omega, by go_num, HS, hbb.1, hbb.2, by go_num, hb⟩
      case measure => simp [intOf]; omega
    · obtain rfl : j = m := by omega
      have hn := HN.out
      rw [HBG.out, hc.out] at hn
      have hd := HD.out
      rw [hn] at hd
      by_cases h6 : 1000000 < bg + d - 1 + c
      · rw [if_pos h6] at hd
        injection hd with h7 h8
        subst h7 h8
        clear hn
        go_wp2
        go_ret2
        exact ⟨rfl, hb⟩
      · rw [if_neg h6] at hd
        injection hd with h7 h8
        subst h8
        have H7 := Lib.hid h7
        clear hn h7
        go_wp2
        go_ret2
        exact ⟨by rw [H7.out]; rfl, hb⟩
end Go.Proofs.YtfblngdmeliabaaDoor
