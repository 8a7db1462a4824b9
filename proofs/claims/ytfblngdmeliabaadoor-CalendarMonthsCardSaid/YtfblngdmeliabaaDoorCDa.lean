/- The walk of CalendarDates. -/
import Derived.Test.YtfblngdmeliabaaDoorCi
import Derived.Deep.DeepCutAuto
import Derived.Deep.CutBlock
namespace Go.Proofs.YtfblngdmeliabaaDoor
open Go.RowKit

theorem b_false {x : Int} (h : ¬ x = 0) : (x == 0) = false := by simpa using h

theorem fb_400 {y : Int} (h1 : 1600 ≤ y) (h2 : y + 400 ≤ 9999) : fb (y + 400) = fb y := by
  unfold fb
  have e1 : (y + 400) % 4 = y % 4 := by omega
  have e2 : (y + 400) % 100 = y % 100 := by omega
  have e3 : (y + 400) % 400 = y % 400 := by omega
  have hl : lpB (y + 400) = lpB y := by unfold lpB; rw [e1, e2, e3]
  rw [hl, decide_eq_false (by omega), decide_eq_false (by omega : ¬ y < 1600), decide_eq_false (by omega : ¬ 9999 < y + 400), decide_eq_false (by omega : ¬ 9999 < y)]
theorem vd_year {y m d : Int} (hv : Vd y m d) (hn : num y m d ≤ 1000000) : y ≤ 4400 := by
  obtain ⟨h1, h2⟩ := num_in hv
  rcases Int.lt_or_le 4400 y with c | c
  · exfalso
    have := beg_mono (show (4400 : Int) ≤ y by omega)
    have e : beg 4400 = 1022679 := by decide
    omega
  · exact c
theorem vd_400 {y m d : Int} (hv : Vd y m d) (hn : num y m d ≤ 1000000) : Vd (y + 400) m d ∧ num (y + 400) m d = num y m d + 146097 := by
  have hy := vd_year hv hn
  obtain ⟨y1, y2, m1, m2, d1, d2⟩ := hv
  have hf := fb_400 y1 (show y + 400 ≤ 9999 by omega)
  have hm : ml (y + 400) m = ml y m := by unfold ml; rw [hf]
  have hc : cum (y + 400) m = cum y m := by unfold cum; rw [hf]
  have hb := beg_400 y
  refine ⟨⟨by omega, by omega, m1, m2, d1, by omega⟩, ?_⟩
  unfold num
  omega
theorem dayS_400 {y m d : Int} (hv : Vd y m d) (h : num y m d + 146097 ≤ 1000000) : dayS (y + 400) m d = (num y m d + 146097, 0) := by
  obtain ⟨a, b⟩ := vd_400 hv (by omega)
  rw [← b]
  exact dayS_yes a (by omega)
theorem dayS_far {y m d : Int} (hv : Vd y m d) (h : 1000000 < num y m d) : dayS y m d = (0, 10) := by
  obtain ⟨h1, h2, h3, h4, h5, h6⟩ := hv
  unfold dayS
  rw [if_neg (by omega), if_neg (by omega), if_pos h]
theorem dayS_400n {y m d : Int} (hv : Vd y m d) (hn : num y m d ≤ 1000000) (h : 1000000 < num y m d + 146097) : dayS (y + 400) m d = (0, 10) := by
  obtain ⟨a, b⟩ := vd_400 hv hn
  exact dayS_far a (by omega)

theorem next_of {y m d : Int} (hv : Vd y m d) (hn : num y m d < 1000000) :
    (Vd y m (d + 1) ∧ num y m (d + 1) = num y m d + 1) ∨ (m ≤ 11 ∧ Vd y (m + 1) 1 ∧ num y (m + 1) 1 = num y m d + 1) ∨ (m = 12 ∧ Vd (y + 1) 1 1 ∧ num (y + 1) 1 1 = num y m d + 1) := by
  have hy := vd_year hv (by omega)
  obtain ⟨y1, y2, m1, m2, d1, d2⟩ := hv
  rcases Int.lt_or_le d (ml y m) with c | c
  · left
    exact ⟨⟨y1, y2, m1, m2, by omega, by omega⟩, by unfold num; omega⟩
  have hd : d = ml y m := by omega
  have hs := cum_succ y m m1 m2
  rcases Int.lt_or_le m 12 with c2 | c2
  · right; left
    have hb := ml_bd y (m + 1)
    exact ⟨by omega, ⟨y1, y2, by omega, by omega, by omega, by omega⟩, by unfold num; omega⟩
  · right; right
    have hm : m = 12 := by omega
    have hb := ml_bd (y + 1) 1
    have hc := cum_one (y + 1)
    have he := cum_end y1 y2
    have hbs := beg_succ y
    rw [hm] at hs
    have e13 : (12 : Int) + 1 = 13 := rfl
    rw [e13, he] at hs
    refine ⟨hm, ⟨by omega, by omega, by omega, by omega, by omega, by omega⟩, ?_⟩
    rw [hd, hm]
    unfold num
    omega

set_option maxRecDepth 100000 in
set_option maxHeartbeats 4000000 in
theorem dates_walk (w : World) (ht : Tab w) (y m d n : Int) : Calls Tryd.prog 4 #[.int .i64 y, .int .i64 m, .int .i64 d, .int .i64 n] w fun e w' => e = .returned (.bool true) ∧ Below w.heap.size w w' := by
  go_enter Tryd.func4, Tryd.ntmps4
  go_wp2_with fail
  refine (head_any _ ht).mono ?_
  rintro e w1 ⟨rfl, b⟩
  go_wp2_with fail
  obtain ⟨r1, r2, hr⟩ : ∃ r1 r2, dayS y m d = (r1, r2) := ⟨_, _, rfl⟩
  refine (day_at _ y m d _ hr).mono ?_
  rintro e w2 ⟨rfl, b2⟩
  replace b := Below.then b b2; clear b2
  go_upto_if 38 with fail
  go_cut [] (fun wx => Below w.heap.size w wx)
  case first =>
    cases hz : (r2 == 0) with
    | false =>
      go_wp2
      go_meet
      exact b
    | true =>
      obtain ⟨hv, he, h0, h1⟩ := dayS_ok (y := y) (m := m) (d := d) (by rw [hr]; simpa using hz)
      rw [hr] at he
      have hd := fun W => date_yes W y m d hv h1
      have HY := Lib.hid (dayS_400 hv)
      have HN := Lib.hid (dayS_400n hv h1)
      have y1 : 1600 ≤ y := hv.1
      have y2 : y ≤ 9999 := hv.2.1
      simp only at he
      rw [← he] at hd HY HN h0 h1
      clear he hr hv
      obtain rfl : r2 = 0 := by simpa using hz
      clear hz
      go_wp2_with fail
      refine (hd _).mono ?_
      rintro e w3 ⟨rfl, b2⟩
      replace b := Below.then b b2; clear b2
      clear hd
      go_wp2_with fail
      by_cases h4 : r1 + 146097 ≤ 1000000
      · refine (day_at _ (y + 400) m d _ (HY.out h4)).mono ?_
        rintro e w4 ⟨rfl, b2⟩
        replace b := Below.then b b2; clear b2 HY HN
        go_wp2
        go_meet
        exact b
      · have h5 : 1000000 < r1 + 146097 := by omega
        clear h4
        refine (day_at _ (y + 400) m d _ (HN.out h5)).mono ?_
        rintro e w4 ⟨rfl, b2⟩
        replace b := Below.then b b2; clear b2 HY HN
        go_wp2
        go_meet
        exact b
  case rest =>
    clear b
    cases hi : isB n with
    | false =>
      have hd := fun W => date_at W n _ (dateS_no hi)
      have ho : n < 0 ∨ 1000000 < n := by
        rcases Int.lt_or_le n 0 with c | c
        · exact .inl c
        · right
          rcases Int.lt_or_le 1000000 n with c2 | c2
          · exact c2
          · rw [(isB_iff n).2 ⟨c, c2⟩] at hi; cases hi
      clear hi hr
      rcases ho with ho | ho
      · go_wp2_with fail
        refine (hd _).mono ?_
        rintro e w3 ⟨rfl, b2⟩
        replace b2 := hcut.trans (b2.mono hcut.size); clear hcut hd
        go_wp2
        go_ret
        exact ⟨rfl, b2⟩
      · have ho2 : 0 ≤ n := by omega
        go_wp2_with fail
        refine (hd _).mono ?_
        rintro e w3 ⟨rfl, b2⟩
        replace b2 := hcut.trans (b2.mono hcut.size); clear hcut hd
        go_wp2
        go_ret
        exact ⟨rfl, b2⟩
    | true =>
      obtain ⟨n0, n1⟩ := (isB_iff n).1 hi
      obtain ⟨Y, M, D, hv, he, -⟩ := date_of n0 n1
      have hd := fun W => date_yes W Y M D hv (by omega)
      have hb := fun W => day_at W Y M D _ (dayS_yes hv (by omega))
      have hnx := next_of hv
      rw [he] at hd hb hnx
      have HX := Lib.hid hnx
      obtain ⟨y1, y2, m1, m2, d1, d2⟩ := hv
      have d3 := (ml_bd Y M).2
      have d4 : D ≤ 31 := by omega
      clear hnx d2 d3 he hi hr
      go_wp2_with fail
      refine (hd _).mono ?_
      rintro e w3 ⟨rfl, b2⟩
      replace hcut := Below.then hcut b2; clear b2 hd
      go_wp2_with fail
      refine (hb _).mono ?_
      rintro e w4 ⟨rfl, b2⟩
      replace hcut := Below.then hcut b2; clear b2 hb
      by_cases h5 : n = 1000000
      · subst h5
        clear HX n0 n1
        go_wp2
        go_ret
        exact ⟨rfl, hcut⟩
      have h6 : n < 1000000 := by omega
      clear h5
      rcases HX.out h6 with ⟨hv2, he2⟩ | ⟨hm, hv2, he2⟩ | ⟨hm, hv2, he2⟩
      · have hd := fun W => date_yes W Y M (D + 1) hv2 (by omega)
        rw [he2] at hd
        clear HX hv2 he2
        go_wp2_with fail
        refine (hd _).mono ?_
        rintro e w5 ⟨rfl, b2⟩
        replace hcut := Below.then hcut b2; clear b2 hd
        go_wp2
        go_ret
        exact ⟨rfl, hcut⟩
      · have hd := fun W => date_yes W Y (M + 1) 1 hv2 (by omega)
        rw [he2] at hd
        clear HX hv2 he2
        go_wp2_with fail
        refine (hd _).mono ?_
        rintro e w5 ⟨rfl, b2⟩
        replace hcut := Below.then hcut b2; clear b2 hd
        go_wp2
        go_ret
        exact ⟨rfl, hcut⟩
      · subst hm
        have hd := fun W => date_yes W (Y + 1) 1 1 hv2 (by omega)
        rw [he2] at hd
        clear HX hv2 he2
        go_wp2_with fail
        refine (hd _).mono ?_
        rintro e w5 ⟨rfl, b2⟩
        replace hcut := Below.then hcut b2; clear b2 hd
        go_wp2
        go_ret
        exact ⟨rfl, hcut⟩
end Go.Proofs.YtfblngdmeliabaaDoor
