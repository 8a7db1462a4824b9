/- What Date of package calendar returns. -/
import Derived.Test.YtfblngdmeliabaaDoorCb
namespace Go.Proofs.YtfblngdmeliabaaDoor
open Go.RowKit

theorem beg_400s (q : Int) : beg (1600 + q * 400) = q * 146097 := by unfold beg; omega
theorem year_is {x y n : Int} (h1 : beg x ≤ n) (h2 : n < beg (x + 1)) (h3 : beg y ≤ n) (h4 : n < beg (y + 1)) : x = y := by
  rcases Int.lt_trichotomy x y with c | c | c
  · have := beg_mono (show x + 1 ≤ y by omega)
    omega
  · exact c
  · have := beg_mono (show y + 1 ≤ x by omega)
    omega
theorem year_le {x y n : Int} (h1 : beg x ≤ n) (h4 : n < beg (y + 1)) : x ≤ y := by
  rcases Int.lt_or_le y x with c | c
  · have := beg_mono (show y + 1 ≤ x by omega)
    omega
  · exact c
theorem month_le {y a b r : Int} (h1 : cum y a ≤ r) (h2 : r < cum y (b + 1)) (hb : 1 ≤ b) (ha : a ≤ 13) : a ≤ b := by
  rcases Int.lt_or_le b a with c | c
  · have := cum_mono y (b + 1) a (by omega) (by omega) ha
    omega
  · exact c

set_option maxHeartbeats 400000 in
theorem date_no (w : World) (n : Int) (h : isB n = false) : Calls Tryd.prog 15 #[.int .i64 n] w fun e w' => e = .returned (.tuple #[.int .i64 0, .int .i64 0, .int .i64 0, .int .i64 10]) ∧ w = w' := by
  have HI := Lib.hid h
  clear h
  go_enter Tryd.func15, Tryd.ntmps15
  go_wp2_with fail
  refine (is_any _ _).mono ?_
  rintro e w4 ⟨rfl, rfl⟩
  rw [HI.out]
  go_wp2
  refine bodyPost_ret (v := .tuple #[.int .i64 0, .int .i64 0, .int .i64 0, .int .i64 10]) (by simp [results, Tryd.results15, go_sem]) rfl ⟨rfl, rfl⟩

set_option maxRecDepth 100000 in
set_option maxHeartbeats 1000000 in
theorem date_yes (w : World) (y m d : Int) (hv : Vd y m d) (hn : num y m d ≤ 1000000) : Calls Tryd.prog 15 #[.int .i64 (num y m d)] w fun e w' => e = .returned (.tuple #[.int .i64 y, .int .i64 m, .int .i64 d, .int .i64 0]) ∧ Below w.heap.size w w' := by
  obtain ⟨hnb, hne⟩ := num_in hv
  have hv' := hv
  obtain ⟨y1, y2, m1, m2, d1, d2⟩ := hv'
  have hb0 := beg_mono y1
  rw [beg_0] at hb0
  have hmr : cum y m ≤ num y m d - beg y ∧ num y m d - beg y < cum y (m + 1) := by
    have := cum_succ y m m1 m2
    unfold num; omega
  have hdd : num y m d - beg y - cum y m + 1 = d := by unfold num; omega
  have HDD := Lib.hid hdd
  clear hv hdd d2
  generalize num y m d = n at *
  have HI := Lib.hid ((isB_iff n).2 ⟨by omega, hn⟩)
  have h0 : 0 ≤ n := by omega
  have hq := beg_400s (n / 146097)
  have HQ := Lib.hid hq
  have hx0 : (1600 : Int) + n / 146097 * 400 ≤ y := year_le (n := n) (by rw [hq]; omega) hne
  have HNE := Lib.hid hne
  have HNB := Lib.hid hnb
  have HMR := Lib.hid hmr
  clear hq
  go_enter Tryd.func15, Tryd.ntmps15
  go_wp2_with fail
  refine (is_any _ _).mono ?_
  rintro e w4 ⟨rfl, rfl⟩
  rw [HI.out]
  go_wp2_with fail
  go_loop [0, 6] (fun v u => ∃ x r : Int, 1600 ≤ x ∧ x ≤ y ∧ 0 ≤ r ∧ r ≤ 146096 ∧ Hid (beg x + r = n) ∧ u = .int .i64 x ∧ v = .int .i64 r) (fun _ u => (y - intOf u).toNat)
  case atStart => exact ⟨1600 + n / 146097 * 400, n % 146097, by omega, hx0, by omega, by omega, Lib.hid (by rw [HQ.out]; omega), rfl, rfl⟩
  case round =>
    obtain ⟨x, r, hx1, hx2, hr1, hr2, hr3, rfl, rfl⟩ := hrel
    have hbs := Lib.hid (beg_succ x)
    have hyd := yd_bd x
    by_cases hc : yd x ≤ r
    · have hxy : x < y := by
        have := year_le (x := x + 1) (y := y) (n := n) (by rw [hbs.out]; have := hr3.out; omega) HNE.out
        omega
      go_wp2_with fail
      refine (days_any _ x).mono ?_
      rintro e w1 ⟨rfl, rfl⟩
      go_wp2_with fail
      refine (days_any _ x).mono ?_
      rintro e w1 ⟨rfl, rfl⟩
      go_wp2
      go_round
      case rel => exact ⟨x + 1, r - yd x, by omega, by omega, by omega, by omega, Lib.hid (by rw [hbs.out]; have := hr3.out; omega), rfl, rfl⟩
      case measure => simp [intOf]; omega
    · have hxy : x = y := year_is (n := n) (by have := hr3.out; omega) (by rw [hbs.out]; have := hr3.out; omega) HNB.out HNE.out
      subst hxy
      go_wp2_with fail
      refine (days_any _ x).mono ?_
      rintro e w1 ⟨rfl, rfl⟩
      go_wp2_with fail
      refine (months_any _ x).mono ?_
      rintro e w1 ⟨rfl, hb⟩
      unfold lens
      go_wp2_with fail
      have hbl : Blk (w1.alloc (.cells (lensA x) 56)) w1.heap.size 56 (lensA x) := Blk.new w1 _ _
      have hbw : Below w.heap.size w (w1.alloc (.cells (lensA x) 56)) := hb.alloc hb.size _
      have hcs := Lib.hid (fun (k : Int) (h1 : 1 ≤ k) (h2 : k ≤ 12) => cum_succ x k h1 h2)
      have hc1 := Lib.hid (cum_one x)
      have hr400 : r ≤ 366 := by omega
      have hr4 : Hid (r = n - beg x - cum x (((0 : Nat) : Int) + 1)) := Lib.hid (by rw [show ((0 : Nat) : Int) + 1 = 1 from rfl, hc1.out]; have := hr3.out; omega)
      have hmm := Lib.hid (fun (k : Int) => ml_bd x k)
      clear hb hr2 hmr hne hnb HI HQ hbs
      go_loopw [0, 7, 8] (fun v u p wr => ∃ (k g : Nat) (r2 : Int), (k : Int) + 1 ≤ m ∧ 0 ≤ r2 ∧ r2 ≤ 366 ∧ Hid (r2 = n - beg x - cum x ((k : Int) + 1)) ∧ u = .int .i64 (k : Int) ∧ v = .int .i64 r2 ∧ p = .pointer (some ⟨g, 0, none⟩) ∧ Blk wr g 56 (lensA x) ∧ Below w.heap.size w wr) (fun _ u _ _ => 12 - (intOf u).toNat)
      case atStart => exact ⟨0, w1.heap.size, r, by omega, hr1, hr400, hr4, rfl, rfl, rfl, hbl, hbw⟩
      case round =>
        clear hbl hbw hr4
        obtain ⟨k, g, r2, hkm, hr20, hr21, hr2, rfl, rfl, rfl, hbl, hbw⟩ := hrel
        have hmk := hmm.out ((k : Int) + 1)
        have hcell : wr.cell? ⟨g, k, none⟩ = some (.int .i64 (ml x ((k : Int) + 1))) := by rw [hbl.cell k]; exact lens_at x k (by omega)
        have l0 : wr.cell? ⟨g, 0, none⟩ = some (.int .i64 31) := by rw [hbl.cell 0]; rfl
        have l1 : wr.cell? ⟨g, 1, none⟩ = some (.int .i64 (fb x)) := by rw [hbl.cell 1]; rfl
        have l2 : wr.cell? ⟨g, 2, none⟩ = some (.int .i64 31) := by rw [hbl.cell 2]; rfl
        have l3 : wr.cell? ⟨g, 3, none⟩ = some (.int .i64 30) := by rw [hbl.cell 3]; rfl
        have l4 : wr.cell? ⟨g, 4, none⟩ = some (.int .i64 31) := by rw [hbl.cell 4]; rfl
        have l5 : wr.cell? ⟨g, 5, none⟩ = some (.int .i64 30) := by rw [hbl.cell 5]; rfl
        have l6 : wr.cell? ⟨g, 6, none⟩ = some (.int .i64 31) := by rw [hbl.cell 6]; rfl
        have l7 : wr.cell? ⟨g, 7, none⟩ = some (.int .i64 31) := by rw [hbl.cell 7]; rfl
        have l8 : wr.cell? ⟨g, 8, none⟩ = some (.int .i64 30) := by rw [hbl.cell 8]; rfl
        have l9 : wr.cell? ⟨g, 9, none⟩ = some (.int .i64 31) := by rw [hbl.cell 9]; rfl
        have l10 : wr.cell? ⟨g, 10, none⟩ = some (.int .i64 30) := by rw [hbl.cell 10]; rfl
        have l11 : wr.cell? ⟨g, 11, none⟩ = some (.int .i64 31) := by rw [hbl.cell 11]; rfl
        have hstep := Lib.hid (hcs.out ((k : Int) + 1) (by omega) (by omega))
        have hkI : (k : Int) < 12 := by omega
        by_cases hc2 : ml x ((k : Int) + 1) ≤ r2
        · have hkm2 : (k : Int) + 1 + 1 ≤ m := month_le (y := x) (r := n - beg x) (by rw [hstep.out]; have := hr2.out; omega) HMR.out.2 m1 (by omega)
          generalize ml x ((k : Int) + 1) = mk at *
          have hnew : Blk (wr.alloc (.cells (lensA x) 56)) wr.heap.size 56 (lensA x) := Blk.new wr _ _
          have hbw' : Below w.heap.size w (wr.alloc (.cells (lensA x) 56)) := hbw.alloc hbw.size _
          go_wp2
          go_roundw
          case rel => exact ⟨k + 1, wr.heap.size, r2 - mk, by omega, by omega, by omega, Lib.hid (by rw [show (((k + 1 : Nat) : Int) + 1) = (k : Int) + 1 + 1 by omega, hstep.out]; have := hr2.out; omega), by go_num, rfl, rfl, hnew, hbw'⟩
          case measure => simp [intOf]; omega
        · have hkm2 : m ≤ (k : Int) + 1 := month_le (y := x) (r := n - beg x) HMR.out.1 (by rw [hstep.out]; have := hr2.out; omega) (by omega) (by omega)
          obtain rfl : m = (k : Int) + 1 := by omega
          have hd : r2 + 1 = d := by have := HDD.out; have := hr2.out; omega
          generalize ml x ((k : Int) + 1) = mk at *
          subst hd
          clear l0 l1 l2 l3 l4 l5 l6 l7 l8 l9 l10 l11
          go_wp2
          refine bodyPost_ret (v := .tuple #[.int .i64 x, .int .i64 ((k : Int) + 1), .int .i64 (r2 + 1), .int .i64 0]) (by simp [results, Tryd.results15, go_sem]) rfl ⟨rfl, hbw⟩
end Go.Proofs.YtfblngdmeliabaaDoor
