/- What Day of package calendar returns. What Date of package calendar returns. Days on which offices are open, in package calendar: the map, a look-up, Work, from. -/
import Derived.Test.YtebdkmlganalaaaGreatDoorKTopAccruedGAA
import Derived.Maps.Own
import Derived.Maps.OwnOps
import Derived.Maps.Views
namespace Go.Proofs.YtebdkmlganalaaaGreatDoor
open Go.RowKit

def lensA (y : Int) : Array Value := #[.int .i64 31, .int .i64 (fb y), .int .i64 31, .int .i64 30, .int .i64 31, .int .i64 30, .int .i64 31, .int .i64 31, .int .i64 30, .int .i64 31, .int .i64 30, .int .i64 31]
theorem lens_at (y : Int) (k : Nat) (hk : k < 12) : (lensA y)[k]? = some (.int .i64 (ml y (k + 1))) := by
  have hm : k = 0 ∨ k = 1 ∨ k = 2 ∨ k = 3 ∨ k = 4 ∨ k = 5 ∨ k = 6 ∨ k = 7 ∨ k = 8 ∨ k = 9 ∨ k = 10 ∨ k = 11 := by omega
  rcases hm with rfl | rfl | rfl | rfl | rfl | rfl | rfl | rfl | rfl | rfl | rfl | rfl <;> simp [lensA, ml]

theorem run_lens (W : World) (y m : Int) (h1 : 1 ≤ m) (h2 : m ≤ 12) : (Instr.index 170 (lens y) (.int .i64 (m - 1))).run Tryz.prog W = .ok (.int .i64 (ml y m)) W := by
  have hm : m = 1 ∨ m = 2 ∨ m = 3 ∨ m = 4 ∨ m = 5 ∨ m = 6 ∨ m = 7 ∨ m = 8 ∨ m = 9 ∨ m = 10 ∨ m = 11 ∨ m = 12 := by omega
  rcases hm with rfl | rfl | rfl | rfl | rfl | rfl | rfl | rfl | rfl | rfl | rfl | rfl <;> simp [Instr.index, lens, ml, go_sem]

theorem run_lens_slice (W : World) (g k : Nat) (h : k ≤ 12) : (Instr.sliceAt 170 (.pointer (some ⟨g, 0, none⟩)) none (some (.int .i64 (k : Int))) none).run Tryz.prog W = .ok (.slice (some ⟨g, 0, none⟩) k 12) W := by
  have ht : Tryz.prog.underlying 170 = some (.array (Tryz.prog.arrayLen 170) (Tryz.prog.elem 170)) := by kernel_rfl
  have hl : Tryz.prog.arrayLen 170 = 12 := by kernel_rfl
  rw [run_sliceAt_array_h (P := Tryz.prog) W 170 _ ht .i64 (k : Int) (by omega) (by rw [hl]; omega)]
  rw [hl]
  have hs : (sizeOf (Tryz.prog.elem 170)).run Tryz.prog W = .ok 1 W := by kernel_rfl
  rw [hs]
  simp [Result.andThen, slicedAt]
  unfold Addr.add
  simp

theorem dayS_arg {y m d : Int} (h : m < 1 ∨ 12 < m ∨ d < 1 ∨ ml y m < d) : dayS y m d = (0, 1) := by unfold dayS; rw [if_pos h]
theorem dayS_rng {y m d : Int} (h : ¬ (m < 1 ∨ 12 < m ∨ d < 1 ∨ ml y m < d)) (h2 : y < 1600 ∨ 9999 < y) : dayS y m d = (0, 10) := by unfold dayS; rw [if_neg h, if_pos h2]

set_option maxRecDepth 100000 in
set_option maxHeartbeats 1000000 in
theorem day_any (w : World) (y m d : Int) : Calls Tryz.prog 110 #[.int .i64 y, .int .i64 m, .int .i64 d] w fun e w' => e = .returned (.tuple #[.int .i64 (dayS y m d).1, .int .i64 (dayS y m d).2]) ∧ Below w.heap.size w w' := by
  by_cases h1 : m < 1
  · rw [dayS_arg (.inl h1)]
    go_enter Tryz.func110, Tryz.ntmps110
    go_wp2
    go_ret2
    exact ⟨rfl, Below.refl _ _⟩
  by_cases h2 : 12 < m
  · rw [dayS_arg (.inr (.inl h2))]
    go_enter Tryz.func110, Tryz.ntmps110
    go_wp2
    go_ret2
    exact ⟨rfl, Below.refl _ _⟩
  by_cases h3 : d < 1
  · rw [dayS_arg (.inr (.inr (.inl h3)))]
    go_enter Tryz.func110, Tryz.ntmps110
    go_wp2
    go_ret2
    exact ⟨rfl, Below.refl _ _⟩
  have hm1 : 1 ≤ m := by omega
  have hm2 : m ≤ 12 := by omega
  have hd1 : 1 ≤ d := by omega
  have rl : ∀ W : World, (Instr.index 170 (lens y) (.int .i64 (m - 1))).run Tryz.prog W = .ok (.int .i64 (ml y m)) W := fun W => run_lens W y m hm1 hm2
  by_cases h4 : ml y m < d
  · rw [dayS_arg (.inr (.inr (.inr h4)))]
    generalize ml y m = q at *
    clear h1 h2 h3
    go_enter Tryz.func110, Tryz.ntmps110
    go_wp2_with fail
    refine (months_any _ y).mono ?_
    rintro e w1 ⟨rfl, hb⟩
    go_wp2
    go_ret2
    exact ⟨rfl, hb⟩
  have hml := ml_bd y m
  by_cases h5 : y < 1600
  · rw [dayS_rng (by omega) (.inl h5)]
    generalize ml y m = q at *
    clear h1 h2 h3
    go_enter Tryz.func110, Tryz.ntmps110
    go_wp2_with fail
    refine (months_any _ y).mono ?_
    rintro e w1 ⟨rfl, hb⟩
    go_wp2
    go_ret2
    exact ⟨rfl, hb⟩
  by_cases h6 : 9999 < y
  · rw [dayS_rng (by omega) (.inr h6)]
    generalize ml y m = q at *
    clear h1 h2 h3
    go_enter Tryz.func110, Tryz.ntmps110
    go_wp2_with fail
    refine (months_any _ y).mono ?_
    rintro e w1 ⟨rfl, hb⟩
    go_wp2
    go_ret2
    exact ⟨rfl, hb⟩
  have hv : Vd y m d := ⟨by omega, by omega, hm1, hm2, hd1, by omega⟩
  have hnum := num_in hv
  have hb0 := beg_mono (show (1600 : Int) ≤ y by omega)
  rw [beg_0] at hb0
  have hb1 := beg_mono (show y ≤ 9999 by omega)
  have hb9 : beg 9999 = 3067672 := by decide
  rw [hb9] at hb1
  have hcm := cum_bd y m hm1 (by omega)
  have hc1 := Lib.hid (cum_one y)
  have hcs := Lib.hid (fun (k : Int) (h1 : 1 ≤ k) (h2 : k ≤ 12) => cum_succ y k h1 h2)
  have hcb := Lib.hid (fun (k : Int) (h1 : 1 ≤ k) (h2 : k ≤ 13) => cum_bd y k h1 h2)
  have hmb := Lib.hid (fun (k : Int) => ml_bd y k)
  have HN := Lib.hid (show num y m d = beg y + d - 1 + cum y m by unfold num; omega)
  have HD : Hid (dayS y m d = if 1000000 < num y m d then (0, 10) else (num y m d, 0)) := by
    have : dayS y m d = if 1000000 < num y m d then (0, 10) else (num y m d, 0) := by
      unfold dayS; rw [if_neg (by omega), if_neg (by omega)]
    exact Lib.hid this
  clear hnum hb9 hv h1 h2 h3
  obtain ⟨k12, rfl⟩ : ∃ k : Nat, m = (k : Int) + 1 := ⟨(m - 1).toNat, by omega⟩
  have hk12 : k12 < 12 := by omega
  have rs : ∀ (g : Nat) (W : World), (Instr.sliceAt 170 (.pointer (some ⟨g, 0, none⟩)) none (some (.int .i64 (k12 : Int))) none).run Tryz.prog W = .ok (.slice (some ⟨g, 0, none⟩) k12 12) W := fun g W => run_lens_slice W g k12 (by omega)
  have em : ((k12 : Int) + 1 - 1) = (k12 : Int) := by omega
  rw [em] at rl
  clear em
  have HL := Lib.hid (fun (j : Nat) (h : j < 12) => lens_at y j h)
  generalize ml y ((k12 : Int) + 1) = q at *
  go_enter Tryz.func110, Tryz.ntmps110
  go_wp2_with fail
  refine (months_any _ y).mono ?_
  rintro e w1 ⟨rfl, hb⟩
  go_wp2_with fail
  refine (begin_any _ y (by omega) (by omega)).mono ?_
  rintro e w2 ⟨rfl, rfl⟩
  go_wp2_with fail
  refine (months_any _ y).mono ?_
  rintro e w2 ⟨rfl, hb2⟩
  unfold lens
  clear rl
  have hbl : Blk (w2.alloc (.cells (lensA y) 170)) w2.heap.size 170 (lensA y) := Blk.new w2 _ _
  have hbw : Below w.heap.size w (w2.alloc (.cells (lensA y) 170)) := (hb.trans (hb2.mono hb.size)).alloc (by have := hb.size; have := hb2.size; omega) _
  unfold lensA at hbl hbw
  go_wp2_with fail
  have hbl' : ∀ j : Nat, j < 12 → (w2.alloc (.cells #[.int .i64 31, .int .i64 (fb y), .int .i64 31, .int .i64 30, .int .i64 31, .int .i64 30, .int .i64 31, .int .i64 31, .int .i64 30, .int .i64 31, .int .i64 30, .int .i64 31] 170)).cell? ⟨w2.heap.size, j, none⟩ = some (.int .i64 (ml y (j + 1))) := fun j hj => by
    rw [hbl.cell j]; exact HL.out j hj
  have HBL := Lib.hid hbl'
  clear hbl hbl' hb hb2
  generalize w2.alloc (.cells #[.int .i64 31, .int .i64 (fb y), .int .i64 31, .int .i64 30, .int .i64 31, .int .i64 30, .int .i64 31, .int .i64 31, .int .i64 30, .int .i64 31, .int .i64 30, .int .i64 31] 170) = w3 at *
  generalize w2.heap.size = gl at *
  go_loop [8, 48] (fun n v => ∃ j : Nat, j ≤ k12 ∧ v = .int .i64 (j : Int) ∧ n = .int .i64 (beg y + d - 1 + cum y (j + 1))) (fun _ v => k12 - (intOf v).toNat)
  case atStart => exact ⟨0, Nat.zero_le _, rfl, by rw [show ((0 : Nat) : Int) + 1 = 1 from rfl, hc1.out, Int.add_zero]⟩
  case round =>
    obtain ⟨j, hj, rfl, rfl⟩ := hrel
    have hcj := hcb.out ((j : Int) + 1) (by omega) (by omega)
    have hmj := hmb.out ((j : Int) + 1)
    by_cases hlt : j < k12
    · have hcell := HBL.out j (by omega)
      have HS := Lib.hid (hcs.out ((j : Int) + 1) (by omega) (by omega))
      generalize cum y ((j : Int) + 1) = cj at *
      generalize ml y ((j : Int) + 1) = mj at *
      go_wp2
      go_round
      case rel => exact ⟨j + 1, by omega, by go_num, by rw [show (((j + 1 : Nat) : Int) + 1) = (j : Int) + 1 + 1 by omega, HS.out]; go_num⟩
      case measure => simp [intOf]; omega
    · obtain rfl : k12 = j := by omega
      have hnn := HN.out
      generalize hC : cum y ((k12 : Int) + 1) = cj at *
      clear hC
      generalize num y ((k12 : Int) + 1) d = nn at *
      subst hnn
      by_cases hi : beg y + d - 1 + cj ≤ 1000000
      · have hI : isB (beg y + d - 1 + cj) = true := (isB_iff _).2 ⟨by omega, hi⟩
        have HI := Lib.hid hI
        have HD2 := Lib.hid (show dayS y ((k12 : Int) + 1) d = (beg y + d - 1 + cj, 0) by rw [HD.out, if_neg (by omega)])
        clear hI
        go_wp2_with fail
        refine (is_any _ _).mono ?_
        rintro e w4 ⟨rfl, rfl⟩
        rw [HI.out]
        go_wp2
        go_ret2
        exact ⟨by rw [HD2.out]; rfl, hbw⟩
      · have hI : isB (beg y + d - 1 + cj) = false := by simp [isB]; omega
        have HI := Lib.hid hI
        have HD2 := Lib.hid (show dayS y ((k12 : Int) + 1) d = (0, 10) by rw [HD.out, if_pos (by omega)])
        clear hI
        go_wp2_with fail
        refine (is_any _ _).mono ?_
        rintro e w4 ⟨rfl, rfl⟩
        rw [HI.out]
        go_wp2
        go_ret2
        exact ⟨by rw [HD2.out]; rfl, hbw⟩
end Go.Proofs.YtebdkmlganalaaaGreatDoor

namespace Go.Proofs.YtebdkmlganalaaaGreatDoor
open Go.RowKit

theorem beg_400s (q : Int) : beg (1600 + q * 400) = q * 146097 := by unfold beg; omega
theorem year_is {x y n : Int} (h1 : beg x ≤ n) (h2 : n < beg (x + 1)) (h3 : beg y ≤ n) (h4 : n < beg (y + 1)) : x = y := by
  rcases Int.lt_trichotomy x y with c | c | c
  · have := beg_mono (show x + 1 ≤ y by omega)
    omega
  · exact c
  · have := beg_mono (show y + 1 ≤ x by omega)
    omega
theorem year_le {x y n : Int} (h1 : beg x ≤ n) (h4 : n < beg (y + 1)) : x ≤ y := by
  rcases Int.lt_or_le y x with c | c
  · have := beg_mono (show y + 1 ≤ x by omega)
    omega
  · exact c
theorem month_le {y a b r : Int} (h1 : cum y a ≤ r) (h2 : r < cum y (b + 1)) (hb : 1 ≤ b) (ha : a ≤ 13) : a ≤ b := by
  rcases Int.lt_or_le b a with c | c
  · have := cum_mono y (b + 1) a (by omega) (by omega) ha
    omega
  · exact c

set_option maxHeartbeats 400000 in
theorem date_no (w : World) (n : Int) (h : isB n = false) : Calls Tryz.prog 108 #[.int .i64 n] w fun e w' => e = .returned (.tuple #[.int .i64 0, .int .i64 0, .int .i64 0, .int .i64 10]) ∧ w = w' := by
  have HI := Lib.hid h
  clear h
  go_enter Tryz.func108, Tryz.ntmps108
  go_wp2_with fail
  refine (is_any _ _).mono ?_
  rintro e w4 ⟨rfl, rfl⟩
  rw [HI.out]
  go_wp2
  refine bodyPost_ret (v := .tuple #[.int .i64 0, .int .i64 0, .int .i64 0, .int .i64 10]) (by simp [results, Tryz.results108, go_sem]) rfl ⟨rfl, rfl⟩

set_option maxRecDepth 100000 in
set_option maxHeartbeats 1000000 in
theorem date_yes (w : World) (y m d : Int) (hv : Vd y m d) (hn : num y m d ≤ 1000000) : Calls Tryz.prog 108 #[.int .i64 (num y m d)] w fun e w' => e = .returned (.tuple #[.int .i64 y, .int .i64 m, .int .i64 d, .int .i64 0]) ∧ Below w.heap.size w w' := by
  obtain ⟨hnb, hne⟩ := num_in hv
  have hv' := hv
  obtain ⟨y1, y2, m1, m2, d1, d2⟩ := hv'
  have hb0 := beg_mono y1
  rw [beg_0] at hb0
  have hmr : cum y m ≤ num y m d - beg y ∧ num y m d - beg y < cum y (m + 1) := by
    have := cum_succ y m m1 m2
    unfold num; omega
  have hdd : num y m d - beg y - cum y m + 1 = d := by unfold num; omega
  have HDD := Lib.hid hdd
  clear hv hdd d2
  generalize num y m d = n at *
  have HI := Lib.hid ((isB_iff n).2 ⟨by omega, hn⟩)
  have h0 : 0 ≤ n := by omega
  have hq := beg_400s (n / 146097)
  have HQ := Lib.hid hq
  have hx0 : (1600 : Int) + n / 146097 * 400 ≤ y := year_le (n := n) (by rw [hq]; omega) hne
  have HNE := Lib.hid hne
  have HNB := Lib.hid hnb
  have HMR := Lib.hid hmr
  clear hq
  go_enter Tryz.func108, Tryz.ntmps108
  go_wp2_with fail
  refine (is_any _ _).mono ?_
  rintro e w4 ⟨rfl, rfl⟩
  rw [HI.out]
  go_wp2_with fail
  go_loop [0, 6] (fun v u => ∃ x r : Int, 1600 ≤ x ∧ x ≤ y ∧ 0 ≤ r ∧ r ≤ 146096 ∧ Hid (beg x + r = n) ∧ u = .int .i64 x ∧ v = .int .i64 r) (fun _ u => (y - intOf u).toNat)
  case atStart => exact ⟨1600 + n / 146097 * 400, n % 146097, by omega, hx0, by omega, by omega, Lib.hid (by rw [HQ.out]; omega), rfl, rfl⟩
  case round =>
    obtain ⟨x, r, hx1, hx2, hr1, hr2, hr3, rfl, rfl⟩ := hrel
    have hbs := Lib.hid (beg_succ x)
    have hyd := yd_bd x
    by_cases hc : yd x ≤ r
    · have hxy : x < y := by
        have := year_le (x := x + 1) (y := y) (n := n) (by rw [hbs.out]; have := hr3.out; omega) HNE.out
        omega
      go_wp2_with fail
      refine (days_any _ x).mono ?_
      rintro e w1 ⟨rfl, rfl⟩
      go_wp2_with fail
      refine (days_any _ x).mono ?_
      rintro e w1 ⟨rfl, rfl⟩
      go_wp2
      go_round
      case rel => exact ⟨x + 1, r - yd x, by omega, by omega, by omega, by omega, Lib.hid (by rw [hbs.out]; have := hr3.out; omega), rfl, rfl⟩
      case measure => simp [intOf]; omega
    · have hxy : x = y := year_is (n := n) (by have := hr3.out; omega) (by rw [hbs.out]; have := hr3.out; omega) HNB.out HNE.out
      subst hxy
      go_wp2_with fail
      refine (days_any _ x).mono ?_
      rintro e w1 ⟨rfl, rfl⟩
      go_wp2_with fail
      refine (months_any _ x).mono ?_
      rintro e w1 ⟨rfl, hb⟩
      unfold lens
      go_wp2_with fail
      have hbl : Blk (w1.alloc (.cells (lensA x) 170)) w1.heap.size 170 (lensA x) := Blk.new w1 _ _
      have hbw : Below w.heap.size w (w1.alloc (.cells (lensA x) 170)) := hb.alloc hb.size _
      have hcs := Lib.hid (fun (k : Int) (h1 : 1 ≤ k) (h2 : k ≤ 12) => cum_succ x k h1 h2)
      have hc1 := Lib.hid (cum_one x)
      have hr400 : r ≤ 366 := by omega
      have hr4 : Hid (r = n - beg x - cum x (((0 : Nat) : Int) + 1)) := Lib.hid (by rw [show ((0 : Nat) : Int) + 1 = 1 from rfl, hc1.out]; have := hr3.out; omega)
      have hmm := Lib.hid (fun (k : Int) => ml_bd x k)
      clear hb hr2 hmr hne hnb HI HQ hbs
      go_loopw [0, 7, 8] (fun v u p wr => ∃ (k g : Nat) (r2 : Int), (k : Int) + 1 ≤ m ∧ 0 ≤ r2 ∧ r2 ≤ 366 ∧ Hid (r2 = n - beg x - cum x ((k : Int) + 1)) ∧ u = .int .i64 (k : Int) ∧ v = .int .i64 r2 ∧ p = .pointer (some ⟨g, 0, none⟩) ∧ Blk wr g 170 (lensA x) ∧ Below w.heap.size w wr) (fun _ u _ _ => 12 - (intOf u).toNat)
      case atStart => exact ⟨0, w1.heap.size, r, by omega, hr1, hr400, hr4, rfl, rfl, rfl, hbl, hbw⟩
      case round =>
        clear hbl hbw hr4
        obtain ⟨k, g, r2, hkm, hr20, hr21, hr2, rfl, rfl, rfl, hbl, hbw⟩ := hrel
        have hmk := hmm.out ((k : Int) + 1)
        have hcell : wr.cell? ⟨g, k, none⟩ = some (.int .i64 (ml x ((k : Int) + 1))) := by rw [hbl.cell k]; exact lens_at x k (by omega)
        have l0 : wr.cell? ⟨g, 0, none⟩ = some (.int .i64 31) := by rw [hbl.cell 0]; rfl
        have l1 : wr.cell? ⟨g, 1, none⟩ = some (.int .i64 (fb x)) := by rw [hbl.cell 1]; rfl
        have l2 : wr.cell? ⟨g, 2, none⟩ = some (.int .i64 31) := by rw [hbl.cell 2]; rfl
        have l3 : wr.cell? ⟨g, 3, none⟩ = some (.int .i64 30) := by rw [hbl.cell 3]; rfl
        have l4 : wr.cell? ⟨g, 4, none⟩ = some (.int .i64 31) := by rw [hbl.cell 4]; rfl
        have l5 : wr.cell? ⟨g, 5, none⟩ = some (.int .i64 30) := by rw [hbl.cell 5]; rfl
        have l6 : wr.cell? ⟨g, 6, none⟩ = some (.int .i64 31) := by rw [hbl.cell 6]; rfl
        have l7 : wr.cell? ⟨g, 7, none⟩ = some (.int .i64 31) := by rw [hbl.cell 7]; rfl
        have l8 : wr.cell? ⟨g, 8, none⟩ = some (.int .i64 30) := by rw [hbl.cell 8]; rfl
        have l9 : wr.cell? ⟨g, 9, none⟩ = some (.int .i64 31) := by rw [hbl.cell 9]; rfl
        have l10 : wr.cell? ⟨g, 10, none⟩ = some (.int .i64 30) := by rw [hbl.cell 10]; rfl
        have l11 : wr.cell? ⟨g, 11, none⟩ = some (.int .i64 31) := by rw [hbl.cell 11]; rfl
        have hstep := Lib.hid (hcs.out ((k : Int) + 1) (by omega) (by omega))
        have hkI : (k : Int) < 12 := by omega
        by_cases hc2 : ml x ((k : Int) + 1) ≤ r2
        · have hkm2 : (k : Int) + 1 + 1 ≤ m := month_le (y := x) (r := n - beg x) (by rw [hstep.out]; have := hr2.out; omega) HMR.out.2 m1 (by omega)
          generalize ml x ((k : Int) + 1) = mk at *
          have hnew : Blk (wr.alloc (.cells (lensA x) 170)) wr.heap.size 170 (lensA x) := Blk.new wr _ _
          have hbw' : Below w.heap.size w (wr.alloc (.cells (lensA x) 170)) := hbw.alloc hbw.size _
          go_wp2
          go_roundw
          case rel => exact ⟨k + 1, wr.heap.size, r2 - mk, by omega, by omega, by omega, Lib.hid (by rw [show (((k + 1 : Nat) : Int) + 1) = (k : Int) + 1 + 1 by omega, hstep.out]; have := hr2.out; omega), by go_num, rfl, rfl, hnew, hbw'⟩
          case measure => simp [intOf]; omega
        · have hkm2 : m ≤ (k : Int) + 1 := month_le (y := x) (r := n - beg x) HMR.out.1 (by rw [hstep.out]; have := hr2.out; omega) (by omega) (by omega)
          obtain rfl : m = (k : Int) + 1 := by omega
          have hd : r2 + 1 = d := by have := HDD.out; have := hr2.out; omega
          generalize ml x ((k : Int) + 1) = mk at *
          subst hd
          clear l0 l1 l2 l3 l4 l5 l6 l7 l8 l9 l10 l11
          go_wp2
          refine bodyPost_ret (v := .tuple #[.int .i64 x, .int .i64 ((k : Int) + 1), .int .i64 (r2 + 1), .int .i64 0]) (by simp [results, Tryz.results108, go_sem]) rfl ⟨rfl, hbw⟩
end Go.Proofs.YtebdkmlganalaaaGreatDoor

namespace Go.Proofs.YtebdkmlganalaaaGreatDoor
open Go.RowKit
open Go.Maps Go.ChangeMaps

/-- A slice of integers that came in. -/
def IntsAt (w : World) (B : Nat) (A : Option Addr) (l : List Int) : Prop :=
  ∀ (i : Nat) (v : Int), l[i]? = some v → ∃ g off, A = some ⟨g, off, none⟩ ∧ g < B ∧ w.cell? ⟨g, off + i, none⟩ = some (.int .i64 v)
theorem IntsAt.below {w w' : World} {B : Nat} {A : Option Addr} {l : List Int} (h : IntsAt w B A l) (hb : Below B w w') : IntsAt w' B A l := fun i v hi => by
  obtain ⟨g, off, hA, hg, hc⟩ := h i v hi
  exact ⟨g, off, hA, hg, (hb.cell (p := ⟨g, off + i, none⟩) hg).trans hc⟩
theorem IntsAt.wide {w : World} {B B' : Nat} {A : Option Addr} {l : List Int} (h : IntsAt w B A l) (hB : B ≤ B') : IntsAt w B' A l := fun i v hi => by
  obtain ⟨g, off, hA, hg, hc⟩ := h i v hi
  exact ⟨g, off, hA, Nat.lt_of_lt_of_le hg hB, hc⟩
def wf64 (x : Int) : Prop := -9223372036854775808 ≤ x ∧ x ≤ 9223372036854775807
theorem wf64_lit {x : Int} : (Lit.int .i64 x).wf = true ↔ wf64 x := by
  simp [Lit.wf, IntKind.min, IntKind.max, IntKind.signed, IntKind.bits, wf64]
/-- The datum of the closed days. -/
def clD (l : List Int) : DataW Unit := l.foldl (fun D d => D.put (.int .i64 d) (.lit (.bool true))) (.map [])
theorem clD_snoc (l : List Int) (d : Int) : clD (l ++ [d]) = (clD l).put (.int .i64 d) (.lit (.bool true)) := by unfold clD; rw [List.foldl_append]; rfl
theorem clD_map (l : List Int) : IsMap (clD l) ∧ ∀ x : Int, (clD l).atKey (.int .i64 x) (.lit (.bool false)) = .lit (.bool (decide (x ∈ l))) := by
  have key : ∀ k : Nat, k ≤ l.length → IsMap (clD (l.take k)) ∧ ∀ x : Int, (clD (l.take k)).atKey (.int .i64 x) (.lit (.bool false)) = .lit (.bool (decide (x ∈ l.take k))) := by
    intro k
    induction k with
    | zero => intro _; exact ⟨isMap_empty, fun x => by simp [clD]; rfl⟩
    | succ k ih =>
      intro hk
      obtain ⟨h1, h2⟩ := ih (by omega)
      rw [List.take_succ_eq_append_getElem (show k < l.length by omega), clD_snoc]
      refine ⟨h1.put _ _, fun x => ?_⟩
      by_cases hx : x = l[k]
      · rw [← hx, atKey_put_same (k := .int .i64 x) h1 (by exact trivial)]
        congr 2
        symm
        rw [decide_eq_true_eq, List.mem_append]
        right
        simp
      · rw [atKey_put_other (by intro e; injection e with _ e; exact hx e), h2 x]
        congr 2
        rw [decide_eq_decide, List.mem_append, List.mem_singleton]
        exact ⟨.inl, fun c => c.resolve_right hx⟩
  have := key l.length (Nat.le_refl _)
  rwa [List.take_length] at this

/-- Block b holds the map of the closed days. -/
def ClMap (w : World) (b n : Nat) (l : List Int) : Prop := w.ownsMap Tryz.prog 3 (plainElem Tryz.prog 4) b n (clD l)
theorem ClMap.below {w w' : World} {b n : Nat} {l : List Int} {B : Nat} (h : ClMap w b n l) (hb : Below B w w') (hB : b < B) : ClMap w' b n l := by
  obtain ⟨es, clock, h1, F, hs, hD⟩ := h
  exact ⟨es, clock, (hb.block b hB).trans h1, F, hs, hD⟩
theorem plainElem_bool_inv {H : Type} {P : Program} {e : TypeId} (he : P.underlying e = some .bool) {v : Value} {z : DataW H × List MemPlace} (h : plainElem P e v = some z) : ∃ x, v = .bool x ∧ z = (.lit (.bool x), []) := by
  unfold plainElem at h
  rw [he] at h
  cases v <;> simp at h
  subst h
  exact ⟨_, rfl, rfl⟩
set_option maxRecDepth 100000 in
theorem ClMap.look {w : World} {b n : Nat} {l : List Int} (h : ClMap w b n l) {x : Int} (hx : wf64 x) : (Instr.lookup 139 (.map (some b)) (.int .i64 x) false).run Tryz.prog w = .ok (.bool (decide (x ∈ l))) w := by
  have hz : (zeroValue 4).run Tryz.prog w = .ok (.bool false) w := by kernel_rfl
  obtain ⟨v, ps, hrun, hv⟩ := World.ownsMap.lookup h (int_keyed Tryz.underlying3) Tryz.underlying139 hz (plainElem_bool Tryz.underlying4 false) (keyOf_int_mk Tryz.underlying3 (wf64_lit.2 hx))
  obtain ⟨c, rfl, hc⟩ := plainElem_bool_inv Tryz.underlying4 hv
  rw [(clD_map l).2 x] at hc
  injection hc with hc _
  injection hc with hc
  injection hc with hc
  rw [hrun, hc]

set_option maxHeartbeats 400000 in
theorem closed_any (w : World) (B : Nat) (A : Option Addr) (l : List Int) (c : Nat) (h : IntsAt w B A l) (hB : B ≤ w.heap.size) (hl : l.length ≤ 4611686018427387904) (hw : ∀ x ∈ l, wf64 x) :
    Calls Tryz.prog 78 #[.slice A l.length c] w fun e w' => e = .returned (.map (some w.heap.size)) ∧ ClMap w' w.heap.size l.length l ∧ Below w.heap.size w w' := by
  have hmm := @run_makeMap Tryz.prog
  go_enter Tryz.func78, Tryz.ntmps78
  go_wp2_with fail
  go_loopw [9] (fun i wr => ∃ k : Nat, k ≤ l.length ∧ i = .int .i64 (k : Int) ∧ ClMap wr w.heap.size k (l.take k) ∧ Below w.heap.size w wr) (fun i _ => l.length - (intOf i).toNat)
  case atStart => exact ⟨0, Nat.zero_le _, rfl, World.ownsMap_made _ _ _ _, (Below.refl _ _).alloc (Nat.le_refl _) _⟩
  case round =>
    obtain ⟨k, hk, rfl, hown, hnx⟩ := hrel
    by_cases hlt : k < l.length
    · obtain ⟨x, hx⟩ : ∃ x, l[k]? = some x := ⟨_, List.getElem?_eq_getElem hlt⟩
      have hwx := hw x (List.mem_of_getElem? hx)
      obtain ⟨g, off, hA, hg, hc⟩ := h k x hx
      subst hA
      have hcell := (hnx.cell (p := ⟨g, off + k, none⟩) (by show g < w.heap.size; omega)).trans hc
      have hkey := keyOf_int_mk Tryz.underlying3 (wf64_lit.2 hwx)
      have HX := Lib.hid hx
      have hsn : clD (l.take (k + 1)) = (clD (l.take k)).put (.int .i64 x) (.lit (.bool true)) := by
        obtain ⟨hk', hx'⟩ := List.getElem?_eq_some_iff.1 hx
        rw [List.take_succ_eq_append_getElem hk', clD_snoc, hx']
      have HSN := Lib.hid hsn
      clear hx hc hsn
      unfold ClMap at hown
      go_wp2_with (at_mapUpdate; refine wpList_mapUpdate_own _ rfl _ _ _ 139 rfl 3 4 (int_keyed Tryz.underlying3) Tryz.underlying139 _ w.heap.size k _ rfl hown (by unfold maxLen; omega) _ _ _ rfl rfl hkey _ [] (plainElem_bool Tryz.underlying4 true) ?_; intro w1 hown1 hgrow1)
      go_roundw
      case rel => exact ⟨k + 1, by omega, by go_num, (by unfold ClMap; rw [HSN.out]; exact hown1), hnx.grown hgrow1 hnx.size (fun j hj => by cases hj; exact Nat.le_refl _)⟩
      case measure => simp [intOf]; omega
    · obtain rfl : k = l.length := by omega
      rw [List.take_length] at hown
      go_wp2
      go_ret
      exact ⟨rfl, hown, hnx⟩

/-- Whether offices are open on a day. -/
def opB (l : List Int) (n : Int) : Bool := isB n && decide (wkd n < 5) && !decide (n ∈ l)
theorem opB_iff (l : List Int) (n : Int) : opB l n = true ↔ 0 ≤ n ∧ n ≤ 1000000 ∧ (n + 5) % 7 < 5 ∧ n ∉ l := by
  unfold opB wkd
  by_cases h : isB n = true
  · obtain ⟨h0, h1⟩ := (isB_iff n).1 h
    simp [h, h0, h1]
  · have h' : isB n = false := by simpa using h
    have h2 : ¬ (0 ≤ n ∧ n ≤ 1000000) := fun c => h ((isB_iff n).2 c)
    simp only [h', Bool.false_and, Bool.false_eq_true, false_iff]
    intro c
    exact h2 ⟨c.1, c.2.1⟩

set_option maxRecDepth 100000 in
set_option maxHeartbeats 400000 in
theorem open_any (w : World) (b k : Nat) (l : List Int) (h : ClMap w b k l) (n : Int) :
    Calls Tryz.prog 79 #[.map (some b), .int .i64 n] w fun e w' => e = .returned (.bool (opB l n)) ∧ w = w' := by
  cases hi : isB n with
  | false =>
    have e : opB l n = false := by unfold opB; rw [hi]; rfl
    rw [e]
    have HI := Lib.hid hi
    clear hi e
    go_enter Tryz.func79, Tryz.ntmps79
    go_wp2_with fail
    refine (is_any _ n).mono ?_
    rintro e w1 ⟨rfl, rfl⟩
    rw [HI.out]
    go_wp2
    go_ret
    exact ⟨rfl, rfl⟩
  | true =>
    have hn := (isB_iff n).1 hi
    have hk := h.look (x := n) (by unfold wf64; omega)
    obtain ⟨c, hc⟩ : ∃ c, decide (n ∈ l) = c := ⟨_, rfl⟩
    have e : opB l n = (decide (wkd n < 5) && !c) := by unfold opB; rw [hi, hc]; rfl
    rw [hc] at hk
    rw [e]
    have HI := Lib.hid hi
    clear hi e hc
    by_cases h5 : wkd n < 5
    · rw [show decide (wkd n < 5) = true by simpa using h5]
      go_enter Tryz.func79, Tryz.ntmps79
      go_wp2_with fail
      refine (is_any _ n).mono ?_
      rintro e w1 ⟨rfl, rfl⟩
      rw [HI.out]
      go_wp2_with fail
      refine (weekday_any _ n).mono ?_
      rintro e w1 ⟨rfl, rfl⟩
      cases c with
      | false =>
        go_wp2
        go_ret
        exact ⟨rfl, rfl⟩
      | true =>
        go_wp2
        go_ret
        exact ⟨rfl, rfl⟩
    · rw [show decide (wkd n < 5) = false by simpa using h5]
      go_enter Tryz.func79, Tryz.ntmps79
      go_wp2_with fail
      refine (is_any _ n).mono ?_
      rintro e w1 ⟨rfl, rfl⟩
      rw [HI.out]
      go_wp2_with fail
      refine (weekday_any _ n).mono ?_
      rintro e w1 ⟨rfl, rfl⟩
      go_wp2
      go_ret
      exact ⟨rfl, rfl⟩

theorem work_any (w : World) (B : Nat) (A : Option Addr) (l : List Int) (c : Nat) (h : IntsAt w B A l) (hB : B ≤ w.heap.size) (hl : l.length ≤ 4611686018427387904) (hw : ∀ x ∈ l, wf64 x) (n : Int) :
    Calls Tryz.prog 86 #[.int .i64 n, .slice A l.length c] w fun e w' => e = .returned (.bool (opB l n)) ∧ Below w.heap.size w w' := by
  go_enter Tryz.func86, Tryz.ntmps86
  go_wp2_with fail
  refine (closed_any w B A l c h hB hl hw).mono ?_
  rintro e w1 ⟨rfl, hm, hb⟩
  go_wp2_with fail
  refine (open_any _ _ _ _ hm n).mono ?_
  rintro e w2 ⟨rfl, rfl⟩
  go_wp2
  go_ret
  exact ⟨rfl, hb⟩
end Go.Proofs.YtebdkmlganalaaaGreatDoor
