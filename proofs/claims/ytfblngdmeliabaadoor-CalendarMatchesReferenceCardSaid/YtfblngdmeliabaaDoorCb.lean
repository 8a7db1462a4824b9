/- What Day of package calendar returns. -/
import Derived.Test.YtfblngdmeliabaaDoorCa
namespace Go.Proofs.YtfblngdmeliabaaDoor
open Go.RowKit

def lensA (y : Int) : Array Value := #[.int .i64 31, .int .i64 (fb y), .int .i64 31, .int .i64 30, .int .i64 31, .int .i64 30, .int .i64 31, .int .i64 31, .int .i64 30, .int .i64 31, .int .i64 30, .int .i64 31]
theorem lens_at (y : Int) (k : Nat) (hk : k < 12) : (lensA y)[k]? = some (.int .i64 (ml y (k + 1))) := by
  have hm : k = 0 ∨ k = 1 ∨ k = 2 ∨ k = 3 ∨ k = 4 ∨ k = 5 ∨ k = 6 ∨ k = 7 ∨ k = 8 ∨ k = 9 ∨ k = 10 ∨ k = 11 := by omega
  rcases hm with rfl | rfl | rfl | rfl | rfl | rfl | rfl | rfl | rfl | rfl | rfl | rfl <;> simp [lensA, ml]

theorem run_lens (W : World) (y m : Int) (h1 : 1 ≤ m) (h2 : m ≤ 12) : (Instr.index 56 (lens y) (.int .i64 (m - 1))).run Tryd.prog W = .ok (.int .i64 (ml y m)) W := by
  have hm : m = 1 ∨ m = 2 ∨ m = 3 ∨ m = 4 ∨ m = 5 ∨ m = 6 ∨ m = 7 ∨ m = 8 ∨ m = 9 ∨ m = 10 ∨ m = 11 ∨ m = 12 := by omega
  rcases hm with rfl | rfl | rfl | rfl | rfl | rfl | rfl | rfl | rfl | rfl | rfl | rfl <;> simp [Instr.index, lens, ml, go_sem]

theorem run_lens_slice (W : World) (g k : Nat) (h : k ≤ 12) : (Instr.sliceAt 56 (.pointer (some ⟨g, 0, none⟩)) none (some (.int .i64 (k : Int))) none).run Tryd.prog W = .ok (.slice (some ⟨g, 0, none⟩) k 12) W := by
  have ht : Tryd.prog.underlying 56 = some (.array (Tryd.prog.arrayLen 56) (Tryd.prog.elem 56)) := by kernel_rfl
  have hl : Tryd.prog.arrayLen 56 = 12 := by kernel_rfl
  rw [run_sliceAt_array_h (P := Tryd.prog) W 56 _ ht .i64 (k : Int) (by omega) (by rw [hl]; omega)]
  rw [hl]
  have hs : (sizeOf (Tryd.prog.elem 56)).run Tryd.prog W = .ok 1 W := by kernel_rfl
  rw [hs]
  simp [Result.andThen, slicedAt]
  unfold Addr.add
  simp

theorem dayS_arg {y m d : Int} (h : m < 1 ∨ 12 < m ∨ d < 1 ∨ ml y m < d) : dayS y m d = (0, 1) := by unfold dayS; rw [if_pos h]
theorem dayS_rng {y m d : Int} (h : ¬ (m < 1 ∨ 12 < m ∨ d < 1 ∨ ml y m < d)) (h2 : y < 1600 ∨ 9999 < y) : dayS y m d = (0, 10) := by unfold dayS; rw [if_neg h, if_pos h2]

set_option maxRecDepth 100000 in
set_option maxHeartbeats 1000000 in
theorem day_any (w : World) (y m d : Int) : Calls Tryd.prog 14 #[.int .i64 y, .int .i64 m, .int .i64 d] w fun e w' => e = .returned (.tuple #[.int .i64 (dayS y m d).1, .int .i64 (dayS y m d).2]) ∧ Below w.heap.size w w' := by
  by_cases h1 : m < 1
  · rw [dayS_arg (.inl h1)]
    go_enter Tryd.func14, Tryd.ntmps14
    go_wp2
    go_ret2
    exact ⟨rfl, Below.refl _ _⟩
  by_cases h2 : 12 < m
  · rw [dayS_arg (.inr (.inl h2))]
    go_enter Tryd.func14, Tryd.ntmps14
    go_wp2
    go_ret2
    exact ⟨rfl, Below.refl _ _⟩
  by_cases h3 : d < 1
  · rw [dayS_arg (.inr (.inr (.inl h3)))]
    go_enter Tryd.func14, Tryd.ntmps14
    go_wp2
    go_ret2
    exact ⟨rfl, Below.refl _ _⟩
  have hm1 : 1 ≤ m := by omega
  have hm2 : m ≤ 12 := by omega
  have hd1 : 1 ≤ d := by omega
  have rl : ∀ W : World, (Instr.index 56 (lens y) (.int .i64 (m - 1))).run Tryd.prog W = .ok (.int .i64 (ml y m)) W := fun W => run_lens W y m hm1 hm2
  by_cases h4 : ml y m < d
  · rw [dayS_arg (.inr (.inr (.inr h4)))]
    generalize ml y m = q at *
    clear h1 h2 h3
    go_enter Tryd.func14, Tryd.ntmps14
    go_wp2_with fail
    refine (months_any _ y).mono ?_
    rintro e w1 ⟨rfl, hb⟩
    go_wp2
    go_ret2
    exact ⟨rfl, hb⟩
  have hml := ml_bd y m
  by_cases h5 : y < 1600
  · rw [dayS_rng (by omega) (.inl h5)]
    generalize ml y m = q at *
    clear h1 h2 h3
    go_enter Tryd.func14, Tryd.ntmps14
    go_wp2_with fail
    refine (months_any _ y).mono ?_
    rintro e w1 ⟨rfl, hb⟩
    go_wp2
    go_ret2
    exact ⟨rfl, hb⟩
  by_cases h6 : 9999 < y
  · rw [dayS_rng (by omega) (.inr h6)]
    generalize ml y m = q at *
    clear h1 h2 h3
    go_enter Tryd.func14, Tryd.ntmps14
    go_wp2_with fail
    refine (months_any _ y).mono ?_
    rintro e w1 ⟨rfl, hb⟩
    go_wp2
    go_ret2
    exact ⟨rfl, hb⟩
  have hv : Vd y m d := ⟨by omega, by omega, hm1, hm2, hd1, by omega⟩
  have hnum := num_in hv
  have hb0 := beg_mono (show (1600 : Int) ≤ y by omega)
  rw [beg_0] at hb0
  have hb1 := beg_mono (show y ≤ 9999 by omega)
  have hb9 : beg 9999 = 3067672 := by decide
  rw [hb9] at hb1
  have hcm := cum_bd y m hm1 (by omega)
  have hc1 := Lib.hid (cum_one y)
  have hcs := Lib.hid (fun (k : Int) (h1 : 1 ≤ k) (h2 : k ≤ 12) => cum_succ y k h1 h2)
  have hcb := Lib.hid (fun (k : Int) (h1 : 1 ≤ k) (h2 : k ≤ 13) => cum_bd y k h1 h2)
  have hmb := Lib.hid (fun (k : Int) => ml_bd y k)
  have HN := Lib.hid (show num y m d = beg y + d - 1 + cum y m by unfold num; omega)
  have HD : Hid (dayS y m d = if 1000000 < num y m d then (0, 10) else (num y m d, 0)) := by
    have : dayS y m d = if 1000000 < num y m d then (0, 10) else (num y m d, 0) := by
      unfold dayS; rw [if_neg (by omega), if_neg (by omega)]
    exact Lib.hid this
  clear hnum hb9 hv h1 h2 h3
  obtain ⟨k12, rfl⟩ : ∃ k : Nat, m = (k : Int) + 1 := ⟨(m - 1).toNat, by omega⟩
  have hk12 : k12 < 12 := by omega
  have rs : ∀ (g : Nat) (W : World), (Instr.sliceAt 56 (.pointer (some ⟨g, 0, none⟩)) none (some (.int .i64 (k12 : Int))) none).run Tryd.prog W = .ok (.slice (some ⟨g, 0, none⟩) k12 12) W := fun g W => run_lens_slice W g k12 (by omega)
  have em : ((k12 : Int) + 1 - 1) = (k12 : Int) := by omega
  rw [em] at rl
  clear em
  have HL := Lib.hid (fun (j : Nat) (h : j < 12) => lens_at y j h)
  generalize ml y ((k12 : Int) + 1) = q at *
  go_enter Tryd.func14, Tryd.ntmps14
  go_wp2_with fail
  refine (months_any _ y).mono ?_
  rintro e w1 ⟨rfl, hb⟩
  go_wp2_with fail
  refine (begin_any _ y (by omega) (by omega)).mono ?_
  rintro e w2 ⟨rfl, rfl⟩
  go_wp2_with fail
  refine (months_any _ y).mono ?_
  rintro e w2 ⟨rfl, hb2⟩
  unfold lens
  clear rl
  have hbl : Blk (w2.alloc (.cells (lensA y) 56)) w2.heap.size 56 (lensA y) := Blk.new w2 _ _
  have hbw : Below w.heap.size w (w2.alloc (.cells (lensA y) 56)) := (hb.trans (hb2.mono hb.size)).alloc (by have := hb.size; have := hb2.size; omega) _
  unfold lensA at hbl hbw
  go_wp2_with fail
  have hbl' : ∀ j : Nat, j < 12 → (w2.alloc (.cells #[.int .i64 31, .int .i64 (fb y), .int .i64 31, .int .i64 30, .int .i64 31, .int .i64 30, .int .i64 31, .int .i64 31, .int .i64 30, .int .i64 31, .int .i64 30, .int .i64 31] 56)).cell? ⟨w2.heap.size, j, none⟩ = some (.int .i64 (ml y (j + 1))) := fun j hj => by
    rw [hbl.cell j]; exact HL.out j hj
  have HBL := Lib.hid hbl'
  clear hbl hbl' hb hb2
  generalize w2.alloc (.cells #[.int .i64 31, .int .i64 (fb y), .int .i64 31, .int .i64 30, .int .i64 31, .int .i64 30, .int .i64 31, .int .i64 31, .int .i64 30, .int .i64 31, .int .i64 30, .int .i64 31] 56) = w3 at *
  generalize w2.heap.size = gl at *
  go_loop [8, 48] (fun n v => ∃ j : Nat, j ≤ k12 ∧ v = .int .i64 (j : Int) ∧ n = .int .i64 (beg y + d - 1 + cum y (j + 1))) (fun _ v => k12 - (intOf v).toNat)
  case atStart => exact ⟨0, Nat.zero_le _, rfl, by rw [show ((0 : Nat) : Int) + 1 = 1 from rfl, hc1.out, Int.add_zero]⟩
  case round =>
    obtain ⟨j, hj, rfl, rfl⟩ := hrel
    have hcj := hcb.out ((j : Int) + 1) (by omega) (by omega)
    have hmj := hmb.out ((j : Int) + 1)
    by_cases hlt : j < k12
    · have hcell := HBL.out j (by omega)
      have HS := Lib.hid (hcs.out ((j : Int) + 1) (by omega) (by omega))
      generalize cum y ((j : Int) + 1) = cj at *
      generalize ml y ((j : Int) + 1) = mj at *
      go_wp2
      go_round
      case rel => exact ⟨j + 1, by omega, by go_num, by rw [show (((j + 1 : Nat) : Int) + 1) = (j : Int) + 1 + 1 by omega, HS.out]; go_num⟩
      case measure => simp [intOf]; omega
    · obtain rfl : k12 = j := by omega
      have hnn := HN.out
      generalize hC : cum y ((k12 : Int) + 1) = cj at *
      clear hC
      generalize num y ((k12 : Int) + 1) d = nn at *
      subst hnn
      by_cases hi : beg y + d - 1 + cj ≤ 1000000
      · have hI : isB (beg y + d - 1 + cj) = true := (isB_iff _).2 ⟨by omega, hi⟩
        have HI := Lib.hid hI
        have HD2 := Lib.hid (show dayS y ((k12 : Int) + 1) d = (beg y + d - 1 + cj, 0) by rw [HD.out, if_neg (by omega)])
        clear hI
        go_wp2_with fail
        refine (is_any _ _).mono ?_
        rintro e w4 ⟨rfl, rfl⟩
        rw [HI.out]
        go_wp2
        go_ret2
        exact ⟨by rw [HD2.out]; rfl, hbw⟩
      · have hI : isB (beg y + d - 1 + cj) = false := by simp [isB]; omega
        have HI := Lib.hid hI
        have HD2 := Lib.hid (show dayS y ((k12 : Int) + 1) d = (0, 10) by rw [HD.out, if_pos (by omega)])
        clear hI
        go_wp2_with fail
        refine (is_any _ _).mono ?_
        rintro e w4 ⟨rfl, rfl⟩
        rw [HI.out]
        go_wp2
        go_ret2
        exact ⟨by rw [HD2.out]; rfl, hbw⟩
end Go.Proofs.YtfblngdmeliabaaDoor
