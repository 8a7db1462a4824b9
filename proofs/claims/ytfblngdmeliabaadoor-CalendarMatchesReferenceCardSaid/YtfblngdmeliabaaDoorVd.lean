/- The reference's calendar: First, all units. -/
import Derived.Test.YtfblngdmeliabaaDoorVc
namespace Go.Proofs.YtfblngdmeliabaaDoor
open Go.RowKit Go.Shelf

set_option maxRecDepth 100000 in
set_option maxHeartbeats 2000000 in
theorem first_work (w : World) (day n : Int) (B : Nat) (C : Option Addr) (cl : Nat) (l : List Int) (hA : IntsAt w B C l) (hB : B ≤ w.heap.size) (hll : l.length ≤ 4611686018427387904) (hd : isB day = true) (hn : 0 ≤ n) (hn1 : n ≤ 1000000) (r1 r2 : Int) (hr : firstS (nthS l n.toNat day, 0) = (r1, r2)) :
    Calls Tryd.prog 46 #[.int .i64 day, .agg #[.int .i64 n, .int .i64 5], .slice C l.length cl] w fun e w' => e = .returned (.tuple #[.int .i64 r1, .int .i64 r2]) ∧ Below w.heap.size w w' := by
  obtain ⟨d0, d1⟩ := (isB_iff day).1 hd
  have HA := Lib.hid hA
  have HR := Lib.hid hr
  clear hA hr hd
  have hb := (Below.refl w.heap.size w).alloc (Nat.le_refl _) (.cells #[.int .i64 n, .int .i64 5] 29)
  have k0 := Blk.new w 29 #[.int .i64 n, .int .i64 5]
  obtain ⟨t0, t1, -⟩ := k0.all
  go_enter Tryd.func46, Tryd.ntmps46
  go_wp2_with fail
  clear t0 t1
  go_loopw [0, 9] (fun dv v wr => ∃ (x c : Int), 0 ≤ x ∧ x ≤ 1000000 ∧ 0 ≤ c ∧ c ≤ n ∧ dv = .int .i64 x ∧ v = .int .i64 c ∧ Hid (nthS l (n - c).toNat x = nthS l n.toNat day) ∧ Blk wr w.heap.size 29 #[.int .i64 n, .int .i64 5] ∧ Below w.heap.size w wr) (fun dv _ _ => (1000001 - intOf dv).toNat)
  case atStart => exact ⟨day, 0, d0, d1, by omega, hn, rfl, rfl, Lib.hid (by rw [Int.sub_zero]), k0, hb⟩
  case round =>
    clear hb k0
    obtain ⟨x, c, x0, x1, c0, c1, rfl, rfl, hx, k0, hb⟩ := hrel
    obtain ⟨t0, t1, -⟩ := k0.all
    by_cases hlt : c < n
    · obtain ⟨k, hk⟩ : ∃ k : Nat, (n - c).toNat = k + 1 := ⟨(n - c).toNat - 1, by omega⟩
      have hk2 : (n - (c + 1)).toNat = k := by omega
      have hX := hx.out
      rw [hk] at hX
      by_cases ho : 1000000 < x + 1
      · have dc : decide (1000000 < x + 1) = true := decide_eq_true ho
        have e1 : x = 1000000 := by omega
        have hr := HR.out
        rw [← hX, e1, nthS_over] at hr
        have h5 : isB (1000001 : Int) = false := by decide
        unfold firstS at hr
        rw [if_neg (fun hh => by rw [h5] at hh; cases hh.2)] at hr
        injection hr with h1 h2
        subst h1 h2
        clear hX e1 h5
        go_wp2
        go_ret2
        exact ⟨rfl, hb⟩
      · have dc : decide (1000000 < x + 1) = false := decide_eq_false ho
        have hwk := rWork_any wr B C l cl (HA.out.below (hb.mono hB)) hll (x + 1)
        have hbx : isB x = true := (isB_iff x).2 ⟨x0, x1⟩
        have hbx1 : isB (x + 1) = true := (isB_iff (x + 1)).2 ⟨by omega, by omega⟩
        cases hop : opB l (x + 1) with
        | true =>
          rw [hop] at hwk
          rw [nthS_open hbx hop] at hX
          have HX := Lib.hid hX
          have HWK := Lib.hid hwk
          clear hX hwk hbx hbx1 hop hx
          go_wp2_with fail
          refine HWK.out.mono ?_
          rintro e w2 ⟨rfl, rfl⟩
          go_wp2
          go_roundw
          case rel => exact ⟨x + 1, c + 1, by omega, by omega, by omega, by omega, by go_num, by go_num, Lib.hid (by rw [hk2]; exact HX.out), k0, hb⟩
          case measure => simp [intOf]; omega
        | false =>
          rw [hop] at hwk
          rw [nthS_shut hbx hbx1 hop] at hX
          have HX := Lib.hid hX
          have HWK := Lib.hid hwk
          clear hX hwk hbx hbx1 hop hx
          go_wp2_with fail
          refine HWK.out.mono ?_
          rintro e w2 ⟨rfl, rfl⟩
          go_wp2
          go_roundw
          case rel => exact ⟨x + 1, c, by omega, by omega, by omega, by omega, by go_num, by go_num, Lib.hid (by rw [hk]; exact HX.out), k0, hb⟩
          case measure => simp [intOf]; omega
    · have hX := hx.out
      rw [show (n - c).toNat = 0 by omega] at hX
      have hX : x = nthS l n.toNat day := hX
      have hr := HR.out
      unfold firstS at hr
      rw [← hX, if_pos ⟨rfl, (isB_iff _).2 ⟨x0, x1⟩⟩] at hr
      injection hr with h1 h2
      subst h1 h2
      have dc : decide (1000000 < x) = false := decide_eq_false (by omega)
      clear hX hx HR
      go_wp2
      go_ret2
      exact ⟨rfl, hb⟩

set_option maxRecDepth 100000 in
set_option maxHeartbeats 2000000 in
theorem rFirst_any (w : World) (day n u : Int) (B : Nat) (C : Option Addr) (cl : Nat) (l : List Int) (hA : IntsAt w B C l) (hB : B ≤ w.heap.size) (hll : l.length ≤ 4611686018427387904) (hd : isB day = true) (hu : 1 ≤ u) (hu5 : u ≤ 5) (hn : 0 ≤ n) (hn1 : n ≤ 1000000) (r1 r2 : Int)
    (hr : firstS (stepS l day n u (ymd day).1 (ymd day).2.1 (ymd day).2.2) = (r1, r2)) :
    Calls Tryd.prog 46 #[.int .i64 day, .agg #[.int .i64 n, .int .i64 u], .slice C l.length cl] w fun e w' => e = .returned (.tuple #[.int .i64 r1, .int .i64 r2]) ∧ Below w.heap.size w w' := by
  obtain ⟨d0, d1⟩ := (isB_iff day).1 hd
  have hb := fun u : Int => (Below.refl w.heap.size w).alloc (Nat.le_refl _) (.cells #[.int .i64 n, .int .i64 u] 29)
  have hcase : u = 1 ∨ u = 2 ∨ u = 3 ∨ u = 4 ∨ u = 5 := by omega
  rcases hcase with rfl | rfl | rfl | rfl | rfl
  · have hst : stepS l day n 1 (ymd day).1 (ymd day).2.1 (ymd day).2.2 = (day + n, 0) := by unfold stepS; simp
    obtain ⟨t0, t1, -⟩ := (Blk.new w 29 #[.int .i64 n, .int .i64 1]).all
    replace hb := hb 1
    rw [hst] at hr
    clear hst
    unfold firstS at hr
    by_cases hc : 1000000 < day + n
    · have dc : decide (1000000 < day + n) = true := decide_eq_true hc
      rw [if_neg (fun hh => by have := (isB_iff _).1 hh.2; omega)] at hr
      injection hr with h1 h2
      subst h1 h2
      go_enter Tryd.func46, Tryd.ntmps46
      go_wp2
      go_ret2
      exact ⟨rfl, hb⟩
    · have dc : decide (1000000 < day + n) = false := decide_eq_false hc
      rw [if_pos ⟨rfl, (isB_iff _).2 ⟨by omega, by omega⟩⟩] at hr
      injection hr with h1 h2
      subst h1 h2
      go_enter Tryd.func46, Tryd.ntmps46
      go_wp2
      go_ret2
      exact ⟨rfl, hb⟩
  · have hst : stepS l day n 2 (ymd day).1 (ymd day).2.1 (ymd day).2.2 = (day + 7 * n, 0) := by unfold stepS; simp
    obtain ⟨t0, t1, -⟩ := (Blk.new w 29 #[.int .i64 n, .int .i64 2]).all
    replace hb := hb 2
    rw [hst] at hr
    clear hst
    unfold firstS at hr
    by_cases hc : 1000000 < day + 7 * n
    · have dc : decide (1000000 < day + 7 * n) = true := decide_eq_true hc
      rw [if_neg (fun hh => by have := (isB_iff _).1 hh.2; omega)] at hr
      injection hr with h1 h2
      subst h1 h2
      go_enter Tryd.func46, Tryd.ntmps46
      go_wp2
      go_ret2
      exact ⟨rfl, hb⟩
    · have dc : decide (1000000 < day + 7 * n) = false := decide_eq_false hc
      rw [if_pos ⟨rfl, (isB_iff _).2 ⟨by omega, by omega⟩⟩] at hr
      injection hr with h1 h2
      subst h1 h2
      go_enter Tryd.func46, Tryd.ntmps46
      go_wp2
      go_ret2
      exact ⟨rfl, hb⟩
  · have hst : stepS l day n 3 (ymd day).1 (ymd day).2.1 (ymd day).2.2 = monS (ymd day).1 (ymd day).2.1 (ymd day).2.2 (n) := by unfold stepS; simp
    rw [hst] at hr
    obtain ⟨hv, hnum⟩ := ymd_of hd
    exact first_mon w day n 3 (n) (ymd day).1 (ymd day).2.1 (ymd day).2.2 C cl l r1 r2 hv hnum d1 hn hn1 (by simp) hr
  · have hst : stepS l day n 4 (ymd day).1 (ymd day).2.1 (ymd day).2.2 = monS (ymd day).1 (ymd day).2.1 (ymd day).2.2 (12 * n) := by unfold stepS; simp
    rw [hst] at hr
    obtain ⟨hv, hnum⟩ := ymd_of hd
    exact first_mon w day n 4 (12 * n) (ymd day).1 (ymd day).2.1 (ymd day).2.2 C cl l r1 r2 hv hnum d1 hn hn1 (by simp) hr
  · have hst : stepS l day n 5 (ymd day).1 (ymd day).2.1 (ymd day).2.2 = (nthS l n.toNat day, 0) := by unfold stepS; simp
    rw [hst] at hr
    exact first_work w day n B C cl l hA hB hll hd hn hn1 r1 r2 hr
end Go.Proofs.YtfblngdmeliabaaDoor
