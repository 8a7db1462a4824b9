/- The reference's calendar: Add. -/
import Derived.Test.YtfblngdmeliabaaDoorVd
namespace Go.Proofs.YtfblngdmeliabaaDoor
open Go.RowKit Go.Shelf

set_option maxRecDepth 100000 in
set_option maxHeartbeats 2000000 in
theorem rAdd_any (w : World) (B : Nat) (C : Option Addr) (l : List Int) (cl : Nat) (hA : IntsAt w B C l) (hB : B ≤ w.heap.size) (hll : l.length ≤ 4611686018427387904) (day n u : Int) :
    Calls Tryd.prog 25 #[.int .i64 day, .agg #[.int .i64 n, .int .i64 u], .slice C l.length cl] w fun e w' => e = .returned (.tuple #[.int .i64 (addS l day n u).1, .int .i64 (addS l day n u).2]) ∧ Below w.heap.size w w' := by
  obtain ⟨r1, r2, hr⟩ : ∃ r1 r2, addS l day n u = (r1, r2) := ⟨_, _, rfl⟩
  rw [hr]
  unfold addS at hr
  have hb := (Below.refl w.heap.size w).alloc (Nat.le_refl _) (.cells #[.int .i64 n, .int .i64 u] 29)
  have k0 := Blk.new w 29 #[.int .i64 n, .int .i64 u]
  obtain ⟨t0, t1, -⟩ := k0.all
  have HA := Lib.hid hA
  clear hA
  have hi := fun W => rIs_any W day
  cases hd : isB day with
  | false =>
    rw [if_pos (.inl hd)] at hr
    injection hr with h1 h2
    subst h1 h2
    rw [hd] at hi
    have HI := Lib.hid hi
    clear hi hd
    go_enter Tryd.func25, Tryd.ntmps25
    go_wp2_with fail
    refine (HI.out _).mono ?_
    rintro e w1 ⟨rfl, rfl⟩
    go_wp2
    go_ret2
    exact ⟨rfl, hb⟩
  | true =>
  rw [hd] at hi
  have HI := Lib.hid hi
  have HDD := Lib.hid hd
  clear hi
  by_cases hbad : u < 1 ∨ 5 < u ∨ n < 0 ∨ 1000000 < n
  · rw [if_pos (.inr hbad)] at hr
    injection hr with h1 h2
    subst h1 h2
    clear hd
    go_enter Tryd.func25, Tryd.ntmps25
    go_wp2_with fail
    refine (HI.out _).mono ?_
    rintro e w1 ⟨rfl, rfl⟩
    by_cases c1 : u < 1
    · have d1 : decide (u < 1) = true := decide_eq_true c1
      clear hbad
      go_wp2
      go_ret2
      exact ⟨rfl, hb⟩
    have d1 : decide (u < 1) = false := decide_eq_false c1
    by_cases c2 : 5 < u
    · have d2 : decide (5 < u) = true := decide_eq_true c2
      clear hbad
      go_wp2
      go_ret2
      exact ⟨rfl, hb⟩
    have d2 : decide (5 < u) = false := decide_eq_false c2
    by_cases c3 : n < 0
    · have d3 : decide (n < 0) = true := decide_eq_true c3
      clear hbad
      go_wp2
      go_ret2
      exact ⟨rfl, hb⟩
    have d3 : decide (n < 0) = false := decide_eq_false c3
    have d4 : decide (1000000 < n) = true := decide_eq_true (by omega)
    clear hbad
    go_wp2
    go_ret2
    exact ⟨rfl, hb⟩
  have u1 : 1 ≤ u := by omega
  have u5 : u ≤ 5 := by omega
  have n0 : 0 ≤ n := by omega
  have n1 : n ≤ 1000000 := by omega
  have c1 : decide (u < 1) = false := decide_eq_false (by omega)
  have c2 : decide (5 < u) = false := decide_eq_false (by omega)
  have c3 : decide (n < 0) = false := decide_eq_false (by omega)
  have c4 : decide (1000000 < n) = false := decide_eq_false (by omega)
  rw [if_neg (by rw [hd]; simp; omega)] at hr
  clear hd hbad
  by_cases hL : 1000 < l.length
  · have c5 : decide ((1000 : Int) < (l.length : Int)) = true := decide_eq_true (by omega)
    rw [if_pos hL] at hr
    injection hr with h1 h2
    subst h1 h2
    go_enter Tryd.func25, Tryd.ntmps25
    go_wp2_with fail
    refine (HI.out _).mono ?_
    rintro e w1 ⟨rfl, rfl⟩
    go_wp2
    go_ret2
    exact ⟨rfl, hb⟩
  have c5 : decide ((1000 : Int) < (l.length : Int)) = false := decide_eq_false (by omega)
  rw [if_neg hL] at hr
  obtain ⟨s, hs⟩ : ∃ s, stepS l day n u (ymd day).1 (ymd day).2.1 (ymd day).2.2 = s := ⟨_, rfl⟩
  obtain ⟨p1, p2, hp⟩ : ∃ p1 p2, firstS s = (p1, p2) := ⟨_, _, rfl⟩
  have hfs := fun W (b : Below w.heap.size w W) => rFirst_any W day n u B C cl l (HA.out.below (b.mono hB)) (Nat.le_trans hB b.size) hll HDD.out u1 u5 n0 n1 p1 p2 (by rw [hs]; exact hp)
  rw [hs] at hr
  have hrel : (p1 = 0 ∧ p2 = 10 ∧ r1 = 0 ∧ r2 = 10) ∨ (p2 = 0 ∧ isB p1 = true ∧ ((isB (fromS l p1) = true ∧ r1 = fromS l p1 ∧ r2 = 0) ∨ (isB (fromS l p1) = false ∧ r1 = 0 ∧ r2 = 10))) := by
    unfold firstS at hp
    unfold endS at hr
    by_cases h : s.2 = 0 ∧ isB s.1 = true
    · rw [if_pos h] at hp hr
      injection hp with h1 h2
      subst h1 h2
      refine .inr ⟨rfl, h.2, ?_⟩
      by_cases h3 : isB (fromS l s.1) = true
      · rw [if_pos h3] at hr
        injection hr with h4 h5
        exact .inl ⟨h3, h4.symm, h5.symm⟩
      · rw [if_neg h3] at hr
        injection hr with h4 h5
        exact .inr ⟨by cases hh : isB (fromS l s.1); rfl; exact absurd hh h3, h4.symm, h5.symm⟩
    · rw [if_neg h] at hp hr
      injection hp with h1 h2
      injection hr with h4 h5
      exact .inl ⟨h1.symm, h2.symm, h4.symm, h5.symm⟩
  have HFS := Lib.hid hfs
  have HREL := Lib.hid hrel
  clear hfs hrel hs hp hr
  go_enter Tryd.func25, Tryd.ntmps25
  go_wp2_with fail
  refine (HI.out _).mono ?_
  rintro e w1 ⟨rfl, rfl⟩
  go_wp2_with fail
  refine (HFS.out _ hb).mono ?_
  rintro e w2 ⟨rfl, b⟩
  replace hb := hb.trans (b.mono hb.size)
  clear b t0 t1 k0
  go_wp2_with fail
  clear c1 c2 c3 c4 c5
  go_loopw [8, 9] (fun v ev wr => ∃ (x ec : Int), v = .int .i64 x ∧ ev = .int .i64 ec ∧ 0 ≤ x ∧ x ≤ 1000001 ∧ Hid (((ec = 10 ∧ r1 = 0 ∧ r2 = 10)) ∨ (ec = 0 ∧ x ≤ 1000000 ∧ ((isB (fromS l x) = true ∧ r1 = fromS l x ∧ r2 = 0) ∨ (isB (fromS l x) = false ∧ r1 = 0 ∧ r2 = 10)))) ∧ Below w.heap.size w wr) (fun v _ _ => (1000002 - intOf v).toNat)
  case atStart =>
    rcases HREL.out with ⟨h1, h2, h3, h4⟩ | ⟨h1, h2, h3⟩
    · exact ⟨p1, p2, rfl, rfl, by omega, by omega, Lib.hid (.inl ⟨h2, h3, h4⟩), hb⟩
    · obtain ⟨h4, h5⟩ := (isB_iff _).1 h2
      exact ⟨p1, p2, rfl, rfl, h4, by omega, Lib.hid (.inr ⟨h1, h5, h3⟩), hb⟩
  case round =>
    clear hb
    obtain ⟨x, ec, rfl, rfl, x0, x9, hx, hb⟩ := hrel
    rcases hx.out with ⟨rfl, rfl, rfl⟩ | ⟨rfl, x1, hx2⟩
    · clear hx
      go_wp2
      go_ret2
      exact ⟨rfl, hb⟩
    · have HX2 := Lib.hid hx2
      have hwk := rWork_any wr B C l cl (HA.out.below (hb.mono hB)) hll x
      have hbx : isB x = true := (isB_iff x).2 ⟨x0, x1⟩
      clear hx hx2
      cases hop : opB l x with
      | true =>
        rw [hop] at hwk
        have hres : r1 = x ∧ r2 = 0 := by
          have h := HX2.out
          rw [fromS_here hop, hbx] at h
          rcases h with ⟨-, h2, h3⟩ | ⟨h1, -⟩
          · exact ⟨h2, h3⟩
          · cases h1
        obtain ⟨h1, h2⟩ := hres
        subst h1 h2
        have HWK := Lib.hid hwk
        clear hwk hbx hop HX2 HREL
        go_wp2_with fail
        refine HWK.out.mono ?_
        rintro e w3 ⟨rfl, rfl⟩
        go_wp2
        go_ret2
        exact ⟨rfl, hb⟩
      | false =>
        rw [hop] at hwk
        have hon := fromS_on hbx hop
        have HON := Lib.hid hon
        have HWK := Lib.hid hwk
        clear hwk hbx hop hon
        go_wp2_with fail
        refine HWK.out.mono ?_
        rintro e w3 ⟨rfl, rfl⟩
        by_cases hov : 1000000 < x + 1
        · have dc : decide (1000000 < x + 1) = true := decide_eq_true hov
          go_wp2
          go_roundw
          case rel =>
            have h := HX2.out
            have e1 : x + 1 = 1000001 := by omega
            have h5 : isB (1000001 : Int) = false := by decide
            rw [HON.out, e1, fromS_eq, if_neg (fun hh => by rw [h5] at hh; cases hh.1), h5] at h
            rcases h with ⟨h1, -⟩ | ⟨-, h2, h3⟩
            · cases h1
            · exact ⟨x + 1, 10, by go_num, rfl, by omega, by omega, Lib.hid (.inl ⟨rfl, h2, h3⟩), hb⟩
          case measure => simp [intOf]; omega
        · have dc : decide (1000000 < x + 1) = false := decide_eq_false hov
          go_wp2
          go_roundw
          case rel => exact ⟨x + 1, 0, by go_num, rfl, by omega, by omega, Lib.hid (.inr ⟨rfl, by omega, by have h := HX2.out; rw [HON.out] at h; exact h⟩), hb⟩
          case measure => simp [intOf]; omega
end Go.Proofs.YtfblngdmeliabaaDoor
