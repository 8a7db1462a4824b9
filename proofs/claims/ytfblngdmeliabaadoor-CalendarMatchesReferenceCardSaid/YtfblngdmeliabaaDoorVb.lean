/- The reference's calendar: Date, Weekday, In, Work. -/
import Derived.Test.YtfblngdmeliabaaDoorVa
namespace Go.Proofs.YtfblngdmeliabaaDoor
open Go.RowKit Go.Shelf

theorem rWeekday_any (w : World) (n : Int) : Calls Tryd.prog 28 #[.int .i64 n] w fun e w' => e = .returned (.int .i64 (wkd n)) ∧ w = w' := by
  cases hl : isB n with
  | true =>
    have e : wkd n = (n + 5) % 7 := by unfold wkd; rw [hl]; rfl
    rw [e]
    obtain ⟨h0, h1⟩ := (isB_iff n).1 hl
    have HL := Lib.hid hl
    clear hl e
    go_enter Tryd.func28, Tryd.ntmps28
    go_wp2_with fail
    refine (rIs_any _ n).mono ?_
    rintro e w1 ⟨rfl, rfl⟩
    rw [HL.out]
    go_wp2
    go_ret
    exact ⟨rfl, rfl⟩
  | false =>
    have e : wkd n = -1 := by unfold wkd; rw [hl]; rfl
    rw [e]
    have HL := Lib.hid hl
    clear hl e
    go_enter Tryd.func28, Tryd.ntmps28
    go_wp2_with fail
    refine (rIs_any _ n).mono ?_
    rintro e w1 ⟨rfl, rfl⟩
    rw [HL.out]
    go_wp2
    go_ret
    exact ⟨rfl, rfl⟩

theorem rIn_any (w : World) (B : Nat) (A : Option Addr) (l : List Int) (c : Nat) (h : IntsAt w B A l) (hl : l.length ≤ 4611686018427387904) (n : Int) :
    Calls Tryd.prog 18 #[.slice A l.length c, .int .i64 n] w fun e w' => e = .returned (.bool (decide (n ∈ l))) ∧ w = w' := by
  go_enter Tryd.func18, Tryd.ntmps18
  go_wp2_with fail
  go_loopw [5] (fun i wr => wr = w ∧ ∃ k : Nat, k ≤ l.length ∧ i = .int .i64 (k : Int) ∧ n ∉ l.take k) (fun i _ => l.length - (intOf i).toNat)
  case atStart => exact ⟨rfl, 0, Nat.zero_le _, rfl, by simp⟩
  case round =>
    obtain ⟨rfl, k, hk, rfl, hni⟩ := hrel
    by_cases hlt : k < l.length
    · obtain ⟨x, hx⟩ : ∃ x, l[k]? = some x := ⟨_, List.getElem?_eq_getElem hlt⟩
      obtain ⟨g, off, hA, hg, hc⟩ := h k x hx
      subst hA
      have HX := Lib.hid hx
      have HN := Lib.hid hni
      clear hx hni
      by_cases hxn : x = n
      · subst hxn
        go_wp2
        go_ret
        have hm : decide (x ∈ l) = true := decide_eq_true (List.mem_of_getElem? HX.out)
        exact ⟨by rw [hm]; rfl, rfl⟩
      · have hb : (x == n) = false := by simpa using hxn
        have HXN := Lib.hid hxn
        clear hxn
        go_wp2
        go_roundw
        case rel =>
          refine ⟨by first | trivial | rfl, k + 1, by omega, by go_num, ?_⟩
          obtain ⟨hk', hx'⟩ := List.getElem?_eq_some_iff.1 HX.out
          rw [List.take_succ_eq_append_getElem hk', hx', List.mem_append]
          rintro (h1 | h1)
          · exact HN.out h1
          · simp at h1; exact HXN.out h1.symm
        case measure => simp [intOf]; omega
    · obtain rfl : k = l.length := by omega
      rw [List.take_length] at hni
      have HN := Lib.hid hni
      clear hni
      go_wp2
      go_ret
      exact ⟨by rw [decide_eq_false HN.out]; rfl, rfl⟩


set_option maxHeartbeats 1000000 in
theorem rWork_any (w : World) (B : Nat) (A : Option Addr) (l : List Int) (c : Nat) (h : IntsAt w B A l) (hl : l.length ≤ 4611686018427387904) (n : Int) :
    Calls Tryd.prog 29 #[.int .i64 n, .slice A l.length c] w fun e w' => e = .returned (.bool (opB l n)) ∧ w = w' := by
  have hin := rIn_any w B A l c h hl n
  have HI := Lib.hid hin
  have HO : Hid (opB l n = (isB n && decide (wkd n < 5) && !decide (n ∈ l))) := Lib.hid rfl
  obtain ⟨r, hr⟩ : ∃ r, opB l n = r := ⟨_, rfl⟩
  rw [hr]
  rw [hr] at HO
  have hwk := rWeekday_any w n
  obtain ⟨x, hx⟩ : ∃ x, wkd n = x := ⟨_, rfl⟩
  rw [hx] at hwk HO
  have HWK := Lib.hid hwk
  clear hin h hr hwk hx
  cases hd : isB n with
  | false =>
    have e : r = false := by have := HO.out; rw [hd] at this; exact this
    subst e
    have HL := Lib.hid hd
    clear hd
    go_enter Tryd.func29, Tryd.ntmps29
    go_wp2_with fail
    refine (rIs_any _ n).mono ?_
    rintro e w1 ⟨rfl, rfl⟩
    rw [HL.out]
    go_wp2
    go_ret
    exact ⟨rfl, rfl⟩
  | true =>
    have HL := Lib.hid hd
    rw [hd, Bool.true_and] at HO
    clear hd
    go_enter Tryd.func29, Tryd.ntmps29
    go_wp2_with fail
    refine (rIs_any _ n).mono ?_
    rintro e w1 ⟨rfl, rfl⟩
    rw [HL.out]
    go_wp2_with fail
    refine HWK.out.mono ?_
    rintro e w1 ⟨rfl, rfl⟩
    by_cases hx : x < 5
    · have d1 : decide (x ≤ 4) = true := decide_eq_true (by omega)
      have e : r = !decide (n ∈ l) := by have := HO.out; rw [decide_eq_true hx] at this; exact this
      subst e
      clear HO
      go_wp2_with fail
      refine HI.out.mono ?_
      rintro e w1 ⟨rfl, rfl⟩
      go_wp2
      go_ret
      exact ⟨rfl, rfl⟩
    · have d1 : decide (x ≤ 4) = false := decide_eq_false (by omega)
      have e : r = false := by have := HO.out; rw [decide_eq_false hx] at this; exact this
      subst e
      clear HO
      go_wp2
      go_ret
      exact ⟨rfl, rfl⟩

set_option maxRecDepth 100000 in
set_option maxHeartbeats 2000000 in
theorem rDate_yes (w : World) (y m d : Int) (hv : Vd y m d) (hn : num y m d ≤ 1000000) : Calls Tryd.prog 22 #[.int .i64 (num y m d)] w fun e w' => e = .returned (.tuple #[.int .i64 y, .int .i64 m, .int .i64 d, .int .i64 0]) ∧ Below w.heap.size w w' := by
  have hnum := num_in hv
  obtain ⟨y1, y2, m1, m2, d1, d2⟩ := hv
  have hb0 := beg_mono y1
  rw [beg_0] at hb0
  have hcs := cum_succ y m m1 m2
  obtain ⟨N, hN⟩ : ∃ N, num y m d = N := ⟨_, rfl⟩
  rw [hN] at hn hnum ⊢
  have hN' : N = beg y + cum y m + (d - 1) := hN.symm
  have n0 : 0 ≤ N := by omega
  have HY := Lib.hid hnum
  have HC := Lib.hid (show cum y m ≤ N - beg y ∧ N - beg y < cum y (m + 1) from ⟨by omega, by omega⟩)
  have HD := Lib.hid (show d = N - beg y - cum y m + 1 by omega)
  have hst : beg (1600 + N / 366) ≤ N := by unfold beg; omega
  have HST := Lib.hid hst
  have hbm := beg_mono (show y ≤ 9999 by omega)
  have hb9 : beg 9999 = 3067672 := by decide
  rw [hb9] at hbm
  have e1 : N.tdiv 366 = N / 366 := Int.tdiv_eq_ediv_of_nonneg n0
  have hc1 := Lib.hid (cum_one y)
  have hcsu := Lib.hid (fun (k : Int) (h1 : 1 ≤ k) (h2 : k ≤ 12) => cum_succ y k h1 h2)
  have hcb := Lib.hid (fun (k : Int) (h1 : 1 ≤ k) (h2 : k ≤ 13) => cum_bd y k h1 h2)
  clear hcs hN hN' hnum hst hb9
  have hi : isB N = true := (isB_iff N).2 ⟨n0, hn⟩
  have HI := Lib.hid hi
  clear hi
  go_enter Tryd.func22, Tryd.ntmps22
  go_wp2_with fail
  refine (rIs_any _ N).mono ?_
  rintro e w1 ⟨rfl, rfl⟩
  rw [HI.out]
  go_wp2_with fail
  clear e1
  have hdb : 0 ≤ N / 366 ∧ N / 366 ≤ 2733 := by omega
  go_loopw [6] (fun v wr => ∃ x : Int, 1600 ≤ x ∧ x ≤ y ∧ v = .int .i64 x ∧ Hid (beg x ≤ N) ∧ Below w.heap.size w wr) (fun v _ => (y - intOf v).toNat)
  case atStart => exact ⟨1600 + N / 366, by omega, year_le HST.out HY.out.2, by go_num, HST, Below.refl _ _⟩
  case round =>
    obtain ⟨x, x0, x1, rfl, hx, hb⟩ := hrel
    have hbf := rBefore_any wr (x + 1) (by omega) (by omega)
    obtain ⟨bx, hbx⟩ : ∃ bx, beg (x + 1) = bx := ⟨_, rfl⟩
    rw [hbx] at hbf
    have HBX := Lib.hid hbx
    have HBF := Lib.hid hbf
    clear hbx hbf
    go_wp2_with fail
    refine HBF.out.mono ?_
    rintro e w2 ⟨rfl, rfl⟩
    clear HBF
    by_cases hle : bx ≤ N
    · have dl : decide (bx ≤ N) = true := decide_eq_true hle
      have hxy : x + 1 ≤ y := year_le (by rw [HBX.out]; exact hle) HY.out.2
      go_wp2
      go_roundw
      case rel => exact ⟨x + 1, by omega, hxy, by go_num, Lib.hid (by rw [HBX.out]; exact hle), hb⟩
      case measure => simp [intOf]; omega
    · have dl : decide (bx ≤ N) = false := decide_eq_false hle
      have hxy : x = y := year_is hx.out (by rw [HBX.out]; omega) HY.out.1 HY.out.2
      subst hxy
      go_wp2_with fail
      have hbf := rBefore_any wr x (by omega) (by omega)
      obtain ⟨bg, hbg⟩ : ∃ bg, beg x = bg := ⟨_, rfl⟩
      rw [hbg] at hbf hb0 hbm
      have HBG := Lib.hid hbg
      have hge := hx.out
      rw [hbg] at hge
      clear hbg
      refine hbf.mono ?_
      rintro e w2 ⟨rfl, rfl⟩
      clear hbf dl hle
      go_wp2_with fail
      go_loopw [7, 8] (fun n v wq => ∃ (j c : Int), 1 ≤ j ∧ j ≤ m ∧ v = .int .i64 j ∧ Hid (cum x j = c) ∧ 0 ≤ c ∧ c ≤ N - bg ∧ n = .int .i64 (N - bg - c) ∧ Below w.heap.size w wq) (fun _ v _ => (m - intOf v).toNat)
      case atStart => exact ⟨1, 0, by omega, m1, rfl, hc1, by omega, by omega, by go_num, hb⟩
      case round =>
        clear hb
        obtain ⟨j, c, j1, j2, rfl, hc, c0, c9, rfl, hb⟩ := hrel
        have hcc := HC.out
        have hle := rLength_any wr x j j1 (by omega)
        have hs := hcsu.out j j1 (by omega)
        obtain ⟨q, hq⟩ : ∃ q, ml x j = q := ⟨_, rfl⟩
        have hml := ml_bd x j
        rw [hq] at hle hs hml
        rw [hc.out] at hs
        have HLJ := Lib.hid hle
        have HS := Lib.hid hs
        clear hle hs hq
        rw [HBG.out] at hcc
        have HCC := Lib.hid hcc
        clear hcc
        go_wp2_with fail
        refine HLJ.out.mono ?_
        rintro e w3 ⟨rfl, b⟩
        replace hb := hb.trans (b.mono hb.size)
        clear b HLJ
        by_cases hlt : q ≤ N - bg - c
        · have dl : decide (q ≤ N - bg - c) = true := decide_eq_true hlt
          have hjm : j + 1 ≤ m := month_le (y := x) (r := N - bg) (by rw [HS.out]; omega) HCC.out.2 m1 (by omega)
          go_wp2_with fail
          have hle := rLength_any w3 x j j1 (by omega)
          have hq2 : ml x j = q := by have h1 := hcsu.out j j1 (by omega); rw [HS.out, hc.out] at h1; omega
          rw [hq2] at hle
          clear hq2
          refine hle.mono ?_
          rintro e w4 ⟨rfl, b⟩
          replace hb := hb.trans (b.mono hb.size)
          clear b hle dl
          go_wp2
          go_roundw
          case rel => exact ⟨j + 1, c + q, by omega, hjm, by go_num, HS, by omega, by omega, by go_num, hb⟩
          case measure => simp [intOf]; omega
        · have dl : decide (q ≤ N - bg - c) = false := decide_eq_false hlt
          have hjm : m ≤ j := month_le (y := x) (r := N - bg) HCC.out.1 (by rw [HS.out]; omega) j1 (by omega)
          obtain rfl : j = m := by omega
          have hdd := HD.out
          rw [HBG.out, hc.out] at hdd
          subst hdd
          clear dl
          go_wp2
          refine bodyPost_ret (v := .tuple #[.int .i64 x, .int .i64 j, .int .i64 (N - bg - c + 1), .int .i64 0]) (by simp [results, Tryd.results22, go_sem]) rfl ⟨rfl, hb⟩
end Go.Proofs.YtfblngdmeliabaaDoor
