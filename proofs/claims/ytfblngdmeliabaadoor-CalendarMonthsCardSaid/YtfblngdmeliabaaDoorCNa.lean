/- The walk of CalendarMonths. -/
import Derived.Test.YtfblngdmeliabaaDoorCk
import Derived.Test.YtfblngdmeliabaaDoorCDa
import Derived.Test.YtfblngdmeliabaaDoorCMa
import Derived.Test.YtfblngdmeliabaaDoorCEp
namespace Go.Proofs.YtfblngdmeliabaaDoor
open Go.RowKit

theorem add_at (w : World) (B : Nat) (A : Option Addr) (l : List Int) (c : Nat) (hA : IntsAt w B A l) (hB : B ≤ w.heap.size) (hw : ∀ x ∈ l, wf64 x) (day n u : Int) (r : Int × Int) (hr : addS l day n u = r) :
    Calls Tryd.prog 12 #[.int .i64 day, .agg #[.int .i64 n, .int .i64 u], .slice A l.length c] w fun e w' =>
      e = .returned (.tuple #[.int .i64 r.1, .int .i64 r.2]) ∧ Below w.heap.size w w' := hr ▸ add_any w B A l c hA hB hw day n u

theorem addS_bad {l : List Int} {day n u : Int} (h : isB day = false) : addS l day n u = (0, 1) := by unfold addS; rw [if_pos (.inl h)]
theorem stepS_3 (l : List Int) (day n y m d : Int) : stepS l day n 3 y m d = monS y m d n := by
  unfold stepS
  rw [if_neg (by decide), if_neg (by decide), if_pos rfl]
theorem stepS_4 (l : List Int) (day n y m d : Int) : stepS l day n 4 y m d = monS y m d (12 * n) := by
  unfold stepS
  rw [if_neg (by decide), if_neg (by decide), if_neg (by decide), if_pos rfl]
theorem addS_m3 {l : List Int} {day n : Int} (h : isB day = true) (hl : l.length ≤ 1000) (hn : 0 ≤ n) (hn1 : n ≤ 1000000) :
    addS l day n 3 = endS l (monS (ymd day).1 (ymd day).2.1 (ymd day).2.2 n) := by
  unfold addS
  rw [if_neg (by rw [h]; simp; omega), if_neg (by omega), stepS_3]
theorem addS_mon12 {l : List Int} {day n : Int} (h : isB day = true) (hl : l.length ≤ 1000) (hn : 0 ≤ n) (hn1 : n ≤ 83333) :
    addS l day (12 * n) 3 = addS l day n 4 := by
  rw [addS_m3 h hl (by omega) (by omega)]
  unfold addS
  rw [if_neg (by rw [h]; simp; omega), if_neg (by omega), stepS_4]

/-- Where the months lead. -/
theorem monS_day {y m d n : Int} (hy : y ≤ 4400) (hn : n ≤ 65535) (h0 : 1600 ≤ y) (h1 : 1 ≤ m) (h2 : 0 ≤ n) (h3 : m ≤ 12) :
    monS y m d n = dayS (y + (m - 1 + n) / 12) ((m - 1 + n) % 12 + 1) (min d (ml (y + (m - 1 + n) / 12) ((m - 1 + n) % 12 + 1))) := by
  unfold monS
  have e1 : (n + (12 * y + m - 1)) / 12 = y + (m - 1 + n) / 12 := by omega
  have e2 : (n + (12 * y + m - 1)) % 12 = (m - 1 + n) % 12 := by omega
  rw [e1, e2, if_neg (by omega)]

theorem dayS_big {y m i : Int} (h : ml y m < i) : dayS y m i = (0, 1) := dayS_arg (.inr (.inr (.inr h)))

set_option maxRecDepth 100000 in
set_option maxHeartbeats 4000000 in
theorem months_walk (w : World) (ht : Tab w) (day n : Int) (n0 : 0 ≤ n) (n1 : n ≤ 65535) (A : Option Addr) (c : Nat) (l : List Int) (h : Ints w w.heap.size A l) : Calls Tryd.prog 7 #[.int .i64 day, .int .u16 n, .slice A l.length c] w fun e w' => e = .returned (.bool true) ∧ Below w.heap.size w w' := by
  obtain ⟨hA, hw, hl⟩ := h
  have HA := Lib.hid hA
  have HW := Lib.hid hw
  clear hA hw
  by_cases hl6 : 60 < l.length
  · go_enter Tryd.func7, Tryd.ntmps7
    go_wp2_with fail
    refine (head_any _ ht).mono ?_
    rintro e w1 ⟨rfl, b⟩
    go_wp2
    go_ret
    exact ⟨rfl, b⟩
  have l1 : l.length ≤ 60 := by omega
  clear hl6 hl
  cases hi : isB day with
  | false =>
    have e1 : ∀ k u, addS l day k u = (0, 1) := fun k u => addS_bad hi
    have hda := dateS_no hi
    have E1 := Lib.hid e1
    have HD := Lib.hid hda
    clear e1 hda hi
    go_enter Tryd.func7, Tryd.ntmps7
    go_wp2_with fail
    refine (head_any _ ht).mono ?_
    rintro e w1 ⟨rfl, b⟩
    go_wp2_with fail
    refine (term_any _ _ _).mono ?_
    rintro e w2 ⟨rfl, b2⟩
    replace b := Below.then b b2; clear b2
    go_wp2_with fail
    refine (add_at _ w.heap.size A l c (HA.out.below b) b.size HW.out _ _ _ _ (E1.out _ _)).mono ?_
    rintro e w1 ⟨rfl, b2⟩
    replace b := Below.then b b2; clear b2
    go_wp2_with fail
    refine (term_any _ _ _).mono ?_
    rintro e w2 ⟨rfl, b2⟩
    replace b := Below.then b b2; clear b2
    go_wp2_with fail
    refine (add_at _ w.heap.size A l c (HA.out.below b) b.size HW.out _ _ _ _ (E1.out _ _)).mono ?_
    rintro e w1 ⟨rfl, b2⟩
    replace b := Below.then b b2; clear b2
    go_wp2_with fail
    refine (term_any _ _ _).mono ?_
    rintro e w2 ⟨rfl, b2⟩
    replace b := Below.then b b2; clear b2
    go_wp2_with fail
    refine (add_at _ w.heap.size A l c (HA.out.below b) b.size HW.out _ _ _ _ (E1.out _ _)).mono ?_
    rintro e w1 ⟨rfl, b2⟩
    replace b := Below.then b b2; clear b2
    go_wp2_with fail
    refine (date_at _ _ _ HD.out).mono ?_
    rintro e w2 ⟨rfl, b2⟩
    replace b := Below.then b b2; clear b2
    go_wp2
    go_ret
    exact ⟨rfl, b⟩
  | true =>
    obtain ⟨hv, hnum⟩ := ymd_of hi
    have hda := dateS_yes hi
    have ha3 := addS_m3 (l := l) (n := n) hi (by omega) n0 (by omega)
    have ha12 := addS_mon12 (l := l) (n := n) hi (by omega) n0 (by omega)
    obtain ⟨r1, r2, hr⟩ : ∃ r1 r2, addS l day n 3 = (r1, r2) := ⟨_, _, rfl⟩
    obtain ⟨s1, s2, hs⟩ : ∃ s1 s2, addS l day n 4 = (s1, s2) := ⟨_, _, rfl⟩
    rw [hs] at ha12
    rw [hr] at ha3
    obtain ⟨dd0, dd1⟩ := (isB_iff day).1 hi
    have hy44 := vd_year hv (by omega)
    generalize (ymd day).1 = y at *
    generalize (ymd day).2.1 = m at *
    generalize (ymd day).2.2 = d at *
    obtain ⟨y1, y2, m1, m2, d1, d2⟩ := hv
    have d3 := (ml_bd y m).2
    have d4 : d ≤ 31 := by omega
    clear d2 d3
    have hmo := monS_day (d := d) hy44 n1 y1 m1 n0 m2
    have hyb : 1600 ≤ y + (m - 1 + n) / 12 ∧ y + (m - 1 + n) / 12 ≤ 9999 := by omega
    have hmb : 1 ≤ (m - 1 + n) % 12 + 1 ∧ (m - 1 + n) % 12 + 1 ≤ 12 := by omega
    rw [hmo] at ha3
    have HS := Lib.hid hs
    have H12 := Lib.hid ha12
    have HR := Lib.hid hr
    have H3 := Lib.hid ha3
    have HD := Lib.hid hda
    have HYB := Lib.hid hyb
    have HMB := Lib.hid hmb
    clear hs ha12 hr ha3 hda hyb hmb hmo hnum hi
    go_enter Tryd.func7, Tryd.ntmps7
    go_wp2_with fail
    refine (head_any _ ht).mono ?_
    rintro e w1 ⟨rfl, b⟩
    go_wp2_with fail
    refine (term_any _ _ _).mono ?_
    rintro e w2 ⟨rfl, b2⟩
    replace b := Below.then b b2; clear b2
    go_wp2_with fail
    refine (add_at _ w.heap.size A l c (HA.out.below b) b.size HW.out _ _ _ _ HR.out).mono ?_
    rintro e w1 ⟨rfl, b2⟩
    replace b := Below.then b b2; clear b2
    go_wp2_with fail
    refine (term_any _ _ _).mono ?_
    rintro e w2 ⟨rfl, b2⟩
    replace b := Below.then b b2; clear b2
    go_wp2_with fail
    refine (add_at _ w.heap.size A l c (HA.out.below b) b.size HW.out _ _ _ _ HS.out).mono ?_
    rintro e w1 ⟨rfl, b2⟩
    replace b := Below.then b b2; clear b2
    go_wp2_with fail
    refine (term_any _ _ _).mono ?_
    rintro e w2 ⟨rfl, b2⟩
    replace b := Below.then b b2; clear b2
    go_wp2_with fail
    refine (add_at _ w.heap.size A l c (HA.out.below b) b.size HW.out _ _ _ _ H12.out).mono ?_
    rintro e w1 ⟨rfl, b2⟩
    replace b := Below.then b b2; clear b2
    go_wp2_with fail
    refine (date_at _ _ _ HD.out).mono ?_
    rintro e w2 ⟨rfl, b2⟩
    replace b := Below.then b b2; clear b2
    go_wp2_with fail
    generalize y + (m - 1 + n) / 12 = Y at *
    generalize (m - 1 + n) % 12 + 1 = M at *
    have hml := ml_bd Y M
    obtain ⟨q, hq⟩ : ∃ q, q = ml Y M := ⟨_, rfl⟩
    rw [← hq] at hml H3
    have HQ := Lib.hid hq
    clear hq HS H12 HD HR y1 y2 m1 m2 hy44 dd0 dd1
    obtain ⟨q0, q1⟩ := hml
    go_loopw [18, 19] (fun v i wr => ∃ k : Int, v = .int .i64 (-1) ∧ i = .int .i64 k ∧ k ≤ d ∧ (q ≤ k ∨ k = d) ∧ Below w.heap.size w wr) (fun _ i _ => (intOf i).toNat)
    case atStart => exact ⟨d, rfl, rfl, Int.le_refl _, .inr rfl, b⟩
    case round =>
      clear b
      obtain ⟨k, rfl, rfl, hkd, hk, b⟩ := hrel
      have hgo : (28 ≤ k ∧ d - 4 < k) ∨ (k < 28 ∧ (k == d) = true) := by
        rcases hk with h | h
        · exact .inl ⟨by omega, by omega⟩
        · by_cases h28 : 28 ≤ k
          · exact .inl ⟨h28, by omega⟩
          · exact .inr ⟨by omega, by simpa using h⟩
      by_cases hgt : q < k
      · have hdy := fun W => day_at W Y M k _ (dayS_big (by rw [← HQ.out]; exact hgt))
        have g1 : 28 ≤ k := by omega
        have g2 : d - 4 < k := by omega
        clear hgo hk
        go_wp2_with fail
        refine (hdy _).mono ?_
        rintro e w3 ⟨rfl, b2⟩
        replace b := Below.then b b2; clear b2 hdy
        go_wp2
        go_roundw
        case rel => exact ⟨k - 1, rfl, by go_num, by omega, by omega, b⟩
        case measure => simp [intOf]; omega
      · have hmin : min d q = k := by omega
        have h3 := H3.out
        rw [hmin] at h3
        have hv : Vd Y M k := ⟨HYB.out.1, HYB.out.2, HMB.out.1, HMB.out.2, by omega, by rw [← HQ.out]; omega⟩
        clear H3 hmin hk hgt
        by_cases hn : num Y M k ≤ 1000000
        · have hdy := day_at wr Y M k _ (dayS_yes hv hn)
          have hx0 : 0 ≤ num Y M k := by
            have a1 := (num_in hv).1
            have a2 := beg_mono (show (1600 : Int) ≤ Y from HYB.out.1)
            rw [beg_0] at a2
            omega
          rw [dayS_yes hv hn] at h3
          clear hv
          generalize num Y M k = x at *
          have hfl := fromS_le l x
          have hno := fun i a b => (fromS_no l (x := x) (i := i) a b).2.2
          have HX := Lib.hid hdy
          clear hdy
          unfold endS at h3
          rw [if_pos ⟨rfl, (isB_iff x).2 ⟨hx0, hn⟩⟩] at h3
          cases hbf : isB (fromS l x) with
          | true =>
            rw [if_pos hbf] at h3
            obtain ⟨f0, f1⟩ := (isB_iff _).1 hbf
            simp only at hfl hno f0 f1 h3
            generalize fromS l x = r at *
            injection h3 with h3 h4
            subst h3 h4
            clear hbf
            have HN := Lib.hid hno
            clear hno
            rcases hgo with ⟨g1, g2⟩ | ⟨g1, g2⟩
            all_goals
              go_wp2_with fail
              refine HX.out.mono ?_
              rintro e w3 ⟨rfl, b2⟩
              replace b := Below.then b b2; clear b2 HX g1 g2
              go_wp2_with fail
              refine (none_any _ w.heap.size A l c (HA.out.below b) b.size (by omega) HW.out x r1 hfl ⟨by omega, by omega⟩ ⟨by omega, by omega⟩ HN.out).mono ?_
              rintro e w4 ⟨rfl, b2⟩
              replace b := Below.then b b2; clear b2
              go_wp2
              go_ret
              exact ⟨rfl, b⟩
          | false =>
            rw [if_neg (by rw [hbf]; simp)] at h3
            injection h3 with h3 h4
            subst h3 h4
            have hno2 : ∀ i, x ≤ i → i < 1000001 → opB l i = false := fun i a1 a2 => hno i a1 (by
              have : ¬ (0 ≤ fromS l x ∧ fromS l x ≤ 1000000) := fun c => by rw [(isB_iff _).2 c] at hbf; cases hbf
              omega)
            have HN := Lib.hid hno2
            clear hno hno2 hbf hfl
            rcases hgo with ⟨g1, g2⟩ | ⟨g1, g2⟩
            all_goals
              go_wp2_with fail
              refine HX.out.mono ?_
              rintro e w3 ⟨rfl, b2⟩
              replace b := Below.then b b2; clear b2 HX g1 g2
              go_wp2_with fail
              refine (none_any _ w.heap.size A l c (HA.out.below b) b.size (by omega) HW.out x 1000001 (by omega) ⟨by omega, by omega⟩ ⟨by omega, by omega⟩ HN.out).mono ?_
              rintro e w4 ⟨rfl, b2⟩
              replace b := Below.then b b2; clear b2
              go_wp2
              go_ret
              exact ⟨rfl, b⟩
        · have he : dayS Y M k = (0, 10) := by
            obtain ⟨v1, v2, v3, v4, v5, v6⟩ := hv
            unfold dayS
            rw [if_neg (by omega), if_neg (by omega), if_pos (by omega)]
          have hdy := day_at wr Y M k _ he
          rw [he] at h3
          unfold endS at h3
          rw [if_neg (by simp)] at h3
          injection h3 with h3 h4
          subst h3 h4
          have HX := Lib.hid hdy
          clear hdy he hv hn
          rcases hgo with ⟨g1, g2⟩ | ⟨g1, g2⟩
          all_goals
            go_wp2_with fail
            refine HX.out.mono ?_
            rintro e w3 ⟨rfl, b2⟩
            replace b := Below.then b b2; clear b2 HX g1 g2
            go_wp2
            go_ret
            exact ⟨rfl, b⟩
theorem months_walk' (w : World) (ht : Tab w) (a : Int) (_wa : (Lit.int .i64 a).wf = true) (n : Int) (wn : (Lit.int .u16 n).wf = true) (A : Option Addr) (c : Nat) (l : List Int) (h : Ints w w.heap.size A l) : Calls Tryd.prog 7 #[.int .i64 a, .int .u16 n, .slice A l.length c] w fun e w' => e = .returned (.bool true) ∧ Below w.heap.size w w' :=
  months_walk w ht a n (wfu16 wn).1 (wfu16 wn).2 A c l h
end Go.Proofs.YtfblngdmeliabaaDoor
