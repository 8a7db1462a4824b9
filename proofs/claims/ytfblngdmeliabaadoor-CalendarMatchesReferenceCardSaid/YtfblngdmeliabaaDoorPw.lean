/- The walk of CalendarMatchesReference. -/
import Derived.Test.YtfblngdmeliabaaDoorPt
import Derived.Test.YtfblngdmeliabaaDoorCEp
import Derived.Test.YtfblngdmeliabaaDoorOi
namespace Go.Proofs.YtfblngdmeliabaaDoor
open Go.RowKit Go.Shelf

set_option maxRecDepth 100000 in
set_option maxHeartbeats 8000000 in
theorem ref_walk (w : World) (ht : Tab w ∧ MaxL w) (y : Int) (_wy : (Lit.int .i64 y).wf = true) (m : Int) (_wm : (Lit.int .i64 m).wf = true) (d : Int) (_wd : (Lit.int .i64 d).wf = true) (day : Int) (_wn : (Lit.int .i64 day).wf = true) (t : ByteArray) (wt : t.size ≤ maxLen) (x : Int × Int) (C : Option Addr) (cl : Nat) (l : List Int) (h : Ints w w.heap.size C l) :
    Calls Tryd.prog 9 #[.int .i64 y, .int .i64 m, .int .i64 d, .int .i64 day, .string t, .agg #[.int .i64 x.1, .int .i64 x.2], .slice C l.length cl] w fun e w' => e = .returned (.bool true) ∧ Below w.heap.size w w' := by
  obtain ⟨ht, hm⟩ := ht
  obtain ⟨n, u⟩ := x
  obtain ⟨hA, hw, hl⟩ := h
  have HT := Lib.hid ht
  have HM := Lib.hid hm
  have HA := Lib.hid hA
  have HW := Lib.hid hw
  clear ht hm hA hw
  unfold maxLen at wt
  have hb := (Below.refl w.heap.size w).alloc (Nat.le_refl _) (.cells #[.int .i64 n, .int .i64 u] 29)
  have k0 := Blk.new w 29 #[.int .i64 n, .int .i64 u]
  show Calls Tryd.prog 9 #[.int .i64 y, .int .i64 m, .int .i64 d, .int .i64 day, .string t, .agg #[.int .i64 n, .int .i64 u], .slice C l.length cl] w _
  have HT1 := Lib.hid (HT.out.below hb)
  have HM1 := Lib.hid (HM.out.below hb)
  by_cases h40 : 40 < t.size
  · have d1 : decide (40 < (t.size : Int)) = true := decide_eq_true (by omega)
    go_enter Tryd.func9, Tryd.ntmps9
    go_wp2_with fail
    refine (head_any _ HT1.out).mono ?_
    rintro e w1 ⟨rfl, b⟩
    replace hb := hb.trans (b.mono hb.size)
    go_wp2
    go_ret
    exact ⟨rfl, hb⟩
  have d1 : decide (40 < (t.size : Int)) = false := decide_eq_false (by omega)
  have h40 : t.size ≤ 40 := by omega
  clear wt
  go_enter Tryd.func9, Tryd.ntmps9
  go_wp2_with fail
  refine (head_any _ HT1.out).mono ?_
  rintro e w1 ⟨rfl, b⟩
  replace k0 := k0.below b k0.lt
  replace hb := hb.trans (b.mono hb.size)
  clear b HT1 HM1
  obtain ⟨x1, x2, -⟩ := k0.all
  obtain ⟨r, hr⟩ : ∃ r, ltB n u l.length = r := ⟨_, rfl⟩
  have hli := fun W => light_any W n u C l.length cl hl
  rw [hr] at hli
  have HLI := Lib.hid hli
  clear hli
  go_wp2_with fail
  refine (HLI.out _).mono ?_
  rintro e w2 ⟨rfl, b⟩
  replace k0 := k0.below b k0.lt
  replace hb := hb.trans (b.mono hb.size)
  clear b x1 x2 HLI d1
  cases r with
  | false =>
    go_wp2
    go_ret
    exact ⟨rfl, hb⟩
  | true =>
  have hll : l.length ≤ 60 := by
    unfold ltB at hr
    simp only [Bool.and_eq_true, decide_eq_true_eq] at hr
    omega
  clear hr
  obtain ⟨p1, p2, hq⟩ : ∃ p1 p2, dayS y m d = (p1, p2) := ⟨_, _, rfl⟩
  have HQ := Lib.hid hq
  clear hq
  go_wp2_with fail
  have hc := day_any w2 y m d
  rw [HQ.out] at hc
  refine hc.mono ?_
  rintro e w3 ⟨rfl, b⟩
  replace k0 := k0.below b k0.lt
  replace hb := hb.trans (b.mono hb.size)
  clear b hc
  go_wp2_with fail
  have hc := rDay_any w3 y m d
  rw [HQ.out] at hc
  refine hc.mono ?_
  rintro e w4 ⟨rfl, b⟩
  replace k0 := k0.below b k0.lt
  replace hb := hb.trans (b.mono hb.size)
  clear b hc
  clear HQ
  obtain ⟨q1, q2, q3, q4, hq⟩ : ∃ q1 q2 q3 q4, dateS day = (q1, q2, q3, q4) := ⟨_, _, _, _, rfl⟩
  have HQ := Lib.hid hq
  clear hq
  go_wp2_with fail
  have hc := date_any w4 day
  rw [HQ.out] at hc
  refine hc.mono ?_
  rintro e w5 ⟨rfl, b⟩
  replace k0 := k0.below b k0.lt
  replace hb := hb.trans (b.mono hb.size)
  clear b hc
  go_wp2_with fail
  have hc := rDate_any w5 day
  rw [HQ.out] at hc
  refine hc.mono ?_
  rintro e w6 ⟨rfl, b⟩
  replace k0 := k0.below b k0.lt
  replace hb := hb.trans (b.mono hb.size)
  clear b hc
  clear HQ
  obtain ⟨r1, r2, hq⟩ : ∃ r1 r2, parseL t.data.toList = (r1, r2) := ⟨_, _, rfl⟩
  have HQ := Lib.hid hq
  clear hq
  go_wp2_with fail
  have hc := parse_any w6 (HM.out.below hb) t h40
  rw [HQ.out] at hc
  refine hc.mono ?_
  rintro e w7 ⟨rfl, b⟩
  replace k0 := k0.below b k0.lt
  replace hb := hb.trans (b.mono hb.size)
  clear b hc
  go_wp2_with fail
  have hc := rParse_any w7 t h40
  rw [HQ.out] at hc
  refine hc.mono ?_
  rintro e w8 ⟨rfl, b⟩
  replace k0 := k0.below b k0.lt
  replace hb := hb.trans (b.mono hb.size)
  clear b hc
  clear HQ
  obtain ⟨s1, s2, hq⟩ : ∃ s1 s2, addS l day n u = (s1, s2) := ⟨_, _, rfl⟩
  have HQ := Lib.hid hq
  clear hq
  obtain ⟨x1, x2, -⟩ := k0.all
  go_wp2_with fail
  have hc := add_any w8 w.heap.size C l cl (HA.out.below hb) hb.size HW.out day n u
  rw [HQ.out] at hc
  refine hc.mono ?_
  rintro e w9 ⟨rfl, b⟩
  replace k0 := k0.below b k0.lt
  replace hb := hb.trans (b.mono hb.size)
  clear b hc
  clear x1 x2
  obtain ⟨x1, x2, -⟩ := k0.all
  go_wp2_with fail
  have hc := rAdd_any w9 w.heap.size C l cl (HA.out.below hb) hb.size (by omega) day n u
  rw [HQ.out] at hc
  refine hc.mono ?_
  rintro e w10 ⟨rfl, b⟩
  replace k0 := k0.below b k0.lt
  replace hb := hb.trans (b.mono hb.size)
  clear b hc
  clear HQ x1 x2 k0
  obtain ⟨z, hz⟩ : ∃ z, textS day = z := ⟨_, rfl⟩
  have HZ := Lib.hid hz
  clear hz
  go_wp2_with fail
  have hc := text_any w10 (HT.out.below hb) day
  rw [HZ.out] at hc
  refine hc.mono ?_
  rintro e w11 ⟨rfl, b⟩
  replace hb := hb.trans (b.mono hb.size)
  clear b hc
  go_wp2_with fail
  have hc := rText_any w11 day
  rw [HZ.out] at hc
  refine hc.mono ?_
  rintro e w12 ⟨rfl, b⟩
  replace hb := hb.trans (b.mono hb.size)
  clear b hc
  clear HZ
  obtain ⟨z2, hz⟩ : ∃ z, wkd day = z := ⟨_, rfl⟩
  have HZ := Lib.hid hz
  clear hz
  go_wp2_with fail
  have hc := weekday_any w12 day
  rw [HZ.out] at hc
  refine hc.mono ?_
  rintro e wx ⟨rfl, rfl⟩
  clear hc
  go_wp2_with fail
  have hc := rWeekday_any w12 day
  rw [HZ.out] at hc
  refine hc.mono ?_
  rintro e wx ⟨rfl, rfl⟩
  clear hc
  clear HZ
  obtain ⟨z3, hz⟩ : ∃ z, opB l day = z := ⟨_, rfl⟩
  have HZ := Lib.hid hz
  clear hz
  go_wp2_with fail
  have hc := work_any w12 w.heap.size C l cl (HA.out.below hb) hb.size (by omega) HW.out day
  rw [HZ.out] at hc
  refine hc.mono ?_
  rintro e w13 ⟨rfl, b⟩
  replace hb := hb.trans (b.mono hb.size)
  clear b hc
  go_wp2_with fail
  have hc := rWork_any w13 w.heap.size C l cl (HA.out.below hb) (by omega) day
  rw [HZ.out] at hc
  refine hc.mono ?_
  rintro e wx ⟨rfl, rfl⟩
  clear hc
  go_wp2
  go_ret
  exact ⟨rfl, hb⟩
end Go.Proofs.YtfblngdmeliabaaDoor
