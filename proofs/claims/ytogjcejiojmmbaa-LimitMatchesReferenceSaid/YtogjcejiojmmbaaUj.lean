/- The walk of LimitMatchesReference. -/
import Derived.Test.YtogjcejiojmmbaaTEa
import Derived.Test.YtogjcejiojmmbaaTFa
import Derived.Test.YtogjcejiojmmbaaUi
namespace Go.Proofs.Ytogjcejiojmmbaa
open Go.RowKit Go.Shelf

theorem pause_small (L : Lm) (s : Stp2) (h1 : L.id.size ≤ 9223372036854775807) (h2 : L.S.length ≤ 10) : (pauseS L s).1.id.size ≤ 9223372036854775807 ∧ (pauseS L s).1.S.length ≤ 9223372036854775807 := by
  unfold pauseS
  split
  · split
    · exact ⟨Nat.zero_le _, Nat.zero_le _⟩
    · exact ⟨h1, by simp; omega⟩
  · exact ⟨Nat.zero_le _, Nat.zero_le _⟩
theorem change_small (L : Lm) (day n u least : Int) (l : List Int) (h1 : L.id.size ≤ 9223372036854775807) (h2 : L.S.length ≤ 10) : (changeS L day n u least l).1.id.size ≤ 9223372036854775807 ∧ (changeS L day n u least l).1.S.length ≤ 9223372036854775807 := by
  rcases change_cases L day n u least l with ⟨f, _, h⟩ | ⟨_, _, h⟩ | ⟨_, _, _, _, _, _, N, U, F, h, _⟩ <;> rw [h]
  · exact ⟨Nat.zero_le _, Nat.zero_le _⟩
  · exact ⟨h1, by simp only; omega⟩
  · exact ⟨h1, by simp only; omega⟩

set_option maxRecDepth 100000 in
set_option maxHeartbeats 8000000 in
theorem ref_walk (w : World) (x : Lm × Option Addr × Nat) (hx : LmAt w w.heap.size x.2.1 x.1) (day : Int) (_wd : (Lit.int .i64 day).wf = true) (s : Int × Int) (_hsw : (Lit.int .i64 s.1).wf = true ∧ (Lit.int .i64 s.2).wf = true) (t : Int × Int) (least : Int) (_wl : (Lit.int .i64 least).wf = true) (C : Option Addr) (cl : Nat) (l : List Int) (h : Ints w w.heap.size C l) :
    Calls Try.prog 3 #[.agg (x.1.cells x.2.1 x.2.2), .int .i64 day, .agg #[.int .i64 s.1, .int .i64 s.2], .agg #[.int .i64 t.1, .int .i64 t.2], .int .i64 least, .slice C l.length cl] w fun e w' => e = .returned (.bool true) ∧ Below w.heap.size w w' := by
  obtain ⟨hA, hw, hl⟩ := h
  obtain ⟨L, A, c⟩ := x
  obtain ⟨p, q⟩ := s
  obtain ⟨n, u⟩ := t
  simp only at hx
  have HA := Lib.hid hA
  have HW := Lib.hid hw
  have HX := Lib.hid hx
  clear hA hw hx
  have e0 : Array.size #[Value.string L.id] = 1 := rfl
  show Calls Try.prog 3 #[.agg #[.string L.id, .int .i64 L.n, .int .i64 L.u, .int .i64 L.f, .slice A L.S.length c], .int .i64 day, .agg #[.int .i64 p, .int .i64 q], .agg #[.int .i64 n, .int .i64 u], .int .i64 least, .slice C l.length cl] w _
  have hb := (((Below.refl w.heap.size w).alloc (Nat.le_refl _) (.cells #[.string L.id, .int .i64 L.n, .int .i64 L.u, .int .i64 L.f, .slice A L.S.length c] 26)).alloc (by simp) (.cells #[.int .i64 p, .int .i64 q] 28)).alloc (by simp; omega) (.cells #[.int .i64 n, .int .i64 u] 23)
  have k0 := ((Blk.new w 26 #[.string L.id, .int .i64 L.n, .int .i64 L.u, .int .i64 L.f, .slice A L.S.length c]).alloc (.cells #[.int .i64 p, .int .i64 q] 28)).alloc (.cells #[.int .i64 n, .int .i64 u] 23)
  have s0 := (Blk.new1 w (.cells #[.string L.id, .int .i64 L.n, .int .i64 L.u, .int .i64 L.f, .slice A L.S.length c] 26) 28 #[.int .i64 p, .int .i64 q]).alloc (.cells #[.int .i64 n, .int .i64 u] 23)
  have t0 := Blk.new2 w (.cells #[.string L.id, .int .i64 L.n, .int .i64 L.u, .int .i64 L.f, .slice A L.S.length c] 26) (.cells #[.int .i64 p, .int .i64 q] 28) 23 #[.int .i64 n, .int .i64 u]
  clear e0
  go_enter Try.func3, Try.ntmps3
  go_wp2_with fail
  refine (head_any _).mono ?_
  rintro e w1 ⟨rfl, b⟩
  replace k0 := k0.below b k0.lt
  replace s0 := s0.below b s0.lt
  replace t0 := t0.below b t0.lt
  replace hb := hb.trans (b.mono hb.size)
  clear b
  generalize hgt : w.heap.size + 1 + 1 = gt at *
  generalize hgs : w.heap.size + 1 = gs at *
  clear hgt hgs
  have hgo := hb.size
  have o0 := Blk.new w1 23 #[.int .i64 least, .int .i64 1]
  replace k0 := k0.alloc (.cells #[.int .i64 least, .int .i64 1] 23)
  replace s0 := s0.alloc (.cells #[.int .i64 least, .int .i64 1] 23)
  replace t0 := t0.alloc (.cells #[.int .i64 least, .int .i64 1] 23)
  replace hb := hb.alloc hgo (.cells #[.int .i64 least, .int .i64 1] 23)
  obtain ⟨k1, k2, -⟩ := k0.all
  go_wp2_with fail
  generalize w1.alloc (.cells #[.int .i64 least, .int .i64 1] 23) = w2 at *
  generalize w1.heap.size = go at *
  obtain ⟨r, hr⟩ : ∃ r, frB L l.length = r := ⟨_, rfl⟩
  have hfew := few_any w2 L w.heap.size A c (HX.out.below hb) hb.size C l.length cl hl
  rw [hr] at hfew
  have HF := Lib.hid hfew
  clear hfew
  refine HF.out.mono ?_
  rintro e w3 ⟨rfl, b⟩
  replace k0 := k0.below b k0.lt
  replace s0 := s0.below b s0.lt
  replace t0 := t0.below b t0.lt
  replace o0 := o0.below b o0.lt
  replace hb := hb.trans (b.mono hb.size)
  clear b
  clear HF k1 k2
  obtain ⟨x1, x2, -⟩ := t0.all
  cases r with
  | false =>
    clear hr
    go_wp2
    go_ret
    exact ⟨rfl, hb⟩
  | true =>
  have hm := (frB_iff.1 hr).2.2.2.2
  have hl10 := (frB_iff.1 hr).1
  clear hr
  obtain ⟨r1, hr1⟩ : ∃ r1, shB n u = r1 := ⟨_, rfl⟩
  have hsh := short_any w3 n u
  rw [hr1] at hsh
  have HSH := Lib.hid hsh
  clear hsh hr1
  go_wp2_with fail
  refine HSH.out.mono ?_
  rintro e w4 ⟨rfl, b⟩
  replace k0 := k0.below b k0.lt
  replace s0 := s0.below b s0.lt
  replace t0 := t0.below b t0.lt
  replace o0 := o0.below b o0.lt
  replace hb := hb.trans (b.mono hb.size)
  clear b
  clear HSH x1 x2
  obtain ⟨x1, x2, -⟩ := o0.all
  cases r1 with
  | false =>
    go_wp2
    go_ret
    exact ⟨rfl, hb⟩
  | true =>
  obtain ⟨r1, hr1⟩ : ∃ r1, shB least 1 = r1 := ⟨_, rfl⟩
  have hsh := short_any w4 least 1
  rw [hr1] at hsh
  have HSH := Lib.hid hsh
  clear hsh hr1
  go_wp2_with fail
  refine HSH.out.mono ?_
  rintro e w5 ⟨rfl, b⟩
  replace k0 := k0.below b k0.lt
  replace s0 := s0.below b s0.lt
  replace t0 := t0.below b t0.lt
  replace o0 := o0.below b o0.lt
  replace hb := hb.trans (b.mono hb.size)
  clear b
  clear HSH x1 x2
  obtain ⟨x1, x2, -⟩ := s0.all
  cases r1 with
  | false =>
    go_wp2
    go_ret
    exact ⟨rfl, hb⟩
  | true =>
  by_cases c3 : 2000 < wrap64 (q - p)
  · have d3 : decide (2000 < wrap64 (q - p)) = true := decide_eq_true c3
    go_wp2
    go_ret
    exact ⟨rfl, hb⟩
  have d3 : decide (2000 < wrap64 (q - p)) = false := decide_eq_false c3
  clear c3
  obtain ⟨k1, k2, -⟩ := k0.all
  obtain ⟨a1, a2, hq⟩ : ∃ a1 a2, dueS L l = (a1, a2) := ⟨_, _, rfl⟩
  have HQ := Lib.hid hq
  clear hq
  go_wp2_with fail
  clear d3
  have hdue := due_any w5 L w.heap.size A c (HX.out.below hb) hb.size C l cl (HA.out.below hb) (by omega) HW.out
  rw [HQ.out] at hdue
  refine hdue.mono ?_
  rintro e w6 ⟨rfl, b⟩
  replace k0 := k0.below b k0.lt
  replace s0 := s0.below b s0.lt
  replace t0 := t0.below b t0.lt
  replace o0 := o0.below b o0.lt
  replace hb := hb.trans (b.mono hb.size)
  clear b
  clear hdue k1 k2 x1 x2
  obtain ⟨k1, k2, -⟩ := k0.all
  obtain ⟨x1, x2, -⟩ := s0.all
  go_wp2_with fail
  have hdue := rDue_any w6 L w.heap.size A c (HX.out.below hb) hb.size C l cl (HA.out.below hb) (by omega)
  rw [HQ.out] at hdue
  refine hdue.mono ?_
  rintro e w7 ⟨rfl, b⟩
  replace k0 := k0.below b k0.lt
  replace s0 := s0.below b s0.lt
  replace t0 := t0.below b t0.lt
  replace o0 := o0.below b o0.lt
  replace hb := hb.trans (b.mono hb.size)
  clear b
  clear hdue k1 k2 x1 x2 HQ
  obtain ⟨k1, k2, -⟩ := k0.all
  obtain ⟨x1, x2, -⟩ := s0.all
  obtain ⟨m1, m2, hq⟩ : ∃ m1 m2, leftS L day l = (m1, m2) := ⟨_, _, rfl⟩
  have HQ := Lib.hid hq
  clear hq
  go_wp2_with fail
  have hdue := left_any w7 L day w.heap.size A c (HX.out.below hb) hb.size C l cl (HA.out.below hb) (by omega) HW.out
  rw [HQ.out] at hdue
  refine hdue.mono ?_
  rintro e w8 ⟨rfl, b⟩
  replace k0 := k0.below b k0.lt
  replace s0 := s0.below b s0.lt
  replace t0 := t0.below b t0.lt
  replace o0 := o0.below b o0.lt
  replace hb := hb.trans (b.mono hb.size)
  clear b
  clear hdue k1 k2 x1 x2
  obtain ⟨k1, k2, -⟩ := k0.all
  obtain ⟨x1, x2, -⟩ := s0.all
  go_wp2_with fail
  have hdue := rLeft_any w8 L day w.heap.size A c (HX.out.below hb) hb.size C l cl (HA.out.below hb) (by omega)
  rw [HQ.out] at hdue
  refine hdue.mono ?_
  rintro e w9 ⟨rfl, b⟩
  replace k0 := k0.below b k0.lt
  replace s0 := s0.below b s0.lt
  replace t0 := t0.below b t0.lt
  replace o0 := o0.below b o0.lt
  replace hb := hb.trans (b.mono hb.size)
  clear b
  clear hdue k1 k2 x1 x2 HQ
  obtain ⟨k1, k2, -⟩ := k0.all
  obtain ⟨x1, x2, -⟩ := s0.all
  obtain ⟨i1, n1, u1, f1, S1, z1, hr⟩ : ∃ i1 n1 u1 f1 S1 z1, pauseS L (p, q) = (⟨i1, n1, u1, f1, S1⟩, z1) := ⟨_, _, _, _, _, _, rfl⟩
  have hsm := pause_small L (p, q) (by have := HX.out.2.1; omega) hl10
  rw [hr] at hsm
  simp only at hsm
  have HR := Lib.hid hr
  have HS1 := Lib.hid hsm
  clear hr hsm
  go_wp2_with fail
  have hpa := pause_any w9 L (p, q) w.heap.size A c (HX.out.below hb) hb.size
  rw [HR.out] at hpa
  refine hpa.mono ?_
  rintro e w10 ⟨Ax1, cx1, he, hst, b⟩
  obtain rfl : e = .returned (.tuple #[.agg #[.string i1, .int .i64 n1, .int .i64 u1, .int .i64 f1, .slice Ax1 S1.length cx1], .int .i64 z1]) := he
  simp only at hst
  replace k0 := k0.below b k0.lt
  replace s0 := s0.below b s0.lt
  replace t0 := t0.below b t0.lt
  replace o0 := o0.below b o0.lt
  replace hb := hb.trans (b.mono hb.size)
  have P := Lib.hid (show LmAt w10 w10.heap.size Ax1 ⟨i1, n1, u1, f1, S1⟩ from ⟨hst, HS1.out⟩)
  have hd := Below.refl w10.heap.size w10
  clear b hpa hst k1 k2 x1 x2
  have lx1 := Blk.new w10 26 #[.string i1, .int .i64 n1, .int .i64 u1, .int .i64 f1, .slice Ax1 S1.length cx1]
  replace k0 := k0.alloc (.cells #[.string i1, .int .i64 n1, .int .i64 u1, .int .i64 f1, .slice Ax1 S1.length cx1] 26)
  replace s0 := s0.alloc (.cells #[.string i1, .int .i64 n1, .int .i64 u1, .int .i64 f1, .slice Ax1 S1.length cx1] 26)
  replace t0 := t0.alloc (.cells #[.string i1, .int .i64 n1, .int .i64 u1, .int .i64 f1, .slice Ax1 S1.length cx1] 26)
  replace o0 := o0.alloc (.cells #[.string i1, .int .i64 n1, .int .i64 u1, .int .i64 f1, .slice Ax1 S1.length cx1] 26)
  replace hb := hb.alloc hb.size (.cells #[.string i1, .int .i64 n1, .int .i64 u1, .int .i64 f1, .slice Ax1 S1.length cx1] 26)
  replace hd := hd.alloc hd.size (.cells #[.string i1, .int .i64 n1, .int .i64 u1, .int .i64 f1, .slice Ax1 S1.length cx1] 26)
  obtain ⟨k1, k2, -⟩ := k0.all
  obtain ⟨x1, x2, -⟩ := s0.all
  go_upto_region 10 with fail
  generalize hWn : w10.alloc (.cells #[.string i1, .int .i64 n1, .int .i64 u1, .int .i64 f1, .slice Ax1 S1.length cx1] 26) = w11 at *
  clear hWn
  go_wp2_with fail
  have hpa := rPause_any w11 L (p, q) w.heap.size A c (HX.out.below hb) hb.size
  rw [HR.out] at hpa
  refine hpa.mono ?_
  rintro e w12 ⟨Ay1, cy1, he, hst, b⟩
  obtain rfl : e = .returned (.tuple #[.agg #[.string i1, .int .i64 n1, .int .i64 u1, .int .i64 f1, .slice Ay1 S1.length cy1], .int .i64 z1]) := he
  simp only at hst
  replace k0 := k0.below b k0.lt
  replace s0 := s0.below b s0.lt
  replace t0 := t0.below b t0.lt
  replace o0 := o0.below b o0.lt
  replace lx1 := lx1.below b lx1.lt
  replace hb := hb.trans (b.mono hb.size)
  replace hd := hd.trans (b.mono hd.size)
  have PX1 := Lib.hid (show LmAt w12 w12.heap.size Ax1 ⟨i1, n1, u1, f1, S1⟩ from ⟨(P.out.below hd).1.wide hd.size, HS1.out⟩)
  have PY1 := Lib.hid (show LmAt w12 w12.heap.size Ay1 ⟨i1, n1, u1, f1, S1⟩ from ⟨hst, HS1.out⟩)
  have hc1 := Below.refl w12.heap.size w12
  have g1 : w12.heap.size ≤ w12.heap.size := Nat.le_refl _
  clear b hpa hst k1 k2 x1 x2 HR HS1 P hd
  have ly1 := Blk.new w12 26 #[.string i1, .int .i64 n1, .int .i64 u1, .int .i64 f1, .slice Ay1 S1.length cy1]
  replace k0 := k0.alloc (.cells #[.string i1, .int .i64 n1, .int .i64 u1, .int .i64 f1, .slice Ay1 S1.length cy1] 26)
  replace s0 := s0.alloc (.cells #[.string i1, .int .i64 n1, .int .i64 u1, .int .i64 f1, .slice Ay1 S1.length cy1] 26)
  replace t0 := t0.alloc (.cells #[.string i1, .int .i64 n1, .int .i64 u1, .int .i64 f1, .slice Ay1 S1.length cy1] 26)
  replace o0 := o0.alloc (.cells #[.string i1, .int .i64 n1, .int .i64 u1, .int .i64 f1, .slice Ay1 S1.length cy1] 26)
  replace lx1 := lx1.alloc (.cells #[.string i1, .int .i64 n1, .int .i64 u1, .int .i64 f1, .slice Ay1 S1.length cy1] 26)
  replace hb := hb.alloc hb.size (.cells #[.string i1, .int .i64 n1, .int .i64 u1, .int .i64 f1, .slice Ay1 S1.length cy1] 26)
  replace hc1 := hc1.alloc hc1.size (.cells #[.string i1, .int .i64 n1, .int .i64 u1, .int .i64 f1, .slice Ay1 S1.length cy1] 26)
  obtain ⟨k1, k2, -⟩ := k0.all
  obtain ⟨x1, x2, -⟩ := t0.all
  go_upto_region 11 with fail
  generalize hWn : w12.alloc (.cells #[.string i1, .int .i64 n1, .int .i64 u1, .int .i64 f1, .slice Ay1 S1.length cy1] 26) = w13 at *
  clear hWn
  obtain ⟨i2, n2, u2, f2, S2, z2, hr⟩ : ∃ i2 n2 u2 f2 S2 z2, changeS L day n u least l = (⟨i2, n2, u2, f2, S2⟩, z2) := ⟨_, _, _, _, _, _, rfl⟩
  have hsm := change_small L day n u least l (by have := HX.out.2.1; omega) hl10
  rw [hr] at hsm
  simp only at hsm
  have HR := Lib.hid hr
  have HS2 := Lib.hid hsm
  clear hr hsm
  go_wp2_with fail
  have hpa := change_any w13 L day n u least w.heap.size A c (HX.out.below hb) hb.size C l cl (HA.out.below hb) (by omega) HW.out
  rw [HR.out] at hpa
  refine hpa.mono ?_
  rintro e w14 ⟨Ax2, cx2, he, hst, b⟩
  obtain rfl : e = .returned (.tuple #[.agg #[.string i2, .int .i64 n2, .int .i64 u2, .int .i64 f2, .slice Ax2 S2.length cx2], .int .i64 z2]) := he
  simp only at hst
  replace k0 := k0.below b k0.lt
  replace s0 := s0.below b s0.lt
  replace t0 := t0.below b t0.lt
  replace o0 := o0.below b o0.lt
  replace lx1 := lx1.below b lx1.lt
  replace ly1 := ly1.below b ly1.lt
  replace hb := hb.trans (b.mono hb.size)
  replace hc1 := hc1.trans (b.mono hc1.size)
  have P := Lib.hid (show LmAt w14 w14.heap.size Ax2 ⟨i2, n2, u2, f2, S2⟩ from ⟨hst, HS2.out⟩)
  have hd := Below.refl w14.heap.size w14
  clear b hpa hst k1 k2 x1 x2
  have lx2 := Blk.new w14 26 #[.string i2, .int .i64 n2, .int .i64 u2, .int .i64 f2, .slice Ax2 S2.length cx2]
  replace k0 := k0.alloc (.cells #[.string i2, .int .i64 n2, .int .i64 u2, .int .i64 f2, .slice Ax2 S2.length cx2] 26)
  replace s0 := s0.alloc (.cells #[.string i2, .int .i64 n2, .int .i64 u2, .int .i64 f2, .slice Ax2 S2.length cx2] 26)
  replace t0 := t0.alloc (.cells #[.string i2, .int .i64 n2, .int .i64 u2, .int .i64 f2, .slice Ax2 S2.length cx2] 26)
  replace o0 := o0.alloc (.cells #[.string i2, .int .i64 n2, .int .i64 u2, .int .i64 f2, .slice Ax2 S2.length cx2] 26)
  replace lx1 := lx1.alloc (.cells #[.string i2, .int .i64 n2, .int .i64 u2, .int .i64 f2, .slice Ax2 S2.length cx2] 26)
  replace ly1 := ly1.alloc (.cells #[.string i2, .int .i64 n2, .int .i64 u2, .int .i64 f2, .slice Ax2 S2.length cx2] 26)
  replace hb := hb.alloc hb.size (.cells #[.string i2, .int .i64 n2, .int .i64 u2, .int .i64 f2, .slice Ax2 S2.length cx2] 26)
  replace hc1 := hc1.alloc hc1.size (.cells #[.string i2, .int .i64 n2, .int .i64 u2, .int .i64 f2, .slice Ax2 S2.length cx2] 26)
  replace hd := hd.alloc hd.size (.cells #[.string i2, .int .i64 n2, .int .i64 u2, .int .i64 f2, .slice Ax2 S2.length cx2] 26)
  obtain ⟨k1, k2, -⟩ := k0.all
  obtain ⟨x1, x2, -⟩ := t0.all
  go_upto_region 12 with fail
  generalize hWn : w14.alloc (.cells #[.string i2, .int .i64 n2, .int .i64 u2, .int .i64 f2, .slice Ax2 S2.length cx2] 26) = w15 at *
  clear hWn
  go_wp2_with fail
  have hpa := rChange_any w15 L day n u least w.heap.size A c (HX.out.below hb) hb.size C l cl (HA.out.below hb) (by omega)
  rw [HR.out] at hpa
  refine hpa.mono ?_
  rintro e w16 ⟨Ay2, cy2, he, hst, b⟩
  obtain rfl : e = .returned (.tuple #[.agg #[.string i2, .int .i64 n2, .int .i64 u2, .int .i64 f2, .slice Ay2 S2.length cy2], .int .i64 z2]) := he
  simp only at hst
  replace k0 := k0.below b k0.lt
  replace s0 := s0.below b s0.lt
  replace t0 := t0.below b t0.lt
  replace o0 := o0.below b o0.lt
  replace lx1 := lx1.below b lx1.lt
  replace ly1 := ly1.below b ly1.lt
  replace lx2 := lx2.below b lx2.lt
  replace hb := hb.trans (b.mono hb.size)
  replace hc1 := hc1.trans (b.mono hc1.size)
  replace hd := hd.trans (b.mono hd.size)
  have PX2 := Lib.hid (show LmAt w16 w16.heap.size Ax2 ⟨i2, n2, u2, f2, S2⟩ from ⟨(P.out.below hd).1.wide hd.size, HS2.out⟩)
  have PY2 := Lib.hid (show LmAt w16 w16.heap.size Ay2 ⟨i2, n2, u2, f2, S2⟩ from ⟨hst, HS2.out⟩)
  have hc2 := Below.refl w16.heap.size w16
  have g2 : w16.heap.size ≤ w16.heap.size := Nat.le_refl _
  clear b hpa hst k1 k2 x1 x2 HR HS2 P hd
  have ly2 := Blk.new w16 26 #[.string i2, .int .i64 n2, .int .i64 u2, .int .i64 f2, .slice Ay2 S2.length cy2]
  replace k0 := k0.alloc (.cells #[.string i2, .int .i64 n2, .int .i64 u2, .int .i64 f2, .slice Ay2 S2.length cy2] 26)
  replace s0 := s0.alloc (.cells #[.string i2, .int .i64 n2, .int .i64 u2, .int .i64 f2, .slice Ay2 S2.length cy2] 26)
  replace t0 := t0.alloc (.cells #[.string i2, .int .i64 n2, .int .i64 u2, .int .i64 f2, .slice Ay2 S2.length cy2] 26)
  replace o0 := o0.alloc (.cells #[.string i2, .int .i64 n2, .int .i64 u2, .int .i64 f2, .slice Ay2 S2.length cy2] 26)
  replace lx1 := lx1.alloc (.cells #[.string i2, .int .i64 n2, .int .i64 u2, .int .i64 f2, .slice Ay2 S2.length cy2] 26)
  replace ly1 := ly1.alloc (.cells #[.string i2, .int .i64 n2, .int .i64 u2, .int .i64 f2, .slice Ay2 S2.length cy2] 26)
  replace lx2 := lx2.alloc (.cells #[.string i2, .int .i64 n2, .int .i64 u2, .int .i64 f2, .slice Ay2 S2.length cy2] 26)
  replace hb := hb.alloc hb.size (.cells #[.string i2, .int .i64 n2, .int .i64 u2, .int .i64 f2, .slice Ay2 S2.length cy2] 26)
  replace hc1 := hc1.alloc hc1.size (.cells #[.string i2, .int .i64 n2, .int .i64 u2, .int .i64 f2, .slice Ay2 S2.length cy2] 26)
  replace hc2 := hc2.alloc hc2.size (.cells #[.string i2, .int .i64 n2, .int .i64 u2, .int .i64 f2, .slice Ay2 S2.length cy2] 26)
  obtain ⟨k1, k2, -⟩ := lx1.all
  obtain ⟨x1, x2, -⟩ := ly1.all
  obtain ⟨y1, y2, -⟩ := lx2.all
  obtain ⟨v1, v2, -⟩ := ly2.all
  go_upto_region 13 with fail
  generalize hWn : w16.alloc (.cells #[.string i2, .int .i64 n2, .int .i64 u2, .int .i64 f2, .slice Ay2 S2.length cy2] 26) = w17 at *
  clear hWn
  go_wp2_with fail
  have hsm := same_yes _ ⟨i1, n1, u1, f1, S1⟩ _ Ax1 Ay1 cx1 cy1 (PX1.out.below hc1) (PY1.out.below hc1) (Nat.le_trans g1 hc1.size)
  refine hsm.mono ?_
  rintro e w18 ⟨rfl, b⟩
  replace lx1 := lx1.below b lx1.lt
  replace ly1 := ly1.below b ly1.lt
  replace lx2 := lx2.below b lx2.lt
  replace ly2 := ly2.below b ly2.lt
  replace hc2 := hc2.trans (b.mono hc2.size)
  replace hb := hb.trans (b.mono hb.size)
  clear b hsm k1 k2 x1 x2 y1 y2 v1 v2
  obtain ⟨k1, k2, -⟩ := lx1.all
  obtain ⟨x1, x2, -⟩ := ly1.all
  obtain ⟨y1, y2, -⟩ := lx2.all
  obtain ⟨v1, v2, -⟩ := ly2.all
  go_wp2_with fail
  have hsm := same_yes _ ⟨i2, n2, u2, f2, S2⟩ _ Ax2 Ay2 cx2 cy2 (PX2.out.below hc2) (PY2.out.below hc2) (Nat.le_trans g2 hc2.size)
  refine hsm.mono ?_
  rintro e w19 ⟨rfl, b⟩
  replace hb := hb.trans (b.mono hb.size)
  clear b hsm k1 k2 x1 x2 y1 y2 v1 v2
  go_wp2
  go_ret
  exact ⟨rfl, hb⟩
end Go.Proofs.Ytogjcejiojmmbaa
