/- MatterFields: the law's walk. -/
import Derived.Test.YtgfahifdmacmhaaGreatDoorZYa
import Derived.Test.YtgfahifdmacmhaaGreatDoorZYc
namespace Go.Proofs.YtgfahifdmacmhaaGreatDoor
open Go.RowKit Go.Shelf

theorem fm_bare1 {id pr : ByteArray} {o st : Int} {cs mv : List Int} {rs : List Rt} {ls : List Lm} (h : fmB ⟨id, o, cs, pr, st, mv, rs, ls⟩ = true) : fmB ⟨id, o, [], pr, st, mv, [], []⟩ = true := by
  obtain ⟨f1, f2, f3, f4, f5, f6, f7, f8, f9, f10⟩ := fmB_iff.1 h
  exact fmB_iff.2 ⟨f1, f2, f3, f4, fun x hx => by simp at hx, by simp, f7, f8, rfl, rfl⟩
theorem fm_bare2 {id pr : ByteArray} {o st : Int} {cs mv : List Int} {rs : List Rt} {ls : List Lm} (h : fmB ⟨id, o, cs, pr, st, mv, rs, ls⟩ = true) : fmB ⟨id, o, [], pr, 0, [], rs, []⟩ = true := by
  obtain ⟨f1, f2, f3, f4, f5, f6, f7, f8, f9, f10⟩ := fmB_iff.1 h
  exact fmB_iff.2 ⟨f1, f2, f3, ⟨by show (0 : Int) ≤ 0; decide, by show (0 : Int) < 60; decide⟩, fun x hx => by simp at hx, by simp, rfl, by simp, f9, rfl⟩
theorem move_bare {id pr : ByteArray} {o st : Int} {cs mv : List Int} {rs : List Rt} {ls : List Lm} {p : Pc} {s day : Int} (h : fmB ⟨id, o, cs, pr, st, mv, rs, ls⟩ = true) : moveE ⟨id, o, [], pr, st, mv, [], []⟩ p s day = moveE ⟨id, o, cs, pr, st, mv, rs, ls⟩ p s day := by
  unfold moveE
  rw [h, fm_bare1 h]
theorem grant_bare {id pr : ByteArray} {o st : Int} {cs mv : List Int} {rs : List Rt} {ls : List Lm} {n : ByteArray} {day : Int} (h : fmB ⟨id, o, cs, pr, st, mv, rs, ls⟩ = true) : grantE ⟨id, o, [], pr, 0, [], rs, []⟩ n day = grantE ⟨id, o, cs, pr, st, mv, rs, ls⟩ n day := by
  unfold grantE
  rw [h, fm_bare2 h]
theorem move_unformed {m : Mt} {p : Pc} {s day : Int} (h : fmB m = false) : moveE m p s day = 1 := by
  unfold moveE
  rw [h, Bool.false_and]
  rfl
theorem grant_unformed {m : Mt} {n : ByteArray} {day : Int} (h : fmB m = false) : grantE m n day = 1 := grantE1 (by rw [h, Bool.false_and])

set_option maxRecDepth 100000 in
set_option maxHeartbeats 8000000 in
theorem fields_walk (w : World) (ht : Tbs w) (z : Mt × MtX) (h : MtIn w z) (z2 : Pc × PcX) (h2 : PcIn w z2) (s : Int) (_w1 : (Lit.int .i64 s).wf = true) (day : Int) (_w2 : (Lit.int .i64 day).wf = true) (name : ByteArray) (hname : name.size ≤ 9223372036854775807) :
    Calls Tryz.prog 6 #[.agg (mtC z.1 z.2), .agg (pcC z2.1 z2.2), .int .i64 s, .int .i64 day, .string name] w fun e w' => e = .returned (.bool true) ∧ Below w.heap.size w w' := by
  obtain ⟨m, x⟩ := z
  obtain ⟨p, y⟩ := z2
  obtain ⟨hm, l1, l2, l3, l4, -, -⟩ := h
  obtain ⟨hp, j1, j2⟩ := h2
  simp only at hm l1 l2 l3 l4 hp j1 j2 ⊢
  have HM := Lib.hid hm
  have HP := Lib.hid hp
  have HT := Lib.hid ht
  have HN := Lib.hid hname
  clear ht hm hp hname _w1 _w2
  have hfew1 := fun W (hW : Below w.heap.size w W) => few_any W w.heap.size m x (HM.out.below hW) hW.size l1 l2 l3 l4
  have hfew2 := fun W (hW : Below w.heap.size w W) => short_any W w.heap.size p y (HP.out.below hW) hW.size j1 j2
  have htx1 := fun W (hW : Below w.heap.size w W) (hs : Sml m) => text_any W (HT.out.below hW) w.heap.size m x (HM.out.below hW) hW.size hs
  have HFEW1 := Lib.hid hfew1
  have HFEW2 := Lib.hid hfew2
  have HTX1 := Lib.hid htx1
  clear hfew1 hfew2 htx1 l1 l2 l3 l4 j1 j2
  obtain ⟨id, o, cs, pr, st, mv, rs, ls⟩ := m
  obtain ⟨a1, c1, a2, c2, a3, c3, a4, c4, lv⟩ := x
  obtain ⟨pn, ss, ms⟩ := p
  obtain ⟨b1, e1, b2, e2⟩ := y
  show Calls Tryz.prog 6 #[.agg #[.string id, .int .i64 o, .slice a1 cs.length c1, .string pr, .int .i64 st, .slice a2 mv.length c2, .slice a3 rs.length c3, .slice a4 ls.length c4], .agg #[.string pn, .slice b1 ss.length e1, .slice b2 ms.length e2], .int .i64 s, .int .i64 day, .string name] w _
  have hb := (below_self_alloc w (.cells #[.string id, .int .i64 o, .slice a1 cs.length c1, .string pr, .int .i64 st, .slice a2 mv.length c2, .slice a3 rs.length c3, .slice a4 ls.length c4] 27)).alloc (by simp) (.cells #[.string pn, .slice b1 ss.length e1, .slice b2 ms.length e2] 46)
  have k0 := (Blk.new w 27 #[.string id, .int .i64 o, .slice a1 cs.length c1, .string pr, .int .i64 st, .slice a2 mv.length c2, .slice a3 rs.length c3, .slice a4 ls.length c4]).alloc (.cells #[.string pn, .slice b1 ss.length e1, .slice b2 ms.length e2] 46)
  have j0 := Blk.new1 w (.cells #[.string id, .int .i64 o, .slice a1 cs.length c1, .string pr, .int .i64 st, .slice a2 mv.length c2, .slice a3 rs.length c3, .slice a4 ls.length c4] 27) 46 #[.string pn, .slice b1 ss.length e1, .slice b2 ms.length e2]
  have hc := head_any ((w.alloc (.cells #[.string id, .int .i64 o, .slice a1 cs.length c1, .string pr, .int .i64 st, .slice a2 mv.length c2, .slice a3 rs.length c3, .slice a4 ls.length c4] 27)).alloc (.cells #[.string pn, .slice b1 ss.length e1, .slice b2 ms.length e2] 46)) (HT.out.below hb)
  have HC := Lib.hid hc
  clear hc
  go_enter Tryz.func6, Tryz.ntmps6
  go_wp2_with fail
  refine HC.out.mono ?_
  rintro e W1 ⟨rfl, bz⟩
  have HB := Lib.hid (hb.trans (bz.mono hb.size))
  have K := Lib.hid (k0.below bz k0.lt)
  have J := Lib.hid (j0.below bz j0.lt)
  clear bz k0 j0 hb HC
  have hc : Calls Tryz.prog 10 #[.agg #[.string id, .int .i64 o, .slice a1 cs.length c1, .string pr, .int .i64 st, .slice a2 mv.length c2, .slice a3 rs.length c3, .slice a4 ls.length c4]] W1 _ := HFEW1.out W1 HB.out
  have HC := Lib.hid hc
  clear hc
  obtain ⟨t0, t1, t2⟩ := K.out.all
  obtain ⟨s0, s1, s2⟩ := J.out.all
  go_wp2_with fail
  refine HC.out.mono ?_
  rintro e W2 ⟨q1, rfl, hq1, bz⟩
  clear t0 t1 t2 s0 s1 s2 HC
  have Kx := Lib.hid (K.out.below bz K.out.lt)
  clear K
  have K := Kx
  clear Kx
  have Jx := Lib.hid (J.out.below bz J.out.lt)
  clear J
  have J := Jx
  clear Jx
  have HBx := Lib.hid (HB.out.trans (bz.mono HB.out.size))
  clear HB
  have HB := HBx
  clear HBx
  clear bz HFEW1
  cases q1 with
  | false =>
    go_wp2
    go_ret
    exact ⟨rfl, HB.out⟩
  | true =>
    have HS1 := Lib.hid (hq1 rfl).sml
    clear hq1
    have hc : Calls Tryz.prog 18 #[.agg #[.string pn, .slice b1 ss.length e1, .slice b2 ms.length e2]] W2 _ := HFEW2.out W2 HB.out
    have HC := Lib.hid hc
    clear hc
    obtain ⟨t0, t1, t2⟩ := K.out.all
    obtain ⟨s0, s1, s2⟩ := J.out.all
    go_wp2_with fail
    refine HC.out.mono ?_
    rintro e W3 ⟨q2, rfl, hq2, bz⟩
    clear t0 t1 t2 s0 s1 s2 HC
    have Kx := Lib.hid (K.out.below bz K.out.lt)
    clear K
    have K := Kx
    clear Kx
    have Jx := Lib.hid (J.out.below bz J.out.lt)
    clear J
    have J := Jx
    clear Jx
    have HBx := Lib.hid (HB.out.trans (bz.mono HB.out.size))
    clear HB
    have HB := HBx
    clear HBx
    clear bz HFEW2
    cases q2 with
    | false =>
      go_wp2
      go_ret
      exact ⟨rfl, HB.out⟩
    | true =>
      have HS2 := Lib.hid (hq2 rfl).sml
      clear hq2
      by_cases hsz : (60 : Int) < (name.size : Int)
      case pos =>
        have d6 : decide ((60 : Int) < (name.size : Int)) = true := decide_eq_true hsz
        go_wp2
        go_ret
        exact ⟨rfl, HB.out⟩
      case neg =>
        have d6 : decide ((60 : Int) < (name.size : Int)) = false := decide_eq_false hsz
        obtain ⟨S1, hS1⟩ : ∃ s, bs (if fmB ⟨id, o, cs, pr, st, mv, rs, ls⟩ then textL ⟨id, o, cs, pr, st, mv, rs, ls⟩ else []) = s := ⟨_, rfl⟩
        obtain ⟨E1, hE1⟩ : ∃ e : Int, (if fmB ⟨id, o, cs, pr, st, mv, rs, ls⟩ then (0 : Int) else 1) = e := ⟨_, rfl⟩
        have hc0 := HTX1.out W3 HB.out HS1.out
        unfold TextPost at hc0
        rw [hS1, hE1] at hc0
        have HG2 := Lib.hid hE1
        clear hS1 hE1
        replace hc0 : Calls Tryz.prog 11 #[.agg #[.string id, .int .i64 o, .slice a1 cs.length c1, .string pr, .int .i64 st, .slice a2 mv.length c2, .slice a3 rs.length c3, .slice a4 ls.length c4]] W3 _ := hc0
        have HC := Lib.hid hc0
        clear hc0
        obtain ⟨t0, t1, t2⟩ := K.out.all
        obtain ⟨s0, s1, s2⟩ := J.out.all
        go_wp2_with fail
        refine HC.out.mono ?_
        rintro e W4 ⟨rfl, bz⟩
        clear t0 t1 t2 s0 s1 s2 HC
        have Kx := Lib.hid (K.out.below bz K.out.lt)
        clear K
        have K := Kx
        clear Kx
        have Jx := Lib.hid (J.out.below bz J.out.lt)
        clear J
        have J := Jx
        clear Jx
        have HBx := Lib.hid (HB.out.trans (bz.mono HB.out.size))
        clear HB
        have HB := HBx
        clear HBx
        clear bz hsz d6 HTX1
        obtain ⟨F1, hF1⟩ : ∃ E, moveE ⟨id, o, cs, pr, st, mv, rs, ls⟩ ⟨pn, ss, ms⟩ s day = E := ⟨_, rfl⟩
        obtain ⟨Z1, hZ1⟩ : ∃ Z, moveM ⟨id, o, cs, pr, st, mv, rs, ls⟩ ⟨pn, ss, ms⟩ s day = Z := ⟨_, rfl⟩
        obtain ⟨F3, hF3⟩ : ∃ E, grantE ⟨id, o, cs, pr, st, mv, rs, ls⟩ name day = E := ⟨_, rfl⟩
        obtain ⟨Z3, hZ3⟩ : ∃ Z, grantM ⟨id, o, cs, pr, st, mv, rs, ls⟩ name day = Z := ⟨_, rfl⟩
        have hmv := fun W (hW : Below w.heap.size w W) => move_any W w.heap.size ⟨id, o, cs, pr, st, mv, rs, ls⟩ ⟨a1, c1, a2, c2, a3, c3, a4, c4, lv⟩ (HM.out.below hW) hW.size HS1.out ⟨pn, ss, ms⟩ ⟨b1, e1, b2, e2⟩ (HP.out.below hW) HS2.out s day
        have hgr := fun W (hW : Below w.heap.size w W) => grant_any W w.heap.size ⟨id, o, cs, pr, st, mv, rs, ls⟩ ⟨a1, c1, a2, c2, a3, c3, a4, c4, lv⟩ (HM.out.below hW) hW.size HS1.out name HN.out day
        rw [hF1, hZ1] at hmv
        rw [hF3, hZ3] at hgr
        obtain ⟨zi, zo, zc, zp, zs, zm, zr, zl⟩ := Z1
        obtain ⟨yi, yo, yc, yp, ys, ym, yr, yl⟩ := Z3
        have hmv2 : ∀ W, Below w.heap.size w W → Calls Tryz.prog 19 #[.agg #[.string id, .int .i64 o, .slice a1 cs.length c1, .string pr, .int .i64 st, .slice a2 mv.length c2, .slice a3 rs.length c3, .slice a4 ls.length c4], .agg #[.string pn, .slice b1 ss.length e1, .slice b2 ms.length e2], .int .i64 s, .int .i64 day] W (Lit W F1 zi zo zc.length zp zs zm.length zr.length zl.length ⟨zi, zo, zc, zp, zs, zm, zr, zl⟩) := fun W hW => (hmv W hW).mono fun e w' h => lit_of h
        have hgr2 : ∀ W, Below w.heap.size w W → Calls Tryz.prog 17 #[.agg #[.string id, .int .i64 o, .slice a1 cs.length c1, .string pr, .int .i64 st, .slice a2 mv.length c2, .slice a3 rs.length c3, .slice a4 ls.length c4], .string name, .int .i64 day] W (Lit W F3 yi yo yc.length yp ys ym.length yr.length yl.length ⟨yi, yo, yc, yp, ys, ym, yr, yl⟩) := fun W hW => (hgr W hW).mono fun e w' h => lit_of h
        have HMV := Lib.hid hmv2
        have HGR := Lib.hid hgr2
        have HF1 := Lib.hid hF1
        have HF3 := Lib.hid hF3
        clear hmv hgr hmv2 hgr2 hF1 hZ1 hF3 hZ3
        cases hfm : fmB ⟨id, o, cs, pr, st, mv, rs, ls⟩ with
        | false =>
          obtain rfl : 1 = E1 := by have := HG2.out; rw [hfm] at this; exact this
          obtain rfl : 1 = F1 := HF1.out.symm.trans (move_unformed hfm) |>.symm
          obtain rfl : 1 = F3 := HF3.out.symm.trans (grant_unformed hfm) |>.symm
          clear hfm HG2
          have hc := HMV.out W4 HB.out
          have HC := Lib.hid hc
          clear hc
          obtain ⟨t0, t1, t2⟩ := K.out.all
          obtain ⟨s0, s1, s2⟩ := J.out.all
          go_wp2_with fail
          refine HC.out.mono ?_
          rintro e W5 ⟨p1, q1, p2, q2, p3, q3, p4, q4, v9, rfl, -, bz⟩
          clear t0 t1 t2 s0 s1 s2 HC
          have by_ := below_self_alloc W5 (.cells #[.string zi, .int .i64 zo, .slice p1 zc.length q1, .string zp, .int .i64 zs, .slice p2 zm.length q2, .slice p3 zr.length q3, .slice p4 zl.length q4] 27)
          have bw := bz.trans (by_.mono bz.size)
          have Kx := Lib.hid (K.out.below bw K.out.lt)
          clear K
          have K := Kx
          clear Kx
          have Jx := Lib.hid (J.out.below bw J.out.lt)
          clear J
          have J := Jx
          clear Jx
          have HBx := Lib.hid (HB.out.trans (bw.mono HB.out.size))
          clear HB
          have HB := HBx
          clear HBx
          clear by_ bw bz
          go_upto_region 7 with fail
          generalize W5.alloc (.cells #[.string zi, .int .i64 zo, .slice p1 zc.length q1, .string zp, .int .i64 zs, .slice p2 zm.length q2, .slice p3 zr.length q3, .slice p4 zl.length q4] 27) = W6 at *
          have hc := HGR.out W6 HB.out
          have HC := Lib.hid hc
          clear hc
          obtain ⟨t0, t1, t2⟩ := K.out.all
          obtain ⟨s0, s1, s2⟩ := J.out.all
          go_wp2_with fail
          refine HC.out.mono ?_
          rintro e W7 ⟨p1, q1, p2, q2, p3, q3, p4, q4, v9, rfl, -, bz⟩
          clear t0 t1 t2 s0 s1 s2 HC
          have by_ := below_self_alloc W7 (.cells #[.string yi, .int .i64 yo, .slice p1 yc.length q1, .string yp, .int .i64 ys, .slice p2 ym.length q2, .slice p3 yr.length q3, .slice p4 yl.length q4] 27)
          have bw := bz.trans (by_.mono bz.size)
          have Kx := Lib.hid (K.out.below bw K.out.lt)
          clear K
          have K := Kx
          clear Kx
          have Jx := Lib.hid (J.out.below bw J.out.lt)
          clear J
          have J := Jx
          clear Jx
          have HBx := Lib.hid (HB.out.trans (bw.mono HB.out.size))
          clear HB
          have HB := HBx
          clear HBx
          clear by_ bw bz
          go_upto_region 8 with fail
          generalize W7.alloc (.cells #[.string yi, .int .i64 yo, .slice p1 yc.length q1, .string yp, .int .i64 ys, .slice p2 ym.length q2, .slice p3 yr.length q3, .slice p4 yl.length q4] 27) = W8 at *
          go_wp2
          go_ret
          exact ⟨rfl, HB.out⟩
        | true =>
          obtain rfl : 0 = E1 := by have := HG2.out; rw [hfm] at this; exact this
          have hb1 := move_bare (p := ⟨pn, ss, ms⟩) (s := s) (day := day) hfm
          have hb2 := grant_bare (n := name) (day := day) hfm
          rw [HF1.out] at hb1
          rw [HF3.out] at hb2
          have HB1 := Lib.hid hb1
          have HB2 := Lib.hid hb2
          clear hfm HG2 HF1 HF3 hb1 hb2
          obtain ⟨t0, t1, t2⟩ := K.out.all
          go_upto_region 10 with fail
          have HBo := Lib.hid HB.out
          have KL := K.out.lt
          have JL := J.out.lt
          have kb := Blk.new W4 27 #[.string id, .int .i64 o, .slice a1 cs.length c1, .string pr, .int .i64 st, .slice a2 mv.length c2, .slice a3 rs.length c3, .slice a4 ls.length c4]
          have bw := below_self_alloc W4 (.cells #[.string id, .int .i64 o, .slice a1 cs.length c1, .string pr, .int .i64 st, .slice a2 mv.length c2, .slice a3 rs.length c3, .slice a4 ls.length c4] 27)
          clear t0 t1 t2
          have Kx := Lib.hid (K.out.below bw K.out.lt)
          clear K
          have K := Kx
          clear Kx
          have Jx := Lib.hid (J.out.below bw J.out.lt)
          clear J
          have J := Jx
          clear Jx
          have HBx := Lib.hid (HB.out.trans (bw.mono HB.out.size))
          clear HB
          have HB := HBx
          clear HBx
          clear bw
          have G := Lib.hid kb
          have HGE : Hid (w.heap.size ≤ W4.heap.size ∧ w.heap.size < W4.heap.size ∧ w.heap.size + 1 < W4.heap.size) := Lib.hid ⟨by have := HBo.out.size; omega, KL, JL⟩
          clear kb HBo KL JL
          generalize W4.alloc (.cells #[.string id, .int .i64 o, .slice a1 cs.length c1, .string pr, .int .i64 st, .slice a2 mv.length c2, .slice a3 rs.length c3, .slice a4 ls.length c4] 27) = W5 at *
          generalize W4.heap.size = gb at *
          obtain ⟨u0, u1, u2⟩ := G.out.all
          go_upto_region 11 with fail
          clear u0 u1 u2
          have Gx : Hid (Blk (W5.setCell ⟨gb, 2, none⟩ (.slice none 0 0)) gb 27 #[.string id, .int .i64 o, .slice none 0 0, .string pr, .int .i64 st, .slice a2 mv.length c2, .slice a3 rs.length c3, .slice a4 ls.length c4]) := Lib.hid (by simpa using G.out.set_ 2 (.slice none 0 0))
          have Kx := Lib.hid (K.out.far (p := ⟨gb, 2, none⟩) (Nat.ne_of_lt HGE.out.2.1) (.slice none 0 0))
          have Jx := Lib.hid (J.out.far (p := ⟨gb, 2, none⟩) (Nat.ne_of_lt HGE.out.2.2) (.slice none 0 0))
          have HBx := Lib.hid (HB.out.setCell (p := ⟨gb, 2, none⟩) HGE.out.1 (.slice none 0 0))
          clear G K J HB
          have G := Gx
          have K := Kx
          have J := Jx
          have HB := HBx
          clear Gx Kx Jx HBx
          generalize W5.setCell ⟨gb, 2, none⟩ (.slice none 0 0) = W6 at *
          obtain ⟨u0, u1, u2⟩ := G.out.all
          go_upto_region 12 with fail
          clear u0 u1 u2
          have Gx : Hid (Blk (W6.setCell ⟨gb, 6, none⟩ (.slice none 0 0)) gb 27 #[.string id, .int .i64 o, .slice none 0 0, .string pr, .int .i64 st, .slice a2 mv.length c2, .slice none 0 0, .slice a4 ls.length c4]) := Lib.hid (by simpa using G.out.set_ 6 (.slice none 0 0))
          have Kx := Lib.hid (K.out.far (p := ⟨gb, 6, none⟩) (Nat.ne_of_lt HGE.out.2.1) (.slice none 0 0))
          have Jx := Lib.hid (J.out.far (p := ⟨gb, 6, none⟩) (Nat.ne_of_lt HGE.out.2.2) (.slice none 0 0))
          have HBx := Lib.hid (HB.out.setCell (p := ⟨gb, 6, none⟩) HGE.out.1 (.slice none 0 0))
          clear G K J HB
          have G := Gx
          have K := Kx
          have J := Jx
          have HB := HBx
          clear Gx Kx Jx HBx
          generalize W6.setCell ⟨gb, 6, none⟩ (.slice none 0 0) = W7 at *
          obtain ⟨u0, u1, u2⟩ := G.out.all
          go_upto_region 13 with fail
          clear u0 u1 u2
          have Gx : Hid (Blk (W7.setCell ⟨gb, 7, none⟩ (.slice none 0 0)) gb 27 #[.string id, .int .i64 o, .slice none 0 0, .string pr, .int .i64 st, .slice a2 mv.length c2, .slice none 0 0, .slice none 0 0]) := Lib.hid (by simpa using G.out.set_ 7 (.slice none 0 0))
          have Kx := Lib.hid (K.out.far (p := ⟨gb, 7, none⟩) (Nat.ne_of_lt HGE.out.2.1) (.slice none 0 0))
          have Jx := Lib.hid (J.out.far (p := ⟨gb, 7, none⟩) (Nat.ne_of_lt HGE.out.2.2) (.slice none 0 0))
          have HBx := Lib.hid (HB.out.setCell (p := ⟨gb, 7, none⟩) HGE.out.1 (.slice none 0 0))
          clear G K J HB
          have G := Gx
          have K := Kx
          have J := Jx
          have HB := HBx
          clear Gx Kx Jx HBx
          generalize W7.setCell ⟨gb, 7, none⟩ (.slice none 0 0) = W8 at *
          have hc := HMV.out W8 HB.out
          have HC := Lib.hid hc
          clear hc
          obtain ⟨t0, t1, t2⟩ := K.out.all
          obtain ⟨s0, s1, s2⟩ := J.out.all
          go_wp2_with fail
          refine HC.out.mono ?_
          rintro e W9 ⟨p1, q1, p2, q2, p3, q3, p4, q4, v9, rfl, -, bz⟩
          clear t0 t1 t2 s0 s1 s2 HC
          have by_ := below_self_alloc W9 (.cells #[.string zi, .int .i64 zo, .slice p1 zc.length q1, .string zp, .int .i64 zs, .slice p2 zm.length q2, .slice p3 zr.length q3, .slice p4 zl.length q4] 27)
          have bw := bz.trans (by_.mono bz.size)
          have Kx := Lib.hid (K.out.below bw K.out.lt)
          clear K
          have K := Kx
          clear Kx
          have Jx := Lib.hid (J.out.below bw J.out.lt)
          clear J
          have J := Jx
          clear Jx
          have Gx := Lib.hid (G.out.below bw G.out.lt)
          clear G
          have G := Gx
          clear Gx
          have HBx := Lib.hid (HB.out.trans (bw.mono HB.out.size))
          clear HB
          have HB := HBx
          clear HBx
          clear by_ bw bz
          go_upto_region 14 with fail
          generalize W9.alloc (.cells #[.string zi, .int .i64 zo, .slice p1 zc.length q1, .string zp, .int .i64 zs, .slice p2 zm.length q2, .slice p3 zr.length q3, .slice p4 zl.length q4] 27) = W10 at *
          obtain ⟨Z2, hZ2⟩ : ∃ Z, moveM ⟨id, o, [], pr, st, mv, [], []⟩ ⟨pn, ss, ms⟩ s day = Z := ⟨_, rfl⟩
          have hs1 : Sml ⟨id, o, [], pr, st, mv, [], []⟩ := ⟨by simp, HS1.out.2.1, by simp, by simp⟩
          have hm1 : MtAt W10 w.heap.size ⟨id, o, [], pr, st, mv, [], []⟩ ⟨none, 0, a2, c2, none, 0, none, 0, []⟩ := by
            have h := HM.out.below HB.out
            exact ⟨fun i v h => by simp at h, h.mv, RtsAt.nil _ _ _, LmsAt.nil _ _ _, rfl, h.id, h.pr, fun r h => by simp at h⟩
          have hmv := move_any W10 w.heap.size ⟨id, o, [], pr, st, mv, [], []⟩ ⟨none, 0, a2, c2, none, 0, none, 0, []⟩ hm1 HB.out.size hs1 ⟨pn, ss, ms⟩ ⟨b1, e1, b2, e2⟩ (HP.out.below HB.out) HS2.out s day
          rw [HB1.out, hZ2] at hmv
          obtain ⟨zi, zo, zc, zp, zs, zm, zr, zl⟩ := Z2
          have hc : Calls Tryz.prog 19 #[.agg #[.string id, .int .i64 o, .slice none 0 0, .string pr, .int .i64 st, .slice a2 mv.length c2, .slice none 0 0, .slice none 0 0], .agg #[.string pn, .slice b1 ss.length e1, .slice b2 ms.length e2], .int .i64 s, .int .i64 day] W10 (Lit W10 F1 zi zo zc.length zp zs zm.length zr.length zl.length ⟨zi, zo, zc, zp, zs, zm, zr, zl⟩) := hmv.mono fun e w' h => lit_of h
          clear hmv hZ2 hs1 hm1
          have HC := Lib.hid hc
          clear hc
          obtain ⟨u0, u1, u2⟩ := G.out.all
          obtain ⟨s0, s1, s2⟩ := J.out.all
          go_wp2_with fail
          refine HC.out.mono ?_
          rintro e W11 ⟨p1, q1, p2, q2, p3, q3, p4, q4, v9, rfl, -, bz⟩
          clear u0 u1 u2 s0 s1 s2 HC
          have by_ := below_self_alloc W11 (.cells #[.string zi, .int .i64 zo, .slice p1 zc.length q1, .string zp, .int .i64 zs, .slice p2 zm.length q2, .slice p3 zr.length q3, .slice p4 zl.length q4] 27)
          have bw := bz.trans (by_.mono bz.size)
          have Kx := Lib.hid (K.out.below bw K.out.lt)
          clear K
          have K := Kx
          clear Kx
          have Jx := Lib.hid (J.out.below bw J.out.lt)
          clear J
          have J := Jx
          clear Jx
          have Gx := Lib.hid (G.out.below bw G.out.lt)
          clear G
          have G := Gx
          clear Gx
          have HBx := Lib.hid (HB.out.trans (bw.mono HB.out.size))
          clear HB
          have HB := HBx
          clear HBx
          clear by_ bw bz
          go_upto_region 15 with fail
          generalize W11.alloc (.cells #[.string zi, .int .i64 zo, .slice p1 zc.length q1, .string zp, .int .i64 zs, .slice p2 zm.length q2, .slice p3 zr.length q3, .slice p4 zl.length q4] 27) = W12 at *
          obtain ⟨t0, t1, t2⟩ := K.out.all
          have Gx : Hid (Blk (W12.setRow gb #[.string id, .int .i64 o, .slice a1 cs.length c1, .string pr, .int .i64 st, .slice a2 mv.length c2, .slice a3 rs.length c3, .slice a4 ls.length c4]) gb 27 #[.string id, .int .i64 o, .slice a1 cs.length c1, .string pr, .int .i64 st, .slice a2 mv.length c2, .slice a3 rs.length c3, .slice a4 ls.length c4]) := Lib.hid (setRow_heap W12 gb #[.string id, .int .i64 o, .slice none 0 0, .string pr, .int .i64 st, .slice a2 mv.length c2, .slice none 0 0, .slice none 0 0] #[.string id, .int .i64 o, .slice a1 cs.length c1, .string pr, .int .i64 st, .slice a2 mv.length c2, .slice a3 rs.length c3, .slice a4 ls.length c4] _ _ G.out)
          have Kx := Lib.hid ((only_setRow W12 gb #[.string id, .int .i64 o, .slice a1 cs.length c1, .string pr, .int .i64 st, .slice a2 mv.length c2, .slice a3 rs.length c3, .slice a4 ls.length c4]).blk K.out (Nat.ne_of_lt HGE.out.2.1))
          have Jx := Lib.hid ((only_setRow W12 gb #[.string id, .int .i64 o, .slice a1 cs.length c1, .string pr, .int .i64 st, .slice a2 mv.length c2, .slice a3 rs.length c3, .slice a4 ls.length c4]).blk J.out (Nat.ne_of_lt HGE.out.2.2))
          have HBx := Lib.hid (below_row HB.out HGE.out.1 #[.string id, .int .i64 o, .slice a1 cs.length c1, .string pr, .int .i64 st, .slice a2 mv.length c2, .slice a3 rs.length c3, .slice a4 ls.length c4])
          go_upto_region 16 with (refine wp_row rfl (.tmp 18) (.tmp 93) rfl gb #[.string id, .int .i64 o, .slice a1 cs.length c1, .string pr, .int .i64 st, .slice a2 mv.length c2, .slice a3 rs.length c3, .slice a4 ls.length c4] rfl rfl rfl one8 rfl G.out ?_)
          clear t0 t1 t2 G K J HB
          have G := Gx
          have K := Kx
          have J := Jx
          have HB := HBx
          clear Gx Kx Jx HBx
          generalize W12.setRow gb #[.string id, .int .i64 o, .slice a1 cs.length c1, .string pr, .int .i64 st, .slice a2 mv.length c2, .slice a3 rs.length c3, .slice a4 ls.length c4] = W13 at *
          obtain ⟨u0, u1, u2⟩ := G.out.all
          go_upto_region 17 with fail
          clear u0 u1 u2
          have Gx : Hid (Blk (W13.setCell ⟨gb, 2, none⟩ (.slice none 0 0)) gb 27 #[.string id, .int .i64 o, .slice none 0 0, .string pr, .int .i64 st, .slice a2 mv.length c2, .slice a3 rs.length c3, .slice a4 ls.length c4]) := Lib.hid (by simpa using G.out.set_ 2 (.slice none 0 0))
          have Kx := Lib.hid (K.out.far (p := ⟨gb, 2, none⟩) (Nat.ne_of_lt HGE.out.2.1) (.slice none 0 0))
          have Jx := Lib.hid (J.out.far (p := ⟨gb, 2, none⟩) (Nat.ne_of_lt HGE.out.2.2) (.slice none 0 0))
          have HBx := Lib.hid (HB.out.setCell (p := ⟨gb, 2, none⟩) HGE.out.1 (.slice none 0 0))
          clear G K J HB
          have G := Gx
          have K := Kx
          have J := Jx
          have HB := HBx
          clear Gx Kx Jx HBx
          generalize W13.setCell ⟨gb, 2, none⟩ (.slice none 0 0) = W14 at *
          obtain ⟨u0, u1, u2⟩ := G.out.all
          go_upto_region 18 with fail
          clear u0 u1 u2
          have Gx : Hid (Blk (W14.setCell ⟨gb, 5, none⟩ (.slice none 0 0)) gb 27 #[.string id, .int .i64 o, .slice none 0 0, .string pr, .int .i64 st, .slice none 0 0, .slice a3 rs.length c3, .slice a4 ls.length c4]) := Lib.hid (by simpa using G.out.set_ 5 (.slice none 0 0))
          have Kx := Lib.hid (K.out.far (p := ⟨gb, 5, none⟩) (Nat.ne_of_lt HGE.out.2.1) (.slice none 0 0))
          have Jx := Lib.hid (J.out.far (p := ⟨gb, 5, none⟩) (Nat.ne_of_lt HGE.out.2.2) (.slice none 0 0))
          have HBx := Lib.hid (HB.out.setCell (p := ⟨gb, 5, none⟩) HGE.out.1 (.slice none 0 0))
          clear G K J HB
          have G := Gx
          have K := Kx
          have J := Jx
          have HB := HBx
          clear Gx Kx Jx HBx
          generalize W14.setCell ⟨gb, 5, none⟩ (.slice none 0 0) = W15 at *
          obtain ⟨u0, u1, u2⟩ := G.out.all
          go_upto_region 19 with fail
          clear u0 u1 u2
          have Gx : Hid (Blk (W15.setCell ⟨gb, 7, none⟩ (.slice none 0 0)) gb 27 #[.string id, .int .i64 o, .slice none 0 0, .string pr, .int .i64 st, .slice none 0 0, .slice a3 rs.length c3, .slice none 0 0]) := Lib.hid (by simpa using G.out.set_ 7 (.slice none 0 0))
          have Kx := Lib.hid (K.out.far (p := ⟨gb, 7, none⟩) (Nat.ne_of_lt HGE.out.2.1) (.slice none 0 0))
          have Jx := Lib.hid (J.out.far (p := ⟨gb, 7, none⟩) (Nat.ne_of_lt HGE.out.2.2) (.slice none 0 0))
          have HBx := Lib.hid (HB.out.setCell (p := ⟨gb, 7, none⟩) HGE.out.1 (.slice none 0 0))
          clear G K J HB
          have G := Gx
          have K := Kx
          have J := Jx
          have HB := HBx
          clear Gx Kx Jx HBx
          generalize W15.setCell ⟨gb, 7, none⟩ (.slice none 0 0) = W16 at *
          obtain ⟨u0, u1, u2⟩ := G.out.all
          go_upto_region 20 with fail
          clear u0 u1 u2
          have Gx : Hid (Blk (W16.setCell ⟨gb, 4, none⟩ (.int .i64 0)) gb 27 #[.string id, .int .i64 o, .slice none 0 0, .string pr, .int .i64 0, .slice none 0 0, .slice a3 rs.length c3, .slice none 0 0]) := Lib.hid (by simpa using G.out.set_ 4 (.int .i64 0))
          have Kx := Lib.hid (K.out.far (p := ⟨gb, 4, none⟩) (Nat.ne_of_lt HGE.out.2.1) (.int .i64 0))
          have Jx := Lib.hid (J.out.far (p := ⟨gb, 4, none⟩) (Nat.ne_of_lt HGE.out.2.2) (.int .i64 0))
          have HBx := Lib.hid (HB.out.setCell (p := ⟨gb, 4, none⟩) HGE.out.1 (.int .i64 0))
          clear G K J HB
          have G := Gx
          have K := Kx
          have J := Jx
          have HB := HBx
          clear Gx Kx Jx HBx
          generalize W16.setCell ⟨gb, 4, none⟩ (.int .i64 0) = W17 at *
          have hc := HGR.out W17 HB.out
          have HC := Lib.hid hc
          clear hc
          obtain ⟨t0, t1, t2⟩ := K.out.all
          go_wp2_with fail
          refine HC.out.mono ?_
          rintro e W18 ⟨p1, q1, p2, q2, p3, q3, p4, q4, v9, rfl, -, bz⟩
          clear t0 t1 t2 HC
          have by_ := below_self_alloc W18 (.cells #[.string yi, .int .i64 yo, .slice p1 yc.length q1, .string yp, .int .i64 ys, .slice p2 ym.length q2, .slice p3 yr.length q3, .slice p4 yl.length q4] 27)
          have bw := bz.trans (by_.mono bz.size)
          have Kx := Lib.hid (K.out.below bw K.out.lt)
          clear K
          have K := Kx
          clear Kx
          have Jx := Lib.hid (J.out.below bw J.out.lt)
          clear J
          have J := Jx
          clear Jx
          have Gx := Lib.hid (G.out.below bw G.out.lt)
          clear G
          have G := Gx
          clear Gx
          have HBx := Lib.hid (HB.out.trans (bw.mono HB.out.size))
          clear HB
          have HB := HBx
          clear HBx
          clear by_ bw bz
          go_upto_region 21 with fail
          generalize W18.alloc (.cells #[.string yi, .int .i64 yo, .slice p1 yc.length q1, .string yp, .int .i64 ys, .slice p2 ym.length q2, .slice p3 yr.length q3, .slice p4 yl.length q4] 27) = W19 at *
          obtain ⟨Z4, hZ4⟩ : ∃ Z, grantM ⟨id, o, [], pr, 0, [], rs, []⟩ name day = Z := ⟨_, rfl⟩
          have hs1 : Sml ⟨id, o, [], pr, 0, [], rs, []⟩ := ⟨by simp, by simp, HS1.out.2.2.1, by simp⟩
          have hm1 : MtAt W19 w.heap.size ⟨id, o, [], pr, 0, [], rs, []⟩ ⟨none, 0, none, 0, a3, c3, none, 0, []⟩ := by
            have h := HM.out.below HB.out
            exact ⟨fun i v h => by simp at h, fun i v h => by simp at h, h.rs, LmsAt.nil _ _ _, rfl, h.id, h.pr, h.rn⟩
          have hgr := grant_any W19 w.heap.size ⟨id, o, [], pr, 0, [], rs, []⟩ ⟨none, 0, none, 0, a3, c3, none, 0, []⟩ hm1 HB.out.size hs1 name HN.out day
          rw [HB2.out, hZ4] at hgr
          obtain ⟨zi, zo, zc, zp, zs, zm, zr, zl⟩ := Z4
          have hc : Calls Tryz.prog 17 #[.agg #[.string id, .int .i64 o, .slice none 0 0, .string pr, .int .i64 0, .slice none 0 0, .slice a3 rs.length c3, .slice none 0 0], .string name, .int .i64 day] W19 (Lit W19 F3 zi zo zc.length zp zs zm.length zr.length zl.length ⟨zi, zo, zc, zp, zs, zm, zr, zl⟩) := hgr.mono fun e w' h => lit_of h
          clear hgr hZ4 hs1 hm1
          have HC := Lib.hid hc
          clear hc
          obtain ⟨u0, u1, u2⟩ := G.out.all
          go_wp2_with fail
          refine HC.out.mono ?_
          rintro e W20 ⟨p1, q1, p2, q2, p3, q3, p4, q4, v9, rfl, -, bz⟩
          clear u0 u1 u2 HC
          have by_ := below_self_alloc W20 (.cells #[.string zi, .int .i64 zo, .slice p1 zc.length q1, .string zp, .int .i64 zs, .slice p2 zm.length q2, .slice p3 zr.length q3, .slice p4 zl.length q4] 27)
          have bw := bz.trans (by_.mono bz.size)
          have Kx := Lib.hid (K.out.below bw K.out.lt)
          clear K
          have K := Kx
          clear Kx
          have Jx := Lib.hid (J.out.below bw J.out.lt)
          clear J
          have J := Jx
          clear Jx
          have Gx := Lib.hid (G.out.below bw G.out.lt)
          clear G
          have G := Gx
          clear Gx
          have HBx := Lib.hid (HB.out.trans (bw.mono HB.out.size))
          clear HB
          have HB := HBx
          clear HBx
          clear by_ bw bz
          go_upto_region 22 with fail
          generalize W20.alloc (.cells #[.string zi, .int .i64 zo, .slice p1 zc.length q1, .string zp, .int .i64 zs, .slice p2 zm.length q2, .slice p3 zr.length q3, .slice p4 zl.length q4] 27) = W21 at *
          go_wp2
          go_ret
          exact ⟨rfl, HB.out⟩
end Go.Proofs.YtgfahifdmacmhaaGreatDoor
