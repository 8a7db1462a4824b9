/- MatterTexts: the law's walk. -/
import Derived.Test.YtgfahifdmacmhaaGreatDoorZYa
namespace Go.Proofs.YtgfahifdmacmhaaGreatDoor
open Go.RowKit Go.Shelf

theorem text_len {m : Mt} (h : fmB m = true) : (textL m).length ≤ 1000000 := by
  obtain ⟨f1, f2, f3, f4, f5, f6, f7, f8, f9, f10⟩ := fmB_iff.1 h
  have h9 := difB_iff.1 f9
  have h10 := difB_iff.1 f10
  have hid := name_len f1
  have hpl := name_len f2
  have ho := isB_wf f3
  have hil := itoa_len ho.1 ho.2
  have l1 := lineL_len (f := headL m) (l := [m.st]) (by intro n hn; rw [List.mem_singleton] at hn; subst hn; exact ⟨by omega, by omega⟩)
  have l2 := lineL_len (f := caseL) (l := m.cs) (fun n hn => isB_wf (f5 n hn))
  have l3 := lineL_len (f := movedL) (l := m.mv) (upB_wf m.mv m.o (((isB_iff _).1 f3).1) f7)
  have l4 := rtsL_len m.rs h9.1
  have l5 := lmsL_len m.ls h10.1
  have e1 : (headL m).length = 7 + ((sL m.id).length + (1 + ((Lib.itoa m.o).length + (1 + (sL m.pr).length)))) := by simp only [headL, List.length_append, List.length_cons, mattL]; simp; omega
  have e2 : caseL.length = 4 := rfl
  have e3 : movedL.length = 5 := rfl
  have h9l := h9.2.2
  have h10l := h10.2.2
  simp only [List.length_cons, List.length_nil] at l1
  unfold textL
  simp only [List.length_append]
  omega

set_option maxRecDepth 100000 in
set_option maxHeartbeats 8000000 in
theorem texts_walk (w : World) (ht : Tbs w) (z : Mt × MtX) (h : MtIn w z) (z2 : Mt × MtX) (h2 : MtIn w z2) (text : ByteArray) (_htext : text.size ≤ 9223372036854775807) :
    Calls Tryz.prog 4 #[.agg (mtC z.1 z.2), .agg (mtC z2.1 z2.2), .string text] w fun e w' => e = .returned (.bool true) ∧ Below w.heap.size w w' := by
  obtain ⟨m, x⟩ := z
  obtain ⟨n, y⟩ := z2
  obtain ⟨hm, l1, l2, l3, l4, -, -⟩ := h
  obtain ⟨hn, j1, j2, j3, j4, -, -⟩ := h2
  simp only at hm l1 l2 l3 l4 hn j1 j2 j3 j4 ⊢
  have HM := Lib.hid hm
  have HN := Lib.hid hn
  have HT := Lib.hid ht
  clear ht hm hn
  have hfew1 := fun W (hW : Below w.heap.size w W) => few_any W w.heap.size m x (HM.out.below hW) hW.size l1 l2 l3 l4
  have hfew2 := fun W (hW : Below w.heap.size w W) => few_any W w.heap.size n y (HN.out.below hW) hW.size j1 j2 j3 j4
  have htx1 := fun W (hW : Below w.heap.size w W) (hs : Sml m) => text_any W (HT.out.below hW) w.heap.size m x (HM.out.below hW) hW.size hs
  have htx2 := fun W (hW : Below w.heap.size w W) (hs : Sml n) => text_any W (HT.out.below hW) w.heap.size n y (HN.out.below hW) hW.size hs
  have HFEW1 := Lib.hid hfew1
  have HFEW2 := Lib.hid hfew2
  have HTX1 := Lib.hid htx1
  have HTX2 := Lib.hid htx2
  clear hfew1 hfew2 htx1 htx2 l1 l2 l3 l4 j1 j2 j3 j4
  obtain ⟨id, o, cs, pr, st, mv, rs, ls⟩ := m
  obtain ⟨a1, c1, a2, c2, a3, c3, a4, c4, lv⟩ := x
  obtain ⟨id2, o2, cs2, pr2, st2, mv2, rs2, ls2⟩ := n
  obtain ⟨b1, e1, b2, e2, b3, e3, b4, e4, lv2⟩ := y
  show Calls Tryz.prog 4 #[.agg #[.string id, .int .i64 o, .slice a1 cs.length c1, .string pr, .int .i64 st, .slice a2 mv.length c2, .slice a3 rs.length c3, .slice a4 ls.length c4], .agg #[.string id2, .int .i64 o2, .slice b1 cs2.length e1, .string pr2, .int .i64 st2, .slice b2 mv2.length e2, .slice b3 rs2.length e3, .slice b4 ls2.length e4], .string text] w _
  have hb := (below_self_alloc w (.cells #[.string id, .int .i64 o, .slice a1 cs.length c1, .string pr, .int .i64 st, .slice a2 mv.length c2, .slice a3 rs.length c3, .slice a4 ls.length c4] 27)).alloc (by simp) (.cells #[.string id2, .int .i64 o2, .slice b1 cs2.length e1, .string pr2, .int .i64 st2, .slice b2 mv2.length e2, .slice b3 rs2.length e3, .slice b4 ls2.length e4] 27)
  have k0 := (Blk.new w 27 #[.string id, .int .i64 o, .slice a1 cs.length c1, .string pr, .int .i64 st, .slice a2 mv.length c2, .slice a3 rs.length c3, .slice a4 ls.length c4]).alloc (.cells #[.string id2, .int .i64 o2, .slice b1 cs2.length e1, .string pr2, .int .i64 st2, .slice b2 mv2.length e2, .slice b3 rs2.length e3, .slice b4 ls2.length e4] 27)
  have j0 := Blk.new1 w (.cells #[.string id, .int .i64 o, .slice a1 cs.length c1, .string pr, .int .i64 st, .slice a2 mv.length c2, .slice a3 rs.length c3, .slice a4 ls.length c4] 27) 27 #[.string id2, .int .i64 o2, .slice b1 cs2.length e1, .string pr2, .int .i64 st2, .slice b2 mv2.length e2, .slice b3 rs2.length e3, .slice b4 ls2.length e4]
  have hc := head_any ((w.alloc (.cells #[.string id, .int .i64 o, .slice a1 cs.length c1, .string pr, .int .i64 st, .slice a2 mv.length c2, .slice a3 rs.length c3, .slice a4 ls.length c4] 27)).alloc (.cells #[.string id2, .int .i64 o2, .slice b1 cs2.length e1, .string pr2, .int .i64 st2, .slice b2 mv2.length e2, .slice b3 rs2.length e3, .slice b4 ls2.length e4] 27)) (HT.out.below hb)
  have HC := Lib.hid hc
  clear hc
  go_enter Tryz.func4, Tryz.ntmps4
  go_wp2_with fail
  refine HC.out.mono ?_
  rintro e W1 ⟨rfl, bz⟩
  have HB := Lib.hid (hb.trans (bz.mono hb.size))
  have K := Lib.hid (k0.below bz k0.lt)
  have J := Lib.hid (j0.below bz j0.lt)
  clear bz k0 j0 hb HC
  have hc : Calls Tryz.prog 10 #[.agg #[.string id, .int .i64 o, .slice a1 cs.length c1, .string pr, .int .i64 st, .slice a2 mv.length c2, .slice a3 rs.length c3, .slice a4 ls.length c4]] W1 _ := HFEW1.out W1 HB.out
  have HC := Lib.hid hc
  clear hc
  obtain ⟨t0, t1, t2⟩ := K.out.all
  obtain ⟨s0, s1, s2⟩ := J.out.all
  go_wp2_with fail
  refine HC.out.mono ?_
  rintro e W2 ⟨q1, rfl, hq1, bz⟩
  clear t0 t1 t2 s0 s1 s2 HC
  have HBx := Lib.hid (HB.out.trans (bz.mono HB.out.size))
  have Kx := Lib.hid (K.out.below bz K.out.lt)
  have Jx := Lib.hid (J.out.below bz J.out.lt)
  clear HB K J
  have HB := HBx
  have K := Kx
  have J := Jx
  clear HBx Kx Jx
  clear bz HFEW1
  cases q1 with
  | false =>
    go_wp2
    go_ret
    exact ⟨rfl, HB.out⟩
  | true =>
    have HS1 := Lib.hid (hq1 rfl).sml
    clear hq1
    have hc : Calls Tryz.prog 10 #[.agg #[.string id2, .int .i64 o2, .slice b1 cs2.length e1, .string pr2, .int .i64 st2, .slice b2 mv2.length e2, .slice b3 rs2.length e3, .slice b4 ls2.length e4]] W2 _ := HFEW2.out W2 HB.out
    have HC := Lib.hid hc
    clear hc
    obtain ⟨t0, t1, t2⟩ := K.out.all
    obtain ⟨s0, s1, s2⟩ := J.out.all
    go_wp2_with fail
    refine HC.out.mono ?_
    rintro e W3 ⟨q2, rfl, hq2, bz⟩
    clear t0 t1 t2 s0 s1 s2 HC
    have HBx := Lib.hid (HB.out.trans (bz.mono HB.out.size))
    have Kx := Lib.hid (K.out.below bz K.out.lt)
    have Jx := Lib.hid (J.out.below bz J.out.lt)
    clear HB K J
    have HB := HBx
    have K := Kx
    have J := Jx
    clear HBx Kx Jx
    clear bz HFEW2
    cases q2 with
    | false =>
      go_wp2
      go_ret
      exact ⟨rfl, HB.out⟩
    | true =>
      have HS2 := Lib.hid (hq2 rfl).sml
      clear hq2
      by_cases hsz : (6000 : Int) < (text.size : Int)
      case pos =>
        have d6 : decide ((6000 : Int) < (text.size : Int)) = true := decide_eq_true hsz
        go_wp2
        go_ret
        exact ⟨rfl, HB.out⟩
      case neg =>
        have d6 : decide ((6000 : Int) < (text.size : Int)) = false := decide_eq_false hsz
        have htl : text.data.toList.length ≤ 6000 := by have e : text.data.toList.length = text.size := rfl; omega
        have HTL := Lib.hid htl
        clear htl
        obtain ⟨S1, hS1⟩ : ∃ s, bs (if fmB ⟨id, o, cs, pr, st, mv, rs, ls⟩ then textL ⟨id, o, cs, pr, st, mv, rs, ls⟩ else []) = s := ⟨_, rfl⟩
        obtain ⟨E1, hE1⟩ : ∃ e : Int, (if fmB ⟨id, o, cs, pr, st, mv, rs, ls⟩ then (0 : Int) else 1) = e := ⟨_, rfl⟩
        obtain ⟨S2, hS2⟩ : ∃ s, bs (if fmB ⟨id2, o2, cs2, pr2, st2, mv2, rs2, ls2⟩ then textL ⟨id2, o2, cs2, pr2, st2, mv2, rs2, ls2⟩ else []) = s := ⟨_, rfl⟩
        obtain ⟨E2, hE2⟩ : ∃ e : Int, (if fmB ⟨id2, o2, cs2, pr2, st2, mv2, rs2, ls2⟩ then (0 : Int) else 1) = e := ⟨_, rfl⟩
        have hc0 := HTX1.out W3 HB.out HS1.out
        unfold TextPost at hc0
        rw [hS1, hE1] at hc0
        have hc : Calls Tryz.prog 11 #[.agg #[.string id, .int .i64 o, .slice a1 cs.length c1, .string pr, .int .i64 st, .slice a2 mv.length c2, .slice a3 rs.length c3, .slice a4 ls.length c4]] W3 _ := hc0
        have HG1 := Lib.hid hS1
        have HG2 := Lib.hid hE1
        have HG3 := Lib.hid hS2
        have HG4 := Lib.hid hE2
        clear hS1 hE1 hS2 hE2 hc0
        have HC := Lib.hid hc
        clear hc
        obtain ⟨t0, t1, t2⟩ := K.out.all
        obtain ⟨s0, s1, s2⟩ := J.out.all
        go_wp2_with fail
        refine HC.out.mono ?_
        rintro e W4 ⟨rfl, bz⟩
        clear t0 t1 t2 s0 s1 s2 HC
        have HBx := Lib.hid (HB.out.trans (bz.mono HB.out.size))
        have Kx := Lib.hid (K.out.below bz K.out.lt)
        have Jx := Lib.hid (J.out.below bz J.out.lt)
        clear HB K J
        have HB := HBx
        have K := Kx
        have J := Jx
        clear HBx Kx Jx
        clear bz hsz d6
        have hc0 := HTX2.out W4 HB.out HS2.out
        unfold TextPost at hc0
        rw [HG3.out, HG4.out] at hc0
        have hc : Calls Tryz.prog 11 #[.agg #[.string id2, .int .i64 o2, .slice b1 cs2.length e1, .string pr2, .int .i64 st2, .slice b2 mv2.length e2, .slice b3 rs2.length e3, .slice b4 ls2.length e4]] W4 _ := hc0
        clear hc0
        have HC := Lib.hid hc
        clear hc
        obtain ⟨t0, t1, t2⟩ := K.out.all
        obtain ⟨s0, s1, s2⟩ := J.out.all
        go_wp2_with fail
        refine HC.out.mono ?_
        rintro e W5 ⟨rfl, bz⟩
        clear t0 t1 t2 s0 s1 s2 HC
        have HBx := Lib.hid (HB.out.trans (bz.mono HB.out.size))
        have Kx := Lib.hid (K.out.below bz K.out.lt)
        have Jx := Lib.hid (J.out.below bz J.out.lt)
        clear HB K J
        have HB := HBx
        have K := Kx
        have J := Jx
        clear HBx Kx Jx
        clear bz HTX1 HTX2
        go_upto_if 44 with fail
        go_cut [] (fun wx => Hid (Below W5.heap.size W5 wx))
        case first =>
          cases hfm : fmB ⟨id, o, cs, pr, st, mv, rs, ls⟩ with
          | false =>
            obtain rfl : 1 = E1 := by have := HG2.out; rw [hfm] at this; exact this
            clear hfm
            go_wp2
            go_meet
            exact Lib.hid (Below.refl _ _)
          | true =>
            obtain rfl : 0 = E1 := by have := HG2.out; rw [hfm] at this; exact this
            have hs1 : bs (textL ⟨id, o, cs, pr, st, mv, rs, ls⟩) = S1 := by have := HG1.out; rw [hfm] at this; exact this
            have hpt := parse_text hfm
            have hpa := parse_any W5 (HT.out.below HB.out) (textL ⟨id, o, cs, pr, st, mv, rs, ls⟩) (text_len hfm) 0 ⟨id, o, cs, pr, st, mv, rs, ls⟩ ⟨fun _ => ⟨rfl, hpt.2.symm⟩, (fun h => by rw [hpt.1] at h; cases h)⟩
            have hc0 := hpa.mono (R' := Lit W5 0 id o cs.length pr st mv.length rs.length ls.length ⟨id, o, cs, pr, st, mv, rs, ls⟩) fun e w' h => lit_of h
            rw [hs1] at hc0
            have HFM := Lib.hid hfm
            have HS := Lib.hid hs1
            have HC := Lib.hid hc0
            clear hpt hpa hc0 hfm hs1
            go_wp2_with fail
            refine HC.out.mono ?_
            rintro e W6 ⟨p1, q1, p2, q2, p3, q3, p4, q4, v9, rfl, hr, bz⟩
            have by_ := below_self_alloc W6 (.cells #[.string id, .int .i64 o, .slice p1 cs.length q1, .string pr, .int .i64 st, .slice p2 mv.length q2, .slice p3 rs.length q3, .slice p4 ls.length q4] 27)
            have kn := Blk.new W6 27 #[.string id, .int .i64 o, .slice p1 cs.length q1, .string pr, .int .i64 st, .slice p2 mv.length q2, .slice p3 rs.length q3, .slice p4 ls.length q4]
            have bw := bz.trans (by_.mono bz.size)
            have HBW := Lib.hid bw
            have K7 := Lib.hid (K.out.below bw K.out.lt)
            have J7 := Lib.hid (J.out.below bw J.out.lt)
            have KN := Lib.hid kn
            have HR := Lib.hid ((hr.below by_).wide by_.size)
            have HM7 := Lib.hid ((HM.out.below (HB.out.trans (bw.mono HB.out.size))).wide (Nat.le_trans HB.out.size bw.size))
            have HN7 := Lib.hid ((HN.out.below (HB.out.trans (bw.mono HB.out.size))).wide (Nat.le_trans HB.out.size bw.size))
            clear by_ kn bw hr bz HC
            go_upto_region 8 with fail
            generalize W6.alloc (.cells #[.string id, .int .i64 o, .slice p1 cs.length q1, .string pr, .int .i64 st, .slice p2 mv.length q2, .slice p3 rs.length q3, .slice p4 ls.length q4] 27) = W7 at *
            generalize W6.heap.size = gn at *
            have hc : Calls Tryz.prog 15 #[.agg #[.string id, .int .i64 o, .slice p1 cs.length q1, .string pr, .int .i64 st, .slice p2 mv.length q2, .slice p3 rs.length q3, .slice p4 ls.length q4], .agg #[.string id, .int .i64 o, .slice a1 cs.length c1, .string pr, .int .i64 st, .slice a2 mv.length c2, .slice a3 rs.length c3, .slice a4 ls.length c4]] W7 fun e w' => e = .returned (.bool true) ∧ Below W7.heap.size W7 w' := rsame_any W7 W7.heap.size ⟨id, o, cs, pr, st, mv, rs, ls⟩ ⟨id, o, cs, pr, st, mv, rs, ls⟩ ⟨p1, q1, p2, q2, p3, q3, p4, q4, v9⟩ ⟨a1, c1, a2, c2, a3, c3, a4, c4, lv⟩ HR.out HM7.out (Nat.le_refl _) HS1.out HS1.out true (by simp)
            have HC := Lib.hid hc
            clear hc
            obtain ⟨t0, t1, t2⟩ := K7.out.all
            obtain ⟨u0, u1, u2⟩ := KN.out.all
            go_wp2_with fail
            refine HC.out.mono ?_
            rintro e W8 ⟨rfl, bz⟩
            have HB8 := Lib.hid (HBW.out.trans (bz.mono HBW.out.size))
            have K8 := Lib.hid (K7.out.below bz K7.out.lt)
            have J8 := Lib.hid (J7.out.below bz J7.out.lt)
            have HM8 := Lib.hid ((HM7.out.below bz).wide bz.size)
            have HN8 := Lib.hid ((HN7.out.below bz).wide bz.size)
            clear bz t0 t1 t2 u0 u1 u2 K7 J7 KN HR HM7 HN7 HC HBW
            cases hfn : fmB ⟨id2, o2, cs2, pr2, st2, mv2, rs2, ls2⟩ with
            | false =>
              obtain rfl : 1 = E2 := by have := HG4.out; rw [hfn] at this; exact this
              clear hfn
              go_wp2
              go_meet
              exact HB8
            | true =>
              obtain rfl : 0 = E2 := by have := HG4.out; rw [hfn] at this; exact this
              have hs2 : bs (textL ⟨id2, o2, cs2, pr2, st2, mv2, rs2, ls2⟩) = S2 := by have := HG3.out; rw [hfn] at this; exact this
              obtain ⟨t0, t1, t2⟩ := K8.out.all
              obtain ⟨s0, s1, s2⟩ := J8.out.all
              by_cases heq : (⟨id, o, cs, pr, st, mv, rs, ls⟩ : Mt) = ⟨id2, o2, cs2, pr2, st2, mv2, rs2, ls2⟩
              · have hc : Calls Tryz.prog 15 #[.agg #[.string id, .int .i64 o, .slice a1 cs.length c1, .string pr, .int .i64 st, .slice a2 mv.length c2, .slice a3 rs.length c3, .slice a4 ls.length c4], .agg #[.string id2, .int .i64 o2, .slice b1 cs2.length e1, .string pr2, .int .i64 st2, .slice b2 mv2.length e2, .slice b3 rs2.length e3, .slice b4 ls2.length e4]] W8 fun e w' => e = .returned (.bool true) ∧ Below W8.heap.size W8 w' := rsame_any W8 W8.heap.size ⟨id, o, cs, pr, st, mv, rs, ls⟩ ⟨id2, o2, cs2, pr2, st2, mv2, rs2, ls2⟩ ⟨a1, c1, a2, c2, a3, c3, a4, c4, lv⟩ ⟨b1, e1, b2, e2, b3, e3, b4, e4, lv2⟩ HM8.out HN8.out (Nat.le_refl _) HS1.out HS2.out true (by simp [heq])
                have hss : S1 = S2 := by rw [← hs2, ← HS.out, heq]
                subst hss
                have HC := Lib.hid hc
                clear hc heq hs2 hfn
                go_wp2_with fail
                refine HC.out.mono ?_
                rintro e W9 ⟨rfl, bz⟩
                have HB9 := Lib.hid (HB8.out.trans (bz.mono HB8.out.size))
                clear bz
                go_wp2
                go_meet
                exact HB9
              · have hc : Calls Tryz.prog 15 #[.agg #[.string id, .int .i64 o, .slice a1 cs.length c1, .string pr, .int .i64 st, .slice a2 mv.length c2, .slice a3 rs.length c3, .slice a4 ls.length c4], .agg #[.string id2, .int .i64 o2, .slice b1 cs2.length e1, .string pr2, .int .i64 st2, .slice b2 mv2.length e2, .slice b3 rs2.length e3, .slice b4 ls2.length e4]] W8 fun e w' => e = .returned (.bool false) ∧ Below W8.heap.size W8 w' := rsame_any W8 W8.heap.size ⟨id, o, cs, pr, st, mv, rs, ls⟩ ⟨id2, o2, cs2, pr2, st2, mv2, rs2, ls2⟩ ⟨a1, c1, a2, c2, a3, c3, a4, c4, lv⟩ ⟨b1, e1, b2, e2, b3, e3, b4, e4, lv2⟩ HM8.out HN8.out (Nat.le_refl _) HS1.out HS2.out false (by simp only [Bool.false_eq_true, false_iff]; exact heq)
                have hss : (S1.toList == S2.toList) = false := by
                  rw [← hs2, ← HS.out]
                  exact beq_bs fun e => heq (text_inj HFM.out hfn e)
                have HC := Lib.hid hc
                clear hc heq hs2 hfn
                go_wp2_with fail
                refine HC.out.mono ?_
                rintro e W9 ⟨rfl, bz⟩
                have HB9 := Lib.hid (HB8.out.trans (bz.mono HB8.out.size))
                clear bz
                go_wp2
                go_meet
                exact HB9
        case rest =>
          have HB6 := Lib.hid (HB.out.trans (hcut.out.mono HB.out.size))
          clear hcut HB K J HS1 HS2 HG1 HG2 HG3 HG4 HM HN
          obtain ⟨W6, rfl⟩ : ∃ q, q = wc := ⟨wc, rfl⟩
          have hbt : bs text.data.toList = text := rfl
          cases hp : parseOk text.data.toList with
          | false =>
            have hpa := parse_any W6 (HT.out.below HB6.out) text.data.toList (by have := HTL.out; omega) 5 Mt.zero ⟨(fun h => by rw [hp] at h; cases h), fun _ => ⟨rfl, rfl⟩⟩
            rw [hbt] at hpa
            have hc0 := hpa.mono (R' := Lit W6 5 ⟨#[]⟩ 0 0 ⟨#[]⟩ 0 0 0 0 Mt.zero) fun e w' h => lit_of h
            have HC := Lib.hid hc0
            clear hpa hc0 hp hbt
            go_wp2_with fail
            refine HC.out.mono ?_
            rintro e W7 ⟨p1, q1, p2, q2, p3, q3, p4, q4, v9, rfl, hr, bz⟩
            have by_ := below_self_alloc W7 (.cells #[.string ⟨#[]⟩, .int .i64 0, .slice p1 0 q1, .string ⟨#[]⟩, .int .i64 0, .slice p2 0 q2, .slice p3 0 q3, .slice p4 0 q4] 27)
            have kn := Blk.new W7 27 #[.string ⟨#[]⟩, .int .i64 0, .slice p1 0 q1, .string ⟨#[]⟩, .int .i64 0, .slice p2 0 q2, .slice p3 0 q3, .slice p4 0 q4]
            have bw := bz.trans (by_.mono bz.size)
            have HB8 := Lib.hid (HB6.out.trans (bw.mono HB6.out.size))
            have KN := Lib.hid kn
            have HR := Lib.hid ((hr.below by_).wide by_.size)
            clear by_ kn bw hr bz HC HB6
            go_upto_region 11 with fail
            generalize W7.alloc (.cells #[.string ⟨#[]⟩, .int .i64 0, .slice p1 0 q1, .string ⟨#[]⟩, .int .i64 0, .slice p2 0 q2, .slice p3 0 q3, .slice p4 0 q4] 27) = W8 at *
            generalize W7.heap.size = gn at *
            have hsz : Sml Mt.zero := by unfold Sml; decide
            have hc : Calls Tryz.prog 15 #[.agg #[.string ⟨#[]⟩, .int .i64 0, .slice p1 0 q1, .string ⟨#[]⟩, .int .i64 0, .slice p2 0 q2, .slice p3 0 q3, .slice p4 0 q4], .agg #[.string ⟨#[]⟩, .int .i64 0, .slice none 0 0, .string ⟨#[]⟩, .int .i64 0, .slice none 0 0, .slice none 0 0, .slice none 0 0]] W8 fun e w' => e = .returned (.bool true) ∧ Below W8.heap.size W8 w' := rsame_any W8 W8.heap.size Mt.zero Mt.zero ⟨p1, q1, p2, q2, p3, q3, p4, q4, v9⟩ xz HR.out (mt_zero _ _) (Nat.le_refl _) hsz hsz true (by simp)
            have HC := Lib.hid hc
            clear hc hsz
            obtain ⟨u0, u1, u2⟩ := KN.out.all
            go_wp2_with fail
            refine HC.out.mono ?_
            rintro e W9 ⟨rfl, bz⟩
            have HB9 := Lib.hid (HB8.out.trans (bz.mono HB8.out.size))
            clear bz
            go_wp2
            go_ret
            exact ⟨rfl, HB9.out⟩
          | true =>
            obtain ⟨-, hf, htx⟩ := parse_some hp
            obtain ⟨LM, hLM⟩ : ∃ l, looseM text.data.toList = l := ⟨_, rfl⟩
            have hpa := parse_any W6 (HT.out.below HB6.out) text.data.toList (by have := HTL.out; omega) 0 LM ⟨fun _ => ⟨rfl, hLM.symm⟩, (fun h => by rw [hp] at h; cases h)⟩
            rw [hbt] at hpa
            rw [hLM] at hf htx
            obtain ⟨i3, o3, cs3, pr3, st3, mv3, rs3, ls3⟩ := LM
            have hc0 := hpa.mono (R' := Lit W6 0 i3 o3 cs3.length pr3 st3 mv3.length rs3.length ls3.length ⟨i3, o3, cs3, pr3, st3, mv3, rs3, ls3⟩) fun e w' h => lit_of h
            have HC := Lib.hid hc0
            have HF := Lib.hid hf
            have HX := Lib.hid htx
            clear hpa hc0 hp hf htx hLM
            go_wp2_with fail
            refine HC.out.mono ?_
            rintro e W7 ⟨p1, q1, p2, q2, p3, q3, p4, q4, v9, rfl, hr, bz⟩
            have by_ := below_self_alloc W7 (.cells #[.string i3, .int .i64 o3, .slice p1 cs3.length q1, .string pr3, .int .i64 st3, .slice p2 mv3.length q2, .slice p3 rs3.length q3, .slice p4 ls3.length q4] 27)
            have kn := Blk.new W7 27 #[.string i3, .int .i64 o3, .slice p1 cs3.length q1, .string pr3, .int .i64 st3, .slice p2 mv3.length q2, .slice p3 rs3.length q3, .slice p4 ls3.length q4]
            have bw := bz.trans (by_.mono bz.size)
            have HB8 := Lib.hid (HB6.out.trans (bw.mono HB6.out.size))
            have KN := Lib.hid kn
            have HR := Lib.hid ((hr.below by_).wide by_.size)
            clear by_ kn bw hr bz HC HB6
            go_upto_region 11 with fail
            generalize W7.alloc (.cells #[.string i3, .int .i64 o3, .slice p1 cs3.length q1, .string pr3, .int .i64 st3, .slice p2 mv3.length q2, .slice p3 rs3.length q3, .slice p4 ls3.length q4] 27) = W8 at *
            generalize W7.heap.size = gn at *
            have hfi := fmB_iff.1 HF.out
            simp only at hfi
            have hsm : Sml ⟨i3, o3, cs3, pr3, st3, mv3, rs3, ls3⟩ := ⟨by have := hfi.2.2.2.2.2.1; show cs3.length ≤ _; omega, by have := hfi.2.2.2.2.2.2.2.1; show mv3.length ≤ _; omega, by have := (difB_iff.1 hfi.2.2.2.2.2.2.2.2.1).2.2; show rs3.length ≤ _; omega, by have := (difB_iff.1 hfi.2.2.2.2.2.2.2.2.2).2.2; show ls3.length ≤ _; omega⟩
            have hc0 := text_any W8 (HT.out.below HB8.out) W8.heap.size ⟨i3, o3, cs3, pr3, st3, mv3, rs3, ls3⟩ ⟨p1, q1, p2, q2, p3, q3, p4, q4, v9⟩ HR.out (Nat.le_refl _) hsm
            unfold TextPost at hc0
            rw [HF.out, HX.out] at hc0
            have hc : Calls Tryz.prog 11 #[.agg #[.string i3, .int .i64 o3, .slice p1 cs3.length q1, .string pr3, .int .i64 st3, .slice p2 mv3.length q2, .slice p3 rs3.length q3, .slice p4 ls3.length q4]] W8 fun e w' => e = .returned (.tuple #[.string text, .int .i64 0]) ∧ Below W8.heap.size W8 w' := hc0
            have HC := Lib.hid hc
            clear hc hc0 hfi hsm hbt
            obtain ⟨u0, u1, u2⟩ := KN.out.all
            go_wp2_with fail
            refine HC.out.mono ?_
            rintro e W9 ⟨rfl, bz⟩
            have HB9 := Lib.hid (HB8.out.trans (bz.mono HB8.out.size))
            clear bz
            go_wp2
            go_ret
            exact ⟨rfl, HB9.out⟩
end Go.Proofs.YtgfahifdmacmhaaGreatDoor
