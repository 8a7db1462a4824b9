/- MatterTextsMatchReference: the law's walk. -/
import Derived.Test.YtgfahifdmacmhaaGreatDoorZTWt
import Derived.Test.YtgfahifdmacmhaaGreatDoorZTGC
import Derived.Test.YtgfahifdmacmhaaGreatDoorZTYt
namespace Go.Proofs.YtgfahifdmacmhaaGreatDoor
open Go.RowKit Go.Shelf

theorem ez_of (t : List UInt8) : ∃ (E : Int) (Z : Mt), ((parseOk t = true → E = 0 ∧ Z = looseM t) ∧ (parseOk t = false → E = 5 ∧ Z = Mt.zero)) ∧ Sml Z := by
  cases hp : parseOk t with
  | false => exact ⟨5, Mt.zero, ⟨(fun h => by cases h), fun _ => ⟨rfl, rfl⟩⟩, by unfold Sml; decide⟩
  | true =>
    refine ⟨0, looseM t, ⟨fun _ => ⟨rfl, rfl⟩, (fun h => by cases h)⟩, ?_⟩
    obtain ⟨-, hf, -⟩ := parse_some hp
    have h := fmB_iff.1 hf
    exact ⟨by have := h.2.2.2.2.2.1; omega, by have := h.2.2.2.2.2.2.2.1; omega, by have := (difB_iff.1 h.2.2.2.2.2.2.2.2.1).2.2; omega, by have := (difB_iff.1 h.2.2.2.2.2.2.2.2.2).2.2; omega⟩
set_option maxRecDepth 100000 in
set_option maxHeartbeats 8000000 in
theorem textsref_walk (w : World) (ht : Tbs w) (z : Mt × MtX) (h : MtIn2 w z) (text : ByteArray) (_htext : text.size ≤ 9223372036854775807) :
    Calls Tryz.prog 3 #[.agg (mtC z.1 z.2), .string text] w fun e w' => e = .returned (.bool true) ∧ Below w.heap.size w w' := by
  obtain ⟨m, x⟩ := z
  obtain ⟨⟨hm, l1, l2, l3, l4, -, -⟩, hcap⟩ := h
  simp only at hm l1 l2 l3 l4 hcap ⊢
  have HM := Lib.hid hm
  have HT := Lib.hid ht
  clear ht hm
  have hfew1 := fun W (hW : Below w.heap.size w W) => few_any W w.heap.size m x (HM.out.below hW) hW.size l1 l2 l3 l4
  have htx1 := fun W (hW : Below w.heap.size w W) (hs : Sml m) => text_any W (HT.out.below hW) w.heap.size m x (HM.out.below hW) hW.size hs
  have htx2 := fun W (hW : Below w.heap.size w W) (hs : Sml m) => rtext_any W w.heap.size m x (HM.out.below hW) hW.size hs hcap
  have HFEW1 := Lib.hid hfew1
  have HTX1 := Lib.hid htx1
  have HTX2 := Lib.hid htx2
  clear hfew1 htx1 htx2 l1 l2 l3 l4 hcap
  obtain ⟨id, o, cs, pr, st, mv, rs, ls⟩ := m
  obtain ⟨a1, c1, a2, c2, a3, c3, a4, c4, lv⟩ := x
  show Calls Tryz.prog 3 #[.agg #[.string id, .int .i64 o, .slice a1 cs.length c1, .string pr, .int .i64 st, .slice a2 mv.length c2, .slice a3 rs.length c3, .slice a4 ls.length c4], .string text] w _
  have hb := below_self_alloc w (.cells #[.string id, .int .i64 o, .slice a1 cs.length c1, .string pr, .int .i64 st, .slice a2 mv.length c2, .slice a3 rs.length c3, .slice a4 ls.length c4] 27)
  have k0 := Blk.new w 27 #[.string id, .int .i64 o, .slice a1 cs.length c1, .string pr, .int .i64 st, .slice a2 mv.length c2, .slice a3 rs.length c3, .slice a4 ls.length c4]
  have HC := Lib.hid (head_any (w.alloc (.cells #[.string id, .int .i64 o, .slice a1 cs.length c1, .string pr, .int .i64 st, .slice a2 mv.length c2, .slice a3 rs.length c3, .slice a4 ls.length c4] 27)) (HT.out.below hb))
  go_enter Tryz.func3, Tryz.ntmps3
  go_wp2_with fail
  refine HC.out.mono ?_
  rintro e W1 ⟨rfl, bz⟩
  have HB := Lib.hid (hb.trans (bz.mono hb.size))
  have K := Lib.hid (k0.below bz k0.lt)
  clear bz k0 hb HC
  have hc : Calls Tryz.prog 10 #[.agg #[.string id, .int .i64 o, .slice a1 cs.length c1, .string pr, .int .i64 st, .slice a2 mv.length c2, .slice a3 rs.length c3, .slice a4 ls.length c4]] W1 _ := HFEW1.out W1 HB.out
  have HC := Lib.hid hc
  clear hc
  obtain ⟨t0, t1, t2⟩ := K.out.all
  go_wp2_with fail
  refine HC.out.mono ?_
  rintro e W2 ⟨q1, rfl, hq1, bz⟩
  clear t0 t1 t2 HC
  have HBx := Lib.hid (HB.out.trans (bz.mono HB.out.size))
  have Kx := Lib.hid (K.out.below bz K.out.lt)
  clear HB K
  have HB := HBx
  clear HBx
  have K := Kx
  clear Kx
  clear bz HFEW1
  cases q1 with
  | false =>
    go_wp2
    go_ret
    exact ⟨rfl, HB.out⟩
  | true =>
    have HS1 := Lib.hid (hq1 rfl).sml
    clear hq1
    by_cases hsz : (6000 : Int) < (text.size : Int)
    case pos =>
      have d6 : decide ((6000 : Int) < (text.size : Int)) = true := decide_eq_true hsz
      go_wp2
      go_ret
      exact ⟨rfl, HB.out⟩
    have d6 : decide ((6000 : Int) < (text.size : Int)) = false := decide_eq_false hsz
    have htl : text.data.toList.length ≤ 6000 := by have e : text.data.toList.length = text.size := rfl; omega
    have HTL := Lib.hid htl
    clear htl
    obtain ⟨S1, hS1⟩ : ∃ s, bs (if fmB ⟨id, o, cs, pr, st, mv, rs, ls⟩ then textL ⟨id, o, cs, pr, st, mv, rs, ls⟩ else []) = s := ⟨_, rfl⟩
    obtain ⟨E1, hE1⟩ : ∃ e : Int, (if fmB ⟨id, o, cs, pr, st, mv, rs, ls⟩ then (0 : Int) else 1) = e := ⟨_, rfl⟩
    have hc0 := HTX1.out W2 HB.out HS1.out
    unfold TextPost at hc0
    rw [hS1, hE1] at hc0
    have hc : Calls Tryz.prog 11 #[.agg #[.string id, .int .i64 o, .slice a1 cs.length c1, .string pr, .int .i64 st, .slice a2 mv.length c2, .slice a3 rs.length c3, .slice a4 ls.length c4]] W2 _ := hc0
    have HC := Lib.hid hc
    have HG1 := Lib.hid hS1
    have HG2 := Lib.hid hE1
    clear hc hc0 hS1 hE1
    obtain ⟨t0, t1, t2⟩ := K.out.all
    go_wp2_with fail
    refine HC.out.mono ?_
    rintro e W4 ⟨rfl, bz⟩
    clear t0 t1 t2 HC
    have HBx := Lib.hid (HB.out.trans (bz.mono HB.out.size))
    have Kx := Lib.hid (K.out.below bz K.out.lt)
    clear HB K
    have HB := HBx
    clear HBx
    have K := Kx
    clear Kx
    clear bz hsz d6
    have hc0 := HTX2.out W4 HB.out HS1.out
    unfold TextPost at hc0
    rw [HG1.out, HG2.out] at hc0
    have hc : Calls Tryz.prog 12 #[.agg #[.string id, .int .i64 o, .slice a1 cs.length c1, .string pr, .int .i64 st, .slice a2 mv.length c2, .slice a3 rs.length c3, .slice a4 ls.length c4]] W4 _ := hc0
    have HC := Lib.hid hc
    clear hc hc0
    obtain ⟨t0, t1, t2⟩ := K.out.all
    go_wp2_with fail
    refine HC.out.mono ?_
    rintro e W5 ⟨rfl, bz⟩
    clear t0 t1 t2 HC
    have HBx := Lib.hid (HB.out.trans (bz.mono HB.out.size))
    have Kx := Lib.hid (K.out.below bz K.out.lt)
    clear HB K
    have HB := HBx
    clear HBx
    have K := Kx
    clear Kx
    clear bz HTX1 HTX2 HG1 HG2 HS1 HM K
    have hbt : bs text.data.toList = text := rfl
    obtain ⟨EZ, Z, hEZ, hSZ⟩ := ez_of text.data.toList
    have hp1 := fun W (hW : Below w.heap.size w W) => parse_any W (HT.out.below hW) text.data.toList (by have := HTL.out; omega) EZ Z hEZ
    have hp2 := fun W => rparse_any W text.data.toList (by have := HTL.out; omega) EZ Z hEZ
    rw [hbt] at hp1 hp2
    obtain ⟨i3, o3, cs3, pr3, st3, mv3, rs3, ls3⟩ := Z
    have hp1' := fun W (hW : Below w.heap.size w W) => (hp1 W hW).mono (R' := Lit W EZ i3 o3 cs3.length pr3 st3 mv3.length rs3.length ls3.length ⟨i3, o3, cs3, pr3, st3, mv3, rs3, ls3⟩) fun e w' h => lit_of h
    have hp2' := fun W => (hp2 W).mono (R' := Lit W EZ i3 o3 cs3.length pr3 st3 mv3.length rs3.length ls3.length ⟨i3, o3, cs3, pr3, st3, mv3, rs3, ls3⟩) fun e w' h => lit_of h
    have HP1 := Lib.hid (hp1' W5 HB.out)
    have HP2 := Lib.hid hp2'
    have HSZ := Lib.hid hSZ
    clear hp1 hp2 hp1' hp2' hEZ hSZ hbt HT HTL
    go_wp2_with fail
    refine HP1.out.mono ?_
    rintro e W6 ⟨p1, q1, p2, q2, p3, q3, p4, q4, v9, rfl, hr, bz⟩
    have by_ := below_self_alloc W6 (.cells #[.string i3, .int .i64 o3, .slice p1 cs3.length q1, .string pr3, .int .i64 st3, .slice p2 mv3.length q2, .slice p3 rs3.length q3, .slice p4 ls3.length q4] 27)
    have kn := Blk.new W6 27 #[.string i3, .int .i64 o3, .slice p1 cs3.length q1, .string pr3, .int .i64 st3, .slice p2 mv3.length q2, .slice p3 rs3.length q3, .slice p4 ls3.length q4]
    have bw := bz.trans (by_.mono bz.size)
    have HB6 := Lib.hid (HB.out.trans (bw.mono HB.out.size))
    have KN := Lib.hid kn
    have HR1 := Lib.hid ((hr.below by_).wide by_.size)
    clear by_ kn bw hr bz HP1 HB
    go_upto_region 7 with fail
    generalize W6.alloc (.cells #[.string i3, .int .i64 o3, .slice p1 cs3.length q1, .string pr3, .int .i64 st3, .slice p2 mv3.length q2, .slice p3 rs3.length q3, .slice p4 ls3.length q4] 27) = W7 at *
    generalize W6.heap.size = gn at *
    go_wp2_with fail
    refine (HP2.out W7).mono ?_
    rintro e W8 ⟨r1, s1, r2, s2, r3, s3, r4, s4, v8, rfl, hr, bz⟩
    have by_ := below_self_alloc W8 (.cells #[.string i3, .int .i64 o3, .slice r1 cs3.length s1, .string pr3, .int .i64 st3, .slice r2 mv3.length s2, .slice r3 rs3.length s3, .slice r4 ls3.length s4] 27)
    have kn := Blk.new W8 27 #[.string i3, .int .i64 o3, .slice r1 cs3.length s1, .string pr3, .int .i64 st3, .slice r2 mv3.length s2, .slice r3 rs3.length s3, .slice r4 ls3.length s4]
    have bw := bz.trans (by_.mono bz.size)
    have HB9 := Lib.hid (HB6.out.trans (bw.mono HB6.out.size))
    have KN9 := Lib.hid (KN.out.below bw KN.out.lt)
    have KM9 := Lib.hid kn
    have HR9 := Lib.hid ((HR1.out.below bw).wide bw.size)
    have HQ9 := Lib.hid ((hr.below by_).wide by_.size)
    clear by_ kn bw hr bz HP2 HB6 KN HR1
    go_upto_region 8 with fail
    generalize W8.alloc (.cells #[.string i3, .int .i64 o3, .slice r1 cs3.length s1, .string pr3, .int .i64 st3, .slice r2 mv3.length s2, .slice r3 rs3.length s3, .slice r4 ls3.length s4] 27) = W9 at *
    generalize W8.heap.size = gm at *
    have hc : Calls Tryz.prog 15 #[.agg #[.string i3, .int .i64 o3, .slice p1 cs3.length q1, .string pr3, .int .i64 st3, .slice p2 mv3.length q2, .slice p3 rs3.length q3, .slice p4 ls3.length q4], .agg #[.string i3, .int .i64 o3, .slice r1 cs3.length s1, .string pr3, .int .i64 st3, .slice r2 mv3.length s2, .slice r3 rs3.length s3, .slice r4 ls3.length s4]] W9 fun e w' => e = .returned (.bool true) ∧ Below W9.heap.size W9 w' := rsame_any W9 W9.heap.size ⟨i3, o3, cs3, pr3, st3, mv3, rs3, ls3⟩ ⟨i3, o3, cs3, pr3, st3, mv3, rs3, ls3⟩ ⟨p1, q1, p2, q2, p3, q3, p4, q4, v9⟩ ⟨r1, s1, r2, s2, r3, s3, r4, s4, v8⟩ HR9.out HQ9.out (Nat.le_refl _) HSZ.out HSZ.out true (by simp)
    have HC := Lib.hid hc
    clear hc
    obtain ⟨t0, t1, t2⟩ := KN9.out.all
    obtain ⟨u0, u1, u2⟩ := KM9.out.all
    go_wp2_with fail
    refine HC.out.mono ?_
    rintro e W10 ⟨rfl, bz⟩
    have HBF := Lib.hid (HB9.out.trans (bz.mono HB9.out.size))
    clear bz t0 t1 t2 u0 u1 u2
    go_wp2
    go_ret
    exact ⟨by simp, HBF.out⟩
end Go.Proofs.YtgfahifdmacmhaaGreatDoor
