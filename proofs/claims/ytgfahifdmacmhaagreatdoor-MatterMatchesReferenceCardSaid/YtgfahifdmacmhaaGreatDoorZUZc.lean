/- MatterMatchesReference: the law's walk. -/
import Derived.Test.YtgfahifdmacmhaaGreatDoorZUGH
import Derived.Test.YtgfahifdmacmhaaGreatDoorZUGF
import Derived.Test.YtgfahifdmacmhaaGreatDoorZUYe
import Derived.Test.YtgfahifdmacmhaaGreatDoorZUWt
import Derived.Test.YtgfahifdmacmhaaGreatDoorZUGC
import Derived.Test.YtgfahifdmacmhaaGreatDoorQy
namespace Go.Proofs.YtgfahifdmacmhaaGreatDoor
open Go.RowKit Go.Shelf

theorem sml_moved {m : Mt} {p : Pc} {s day : Int} (h : FewM m) : Sml (moveM m p s day) := by
  unfold moveM
  obtain ⟨h1, h2, h3, h4⟩ := h
  split
  · exact ⟨by show m.cs.length ≤ _; omega, by show (m.mv ++ [day]).length ≤ _; rw [List.length_append]; simp only [List.length_cons, List.length_nil]; omega, by show m.rs.length ≤ _; omega, by show m.ls.length ≤ _; omega⟩
  · unfold Sml; decide
theorem sml_granted {m : Mt} {n : ByteArray} {day : Int} (h : FewM m) : Sml (grantM m n day) := by
  unfold grantM
  obtain ⟨h1, h2, h3, h4⟩ := h
  split
  · exact ⟨by show m.cs.length ≤ _; omega, by show m.mv.length ≤ _; omega, by show (m.rs ++ [(n, day)]).length ≤ _; rw [List.length_append]; simp only [List.length_cons, List.length_nil]; omega, by show m.ls.length ≤ _; omega⟩
  · unfold Sml; decide
def PS8 (w V : World) : Prop := Below w.heap.size w V
theorem PS8.go {w V V2 : World} (h : PS8 w V) (hb : Below V.heap.size V V2) : PS8 w V2 := Below.trans h (hb.mono (Below.size h))

def psM (id : ByteArray) (o : Int) (cs : List Int) (pr : ByteArray) (st : Int) (mv : List Int) (rs : List Rt) (ls : List Lm) (a1 : Option Addr) (c1 : Nat) (a2 : Option Addr) (c2 : Nat) (a3 : Option Addr) (c3 : Nat) (a4 : Option Addr) (c4 : Nat) (pn : ByteArray) (ss : List ByteArray) (ms : List I2) (b1 : Option Addr) (e1 : Nat) (b2 : Option Addr) (e2 : Nat) (b3 : Option Addr) (dm : List Fc) (e3 : Nat) (day : Int) (name : ByteArray) (E1 E2 : Int) (QP QV QH : Bool) (i7 : ByteArray) (o7 : Int) (cs7 : List Int) (pr7 : ByteArray) (st7 : Int) (mv7 : List Int) (rs7 : List Rt) (ls7 : List Lm) (i8 : ByteArray) (o8 : Int) (cs8 : List Int) (pr8 : ByteArray) (st8 : Int) (mv8 : List Int) (rs8 : List Rt) (ls8 : List Lm) (p1 : Option Addr) (pc1 : Nat) (p2 : Option Addr) (pc2 : Nat) (p3 : Option Addr) (pc3 : Nat) (p4 : Option Addr) (pc4 : Nat) (q1 : Option Addr) (qc1 : Nat) (q2 : Option Addr) (qc2 : Nat) (q3 : Option Addr) (qc3 : Nat) (q4 : Option Addr) (qc4 : Nat) (r1 : Option Addr) (rc1 : Nat) (r2 : Option Addr) (rc2 : Nat) (r3 : Option Addr) (rc3 : Nat) (r4 : Option Addr) (rc4 : Nat) (s1 : Option Addr) (sc1 : Nat) (s2 : Option Addr) (sc2 : Nat) (s3 : Option Addr) (sc3 : Nat) (s4 : Option Addr) (sc4 : Nat) : List Phi := [
  isV (.bool true),
  isV (.bool true),
  isV (.int .i64 E1),
  isV (.int .i64 E1),
  isV (.bool true),
  isV (.bool true),
  isV (.bool true),
  isV (.agg #[.string i7, .int .i64 o7, .slice p1 cs7.length pc1, .string pr7, .int .i64 st7, .slice p2 mv7.length pc2, .slice p3 rs7.length pc3, .slice p4 ls7.length pc4]),
  isV (.agg #[.string i7, .int .i64 o7, .slice q1 cs7.length qc1, .string pr7, .int .i64 st7, .slice q2 mv7.length qc2, .slice q3 rs7.length qc3, .slice q4 ls7.length qc4]),
  isV (.bool true),
  isV (.bool true),
  isV (.bool true),
  isV (.int .i64 E2),
  isV (.int .i64 E2),
  isV (.bool true),
  isV (.bool true),
  isV (.bool true),
  isV (.agg #[.string i8, .int .i64 o8, .slice r1 cs8.length rc1, .string pr8, .int .i64 st8, .slice r2 mv8.length rc2, .slice r3 rs8.length rc3, .slice r4 ls8.length rc4]),
  isV (.agg #[.string i8, .int .i64 o8, .slice s1 cs8.length sc1, .string pr8, .int .i64 st8, .slice s2 mv8.length sc2, .slice s3 rs8.length sc3, .slice s4 ls8.length sc4]),
  isV (.bool true),
  isV (.bool true),
  isV (.bool true),
  isV (.agg #[.string pn, .slice b1 ss.length e1, .slice b2 ms.length e2]),
  isV (.bool QP),
  isV (.agg #[.string pn, .slice b1 ss.length e1, .slice b2 ms.length e2]),
  isV (.bool QP),
  isV (.bool true),
  isV (.bool true),
  isV (.bool true),
  isV (.agg #[.string id, .int .i64 o, .slice a1 cs.length c1, .string pr, .int .i64 st, .slice a2 mv.length c2, .slice a3 rs.length c3, .slice a4 ls.length c4]),
  isV (.agg #[.string pn, .slice b1 ss.length e1, .slice b2 ms.length e2]),
  isV (.agg #[.slice b3 dm.length e3]),
  isV (.bool QV),
  isV (.agg #[.string id, .int .i64 o, .slice a1 cs.length c1, .string pr, .int .i64 st, .slice a2 mv.length c2, .slice a3 rs.length c3, .slice a4 ls.length c4]),
  isV (.agg #[.string pn, .slice b1 ss.length e1, .slice b2 ms.length e2]),
  isV (.agg #[.slice b3 dm.length e3]),
  isV (.bool QV),
  isV (.bool true),
  isV (.bool true),
  isV (.bool true),
  isV (.agg #[.string id, .int .i64 o, .slice a1 cs.length c1, .string pr, .int .i64 st, .slice a2 mv.length c2, .slice a3 rs.length c3, .slice a4 ls.length c4]),
  isV (.string name),
  isV (.int .i64 day),
  isV (.bool QH),
  isV (.agg #[.string id, .int .i64 o, .slice a1 cs.length c1, .string pr, .int .i64 st, .slice a2 mv.length c2, .slice a3 rs.length c3, .slice a4 ls.length c4]),
  isV (.string name),
  isV (.int .i64 day),
  isV (.bool QH),
  isV (.bool true),
  isV (.bool true),
  isV (.bool true)]

set_option maxRecDepth 100000 in
set_option maxHeartbeats 16000000 in
theorem matches_walk (w : World) (ht : Tbs w) (z : Mt × MtX) (h : MtIn2 w z) (z2 : Pc × PcX) (h2 : PcIn2 w z2) (z3 : List Fc × Option Addr × Nat) (h3 : DmIn w z3) (stage : Int) (_hst : (Lit.int .i64 stage).wf = true) (day : Int) (_hday : (Lit.int .i64 day).wf = true) (name : ByteArray) (hname : name.size ≤ 9223372036854775807) :
    Calls Tryz.prog 7 #[.agg (mtC z.1 z.2), .agg (pcC z2.1 z2.2), .agg #[.slice z3.2.1 z3.1.length z3.2.2], .int .i64 stage, .int .i64 day, .string name] w fun e w' => e = .returned (.bool true) ∧ Below w.heap.size w w' := by
  obtain ⟨m, x⟩ := z
  obtain ⟨p, y⟩ := z2
  obtain ⟨dm, b3, e3⟩ := z3
  obtain ⟨⟨hm, l1, l2, l3, l4, -, -⟩, hcap⟩ := h
  obtain ⟨⟨hp, j1, j2⟩, hcp⟩ := h2
  obtain ⟨hd, j3⟩ := h3
  simp only at hm l1 l2 l3 l4 hcap hp j1 j2 hcp hd j3 ⊢
  have HM := Lib.hid hm
  have HP := Lib.hid hp
  have HD := Lib.hid hd
  have HT := Lib.hid ht
  clear ht hm hp hd
  obtain ⟨E1, hE1⟩ : ∃ e, moveE m p stage day = e := ⟨_, rfl⟩
  obtain ⟨Z1, hZ1⟩ : ∃ e, moveM m p stage day = e := ⟨_, rfl⟩
  obtain ⟨E2, hE2⟩ : ∃ e, grantE m name day = e := ⟨_, rfl⟩
  obtain ⟨Z2, hZ2⟩ : ∃ e, grantM m name day = e := ⟨_, rfl⟩
  obtain ⟨QP, hQP⟩ : ∃ e, pcB p = e := ⟨_, rfl⟩
  obtain ⟨QV, hQV⟩ : ∃ e, vldB m p dm = e := ⟨_, rfl⟩
  obtain ⟨QH, hQH⟩ : ∃ e, hasB m.rs name day = e := ⟨_, rfl⟩
  have hfew1 := fun W (hW : Below w.heap.size w W) => few_any W w.heap.size m x (HM.out.below hW) hW.size l1 l2 l3 l4
  have hfew2 := fun W (hW : Below w.heap.size w W) => short_any W w.heap.size p y (HP.out.below hW) hW.size j1 j2
  have hfew3 := fun W (hW : Below w.heap.size w W) => few6_any W w.heap.size dm b3 e3 (HD.out.below hW) hW.size j3 60
  have hmv1 := fun W (hW : Below w.heap.size w W) (hs : Sml m) (hsp : SmlP p) => move_any W w.heap.size m x (HM.out.below hW) hW.size hs p y (HP.out.below hW) hsp stage day
  have hmv2 := fun W (hW : Below w.heap.size w W) (hs : Sml m) (hsp : SmlP p) => rmove_any W w.heap.size m x (HM.out.below hW) hW.size hs hcap p y (HP.out.below hW) hsp hcp stage day
  have hgr1 := fun W (hW : Below w.heap.size w W) (hs : Sml m) => grant_any W w.heap.size m x (HM.out.below hW) hW.size hs name hname day
  have hgr2 := fun W (hW : Below w.heap.size w W) (hs : Sml m) => rgrant_any W w.heap.size m x (HM.out.below hW) hW.size hs hcap name hname day
  have hpr1 := fun W (hW : Below w.heap.size w W) (hsp : SmlP p) => proper_p W w.heap.size p y (HP.out.below hW) hW.size hsp
  have hpr2 := fun W (hW : Below w.heap.size w W) (hsp : SmlP p) => rproper_any W w.heap.size p y (HP.out.below hW) hW.size hsp hcp
  have hvl1 := fun W (hW : Below w.heap.size w W) (hs : Sml m) (hsp : SmlP p) (hdl : dm.length ≤ 1000000) => valid_any W w.heap.size m x (HM.out.below hW) hW.size hs p y (HP.out.below hW) hsp dm b3 e3 (HD.out.below hW) hdl
  have hvl2 := fun W (hW : Below w.heap.size w W) (hs : Sml m) (hsp : SmlP p) (hdl : dm.length ≤ 1000000) => rvalid_any W w.heap.size m x (HM.out.below hW) hW.size hs hcap p y (HP.out.below hW) hsp hcp dm b3 e3 (HD.out.below hW) hdl
  have hha1 := fun W (hW : Below w.heap.size w W) (hs : Sml m) => has_any W w.heap.size m x (HM.out.below hW).rs hW.size (by have := hs.2.2.1; omega) name day
  have hha2 := fun W (hW : Below w.heap.size w W) (hs : Sml m) => rhas_any W w.heap.size m x (HM.out.below hW).rs hW.size (by have := hs.2.2.1; omega) name day
  have hsz1 : FewM m → Sml Z1 := fun h => hZ1 ▸ sml_moved h
  have hsz2 : FewM m → Sml Z2 := fun h => hZ2 ▸ sml_granted h
  rw [hE1, hZ1] at hmv1 hmv2
  rw [hE2, hZ2] at hgr1 hgr2
  rw [hQP] at hpr1 hpr2
  rw [hQV] at hvl1 hvl2
  rw [hQH] at hha1 hha2
  have HFEW1 := Lib.hid hfew1
  have HFEW2 := Lib.hid hfew2
  have HFEW3 := Lib.hid hfew3
  have HSZ1 := Lib.hid hsz1
  have HSZ2 := Lib.hid hsz2
  have HPR1 := Lib.hid hpr1
  have HPR2 := Lib.hid hpr2
  have HVL1 := Lib.hid hvl1
  have HVL2 := Lib.hid hvl2
  have HHA1 := Lib.hid hha1
  have HHA2 := Lib.hid hha2
  obtain ⟨i7, o7, cs7, pr7, st7, mv7, rs7, ls7⟩ := Z1
  obtain ⟨i8, o8, cs8, pr8, st8, mv8, rs8, ls8⟩ := Z2
  have HMV1 := Lib.hid fun W hW hs hsp => (hmv1 W hW hs hsp).mono (R' := Lit W E1 i7 o7 cs7.length pr7 st7 mv7.length rs7.length ls7.length ⟨i7, o7, cs7, pr7, st7, mv7, rs7, ls7⟩) fun e w' h => lit_of h
  have HMV2 := Lib.hid fun W hW hs hsp => (hmv2 W hW hs hsp).mono (R' := Lit W E1 i7 o7 cs7.length pr7 st7 mv7.length rs7.length ls7.length ⟨i7, o7, cs7, pr7, st7, mv7, rs7, ls7⟩) fun e w' h => lit_of h
  have HGR1 := Lib.hid fun W hW hs => (hgr1 W hW hs).mono (R' := Lit W E2 i8 o8 cs8.length pr8 st8 mv8.length rs8.length ls8.length ⟨i8, o8, cs8, pr8, st8, mv8, rs8, ls8⟩) fun e w' h => lit_of h
  have HGR2 := Lib.hid fun W hW hs => (hgr2 W hW hs).mono (R' := Lit W E2 i8 o8 cs8.length pr8 st8 mv8.length rs8.length ls8.length ⟨i8, o8, cs8, pr8, st8, mv8, rs8, ls8⟩) fun e w' h => lit_of h
  clear hfew1 hfew2 hfew3 hmv1 hmv2 hgr1 hgr2 hpr1 hpr2 hvl1 hvl2 hha1 hha2 hsz1 hsz2 hE1 hZ1 hE2 hZ2 hQP hQV hQH l1 l2 l3 l4 hcap j1 j2 hcp j3
  obtain ⟨id, o, cs, pr, st, mv, rs, ls⟩ := m
  obtain ⟨a1, c1, a2, c2, a3, c3, a4, c4, lv⟩ := x
  obtain ⟨pn, ss, ms⟩ := p
  obtain ⟨b1, e1, b2, e2⟩ := y
  show Calls Tryz.prog 7 #[.agg #[.string id, .int .i64 o, .slice a1 cs.length c1, .string pr, .int .i64 st, .slice a2 mv.length c2, .slice a3 rs.length c3, .slice a4 ls.length c4], .agg #[.string pn, .slice b1 ss.length e1, .slice b2 ms.length e2], .agg #[.slice b3 dm.length e3], .int .i64 stage, .int .i64 day, .string name] w _
  have hb := ((below_self_alloc w (.cells #[.string id, .int .i64 o, .slice a1 cs.length c1, .string pr, .int .i64 st, .slice a2 mv.length c2, .slice a3 rs.length c3, .slice a4 ls.length c4] 27)).alloc (by simp) (.cells #[.string pn, .slice b1 ss.length e1, .slice b2 ms.length e2] 46)).alloc (by simp; omega) (.cells #[.slice b3 dm.length e3] 52)
  have k0 := ((Blk.new w 27 #[.string id, .int .i64 o, .slice a1 cs.length c1, .string pr, .int .i64 st, .slice a2 mv.length c2, .slice a3 rs.length c3, .slice a4 ls.length c4]).alloc (.cells #[.string pn, .slice b1 ss.length e1, .slice b2 ms.length e2] 46)).alloc (.cells #[.slice b3 dm.length e3] 52)
  have k1 := (Blk.new1 w (.cells #[.string id, .int .i64 o, .slice a1 cs.length c1, .string pr, .int .i64 st, .slice a2 mv.length c2, .slice a3 rs.length c3, .slice a4 ls.length c4] 27) 46 #[.string pn, .slice b1 ss.length e1, .slice b2 ms.length e2]).alloc (.cells #[.slice b3 dm.length e3] 52)
  have k2 := Blk.new2 w (.cells #[.string id, .int .i64 o, .slice a1 cs.length c1, .string pr, .int .i64 st, .slice a2 mv.length c2, .slice a3 rs.length c3, .slice a4 ls.length c4] 27) (.cells #[.string pn, .slice b1 ss.length e1, .slice b2 ms.length e2] 46) 52 #[.slice b3 dm.length e3]
  have HC := Lib.hid (head_any (((w.alloc (.cells #[.string id, .int .i64 o, .slice a1 cs.length c1, .string pr, .int .i64 st, .slice a2 mv.length c2, .slice a3 rs.length c3, .slice a4 ls.length c4] 27)).alloc (.cells #[.string pn, .slice b1 ss.length e1, .slice b2 ms.length e2] 46)).alloc (.cells #[.slice b3 dm.length e3] 52)) (HT.out.below hb))
  go_enter Tryz.func7, Tryz.ntmps7
  go_wp2_with fail
  refine HC.out.mono ?_
  rintro e W1 ⟨rfl, bz⟩
  have HB := Lib.hid (hb.trans (bz.mono hb.size))
  have K0 := Lib.hid (k0.below bz k0.lt)
  have K1 := Lib.hid (k1.below bz k1.lt)
  have K2 := Lib.hid (k2.below bz k2.lt)
  clear bz k0 k1 k2 hb HC HT
  have HC := Lib.hid ((HFEW1.out W1 HB.out : Calls Tryz.prog 10 #[.agg #[.string id, .int .i64 o, .slice a1 cs.length c1, .string pr, .int .i64 st, .slice a2 mv.length c2, .slice a3 rs.length c3, .slice a4 ls.length c4]] W1 _))
  obtain ⟨t0, t1, t2⟩ := K0.out.all
  go_wp2_with fail
  refine HC.out.mono ?_
  rintro e V1 ⟨q1, rfl, hq1, bz⟩
  clear t0 t1 t2 HC
  have HBx := Lib.hid (HB.out.trans (bz.mono HB.out.size))
  have K0x := Lib.hid (K0.out.below bz K0.out.lt)
  have K1x := Lib.hid (K1.out.below bz K1.out.lt)
  have K2x := Lib.hid (K2.out.below bz K2.out.lt)
  clear HB K0 K1 K2
  have HB := HBx
  clear HBx
  have K0 := K0x
  clear K0x
  have K1 := K1x
  clear K1x
  have K2 := K2x
  clear K2x
  clear bz
  cases q1 with
  | false =>
    go_wp2
    go_ret
    exact ⟨rfl, HB.out⟩
  | true =>
  have HFM := Lib.hid (hq1 rfl)
  clear hq1
  have HC := Lib.hid ((HFEW2.out V1 HB.out : Calls Tryz.prog 18 #[.agg #[.string pn, .slice b1 ss.length e1, .slice b2 ms.length e2]] V1 _))
  obtain ⟨t0, t1, t2⟩ := K1.out.all
  go_wp2_with fail
  refine HC.out.mono ?_
  rintro e V2 ⟨q2, rfl, hq2, bz⟩
  clear t0 t1 t2 HC
  have HBx := Lib.hid (HB.out.trans (bz.mono HB.out.size))
  have K0x := Lib.hid (K0.out.below bz K0.out.lt)
  have K1x := Lib.hid (K1.out.below bz K1.out.lt)
  have K2x := Lib.hid (K2.out.below bz K2.out.lt)
  clear HB K0 K1 K2
  have HB := HBx
  clear HBx
  have K0 := K0x
  clear K0x
  have K1 := K1x
  clear K1x
  have K2 := K2x
  clear K2x
  clear bz
  cases q2 with
  | false =>
    go_wp2
    go_ret
    exact ⟨rfl, HB.out⟩
  | true =>
  have HSP := Lib.hid (hq2 rfl).sml
  clear hq2
  have HC := Lib.hid ((HFEW3.out V2 HB.out : Calls Tryz.prog 20 #[.agg #[.slice b3 dm.length e3], .int .i64 60] V2 _))
  obtain ⟨t0, t1, t2⟩ := K2.out.all
  go_wp2_with fail
  refine HC.out.mono ?_
  rintro e V3 ⟨q3, rfl, hq3, bz⟩
  clear t0 t1 t2 HC
  have HBx := Lib.hid (HB.out.trans (bz.mono HB.out.size))
  have K0x := Lib.hid (K0.out.below bz K0.out.lt)
  have K1x := Lib.hid (K1.out.below bz K1.out.lt)
  have K2x := Lib.hid (K2.out.below bz K2.out.lt)
  clear HB K0 K1 K2
  have HB := HBx
  clear HBx
  have K0 := K0x
  clear K0x
  have K1 := K1x
  clear K1x
  have K2 := K2x
  clear K2x
  clear bz
  cases q3 with
  | false =>
    go_wp2
    go_ret
    exact ⟨rfl, HB.out⟩
  | true =>
  have HDL := Lib.hid (show dm.length ≤ 1000000 by have := hq3 rfl; omega)
  clear hq3
  by_cases hsz : (60 : Int) < (name.size : Int)
  case pos =>
    have d6 : decide ((60 : Int) < (name.size : Int)) = true := decide_eq_true hsz
    go_wp2
    go_ret
    exact ⟨rfl, HB.out⟩
  have d6 : decide ((60 : Int) < (name.size : Int)) = false := decide_eq_false hsz
  have HS := Lib.hid HFM.out.sml
  clear HFEW1 HFEW2 HFEW3
  go_upto_region 4 with fail
  clear hsz d6
  have HC := Lib.hid ((HMV1.out V3 HB.out HS.out HSP.out : Calls Tryz.prog 19 #[.agg #[.string id, .int .i64 o, .slice a1 cs.length c1, .string pr, .int .i64 st, .slice a2 mv.length c2, .slice a3 rs.length c3, .slice a4 ls.length c4], .agg #[.string pn, .slice b1 ss.length e1, .slice b2 ms.length e2], .int .i64 stage, .int .i64 day] V3 _))
  obtain ⟨t0, t1, t2⟩ := K0.out.all
  obtain ⟨u0, u1, u2⟩ := K1.out.all
  go_wp2_with fail
  refine HC.out.mono ?_
  rintro e U1 ⟨p1, pc1, p2, pc2, p3, pc3, p4, pc4, plv, rfl, hr, bz⟩
  have by_ := below_self_alloc U1 (.cells #[.string i7, .int .i64 o7, .slice p1 cs7.length pc1, .string pr7, .int .i64 st7, .slice p2 mv7.length pc2, .slice p3 rs7.length pc3, .slice p4 ls7.length pc4] 27)
  have kn := Blk.new U1 27 #[.string i7, .int .i64 o7, .slice p1 cs7.length pc1, .string pr7, .int .i64 st7, .slice p2 mv7.length pc2, .slice p3 rs7.length pc3, .slice p4 ls7.length pc4]
  have bw := bz.trans (by_.mono bz.size)
  clear t0 t1 t2 u0 u1 u2 HC
  have HBx := Lib.hid (HB.out.trans (bw.mono HB.out.size))
  have K0x := Lib.hid (K0.out.below bw K0.out.lt)
  have K1x := Lib.hid (K1.out.below bw K1.out.lt)
  have K2x := Lib.hid (K2.out.below bw K2.out.lt)
  clear HB K0 K1 K2
  have HB := HBx
  clear HBx
  have K0 := K0x
  clear K0x
  have K1 := K1x
  clear K1x
  have K2 := K2x
  clear K2x
  have KA := Lib.hid kn
  have MA := Lib.hid ((hr.below by_).wide by_.size)
  clear by_ kn bw hr bz
  go_upto_region 5 with fail
  generalize U1.alloc (.cells #[.string i7, .int .i64 o7, .slice p1 cs7.length pc1, .string pr7, .int .i64 st7, .slice p2 mv7.length pc2, .slice p3 rs7.length pc3, .slice p4 ls7.length pc4] 27) = X1 at *
  generalize U1.heap.size = ga at *
  have HC := Lib.hid ((HMV2.out X1 HB.out HS.out HSP.out : Calls Tryz.prog 21 #[.agg #[.string id, .int .i64 o, .slice a1 cs.length c1, .string pr, .int .i64 st, .slice a2 mv.length c2, .slice a3 rs.length c3, .slice a4 ls.length c4], .agg #[.string pn, .slice b1 ss.length e1, .slice b2 ms.length e2], .int .i64 stage, .int .i64 day] X1 _))
  obtain ⟨t0, t1, t2⟩ := K0.out.all
  obtain ⟨u0, u1, u2⟩ := K1.out.all
  go_wp2_with fail
  refine HC.out.mono ?_
  rintro e U2 ⟨q1, qc1, q2, qc2, q3, qc3, q4, qc4, qlv, rfl, hr, bz⟩
  have by_ := below_self_alloc U2 (.cells #[.string i7, .int .i64 o7, .slice q1 cs7.length qc1, .string pr7, .int .i64 st7, .slice q2 mv7.length qc2, .slice q3 rs7.length qc3, .slice q4 ls7.length qc4] 27)
  have kn := Blk.new U2 27 #[.string i7, .int .i64 o7, .slice q1 cs7.length qc1, .string pr7, .int .i64 st7, .slice q2 mv7.length qc2, .slice q3 rs7.length qc3, .slice q4 ls7.length qc4]
  have bw := bz.trans (by_.mono bz.size)
  clear t0 t1 t2 u0 u1 u2 HC
  have HBx := Lib.hid (HB.out.trans (bw.mono HB.out.size))
  have K0x := Lib.hid (K0.out.below bw K0.out.lt)
  have K1x := Lib.hid (K1.out.below bw K1.out.lt)
  have K2x := Lib.hid (K2.out.below bw K2.out.lt)
  have KAx := Lib.hid (KA.out.below bw KA.out.lt)
  have MAx := Lib.hid ((MA.out.below bw).wide bw.size)
  clear HB K0 K1 K2 KA MA
  have HB := HBx
  clear HBx
  have K0 := K0x
  clear K0x
  have K1 := K1x
  clear K1x
  have K2 := K2x
  clear K2x
  have KA := KAx
  clear KAx
  have MA := MAx
  clear MAx
  have KB := Lib.hid kn
  have MB := Lib.hid ((hr.below by_).wide by_.size)
  clear by_ kn bw hr bz
  go_upto_region 6 with fail
  generalize U2.alloc (.cells #[.string i7, .int .i64 o7, .slice q1 cs7.length qc1, .string pr7, .int .i64 st7, .slice q2 mv7.length qc2, .slice q3 rs7.length qc3, .slice q4 ls7.length qc4] 27) = X2 at *
  generalize U2.heap.size = gb at *
  have HC := Lib.hid ((HGR1.out X2 HB.out HS.out : Calls Tryz.prog 17 #[.agg #[.string id, .int .i64 o, .slice a1 cs.length c1, .string pr, .int .i64 st, .slice a2 mv.length c2, .slice a3 rs.length c3, .slice a4 ls.length c4], .string name, .int .i64 day] X2 _))
  obtain ⟨t0, t1, t2⟩ := K0.out.all
  obtain ⟨u0, u1, u2⟩ := K1.out.all
  go_wp2_with fail
  refine HC.out.mono ?_
  rintro e U3 ⟨r1, rc1, r2, rc2, r3, rc3, r4, rc4, rlv, rfl, hr, bz⟩
  have by_ := below_self_alloc U3 (.cells #[.string i8, .int .i64 o8, .slice r1 cs8.length rc1, .string pr8, .int .i64 st8, .slice r2 mv8.length rc2, .slice r3 rs8.length rc3, .slice r4 ls8.length rc4] 27)
  have kn := Blk.new U3 27 #[.string i8, .int .i64 o8, .slice r1 cs8.length rc1, .string pr8, .int .i64 st8, .slice r2 mv8.length rc2, .slice r3 rs8.length rc3, .slice r4 ls8.length rc4]
  have bw := bz.trans (by_.mono bz.size)
  clear t0 t1 t2 u0 u1 u2 HC
  have HBx := Lib.hid (HB.out.trans (bw.mono HB.out.size))
  have K0x := Lib.hid (K0.out.below bw K0.out.lt)
  have K1x := Lib.hid (K1.out.below bw K1.out.lt)
  have K2x := Lib.hid (K2.out.below bw K2.out.lt)
  have KAx := Lib.hid (KA.out.below bw KA.out.lt)
  have MAx := Lib.hid ((MA.out.below bw).wide bw.size)
  have KBx := Lib.hid (KB.out.below bw KB.out.lt)
  have MBx := Lib.hid ((MB.out.below bw).wide bw.size)
  clear HB K0 K1 K2 KA MA KB MB
  have HB := HBx
  clear HBx
  have K0 := K0x
  clear K0x
  have K1 := K1x
  clear K1x
  have K2 := K2x
  clear K2x
  have KA := KAx
  clear KAx
  have MA := MAx
  clear MAx
  have KB := KBx
  clear KBx
  have MB := MBx
  clear MBx
  have KG := Lib.hid kn
  have MG := Lib.hid ((hr.below by_).wide by_.size)
  clear by_ kn bw hr bz
  go_upto_region 7 with fail
  generalize U3.alloc (.cells #[.string i8, .int .i64 o8, .slice r1 cs8.length rc1, .string pr8, .int .i64 st8, .slice r2 mv8.length rc2, .slice r3 rs8.length rc3, .slice r4 ls8.length rc4] 27) = X3 at *
  generalize U3.heap.size = gg at *
  have HC := Lib.hid ((HGR2.out X3 HB.out HS.out : Calls Tryz.prog 22 #[.agg #[.string id, .int .i64 o, .slice a1 cs.length c1, .string pr, .int .i64 st, .slice a2 mv.length c2, .slice a3 rs.length c3, .slice a4 ls.length c4], .string name, .int .i64 day] X3 _))
  obtain ⟨t0, t1, t2⟩ := K0.out.all
  obtain ⟨u0, u1, u2⟩ := K1.out.all
  go_wp2_with fail
  refine HC.out.mono ?_
  rintro e U4 ⟨s1, sc1, s2, sc2, s3, sc3, s4, sc4, slv, rfl, hr, bz⟩
  have by_ := below_self_alloc U4 (.cells #[.string i8, .int .i64 o8, .slice s1 cs8.length sc1, .string pr8, .int .i64 st8, .slice s2 mv8.length sc2, .slice s3 rs8.length sc3, .slice s4 ls8.length sc4] 27)
  have kn := Blk.new U4 27 #[.string i8, .int .i64 o8, .slice s1 cs8.length sc1, .string pr8, .int .i64 st8, .slice s2 mv8.length sc2, .slice s3 rs8.length sc3, .slice s4 ls8.length sc4]
  have bw := bz.trans (by_.mono bz.size)
  clear t0 t1 t2 u0 u1 u2 HC
  have HBx := Lib.hid (HB.out.trans (bw.mono HB.out.size))
  have K0x := Lib.hid (K0.out.below bw K0.out.lt)
  have K1x := Lib.hid (K1.out.below bw K1.out.lt)
  have K2x := Lib.hid (K2.out.below bw K2.out.lt)
  have KAx := Lib.hid (KA.out.below bw KA.out.lt)
  have MAx := Lib.hid ((MA.out.below bw).wide bw.size)
  have KBx := Lib.hid (KB.out.below bw KB.out.lt)
  have MBx := Lib.hid ((MB.out.below bw).wide bw.size)
  have KGx := Lib.hid (KG.out.below bw KG.out.lt)
  have MGx := Lib.hid ((MG.out.below bw).wide bw.size)
  clear HB K0 K1 K2 KA MA KB MB KG MG
  have HB := HBx
  clear HBx
  have K0 := K0x
  clear K0x
  have K1 := K1x
  clear K1x
  have K2 := K2x
  clear K2x
  have KA := KAx
  clear KAx
  have MA := MAx
  clear MAx
  have KB := KBx
  clear KBx
  have MB := MBx
  clear MBx
  have KG := KGx
  clear KGx
  have MG := MGx
  clear MGx
  have KH := Lib.hid kn
  have MH := Lib.hid ((hr.below by_).wide by_.size)
  clear by_ kn bw hr bz
  go_upto_region 8 with fail
  generalize U4.alloc (.cells #[.string i8, .int .i64 o8, .slice s1 cs8.length sc1, .string pr8, .int .i64 st8, .slice s2 mv8.length sc2, .slice s3 rs8.length sc3, .slice s4 ls8.length sc4] 27) = X4 at *
  generalize U4.heap.size = gh at *
  clear HMV1 HMV2 HGR1 HGR2
  have hrd : ∀ V, PS8 X4 V → (∀ i, V.cell? ⟨w.heap.size, i, none⟩ = #[.string id, .int .i64 o, .slice a1 cs.length c1, .string pr, .int .i64 st, .slice a2 mv.length c2, .slice a3 rs.length c3, .slice a4 ls.length c4][i]?) ∧ (∀ i, V.cell? ⟨w.heap.size + 1, i, none⟩ = #[.string pn, .slice b1 ss.length e1, .slice b2 ms.length e2][i]?) ∧ (∀ i, V.cell? ⟨w.heap.size + 1 + 1, i, none⟩ = #[.slice b3 dm.length e3][i]?) ∧ (∀ i, V.cell? ⟨ga, i, none⟩ = #[.string i7, .int .i64 o7, .slice p1 cs7.length pc1, .string pr7, .int .i64 st7, .slice p2 mv7.length pc2, .slice p3 rs7.length pc3, .slice p4 ls7.length pc4][i]?) ∧ (∀ i, V.cell? ⟨gb, i, none⟩ = #[.string i7, .int .i64 o7, .slice q1 cs7.length qc1, .string pr7, .int .i64 st7, .slice q2 mv7.length qc2, .slice q3 rs7.length qc3, .slice q4 ls7.length qc4][i]?) ∧ (∀ i, V.cell? ⟨gg, i, none⟩ = #[.string i8, .int .i64 o8, .slice r1 cs8.length rc1, .string pr8, .int .i64 st8, .slice r2 mv8.length rc2, .slice r3 rs8.length rc3, .slice r4 ls8.length rc4][i]?) ∧ (∀ i, V.cell? ⟨gh, i, none⟩ = #[.string i8, .int .i64 o8, .slice s1 cs8.length sc1, .string pr8, .int .i64 st8, .slice s2 mv8.length sc2, .slice s3 rs8.length sc3, .slice s4 ls8.length sc4][i]?) := fun V hV =>
    ⟨(K0.out.below hV K0.out.lt).cell, (K1.out.below hV K1.out.lt).cell, (K2.out.below hV K2.out.lt).cell, (KA.out.below hV KA.out.lt).cell, (KB.out.below hV KB.out.lt).cell, (KG.out.below hV KG.out.lt).cell, (KH.out.below hV KH.out.lt).cell⟩
  have hbv : ∀ V, PS8 X4 V → Below w.heap.size w V := fun V hV => HB.out.trans (Below.mono hV HB.out.size)
  have cs1 : ∀ V, PS8 X4 V → Calls Tryz.prog 15 #[.agg #[.string i7, .int .i64 o7, .slice p1 cs7.length pc1, .string pr7, .int .i64 st7, .slice p2 mv7.length pc2, .slice p3 rs7.length pc3, .slice p4 ls7.length pc4], .agg #[.string i7, .int .i64 o7, .slice q1 cs7.length qc1, .string pr7, .int .i64 st7, .slice q2 mv7.length qc2, .slice q3 rs7.length qc3, .slice q4 ls7.length qc4]] V fun e w' => e = .returned (.bool true) ∧ Below V.heap.size V w' := fun V hV => rsame_any V V.heap.size ⟨i7, o7, cs7, pr7, st7, mv7, rs7, ls7⟩ ⟨i7, o7, cs7, pr7, st7, mv7, rs7, ls7⟩ ⟨p1, pc1, p2, pc2, p3, pc3, p4, pc4, plv⟩ ⟨q1, qc1, q2, qc2, q3, qc3, q4, qc4, qlv⟩ ((MA.out.below hV).wide (Below.size hV)) ((MB.out.below hV).wide (Below.size hV)) (Nat.le_refl _) (HSZ1.out HFM.out) (HSZ1.out HFM.out) true (by simp)
  have cs2 : ∀ V, PS8 X4 V → Calls Tryz.prog 15 #[.agg #[.string i8, .int .i64 o8, .slice r1 cs8.length rc1, .string pr8, .int .i64 st8, .slice r2 mv8.length rc2, .slice r3 rs8.length rc3, .slice r4 ls8.length rc4], .agg #[.string i8, .int .i64 o8, .slice s1 cs8.length sc1, .string pr8, .int .i64 st8, .slice s2 mv8.length sc2, .slice s3 rs8.length sc3, .slice s4 ls8.length sc4]] V fun e w' => e = .returned (.bool true) ∧ Below V.heap.size V w' := fun V hV => rsame_any V V.heap.size ⟨i8, o8, cs8, pr8, st8, mv8, rs8, ls8⟩ ⟨i8, o8, cs8, pr8, st8, mv8, rs8, ls8⟩ ⟨r1, rc1, r2, rc2, r3, rc3, r4, rc4, rlv⟩ ⟨s1, sc1, s2, sc2, s3, sc3, s4, sc4, slv⟩ ((MG.out.below hV).wide (Below.size hV)) ((MH.out.below hV).wide (Below.size hV)) (Nat.le_refl _) (HSZ2.out HFM.out) (HSZ2.out HFM.out) true (by simp)
  have cp1 : ∀ V, PS8 X4 V → Calls Tryz.prog 23 #[.agg #[.string pn, .slice b1 ss.length e1, .slice b2 ms.length e2]] V fun e w' => e = .returned (.bool QP) ∧ Below V.heap.size V w' := fun V hV => HPR1.out V (hbv V hV) HSP.out
  have cp2 : ∀ V, PS8 X4 V → Calls Tryz.prog 24 #[.agg #[.string pn, .slice b1 ss.length e1, .slice b2 ms.length e2]] V fun e w' => e = .returned (.bool QP) ∧ Below V.heap.size V w' := fun V hV => HPR2.out V (hbv V hV) HSP.out
  have cv1 : ∀ V, PS8 X4 V → Calls Tryz.prog 25 #[.agg #[.string id, .int .i64 o, .slice a1 cs.length c1, .string pr, .int .i64 st, .slice a2 mv.length c2, .slice a3 rs.length c3, .slice a4 ls.length c4], .agg #[.string pn, .slice b1 ss.length e1, .slice b2 ms.length e2], .agg #[.slice b3 dm.length e3]] V fun e w' => e = .returned (.bool QV) ∧ Below V.heap.size V w' := fun V hV => HVL1.out V (hbv V hV) HS.out HSP.out HDL.out
  have cv2 : ∀ V, PS8 X4 V → Calls Tryz.prog 26 #[.agg #[.string id, .int .i64 o, .slice a1 cs.length c1, .string pr, .int .i64 st, .slice a2 mv.length c2, .slice a3 rs.length c3, .slice a4 ls.length c4], .agg #[.string pn, .slice b1 ss.length e1, .slice b2 ms.length e2], .agg #[.slice b3 dm.length e3]] V fun e w' => e = .returned (.bool QV) ∧ Below V.heap.size V w' := fun V hV => HVL2.out V (hbv V hV) HS.out HSP.out HDL.out
  have ch1 : ∀ V, PS8 X4 V → Calls Tryz.prog 16 #[.agg #[.string id, .int .i64 o, .slice a1 cs.length c1, .string pr, .int .i64 st, .slice a2 mv.length c2, .slice a3 rs.length c3, .slice a4 ls.length c4], .string name, .int .i64 day] V fun e w' => e = .returned (.bool QH) ∧ Below V.heap.size V w' := fun V hV => HHA1.out V (hbv V hV) HS.out
  have ch2 : ∀ V, PS8 X4 V → Calls Tryz.prog 27 #[.agg #[.string id, .int .i64 o, .slice a1 cs.length c1, .string pr, .int .i64 st, .slice a2 mv.length c2, .slice a3 rs.length c3, .slice a4 ls.length c4], .string name, .int .i64 day] V fun e w' => e = .returned (.bool QH) ∧ Below V.heap.size V w' := fun V hV => HHA2.out V (hbv V hV) HS.out
  have HRD := Lib.hid hrd
  have CS1 := Lib.hid cs1
  have CS2 := Lib.hid cs2
  have CP1 := Lib.hid cp1
  have CP2 := Lib.hid cp2
  have CV1 := Lib.hid cv1
  have CV2 := Lib.hid cv2
  have CH1 := Lib.hid ch1
  have CH2 := Lib.hid ch2
  clear hrd cs1 cs2 cp1 cp2 cv1 cv2 ch1 ch2 HPR1 HPR2 HVL1 HVL2 HHA1 HHA2 HSZ1 HSZ2 K0 K1 K2 KA KB KG KH MA MB MG MH HM HP HD HS HSP HDL HFM
  refine wp_region_rg2 (PS8 X4) RB (psM id o cs pr st mv rs ls a1 c1 a2 c2 a3 c3 a4 c4 pn ss ms b1 e1 b2 e2 b3 dm e3 day name E1 E2 QP QV QH i7 o7 cs7 pr7 st7 mv7 rs7 ls7 i8 o8 cs8 pr8 st8 mv8 rs8 ls8 p1 pc1 p2 pc2 p3 pc3 p4 pc4 q1 qc1 q2 qc2 q3 qc3 q4 qc4 r1 rc1 r2 rc2 r3 rc3 r4 rc4 s1 sc1 s2 sc2 s3 sc3 s4 sc4) [0, 1, 2, 3, 4, 5, 6, 7, 8, 9, 10, 11, 12, 13, 14, 15, 16, 17, 18, 19, 20, 21, 22, 23, 24, 25, 26, 27, 28, 29, 30, 31, 32, 33, 34, 35, 36, 37, 38, 39, 40, 41, 42, 43, 44, 45, 46, 47, 48, 49, 50] (by kernel_rfl) (by kernel_rfl) (by kernel_rfl) (below_drew0 X4) ⟨isV_mono _, isV_mono _, isV_mono _, isV_mono _, isV_mono _, isV_mono _, isV_mono _, isV_mono _, isV_mono _, isV_mono _, isV_mono _, isV_mono _, isV_mono _, isV_mono _, isV_mono _, isV_mono _, isV_mono _, isV_mono _, isV_mono _, isV_mono _, isV_mono _, isV_mono _, isV_mono _, isV_mono _, isV_mono _, isV_mono _, isV_mono _, isV_mono _, isV_mono _, isV_mono _, isV_mono _, isV_mono _, isV_mono _, isV_mono _, isV_mono _, isV_mono _, isV_mono _, isV_mono _, isV_mono _, isV_mono _, isV_mono _, isV_mono _, isV_mono _, isV_mono _, isV_mono _, isV_mono _, isV_mono _, isV_mono _, isV_mono _, isV_mono _, isV_mono _, trivial⟩ ?_
  intro F hF
  simp only [putAll, List.map_cons, List.map_nil, Act.put, List.setIfInBounds_toArray, List.set_cons_succ, List.set_cons_zero] at hF
  have HFX := Lib.hid hF
  clear hF
  refine ⟨fun Q' => ⟨?_, ?_, ?_, ?_, ?_, ?_, ?_, ?_, ?_, ?_, ?_, ?_, ?_, ?_, ?_, ?_, ?_, ?_, ?_, ?_, ?_, ?_, ?_, ?_, ?_, ?_, ?_, ?_, ?_, ?_, ?_, ?_, ?_, ?_, ?_, ?_, ?_, ?_, ?_, ?_, ?_, ?_, ?_, ?_, ?_, ?_, ?_, ?_, ?_, ?_, ?_, trivial⟩, ?_⟩
  · intro u W hS hd hp
    have HS := Lib.hid hS
    clear hS
    rw [HFX.out]
    clear hd hp 
    go_wp2_with fail
    exact ⟨_, by rw [HFX.out]; simp [upd], rfl, HS.out, Below.refl _ _⟩
  · intro u W hS hd hp
    have HS := Lib.hid hS
    clear hS
    obtain ⟨d0, -⟩ := hd
    have e0 : u 0 = .bool true := d0 rfl
    rw [HFX.out]
    simp only [e0]
    clear hp d0
    go_wp2_with fail
    exact ⟨_, by rw [HFX.out]; simp [upd, e0], rfl, HS.out, Below.refl _ _⟩
  · intro u W hS hd hp
    have HS := Lib.hid hS
    clear hS
    obtain ⟨d1, -⟩ := hd
    have e1 : u 1 = .bool true := d1 rfl
    rw [HFX.out]
    simp only [e1]
    clear hp d1
    go_wp2_with fail
    exact ⟨_, by rw [HFX.out]; simp [upd, e1], rfl, HS.out, Below.refl _ _⟩
  · intro u W hS hd hp
    have HS := Lib.hid hS
    clear hS
    obtain ⟨d1, -⟩ := hd
    have e1 : u 1 = .bool true := d1 rfl
    rw [HFX.out]
    simp only [e1]
    clear hp d1
    go_wp2_with fail
    exact ⟨_, by rw [HFX.out]; simp [upd, e1], rfl, HS.out, Below.refl _ _⟩
  · intro u W hS hd hp
    have HS := Lib.hid hS
    clear hS
    obtain ⟨d2, d3, d1, -⟩ := hd
    have e2 : u 2 = .int .i64 E1 := d2 rfl
    have e3 : u 3 = .int .i64 E1 := d3 rfl
    have e1 : u 1 = .bool true := d1 rfl
    rw [HFX.out]
    simp only [e2, e3, e1]
    clear hp d2 d3 d1
    go_wp2_with fail
    exact ⟨_, by rw [HFX.out]; simp [upd, e2, e3, e1], rfl, HS.out, Below.refl _ _⟩
  · intro u W hS hd hp
    have HS := Lib.hid hS
    clear hS
    obtain ⟨d1, d4, -⟩ := hd
    have e1 : u 1 = .bool true := d1 rfl
    have e4 : u 4 = .bool true := d4 rfl
    rw [HFX.out]
    simp only [e1, e4]
    clear hp d1 d4
    go_wp2_with fail
    exact ⟨_, by rw [HFX.out]; simp [upd, e1, e4], rfl, HS.out, Below.refl _ _⟩
  · intro u W hS hd hp
    have HS := Lib.hid hS
    clear hS
    obtain ⟨d5, -⟩ := hd
    have e5 : u 5 = .bool true := d5 rfl
    rw [HFX.out]
    simp only [e5]
    clear hp d5
    go_wp2_with fail
    exact ⟨_, by rw [HFX.out]; simp [upd, e5], rfl, HS.out, Below.refl _ _⟩
  · intro u W hS hd hp
    have HS := Lib.hid hS
    clear hS
    obtain ⟨d6, -⟩ := hd
    have e6 : u 6 = .bool true := d6 rfl
    rw [HFX.out]
    simp only [e6]
    clear hp d6
    obtain ⟨t0, u0, v0, x0, x1, x2, x3⟩ := HRD.out W HS.out
    go_wp2_with fail
    exact ⟨_, by rw [HFX.out]; simp [upd, e6], rfl, HS.out, Below.refl _ _⟩
  · intro u W hS hd hp
    have HS := Lib.hid hS
    clear hS
    obtain ⟨d6, -⟩ := hd
    have e6 : u 6 = .bool true := d6 rfl
    rw [HFX.out]
    simp only [e6]
    clear hp d6
    obtain ⟨t0, u0, v0, x0, x1, x2, x3⟩ := HRD.out W HS.out
    go_wp2_with fail
    exact ⟨_, by rw [HFX.out]; simp [upd, e6], rfl, HS.out, Below.refl _ _⟩
  · intro u W hS hd hp
    have HS := Lib.hid hS
    clear hS
    obtain ⟨d7, d8, _, d6, -⟩ := hd
    have e7 : u 7 = .agg #[.string i7, .int .i64 o7, .slice p1 cs7.length pc1, .string pr7, .int .i64 st7, .slice p2 mv7.length pc2, .slice p3 rs7.length pc3, .slice p4 ls7.length pc4] := d7 rfl
    have e8 : u 8 = .agg #[.string i7, .int .i64 o7, .slice q1 cs7.length qc1, .string pr7, .int .i64 st7, .slice q2 mv7.length qc2, .slice q3 rs7.length qc3, .slice q4 ls7.length qc4] := d8 rfl
    have e6 : u 6 = .bool true := d6 rfl
    rw [HFX.out]
    simp only [e7, e8, e6]
    clear hp d7 d8 d6
    go_wp2_with fail
    refine (CS1.out W HS.out).mono ?_
    rintro e W2 ⟨rfl, b2⟩
    go_wp2_with fail
    exact ⟨_, by rw [HFX.out]; simp [upd, e7, e8, e6], rfl, HS.out.go b2, b2⟩
  · intro u W hS hd hp
    have HS := Lib.hid hS
    clear hS
    obtain ⟨d6, d9, -⟩ := hd
    have e6 : u 6 = .bool true := d6 rfl
    have e9 : u 9 = .bool true := d9 rfl
    rw [HFX.out]
    simp only [e6, e9]
    clear hp d6 d9
    go_wp2_with fail
    exact ⟨_, by rw [HFX.out]; simp [upd, e6, e9], rfl, HS.out, Below.refl _ _⟩
  · intro u W hS hd hp
    have HS := Lib.hid hS
    clear hS
    obtain ⟨d10, -⟩ := hd
    have e10 : u 10 = .bool true := d10 rfl
    rw [HFX.out]
    simp only [e10]
    clear hp d10
    go_wp2_with fail
    exact ⟨_, by rw [HFX.out]; simp [upd, e10], rfl, HS.out, Below.refl _ _⟩
  · intro u W hS hd hp
    have HS := Lib.hid hS
    clear hS
    obtain ⟨d11, -⟩ := hd
    have e11 : u 11 = .bool true := d11 rfl
    rw [HFX.out]
    simp only [e11]
    clear hp d11
    go_wp2_with fail
    exact ⟨_, by rw [HFX.out]; simp [upd, e11], rfl, HS.out, Below.refl _ _⟩
  · intro u W hS hd hp
    have HS := Lib.hid hS
    clear hS
    obtain ⟨d11, -⟩ := hd
    have e11 : u 11 = .bool true := d11 rfl
    rw [HFX.out]
    simp only [e11]
    clear hp d11
    go_wp2_with fail
    exact ⟨_, by rw [HFX.out]; simp [upd, e11], rfl, HS.out, Below.refl _ _⟩
  · intro u W hS hd hp
    have HS := Lib.hid hS
    clear hS
    obtain ⟨d12, d13, d11, -⟩ := hd
    have e12 : u 12 = .int .i64 E2 := d12 rfl
    have e13 : u 13 = .int .i64 E2 := d13 rfl
    have e11 : u 11 = .bool true := d11 rfl
    rw [HFX.out]
    simp only [e12, e13, e11]
    clear hp d12 d13 d11
    go_wp2_with fail
    exact ⟨_, by rw [HFX.out]; simp [upd, e12, e13, e11], rfl, HS.out, Below.refl _ _⟩
  · intro u W hS hd hp
    have HS := Lib.hid hS
    clear hS
    obtain ⟨d11, d14, -⟩ := hd
    have e11 : u 11 = .bool true := d11 rfl
    have e14 : u 14 = .bool true := d14 rfl
    rw [HFX.out]
    simp only [e11, e14]
    clear hp d11 d14
    go_wp2_with fail
    exact ⟨_, by rw [HFX.out]; simp [upd, e11, e14], rfl, HS.out, Below.refl _ _⟩
  · intro u W hS hd hp
    have HS := Lib.hid hS
    clear hS
    obtain ⟨d15, -⟩ := hd
    have e15 : u 15 = .bool true := d15 rfl
    rw [HFX.out]
    simp only [e15]
    clear hp d15
    go_wp2_with fail
    exact ⟨_, by rw [HFX.out]; simp [upd, e15], rfl, HS.out, Below.refl _ _⟩
  · intro u W hS hd hp
    have HS := Lib.hid hS
    clear hS
    obtain ⟨d16, -⟩ := hd
    have e16 : u 16 = .bool true := d16 rfl
    rw [HFX.out]
    simp only [e16]
    clear hp d16
    obtain ⟨t0, u0, v0, x0, x1, x2, x3⟩ := HRD.out W HS.out
    go_wp2_with fail
    exact ⟨_, by rw [HFX.out]; simp [upd, e16], rfl, HS.out, Below.refl _ _⟩
  · intro u W hS hd hp
    have HS := Lib.hid hS
    clear hS
    obtain ⟨d16, -⟩ := hd
    have e16 : u 16 = .bool true := d16 rfl
    rw [HFX.out]
    simp only [e16]
    clear hp d16
    obtain ⟨t0, u0, v0, x0, x1, x2, x3⟩ := HRD.out W HS.out
    go_wp2_with fail
    exact ⟨_, by rw [HFX.out]; simp [upd, e16], rfl, HS.out, Below.refl _ _⟩
  · intro u W hS hd hp
    have HS := Lib.hid hS
    clear hS
    obtain ⟨d17, d18, _, d16, -⟩ := hd
    have e17 : u 17 = .agg #[.string i8, .int .i64 o8, .slice r1 cs8.length rc1, .string pr8, .int .i64 st8, .slice r2 mv8.length rc2, .slice r3 rs8.length rc3, .slice r4 ls8.length rc4] := d17 rfl
    have e18 : u 18 = .agg #[.string i8, .int .i64 o8, .slice s1 cs8.length sc1, .string pr8, .int .i64 st8, .slice s2 mv8.length sc2, .slice s3 rs8.length sc3, .slice s4 ls8.length sc4] := d18 rfl
    have e16 : u 16 = .bool true := d16 rfl
    rw [HFX.out]
    simp only [e17, e18, e16]
    clear hp d17 d18 d16
    go_wp2_with fail
    refine (CS2.out W HS.out).mono ?_
    rintro e W2 ⟨rfl, b2⟩
    go_wp2_with fail
    exact ⟨_, by rw [HFX.out]; simp [upd, e17, e18, e16], rfl, HS.out.go b2, b2⟩
  · intro u W hS hd hp
    have HS := Lib.hid hS
    clear hS
    obtain ⟨d16, d19, -⟩ := hd
    have e16 : u 16 = .bool true := d16 rfl
    have e19 : u 19 = .bool true := d19 rfl
    rw [HFX.out]
    simp only [e16, e19]
    clear hp d16 d19
    go_wp2_with fail
    exact ⟨_, by rw [HFX.out]; simp [upd, e16, e19], rfl, HS.out, Below.refl _ _⟩
  · intro u W hS hd hp
    have HS := Lib.hid hS
    clear hS
    obtain ⟨d20, -⟩ := hd
    have e20 : u 20 = .bool true := d20 rfl
    rw [HFX.out]
    simp only [e20]
    clear hp d20
    go_wp2_with fail
    exact ⟨_, by rw [HFX.out]; simp [upd, e20], rfl, HS.out, Below.refl _ _⟩
  · intro u W hS hd hp
    have HS := Lib.hid hS
    clear hS
    obtain ⟨d21, -⟩ := hd
    have e21 : u 21 = .bool true := d21 rfl
    rw [HFX.out]
    simp only [e21]
    clear hp d21
    obtain ⟨t0, u0, v0, x0, x1, x2, x3⟩ := HRD.out W HS.out
    go_wp2_with fail
    exact ⟨_, by rw [HFX.out]; simp [upd, e21], rfl, HS.out, Below.refl _ _⟩
  · intro u W hS hd hp
    have HS := Lib.hid hS
    clear hS
    obtain ⟨d22, _, d21, -⟩ := hd
    have e22 : u 22 = .agg #[.string pn, .slice b1 ss.length e1, .slice b2 ms.length e2] := d22 rfl
    have e21 : u 21 = .bool true := d21 rfl
    rw [HFX.out]
    simp only [e22, e21]
    clear hp d22 d21
    go_wp2_with fail
    refine (CP1.out W HS.out).mono ?_
    rintro e W2 ⟨rfl, b2⟩
    go_wp2_with fail
    exact ⟨_, by rw [HFX.out]; simp [upd, e22, e21], rfl, HS.out.go b2, b2⟩
  · intro u W hS hd hp
    have HS := Lib.hid hS
    clear hS
    obtain ⟨d21, -⟩ := hd
    have e21 : u 21 = .bool true := d21 rfl
    rw [HFX.out]
    simp only [e21]
    clear hp d21
    obtain ⟨t0, u0, v0, x0, x1, x2, x3⟩ := HRD.out W HS.out
    go_wp2_with fail
    exact ⟨_, by rw [HFX.out]; simp [upd, e21], rfl, HS.out, Below.refl _ _⟩
  · intro u W hS hd hp
    have HS := Lib.hid hS
    clear hS
    obtain ⟨d24, _, d21, -⟩ := hd
    have e24 : u 24 = .agg #[.string pn, .slice b1 ss.length e1, .slice b2 ms.length e2] := d24 rfl
    have e21 : u 21 = .bool true := d21 rfl
    rw [HFX.out]
    simp only [e24, e21]
    clear hp d24 d21
    go_wp2_with fail
    refine (CP2.out W HS.out).mono ?_
    rintro e W2 ⟨rfl, b2⟩
    go_wp2_with fail
    exact ⟨_, by rw [HFX.out]; simp [upd, e24, e21], rfl, HS.out.go b2, b2⟩
  · intro u W hS hd hp
    have HS := Lib.hid hS
    clear hS
    obtain ⟨d23, d25, d21, -⟩ := hd
    have e23 : u 23 = .bool QP := d23 rfl
    have e25 : u 25 = .bool QP := d25 rfl
    have e21 : u 21 = .bool true := d21 rfl
    rw [HFX.out]
    simp only [e23, e25, e21]
    clear hp d23 d25 d21
    go_wp2_with fail
    exact ⟨_, by rw [HFX.out]; simp [upd, e23, e25, e21], rfl, HS.out, Below.refl _ _⟩
  · intro u W hS hd hp
    have HS := Lib.hid hS
    clear hS
    obtain ⟨d21, d26, -⟩ := hd
    have e21 : u 21 = .bool true := d21 rfl
    have e26 : u 26 = .bool true := d26 rfl
    rw [HFX.out]
    simp only [e21, e26]
    clear hp d21 d26
    go_wp2_with fail
    exact ⟨_, by rw [HFX.out]; simp [upd, e21, e26], rfl, HS.out, Below.refl _ _⟩
  · intro u W hS hd hp
    have HS := Lib.hid hS
    clear hS
    obtain ⟨d27, -⟩ := hd
    have e27 : u 27 = .bool true := d27 rfl
    rw [HFX.out]
    simp only [e27]
    clear hp d27
    go_wp2_with fail
    exact ⟨_, by rw [HFX.out]; simp [upd, e27], rfl, HS.out, Below.refl _ _⟩
  · intro u W hS hd hp
    have HS := Lib.hid hS
    clear hS
    obtain ⟨d28, -⟩ := hd
    have e28 : u 28 = .bool true := d28 rfl
    rw [HFX.out]
    simp only [e28]
    clear hp d28
    obtain ⟨t0, u0, v0, x0, x1, x2, x3⟩ := HRD.out W HS.out
    go_wp2_with fail
    exact ⟨_, by rw [HFX.out]; simp [upd, e28], rfl, HS.out, Below.refl _ _⟩
  · intro u W hS hd hp
    have HS := Lib.hid hS
    clear hS
    obtain ⟨d28, -⟩ := hd
    have e28 : u 28 = .bool true := d28 rfl
    rw [HFX.out]
    simp only [e28]
    clear hp d28
    obtain ⟨t0, u0, v0, x0, x1, x2, x3⟩ := HRD.out W HS.out
    go_wp2_with fail
    exact ⟨_, by rw [HFX.out]; simp [upd, e28], rfl, HS.out, Below.refl _ _⟩
  · intro u W hS hd hp
    have HS := Lib.hid hS
    clear hS
    obtain ⟨d28, -⟩ := hd
    have e28 : u 28 = .bool true := d28 rfl
    rw [HFX.out]
    simp only [e28]
    clear hp d28
    obtain ⟨t0, u0, v0, x0, x1, x2, x3⟩ := HRD.out W HS.out
    go_wp2_with fail
    exact ⟨_, by rw [HFX.out]; simp [upd, e28], rfl, HS.out, Below.refl _ _⟩
  · intro u W hS hd hp
    have HS := Lib.hid hS
    clear hS
    obtain ⟨d29, d30, d31, _, d28, -⟩ := hd
    have e29 : u 29 = .agg #[.string id, .int .i64 o, .slice a1 cs.length c1, .string pr, .int .i64 st, .slice a2 mv.length c2, .slice a3 rs.length c3, .slice a4 ls.length c4] := d29 rfl
    have e30 : u 30 = .agg #[.string pn, .slice b1 ss.length e1, .slice b2 ms.length e2] := d30 rfl
    have e31 : u 31 = .agg #[.slice b3 dm.length e3] := d31 rfl
    have e28 : u 28 = .bool true := d28 rfl
    rw [HFX.out]
    simp only [e29, e30, e31, e28]
    clear hp d29 d30 d31 d28
    go_wp2_with fail
    refine (CV1.out W HS.out).mono ?_
    rintro e W2 ⟨rfl, b2⟩
    go_wp2_with fail
    exact ⟨_, by rw [HFX.out]; simp [upd, e29, e30, e31, e28], rfl, HS.out.go b2, b2⟩
  · intro u W hS hd hp
    have HS := Lib.hid hS
    clear hS
    obtain ⟨d28, -⟩ := hd
    have e28 : u 28 = .bool true := d28 rfl
    rw [HFX.out]
    simp only [e28]
    clear hp d28
    obtain ⟨t0, u0, v0, x0, x1, x2, x3⟩ := HRD.out W HS.out
    go_wp2_with fail
    exact ⟨_, by rw [HFX.out]; simp [upd, e28], rfl, HS.out, Below.refl _ _⟩
  · intro u W hS hd hp
    have HS := Lib.hid hS
    clear hS
    obtain ⟨d28, -⟩ := hd
    have e28 : u 28 = .bool true := d28 rfl
    rw [HFX.out]
    simp only [e28]
    clear hp d28
    obtain ⟨t0, u0, v0, x0, x1, x2, x3⟩ := HRD.out W HS.out
    go_wp2_with fail
    exact ⟨_, by rw [HFX.out]; simp [upd, e28], rfl, HS.out, Below.refl _ _⟩
  · intro u W hS hd hp
    have HS := Lib.hid hS
    clear hS
    obtain ⟨d28, -⟩ := hd
    have e28 : u 28 = .bool true := d28 rfl
    rw [HFX.out]
    simp only [e28]
    clear hp d28
    obtain ⟨t0, u0, v0, x0, x1, x2, x3⟩ := HRD.out W HS.out
    go_wp2_with fail
    exact ⟨_, by rw [HFX.out]; simp [upd, e28], rfl, HS.out, Below.refl _ _⟩
  · intro u W hS hd hp
    have HS := Lib.hid hS
    clear hS
    obtain ⟨d33, d34, d35, _, d28, -⟩ := hd
    have e33 : u 33 = .agg #[.string id, .int .i64 o, .slice a1 cs.length c1, .string pr, .int .i64 st, .slice a2 mv.length c2, .slice a3 rs.length c3, .slice a4 ls.length c4] := d33 rfl
    have e34 : u 34 = .agg #[.string pn, .slice b1 ss.length e1, .slice b2 ms.length e2] := d34 rfl
    have e35 : u 35 = .agg #[.slice b3 dm.length e3] := d35 rfl
    have e28 : u 28 = .bool true := d28 rfl
    rw [HFX.out]
    simp only [e33, e34, e35, e28]
    clear hp d33 d34 d35 d28
    go_wp2_with fail
    refine (CV2.out W HS.out).mono ?_
    rintro e W2 ⟨rfl, b2⟩
    go_wp2_with fail
    exact ⟨_, by rw [HFX.out]; simp [upd, e33, e34, e35, e28], rfl, HS.out.go b2, b2⟩
  · intro u W hS hd hp
    have HS := Lib.hid hS
    clear hS
    obtain ⟨d32, d36, d28, -⟩ := hd
    have e32 : u 32 = .bool QV := d32 rfl
    have e36 : u 36 = .bool QV := d36 rfl
    have e28 : u 28 = .bool true := d28 rfl
    rw [HFX.out]
    simp only [e32, e36, e28]
    clear hp d32 d36 d28
    go_wp2_with fail
    exact ⟨_, by rw [HFX.out]; simp [upd, e32, e36, e28], rfl, HS.out, Below.refl _ _⟩
  · intro u W hS hd hp
    have HS := Lib.hid hS
    clear hS
    obtain ⟨d28, d37, -⟩ := hd
    have e28 : u 28 = .bool true := d28 rfl
    have e37 : u 37 = .bool true := d37 rfl
    rw [HFX.out]
    simp only [e28, e37]
    clear hp d28 d37
    go_wp2_with fail
    exact ⟨_, by rw [HFX.out]; simp [upd, e28, e37], rfl, HS.out, Below.refl _ _⟩
  · intro u W hS hd hp
    have HS := Lib.hid hS
    clear hS
    obtain ⟨d38, -⟩ := hd
    have e38 : u 38 = .bool true := d38 rfl
    rw [HFX.out]
    simp only [e38]
    clear hp d38
    go_wp2_with fail
    exact ⟨_, by rw [HFX.out]; simp [upd, e38], rfl, HS.out, Below.refl _ _⟩
  · intro u W hS hd hp
    have HS := Lib.hid hS
    clear hS
    obtain ⟨d39, -⟩ := hd
    have e39 : u 39 = .bool true := d39 rfl
    rw [HFX.out]
    simp only [e39]
    clear hp d39
    obtain ⟨t0, u0, v0, x0, x1, x2, x3⟩ := HRD.out W HS.out
    go_wp2_with fail
    exact ⟨_, by rw [HFX.out]; simp [upd, e39], rfl, HS.out, Below.refl _ _⟩
  · intro u W hS hd hp
    have HS := Lib.hid hS
    clear hS
    obtain ⟨d39, -⟩ := hd
    have e39 : u 39 = .bool true := d39 rfl
    rw [HFX.out]
    simp only [e39]
    clear hp d39
    go_wp2_with fail
    exact ⟨_, by rw [HFX.out]; simp [upd, e39], rfl, HS.out, Below.refl _ _⟩
  · intro u W hS hd hp
    have HS := Lib.hid hS
    clear hS
    obtain ⟨d39, -⟩ := hd
    have e39 : u 39 = .bool true := d39 rfl
    rw [HFX.out]
    simp only [e39]
    clear hp d39
    go_wp2_with fail
    exact ⟨_, by rw [HFX.out]; simp [upd, e39], rfl, HS.out, Below.refl _ _⟩
  · intro u W hS hd hp
    have HS := Lib.hid hS
    clear hS
    obtain ⟨d40, d41, d42, _, d39, -⟩ := hd
    have e40 : u 40 = .agg #[.string id, .int .i64 o, .slice a1 cs.length c1, .string pr, .int .i64 st, .slice a2 mv.length c2, .slice a3 rs.length c3, .slice a4 ls.length c4] := d40 rfl
    have e41 : u 41 = .string name := d41 rfl
    have e42 : u 42 = .int .i64 day := d42 rfl
    have e39 : u 39 = .bool true := d39 rfl
    rw [HFX.out]
    simp only [e40, e41, e42, e39]
    clear hp d40 d41 d42 d39
    go_wp2_with fail
    refine (CH1.out W HS.out).mono ?_
    rintro e W2 ⟨rfl, b2⟩
    go_wp2_with fail
    exact ⟨_, by rw [HFX.out]; simp [upd, e40, e41, e42, e39], rfl, HS.out.go b2, b2⟩
  · intro u W hS hd hp
    have HS := Lib.hid hS
    clear hS
    obtain ⟨d39, -⟩ := hd
    have e39 : u 39 = .bool true := d39 rfl
    rw [HFX.out]
    simp only [e39]
    clear hp d39
    obtain ⟨t0, u0, v0, x0, x1, x2, x3⟩ := HRD.out W HS.out
    go_wp2_with fail
    exact ⟨_, by rw [HFX.out]; simp [upd, e39], rfl, HS.out, Below.refl _ _⟩
  · intro u W hS hd hp
    have HS := Lib.hid hS
    clear hS
    obtain ⟨d39, -⟩ := hd
    have e39 : u 39 = .bool true := d39 rfl
    rw [HFX.out]
    simp only [e39]
    clear hp d39
    go_wp2_with fail
    exact ⟨_, by rw [HFX.out]; simp [upd, e39], rfl, HS.out, Below.refl _ _⟩
  · intro u W hS hd hp
    have HS := Lib.hid hS
    clear hS
    obtain ⟨d39, -⟩ := hd
    have e39 : u 39 = .bool true := d39 rfl
    rw [HFX.out]
    simp only [e39]
    clear hp d39
    go_wp2_with fail
    exact ⟨_, by rw [HFX.out]; simp [upd, e39], rfl, HS.out, Below.refl _ _⟩
  · intro u W hS hd hp
    have HS := Lib.hid hS
    clear hS
    obtain ⟨d44, d45, d46, _, d39, -⟩ := hd
    have e44 : u 44 = .agg #[.string id, .int .i64 o, .slice a1 cs.length c1, .string pr, .int .i64 st, .slice a2 mv.length c2, .slice a3 rs.length c3, .slice a4 ls.length c4] := d44 rfl
    have e45 : u 45 = .string name := d45 rfl
    have e46 : u 46 = .int .i64 day := d46 rfl
    have e39 : u 39 = .bool true := d39 rfl
    rw [HFX.out]
    simp only [e44, e45, e46, e39]
    clear hp d44 d45 d46 d39
    go_wp2_with fail
    refine (CH2.out W HS.out).mono ?_
    rintro e W2 ⟨rfl, b2⟩
    go_wp2_with fail
    exact ⟨_, by rw [HFX.out]; simp [upd, e44, e45, e46, e39], rfl, HS.out.go b2, b2⟩
  · intro u W hS hd hp
    have HS := Lib.hid hS
    clear hS
    obtain ⟨d43, d47, d39, -⟩ := hd
    have e43 : u 43 = .bool QH := d43 rfl
    have e47 : u 47 = .bool QH := d47 rfl
    have e39 : u 39 = .bool true := d39 rfl
    rw [HFX.out]
    simp only [e43, e47, e39]
    clear hp d43 d47 d39
    go_wp2_with fail
    exact ⟨_, by rw [HFX.out]; simp [upd, e43, e47, e39], rfl, HS.out, Below.refl _ _⟩
  · intro u W hS hd hp
    have HS := Lib.hid hS
    clear hS
    obtain ⟨d39, d48, -⟩ := hd
    have e39 : u 39 = .bool true := d39 rfl
    have e48 : u 48 = .bool true := d48 rfl
    rw [HFX.out]
    simp only [e39, e48]
    clear hp d39 d48
    go_wp2_with fail
    exact ⟨_, by rw [HFX.out]; simp [upd, e39, e48], rfl, HS.out, Below.refl _ _⟩
  · intro u W hS hd hp
    have HS := Lib.hid hS
    clear hS
    obtain ⟨d49, -⟩ := hd
    have e49 : u 49 = .bool true := d49 rfl
    rw [HFX.out]
    simp only [e49]
    clear hp d49
    go_wp2_with fail
    exact ⟨_, by rw [HFX.out]; simp [upd, e49], rfl, HS.out, Below.refl _ _⟩
  intro u W hS hf
  have e50 : u 50 = .bool true := hf 50 (by decide)
  have hbf := hbv W hS
  rw [HFX.out]
  simp only [e50]
  clear hf HFX F hS e50 HRD CS1 CS2 CP1 CP2 CV1 CV2 CH1 CH2 hbv
  go_wp2
  go_ret
  exact ⟨rfl, hbf⟩
end Go.Proofs.YtgfahifdmacmhaaGreatDoor
