/- MigrateKeeps. -/
import Derived.Test.YtknchlpcpgflkaaGreatDoorKNd
import Derived.Test.YtknchlpcpgflkaaGreatDoorKGBW
import Derived.Test.YtknchlpcpgflkaaGreatDoorKGBA
import Derived.Test.YtknchlpcpgflkaaGreatDoorKGBH
import Derived.Test.YtknchlpcpgflkaaGreatDoorKYe
import Derived.Test.YtknchlpcpgflkaaGreatDoorKGBS
import Derived.Test.YtknchlpcpgflkaaGreatDoorKWv
import Derived.Test.YtknchlpcpgflkaaGreatDoorKGBT
namespace Go.Proofs.YtknchlpcpgflkaaGreatDoor
open Go.RowKit Go.Shelf

theorem DmAt.widen {w : World} {B B2 : Nat} {d : List Fc} {A : Option Addr} (h : DmAt w B d A) (hB : B ≤ B2) : DmAt w B2 d A := ⟨h.at_.wide hB, h.nm⟩
set_option maxRecDepth 100000 in
set_option maxHeartbeats 16000000 in
theorem keeps_walk (w : World) (ht : Tbs w) (z1 : Mt × MtX) (h1 : MtIn w z1) (z2 : Mg × MgX) (h2 : MgIn w z2) (z3 : Pc × PcX) (h3 : PcIn w z3) (z4 : Pc × PcX) (h4 : PcIn w z4) (day : Int) (_wd : (Lit.int .i64 day).wf = true) (C : Option Addr) (cc : Nat) (l : List Int) (hl : Ints w w.heap.size C l) (z5 : List Fc × Option Addr × Nat) (h5 : DmIn w z5) :
    Calls Tryz.prog 6 #[.agg (mtC z1.1 z1.2), .agg (mgC z2.1 z2.2), .agg (pcC z3.1 z3.2), .agg (pcC z4.1 z4.2), .int .i64 day, .slice C l.length cc, .agg #[.slice z5.2.1 z5.1.length z5.2.2]] w fun e w' => e = .returned (.bool true) ∧ Below w.heap.size w w' := by
  obtain ⟨m, x⟩ := z1
  obtain ⟨g, z⟩ := z2
  obtain ⟨p, y⟩ := z3
  obtain ⟨q, v⟩ := z4
  obtain ⟨hm, zm⟩ := h1
  obtain ⟨hg, zg⟩ := h2
  obtain ⟨hp, zp⟩ := h3
  obtain ⟨hq, zq⟩ := h4
  obtain ⟨hD, hw, hll⟩ := hl
  simp only at hm zm hg zg hp zp hq zq ⊢
  have hfew := fun W (hW : Below w.heap.size w W) => lfew_any W w.heap.size hW.size m x (hm.below hW) ⟨zm.1, zm.2.1, zm.2.2.1, zm.2.2.2.1⟩ g z (hg.below hW) zg p y (hp.below hW) zp q v (hq.below hW) zq C l.length cc hll
  have hhd := fun W (hW : Below w.heap.size w W) => head_any W (ht.below hW)
  have hap := fun W (hW : Below w.heap.size w W) (sm : Sml m) (sg : SmlG g) (sp : SmlP p) (sq : SmlP q) (hl2 : l.length ≤ 100) => gapply_any W (ht.below hW) w.heap.size m x (hm.below hW) hW.size sm g z (hg.below hW) sg p y (hp.below hW) sp q v (hq.below hW) sq day C l cc (hD.below hW) (by omega) hw
  have FM : Hid (FewL m g p q l.length → Sml m ∧ SmlG g ∧ SmlP p ∧ SmlP q ∧ l.length ≤ 100) := Lib.hid (fun h => ⟨h.1.sml, h.2.1.sml, h.2.2.1.sml, h.2.2.2.1.sml, h.2.2.2.2⟩)
  obtain ⟨E, hE⟩ : ∃ E, applyE m g p q day l = E := ⟨_, rfl⟩
  obtain ⟨a, ha⟩ : ∃ a, applyM m g p q day l = a := ⟨_, rfl⟩
  rw [hE, ha] at hap
  have HD := Lib.hid h5
  obtain ⟨PF, hPF⟩ : ∃ P, FewL m g p q l.length = P := ⟨_, rfl⟩
  rw [hPF] at hfew FM
  have HM := Lib.hid hm
  have HG := Lib.hid hg
  have HP := Lib.hid hp
  have HQ := Lib.hid hq
  have HE := Lib.hid hE
  have HA := Lib.hid ha
  clear hPF hE ha hm hg hp hq zm zg zp zq hD hw
  obtain ⟨id, o, cs, pr, st, mv, rs, ls⟩ := m
  obtain ⟨a1, c1, a2, c2, a3, c3, a4, c4, lv⟩ := x
  obtain ⟨fr, tn, gst, grs, gts⟩ := g
  obtain ⟨b1, d1, b2, d2, b3, d3, tv⟩ := z
  obtain ⟨pn, pss, pms⟩ := p
  obtain ⟨e1, f1, e2, f2⟩ := y
  obtain ⟨qn, qss, qms⟩ := q
  obtain ⟨i1, j1, i2, j2⟩ := v
  obtain ⟨cl, hcl⟩ : ∃ k, cs.length = k := ⟨_, rfl⟩
  obtain ⟨k2, hk2⟩ : ∃ k, mv.length = k := ⟨_, rfl⟩
  obtain ⟨N, hN⟩ : ∃ k, rs.length = k := ⟨_, rfl⟩
  obtain ⟨K, hK⟩ : ∃ k, ls.length = k := ⟨_, rfl⟩
  obtain ⟨gn, hgn⟩ : ∃ k, gst.length = k := ⟨_, rfl⟩
  obtain ⟨grl, hgrl⟩ : ∃ k, grs.length = k := ⟨_, rfl⟩
  obtain ⟨J, hJ⟩ : ∃ k, gts.length = k := ⟨_, rfl⟩
  obtain ⟨pl, hpl⟩ : ∃ k, pss.length = k := ⟨_, rfl⟩
  obtain ⟨pml, hpml⟩ : ∃ k, pms.length = k := ⟨_, rfl⟩
  obtain ⟨ql, hql⟩ : ∃ k, qss.length = k := ⟨_, rfl⟩
  obtain ⟨qml, hqml⟩ : ∃ k, qms.length = k := ⟨_, rfl⟩
  have eM : mtC ⟨id, o, cs, pr, st, mv, rs, ls⟩ ⟨a1, c1, a2, c2, a3, c3, a4, c4, lv⟩ = #[.string id, .int .i64 o, .slice a1 cl c1, .string pr, .int .i64 st, .slice a2 k2 c2, .slice a3 N c3, .slice a4 K c4] := by unfold mtC; simp only [hcl, hk2, hN, hK]
  have eG : mgC ⟨fr, tn, gst, grs, gts⟩ ⟨b1, d1, b2, d2, b3, d3, tv⟩ = #[.string fr, .string tn, .slice b1 gn d1, .slice b2 grl d2, .slice b3 J d3] := by unfold mgC; simp only [hgn, hgrl, hJ]
  have eP : pcC ⟨pn, pss, pms⟩ ⟨e1, f1, e2, f2⟩ = #[.string pn, .slice e1 pl f1, .slice e2 pml f2] := by unfold pcC; simp only [hpl, hpml]
  have eQ : pcC ⟨qn, qss, qms⟩ ⟨i1, j1, i2, j2⟩ = #[.string qn, .slice i1 ql j1, .slice i2 qml j2] := by unfold pcC; simp only [hql, hqml]
  rw [eM, eG, eP, eQ] at hfew hap
  rw [eM, eG, eP, eQ]
  have FEW := Lib.hid hfew
  have HHD := Lib.hid hhd
  have HAP := Lib.hid hap
  have HT := Lib.hid ht
  have HCL := Lib.hid hcl
  have HK2 := Lib.hid hk2
  have HN := Lib.hid hN
  have HK := Lib.hid hK
  have HGN := Lib.hid hgn
  have HPL := Lib.hid hpl
  have HGRL := Lib.hid hgrl
  have HJ := Lib.hid hJ
  have HPML := Lib.hid hpml
  have HQL := Lib.hid hql
  have HQML := Lib.hid hqml
  clear eM eG eP eQ hfew hhd hap ht hcl hk2 hN hK hgn hgrl hJ hpl hpml hql hqml h5
  have hb := ((((below_self_alloc w (.cells #[.string id, .int .i64 o, .slice a1 cl c1, .string pr, .int .i64 st, .slice a2 k2 c2, .slice a3 N c3, .slice a4 K c4] 27)).alloc (by simp) (.cells #[.string fr, .string tn, .slice b1 gn d1, .slice b2 grl d2, .slice b3 J d3] 30)).alloc (by simp; omega) (.cells #[.string pn, .slice e1 pl f1, .slice e2 pml f2] 34)).alloc (by simp; omega) (.cells #[.string qn, .slice i1 ql j1, .slice i2 qml j2] 34)).alloc (by simp; omega) (.cells #[.slice z5.2.1 z5.1.length z5.2.2] 62)
  have kb0 := ((((Blk.new w 27 #[.string id, .int .i64 o, .slice a1 cl c1, .string pr, .int .i64 st, .slice a2 k2 c2, .slice a3 N c3, .slice a4 K c4]).alloc (.cells #[.string fr, .string tn, .slice b1 gn d1, .slice b2 grl d2, .slice b3 J d3] 30)).alloc (.cells #[.string pn, .slice e1 pl f1, .slice e2 pml f2] 34)).alloc (.cells #[.string qn, .slice i1 ql j1, .slice i2 qml j2] 34)).alloc (.cells #[.slice z5.2.1 z5.1.length z5.2.2] 62)
  have kb1 := (((Blk.new (w.alloc (.cells #[.string id, .int .i64 o, .slice a1 cl c1, .string pr, .int .i64 st, .slice a2 k2 c2, .slice a3 N c3, .slice a4 K c4] 27)) 30 #[.string fr, .string tn, .slice b1 gn d1, .slice b2 grl d2, .slice b3 J d3]).alloc (.cells #[.string pn, .slice e1 pl f1, .slice e2 pml f2] 34)).alloc (.cells #[.string qn, .slice i1 ql j1, .slice i2 qml j2] 34)).alloc (.cells #[.slice z5.2.1 z5.1.length z5.2.2] 62)
  rw [show ((w.alloc (.cells #[.string id, .int .i64 o, .slice a1 cl c1, .string pr, .int .i64 st, .slice a2 k2 c2, .slice a3 N c3, .slice a4 K c4] 27))).heap.size = w.heap.size + 1 from by simp] at kb1
  have kb2 := ((Blk.new ((w.alloc (.cells #[.string id, .int .i64 o, .slice a1 cl c1, .string pr, .int .i64 st, .slice a2 k2 c2, .slice a3 N c3, .slice a4 K c4] 27)).alloc (.cells #[.string fr, .string tn, .slice b1 gn d1, .slice b2 grl d2, .slice b3 J d3] 30)) 34 #[.string pn, .slice e1 pl f1, .slice e2 pml f2]).alloc (.cells #[.string qn, .slice i1 ql j1, .slice i2 qml j2] 34)).alloc (.cells #[.slice z5.2.1 z5.1.length z5.2.2] 62)
  rw [show (((w.alloc (.cells #[.string id, .int .i64 o, .slice a1 cl c1, .string pr, .int .i64 st, .slice a2 k2 c2, .slice a3 N c3, .slice a4 K c4] 27)).alloc (.cells #[.string fr, .string tn, .slice b1 gn d1, .slice b2 grl d2, .slice b3 J d3] 30))).heap.size = w.heap.size + 1 + 1 from by simp] at kb2
  have kb3 := (Blk.new (((w.alloc (.cells #[.string id, .int .i64 o, .slice a1 cl c1, .string pr, .int .i64 st, .slice a2 k2 c2, .slice a3 N c3, .slice a4 K c4] 27)).alloc (.cells #[.string fr, .string tn, .slice b1 gn d1, .slice b2 grl d2, .slice b3 J d3] 30)).alloc (.cells #[.string pn, .slice e1 pl f1, .slice e2 pml f2] 34)) 34 #[.string qn, .slice i1 ql j1, .slice i2 qml j2]).alloc (.cells #[.slice z5.2.1 z5.1.length z5.2.2] 62)
  rw [show ((((w.alloc (.cells #[.string id, .int .i64 o, .slice a1 cl c1, .string pr, .int .i64 st, .slice a2 k2 c2, .slice a3 N c3, .slice a4 K c4] 27)).alloc (.cells #[.string fr, .string tn, .slice b1 gn d1, .slice b2 grl d2, .slice b3 J d3] 30)).alloc (.cells #[.string pn, .slice e1 pl f1, .slice e2 pml f2] 34))).heap.size = w.heap.size + 1 + 1 + 1 from by simp] at kb3
  have kb4 := Blk.new ((((w.alloc (.cells #[.string id, .int .i64 o, .slice a1 cl c1, .string pr, .int .i64 st, .slice a2 k2 c2, .slice a3 N c3, .slice a4 K c4] 27)).alloc (.cells #[.string fr, .string tn, .slice b1 gn d1, .slice b2 grl d2, .slice b3 J d3] 30)).alloc (.cells #[.string pn, .slice e1 pl f1, .slice e2 pml f2] 34)).alloc (.cells #[.string qn, .slice i1 ql j1, .slice i2 qml j2] 34)) 62 #[.slice z5.2.1 z5.1.length z5.2.2]
  rw [show (((((w.alloc (.cells #[.string id, .int .i64 o, .slice a1 cl c1, .string pr, .int .i64 st, .slice a2 k2 c2, .slice a3 N c3, .slice a4 K c4] 27)).alloc (.cells #[.string fr, .string tn, .slice b1 gn d1, .slice b2 grl d2, .slice b3 J d3] 30)).alloc (.cells #[.string pn, .slice e1 pl f1, .slice e2 pml f2] 34)).alloc (.cells #[.string qn, .slice i1 ql j1, .slice i2 qml j2] 34))).heap.size = w.heap.size + 1 + 1 + 1 + 1 from by simp] at kb4
  have KB0 := Lib.hid kb0
  have KB1 := Lib.hid kb1
  have KB2 := Lib.hid kb2
  have KB3 := Lib.hid kb3
  have KB4 := Lib.hid kb4
  have HB := Lib.hid hb
  clear hb kb0 kb1 kb2 kb3 kb4
  go_enter Tryz.func6, Tryz.ntmps6
  go_upto_region 1 with fail
  generalize (((((w.alloc (.cells #[.string id, .int .i64 o, .slice a1 cl c1, .string pr, .int .i64 st, .slice a2 k2 c2, .slice a3 N c3, .slice a4 K c4] 27)).alloc (.cells #[.string fr, .string tn, .slice b1 gn d1, .slice b2 grl d2, .slice b3 J d3] 30)).alloc (.cells #[.string pn, .slice e1 pl f1, .slice e2 pml f2] 34)).alloc (.cells #[.string qn, .slice i1 ql j1, .slice i2 qml j2] 34)).alloc (.cells #[.slice z5.2.1 z5.1.length z5.2.2] 62)) = W0 at *
  go_wp2_with fail
  refine (HHD.out W0 HB.out).mono ?_
  rintro e W1 ⟨rfl, bb⟩
  replace HB := Lib.hid (HB.out.trans (bb.mono HB.out.size))
  replace KB0 := Lib.hid (KB0.out.below bb KB0.out.lt)
  replace KB1 := Lib.hid (KB1.out.below bb KB1.out.lt)
  replace KB2 := Lib.hid (KB2.out.below bb KB2.out.lt)
  replace KB3 := Lib.hid (KB3.out.below bb KB3.out.lt)
  replace KB4 := Lib.hid (KB4.out.below bb KB4.out.lt)
  clear bb
  obtain ⟨t00, t01, t02⟩ := KB0.out.all
  obtain ⟨t10, t11, t12⟩ := KB1.out.all
  obtain ⟨t20, t21, t22⟩ := KB2.out.all
  obtain ⟨t30, t31, t32⟩ := KB3.out.all
  obtain ⟨t40, t41, t42⟩ := KB4.out.all
  go_wp2_with fail
  refine (FEW.out W1 HB.out).mono ?_
  rintro e W2 ⟨qf, rfl, hqf, bb⟩
  clear t00 t01 t02 t10 t11 t12 t20 t21 t22 t30 t31 t32 t40 t41 t42
  replace HB := Lib.hid (HB.out.trans (bb.mono HB.out.size))
  replace KB0 := Lib.hid (KB0.out.below bb KB0.out.lt)
  replace KB1 := Lib.hid (KB1.out.below bb KB1.out.lt)
  replace KB2 := Lib.hid (KB2.out.below bb KB2.out.lt)
  replace KB3 := Lib.hid (KB3.out.below bb KB3.out.lt)
  replace KB4 := Lib.hid (KB4.out.below bb KB4.out.lt)
  clear bb
  cases qf with
  | false =>
    go_wp2
    go_ret
    exact ⟨rfl, HB.out⟩
  | true =>
  obtain ⟨sm, sg, sp, sq, sl⟩ := FM.out (hqf rfl)
  have SM := Lib.hid sm
  have SG := Lib.hid sg
  have SP := Lib.hid sp
  have SQ := Lib.hid sq
  have SL := Lib.hid sl
  clear sm sg sp sq sl hqf
  obtain ⟨t00, t01, t02⟩ := KB0.out.all
  obtain ⟨t10, t11, t12⟩ := KB1.out.all
  obtain ⟨t20, t21, t22⟩ := KB2.out.all
  obtain ⟨t30, t31, t32⟩ := KB3.out.all
  obtain ⟨t40, t41, t42⟩ := KB4.out.all
  by_cases hdl : z5.1.length ≤ 70
  case neg =>
    have d7 : decide ((70 : Int) < (z5.1.length : Int)) = true := decide_eq_true (by omega)
    go_wp2
    go_ret
    exact ⟨rfl, HB.out⟩
  have d7 : decide ((70 : Int) < (z5.1.length : Int)) = false := decide_eq_false (by omega)
  go_upto_region 4 with fail
  clear d7
  go_wp2_with fail
  refine (HAP.out W2 HB.out SM.out SG.out SP.out SQ.out SL.out).mono ?_
  rintro e W3 ⟨⟨x1, y1, x2, y2, x3, y3, x4, y4, xlv⟩, he, hat, bb⟩
  obtain ⟨xid, xo, xcs, xpr, xst, xmv, xrs, xls⟩ := a
  obtain ⟨xcl, hxcl⟩ : ∃ k, xcs.length = k := ⟨_, rfl⟩
  obtain ⟨xk, hxk⟩ : ∃ k, xmv.length = k := ⟨_, rfl⟩
  obtain ⟨xN, hxN⟩ : ∃ k, xrs.length = k := ⟨_, rfl⟩
  obtain ⟨xK, hxK⟩ : ∃ k, xls.length = k := ⟨_, rfl⟩
  have eA : mtC ⟨xid, xo, xcs, xpr, xst, xmv, xrs, xls⟩ ⟨x1, y1, x2, y2, x3, y3, x4, y4, xlv⟩ = #[.string xid, .int .i64 xo, .slice x1 xcl y1, .string xpr, .int .i64 xst, .slice x2 xk y2, .slice x3 xN y3, .slice x4 xK y4] := by unfold mtC; simp only [hxcl, hxk, hxN, hxK]
  rw [eA] at he
  subst he
  have HAT := Lib.hid hat
  have HXCL := Lib.hid hxcl
  have HXK := Lib.hid hxk
  have HXN := Lib.hid hxN
  have HXK2 := Lib.hid hxK
  clear eA hat hxcl hxk hxN hxK
  clear t00 t01 t02 t10 t11 t12 t20 t21 t22 t30 t31 t32 t40 t41 t42
  replace HB := Lib.hid (HB.out.trans (bb.mono HB.out.size))
  replace KB0 := Lib.hid (KB0.out.below bb KB0.out.lt)
  replace KB1 := Lib.hid (KB1.out.below bb KB1.out.lt)
  replace KB2 := Lib.hid (KB2.out.below bb KB2.out.lt)
  replace KB3 := Lib.hid (KB3.out.below bb KB3.out.lt)
  replace KB4 := Lib.hid (KB4.out.below bb KB4.out.lt)
  clear bb
  go_upto_region 5 with fail
  have KA := Lib.hid (Blk.new W3 27 #[.string xid, .int .i64 xo, .slice x1 xcl y1, .string xpr, .int .i64 xst, .slice x2 xk y2, .slice x3 xN y3, .slice x4 xK y4])
  have ba := below_self_alloc W3 (.cells #[.string xid, .int .i64 xo, .slice x1 xcl y1, .string xpr, .int .i64 xst, .slice x2 xk y2, .slice x3 xN y3, .slice x4 xK y4] 27)
  generalize hW4 : W3.alloc (.cells #[.string xid, .int .i64 xo, .slice x1 xcl y1, .string xpr, .int .i64 xst, .slice x2 xk y2, .slice x3 xN y3, .slice x4 xK y4] 27) = W4 at *
  have bb := ba
  replace HB := Lib.hid (HB.out.trans (bb.mono HB.out.size))
  replace KB0 := Lib.hid (KB0.out.below bb KB0.out.lt)
  replace KB1 := Lib.hid (KB1.out.below bb KB1.out.lt)
  replace KB2 := Lib.hid (KB2.out.below bb KB2.out.lt)
  replace KB3 := Lib.hid (KB3.out.below bb KB3.out.lt)
  replace KB4 := Lib.hid (KB4.out.below bb KB4.out.lt)
  clear bb
  replace HAT := Lib.hid (HAT.out.below ba)
  have HBA := Lib.hid ba
  clear ba hW4
  generalize W3.heap.size = ba at *
  by_cases hE0 : E = 0
  case neg =>
    have hz : applyM ⟨id, o, cs, pr, st, mv, rs, ls⟩ ⟨fr, tn, gst, grs, gts⟩ ⟨pn, pss, pms⟩ ⟨qn, qss, qms⟩ day l = Mt.zero := apply_no (by rw [HE.out]; exact hE0)
    rw [HA.out] at hz
    clear hz
    go_wp2
    go_ret
    exact ⟨rfl, HB.out⟩
  subst hE0
  obtain ⟨hap1, hn0, -, -, -, heq⟩ := apply_ok HE.out
  rw [HA.out] at heq
  simp only [Mt.mk.injEq] at heq
  obtain ⟨q1, q2, q3, q4, q5, q6, q7, q8⟩ := heq
  replace q1 := q1.symm
  replace q2 := q2.symm
  replace q3 := q3.symm
  replace q4 := q4.symm
  replace q6 := q6.symm
  subst q1 q2 q3 q4 q6
  obtain ⟨hv, hf, -, hst, -⟩ := apB_iff.1 hap1
  obtain ⟨-, -, -, -, hqn, hgl, -⟩ := vdB_iff.1 hv
  obtain ⟨-, -, -, ⟨hst0, -⟩, -⟩ := fmB_iff.1 hf
  simp only at hst hqn hgl hst0 hn0
  subst hqn
  obtain rfl : cl = xcl := HCL.out.symm.trans HXCL.out
  obtain rfl : k2 = xk := HK2.out.symm.trans HXK.out
  obtain ⟨sn, rfl⟩ : ∃ n : Nat, st = (n : Int) := ⟨st.toNat, by omega⟩
  have hgp : gn = pl := by rw [← HGN.out, ← HPL.out]; exact hgl
  have hsg : sn < gn := by rw [hgp, ← HPL.out]; omega
  clear hgp
  obtain ⟨ns, hns⟩ : ∃ s, gst[sn]? = some s := ⟨_, List.getElem?_eq_getElem (by rw [HGN.out]; exact hsg)⟩
  have hnw : newSt ⟨fr, tn, gst, grs, gts⟩ (sn : Int) = ns := by show (gst[(sn : Int).toNat]?).getD 0 = ns; rw [Int.toNat_natCast, hns]; rfl
  rw [hnw] at q5
  replace q5 := q5.symm
  subst q5
  obtain ⟨ga, oa, hAg, hga, pg⟩ := (HG.out.below HB.out).st sn ns hns
  have hAg : b1 = some ⟨ga, oa, none⟩ := hAg
  subst hAg
  have HSA : Hid (Sml ⟨id, o, cs, tn, ns, mv, xrs, xls⟩) := Lib.hid (by
    have h := SM.out
    refine ⟨h.1, h.2.1, ?_, ?_⟩
    · rw [q7]; exact Nat.le_trans (mergeR_len _ _) h.2.2.1
    · rw [q8]; unfold chgL; rw [List.length_map]; exact h.2.2.2)
  have hvd := fun d => apply_vld (d := d) HE.out
  rw [HA.out] at hvd
  have HVD := Lib.hid hvd
  have PG : Hid (W4.cell? ⟨ga, oa + sn, none⟩ = some (.int .i64 ns)) := Lib.hid pg
  have PGL : Hid (ga < W4.heap.size) := Lib.hid (Nat.lt_of_lt_of_le hga HB.out.size)
  have HBZ : Hid (ba ≤ W4.heap.size) := Lib.hid (Nat.le_of_lt KA.out.lt)
  have hin : ∀ W, PSv W4 W → Calls Tryz.prog 22 #[.slice x2 k2 y2, .slice a2 k2 c2] W fun e w' => e = .returned (.bool true) ∧ Below W.heap.size W w' := fun W hW => by
    have k := rints32_any W W.heap.size x2 a2 mv mv y2 c2 ((HAT.out.mv.below (Below.mono hW HBZ.out)).wide (Nat.le_trans HBZ.out (Below.size hW))) ((HM.out.mv.below (HB.out.trans (Below.mono hW HB.out.size))).wide (HB.out.trans (Below.mono hW HB.out.size)).size) (Nat.le_refl _) (by have := SM.out.2.1; simp only at this; omega)
    rw [HK2.out, decide_eq_true (rfl : mv = mv)] at k
    exact k
  have HIN := Lib.hid hin
  have HV := Lib.hid hv
  clear hap1 hv hf hst hgl hst0 hn0 hns hnw pg hin hvd q7 q8 HXCL HXK
  go_upto_region 7 with fail
  refine wp_region_rg2 (PSv W4) RB ([isV (.pointer (some ⟨ba, 0, none⟩)), isV (.string id), isV (.pointer (some ⟨w.heap.size, 0, none⟩)), isV (.string id), isV (.bool false), isV (.bool false), isV (.pointer (some ⟨ba, 1, none⟩)), isV (.int .i64 o), isV (.pointer (some ⟨w.heap.size, 1, none⟩)), isV (.int .i64 o), isV (.bool false), isV (.bool false), isV (.bool false), isV (.pointer (some ⟨ba, 3, none⟩)), isV (.string tn), isV (.pointer (some ⟨w.heap.size + 1 + 1 + 1, 0, none⟩)), isV (.string tn), isV (.bool false), isV (.bool false), isV (.bool false), isV (.pointer (some ⟨w.heap.size, 4, none⟩)), isV (.int .i64 (sn : Int)), isV (.bool false), isV (.bool false), isV (.bool false), isV (.pointer (some ⟨w.heap.size, 4, none⟩)), isV (.int .i64 (sn : Int)), isV (.pointer (some ⟨w.heap.size + 1, 2, none⟩)), isV (.slice (some ⟨ga, oa, none⟩) gn d1), isV (.int .i64 (gn : Int)), isV (.bool false), isV (.bool false), isV (.bool false), isV (.pointer (some ⟨ba, 4, none⟩)), isV (.int .i64 ns), isV (.pointer (some ⟨w.heap.size + 1, 2, none⟩)), isV (.slice (some ⟨ga, oa, none⟩) gn d1), isV (.pointer (some ⟨w.heap.size, 4, none⟩)), isV (.int .i64 (sn : Int)), isV (.pointer (some ⟨ga, oa + sn, none⟩)), isV (.int .i64 ns), isV (.bool false), isV (.bool false), isV (.bool false), isV (.pointer (some ⟨ba, 2, none⟩)), isV (.slice x1 cl y1), isV (.int .i64 (cl : Int)), isV (.pointer (some ⟨w.heap.size, 2, none⟩)), isV (.slice a1 cl c1), isV (.int .i64 (cl : Int)), isV (.bool false), isV (.bool false), isV (.bool false), isV (.pointer (some ⟨ba, 5, none⟩)), isV (.slice x2 k2 y2), isV (.pointer (some ⟨w.heap.size, 5, none⟩)), isV (.slice a2 k2 c2), isV (.bool true), isV (.bool false), isV (.bool false)]) [0, 1, 2, 3, 4, 5, 6, 7, 8, 9, 10, 11, 12, 13, 14, 15, 16, 17, 18, 19, 20, 21, 22, 23, 24, 25, 26, 27, 28, 29, 30, 31, 32, 33, 34, 35, 36, 37, 38, 39, 40, 41, 42, 43, 44, 45, 46, 47, 48, 49, 50, 51, 52, 53, 54, 55, 56, 57, 58, 59] (by kernel_rfl) (by kernel_rfl) (by kernel_rfl) (below_drewM W4) ⟨isV_mono _, isV_mono _, isV_mono _, isV_mono _, isV_mono _, isV_mono _, isV_mono _, isV_mono _, isV_mono _, isV_mono _, isV_mono _, isV_mono _, isV_mono _, isV_mono _, isV_mono _, isV_mono _, isV_mono _, isV_mono _, isV_mono _, isV_mono _, isV_mono _, isV_mono _, isV_mono _, isV_mono _, isV_mono _, isV_mono _, isV_mono _, isV_mono _, isV_mono _, isV_mono _, isV_mono _, isV_mono _, isV_mono _, isV_mono _, isV_mono _, isV_mono _, isV_mono _, isV_mono _, isV_mono _, isV_mono _, isV_mono _, isV_mono _, isV_mono _, isV_mono _, isV_mono _, isV_mono _, isV_mono _, isV_mono _, isV_mono _, isV_mono _, isV_mono _, isV_mono _, isV_mono _, isV_mono _, isV_mono _, isV_mono _, isV_mono _, isV_mono _, isV_mono _, isV_mono _, trivial⟩ ?_
  intro F hF
  simp only [putAll, List.map_cons, List.map_nil, Act.put, List.setIfInBounds_toArray, List.set_cons_succ, List.set_cons_zero] at hF
  have HFX := Lib.hid hF
  clear hF
  refine ⟨fun Q' => ⟨?_, ?_, ?_, ?_, ?_, ?_, ?_, ?_, ?_, ?_, ?_, ?_, ?_, ?_, ?_, ?_, ?_, ?_, ?_, ?_, ?_, ?_, ?_, ?_, ?_, ?_, ?_, ?_, ?_, ?_, ?_, ?_, ?_, ?_, ?_, ?_, ?_, ?_, ?_, ?_, ?_, ?_, ?_, ?_, ?_, ?_, ?_, ?_, ?_, ?_, ?_, ?_, ?_, ?_, ?_, ?_, ?_, ?_, ?_, ?_, trivial⟩, ?_⟩
  · intro u W hS hd hp
    have HS := Lib.hid hS
    clear hS
    rw [HFX.out]
    clear hd hp 
    go_wp2_with fail
    exact ⟨_, by rw [HFX.out]; simp [upd], rfl, HS.out, Below.refl _ _⟩
  · intro u W hS hd hp
    have HS := Lib.hid hS
    clear hS
    obtain ⟨d0, -⟩ := hd
    have e0 : u 0 = .pointer (some ⟨ba, 0, none⟩) := d0 rfl
    rw [HFX.out]
    simp only [e0]
    clear hp d0
    obtain ⟨r0, r1, r2⟩ := (KA.out.below HS.out KA.out.lt).all
    go_wp2_with fail
    exact ⟨_, by rw [HFX.out]; simp [upd, e0], rfl, HS.out, Below.refl _ _⟩
  · intro u W hS hd hp
    have HS := Lib.hid hS
    clear hS
    rw [HFX.out]
    clear hd hp 
    go_wp2_with fail
    exact ⟨_, by rw [HFX.out]; simp [upd], rfl, HS.out, Below.refl _ _⟩
  · intro u W hS hd hp
    have HS := Lib.hid hS
    clear hS
    obtain ⟨d2, -⟩ := hd
    have e2 : u 2 = .pointer (some ⟨w.heap.size, 0, none⟩) := d2 rfl
    rw [HFX.out]
    simp only [e2]
    clear hp d2
    obtain ⟨r0, r1, r2⟩ := (KB0.out.below HS.out KB0.out.lt).all
    go_wp2_with fail
    exact ⟨_, by rw [HFX.out]; simp [upd, e2], rfl, HS.out, Below.refl _ _⟩
  · intro u W hS hd hp
    have HS := Lib.hid hS
    clear hS
    obtain ⟨d1, d3, -⟩ := hd
    have e1 : u 1 = .string id := d1 rfl
    have e3 : u 3 = .string id := d3 rfl
    rw [HFX.out]
    simp only [e1, e3]
    clear hp d1 d3
    go_wp2_with fail
    exact ⟨_, by rw [HFX.out]; simp [upd, e1, e3], rfl, HS.out, Below.refl _ _⟩
  · intro u W hS hd hp
    have HS := Lib.hid hS
    clear hS
    obtain ⟨d4, -⟩ := hd
    have e4 : u 4 = .bool false := d4 rfl
    rw [HFX.out]
    simp only [e4]
    clear hp d4
    go_wp2_with fail
    exact ⟨_, by rw [HFX.out]; simp [upd, e4], rfl, HS.out, Below.refl _ _⟩
  · intro u W hS hd hp
    have HS := Lib.hid hS
    clear hS
    obtain ⟨d5, -⟩ := hd
    have e5 : u 5 = .bool false := d5 rfl
    rw [HFX.out]
    simp only [e5]
    clear hp d5
    go_wp2_with fail
    exact ⟨_, by rw [HFX.out]; simp [upd, e5], rfl, HS.out, Below.refl _ _⟩
  · intro u W hS hd hp
    have HS := Lib.hid hS
    clear hS
    obtain ⟨d6, d5, -⟩ := hd
    have e6 : u 6 = .pointer (some ⟨ba, 1, none⟩) := d6 rfl
    have e5 : u 5 = .bool false := d5 rfl
    rw [HFX.out]
    simp only [e6, e5]
    clear hp d6 d5
    obtain ⟨r0, r1, r2⟩ := (KA.out.below HS.out KA.out.lt).all
    go_wp2_with fail
    exact ⟨_, by rw [HFX.out]; simp [upd, e6, e5], rfl, HS.out, Below.refl _ _⟩
  · intro u W hS hd hp
    have HS := Lib.hid hS
    clear hS
    obtain ⟨d5, -⟩ := hd
    have e5 : u 5 = .bool false := d5 rfl
    rw [HFX.out]
    simp only [e5]
    clear hp d5
    go_wp2_with fail
    exact ⟨_, by rw [HFX.out]; simp [upd, e5], rfl, HS.out, Below.refl _ _⟩
  · intro u W hS hd hp
    have HS := Lib.hid hS
    clear hS
    obtain ⟨d8, d5, -⟩ := hd
    have e8 : u 8 = .pointer (some ⟨w.heap.size, 1, none⟩) := d8 rfl
    have e5 : u 5 = .bool false := d5 rfl
    rw [HFX.out]
    simp only [e8, e5]
    clear hp d8 d5
    obtain ⟨r0, r1, r2⟩ := (KB0.out.below HS.out KB0.out.lt).all
    go_wp2_with fail
    exact ⟨_, by rw [HFX.out]; simp [upd, e8, e5], rfl, HS.out, Below.refl _ _⟩
  · intro u W hS hd hp
    have HS := Lib.hid hS
    clear hS
    obtain ⟨d7, d9, d5, -⟩ := hd
    have e7 : u 7 = .int .i64 o := d7 rfl
    have e9 : u 9 = .int .i64 o := d9 rfl
    have e5 : u 5 = .bool false := d5 rfl
    rw [HFX.out]
    simp only [e7, e9, e5]
    clear hp d7 d9 d5
    go_wp2_with fail
    exact ⟨_, by rw [HFX.out]; simp [upd, e7, e9, e5], rfl, HS.out, Below.refl _ _⟩
  · intro u W hS hd hp
    have HS := Lib.hid hS
    clear hS
    obtain ⟨d5, d10, -⟩ := hd
    have e5 : u 5 = .bool false := d5 rfl
    have e10 : u 10 = .bool false := d10 rfl
    rw [HFX.out]
    simp only [e5, e10]
    clear hp d5 d10
    go_wp2_with fail
    exact ⟨_, by rw [HFX.out]; simp [upd, e5, e10], rfl, HS.out, Below.refl _ _⟩
  · intro u W hS hd hp
    have HS := Lib.hid hS
    clear hS
    obtain ⟨d11, -⟩ := hd
    have e11 : u 11 = .bool false := d11 rfl
    rw [HFX.out]
    simp only [e11]
    clear hp d11
    go_wp2_with fail
    exact ⟨_, by rw [HFX.out]; simp [upd, e11], rfl, HS.out, Below.refl _ _⟩
  · intro u W hS hd hp
    have HS := Lib.hid hS
    clear hS
    obtain ⟨d12, -⟩ := hd
    have e12 : u 12 = .bool false := d12 rfl
    rw [HFX.out]
    simp only [e12]
    clear hp d12
    go_wp2_with fail
    exact ⟨_, by rw [HFX.out]; simp [upd, e12], rfl, HS.out, Below.refl _ _⟩
  · intro u W hS hd hp
    have HS := Lib.hid hS
    clear hS
    obtain ⟨d13, d12, -⟩ := hd
    have e13 : u 13 = .pointer (some ⟨ba, 3, none⟩) := d13 rfl
    have e12 : u 12 = .bool false := d12 rfl
    rw [HFX.out]
    simp only [e13, e12]
    clear hp d13 d12
    obtain ⟨r0, r1, r2⟩ := (KA.out.below HS.out KA.out.lt).all
    go_wp2_with fail
    exact ⟨_, by rw [HFX.out]; simp [upd, e13, e12], rfl, HS.out, Below.refl _ _⟩
  · intro u W hS hd hp
    have HS := Lib.hid hS
    clear hS
    obtain ⟨d12, -⟩ := hd
    have e12 : u 12 = .bool false := d12 rfl
    rw [HFX.out]
    simp only [e12]
    clear hp d12
    go_wp2_with fail
    exact ⟨_, by rw [HFX.out]; simp [upd, e12], rfl, HS.out, Below.refl _ _⟩
  · intro u W hS hd hp
    have HS := Lib.hid hS
    clear hS
    obtain ⟨d15, d12, -⟩ := hd
    have e15 : u 15 = .pointer (some ⟨w.heap.size + 1 + 1 + 1, 0, none⟩) := d15 rfl
    have e12 : u 12 = .bool false := d12 rfl
    rw [HFX.out]
    simp only [e15, e12]
    clear hp d15 d12
    obtain ⟨r0, r1, r2⟩ := (KB3.out.below HS.out KB3.out.lt).all
    go_wp2_with fail
    exact ⟨_, by rw [HFX.out]; simp [upd, e15, e12], rfl, HS.out, Below.refl _ _⟩
  · intro u W hS hd hp
    have HS := Lib.hid hS
    clear hS
    obtain ⟨d14, d16, d12, -⟩ := hd
    have e14 : u 14 = .string tn := d14 rfl
    have e16 : u 16 = .string tn := d16 rfl
    have e12 : u 12 = .bool false := d12 rfl
    rw [HFX.out]
    simp only [e14, e16, e12]
    clear hp d14 d16 d12
    go_wp2_with fail
    exact ⟨_, by rw [HFX.out]; simp [upd, e14, e16, e12], rfl, HS.out, Below.refl _ _⟩
  · intro u W hS hd hp
    have HS := Lib.hid hS
    clear hS
    obtain ⟨d12, d17, -⟩ := hd
    have e12 : u 12 = .bool false := d12 rfl
    have e17 : u 17 = .bool false := d17 rfl
    rw [HFX.out]
    simp only [e12, e17]
    clear hp d12 d17
    go_wp2_with fail
    exact ⟨_, by rw [HFX.out]; simp [upd, e12, e17], rfl, HS.out, Below.refl _ _⟩
  · intro u W hS hd hp
    have HS := Lib.hid hS
    clear hS
    obtain ⟨d18, -⟩ := hd
    have e18 : u 18 = .bool false := d18 rfl
    rw [HFX.out]
    simp only [e18]
    clear hp d18
    go_wp2_with fail
    exact ⟨_, by rw [HFX.out]; simp [upd, e18], rfl, HS.out, Below.refl _ _⟩
  · intro u W hS hd hp
    have HS := Lib.hid hS
    clear hS
    obtain ⟨d19, -⟩ := hd
    have e19 : u 19 = .bool false := d19 rfl
    rw [HFX.out]
    simp only [e19]
    clear hp d19
    go_wp2_with fail
    exact ⟨_, by rw [HFX.out]; simp [upd, e19], rfl, HS.out, Below.refl _ _⟩
  · intro u W hS hd hp
    have HS := Lib.hid hS
    clear hS
    obtain ⟨d20, d19, -⟩ := hd
    have e20 : u 20 = .pointer (some ⟨w.heap.size, 4, none⟩) := d20 rfl
    have e19 : u 19 = .bool false := d19 rfl
    rw [HFX.out]
    simp only [e20, e19]
    clear hp d20 d19
    obtain ⟨r0, r1, r2⟩ := (KB0.out.below HS.out KB0.out.lt).all
    go_wp2_with fail
    exact ⟨_, by rw [HFX.out]; simp [upd, e20, e19], rfl, HS.out, Below.refl _ _⟩
  · intro u W hS hd hp
    have HS := Lib.hid hS
    clear hS
    obtain ⟨d21, d19, -⟩ := hd
    have e21 : u 21 = .int .i64 (sn : Int) := d21 rfl
    have e19 : u 19 = .bool false := d19 rfl
    rw [HFX.out]
    simp only [e21, e19]
    clear hp d21 d19
    go_wp2_with fail
    exact ⟨_, by rw [HFX.out]; simp [upd, e21, e19], rfl, HS.out, Below.refl _ _⟩
  · intro u W hS hd hp
    have HS := Lib.hid hS
    clear hS
    obtain ⟨d19, d22, -⟩ := hd
    have e19 : u 19 = .bool false := d19 rfl
    have e22 : u 22 = .bool false := d22 rfl
    rw [HFX.out]
    simp only [e19, e22]
    clear hp d19 d22
    go_wp2_with fail
    exact ⟨_, by rw [HFX.out]; simp [upd, e19, e22], rfl, HS.out, Below.refl _ _⟩
  · intro u W hS hd hp
    have HS := Lib.hid hS
    clear hS
    obtain ⟨d23, -⟩ := hd
    have e23 : u 23 = .bool false := d23 rfl
    rw [HFX.out]
    simp only [e23]
    clear hp d23
    go_wp2_with fail
    exact ⟨_, by rw [HFX.out]; simp [upd, e23], rfl, HS.out, Below.refl _ _⟩
  · intro u W hS hd hp
    have HS := Lib.hid hS
    clear hS
    obtain ⟨d24, -⟩ := hd
    have e24 : u 24 = .bool false := d24 rfl
    rw [HFX.out]
    simp only [e24]
    clear hp d24
    go_wp2_with fail
    exact ⟨_, by rw [HFX.out]; simp [upd, e24], rfl, HS.out, Below.refl _ _⟩
  · intro u W hS hd hp
    have HS := Lib.hid hS
    clear hS
    obtain ⟨d25, d24, -⟩ := hd
    have e25 : u 25 = .pointer (some ⟨w.heap.size, 4, none⟩) := d25 rfl
    have e24 : u 24 = .bool false := d24 rfl
    rw [HFX.out]
    simp only [e25, e24]
    clear hp d25 d24
    obtain ⟨r0, r1, r2⟩ := (KB0.out.below HS.out KB0.out.lt).all
    go_wp2_with fail
    exact ⟨_, by rw [HFX.out]; simp [upd, e25, e24], rfl, HS.out, Below.refl _ _⟩
  · intro u W hS hd hp
    have HS := Lib.hid hS
    clear hS
    obtain ⟨d24, -⟩ := hd
    have e24 : u 24 = .bool false := d24 rfl
    rw [HFX.out]
    simp only [e24]
    clear hp d24
    go_wp2_with fail
    exact ⟨_, by rw [HFX.out]; simp [upd, e24], rfl, HS.out, Below.refl _ _⟩
  · intro u W hS hd hp
    have HS := Lib.hid hS
    clear hS
    obtain ⟨d27, d24, -⟩ := hd
    have e27 : u 27 = .pointer (some ⟨w.heap.size + 1, 2, none⟩) := d27 rfl
    have e24 : u 24 = .bool false := d24 rfl
    rw [HFX.out]
    simp only [e27, e24]
    clear hp d27 d24
    obtain ⟨r0, r1, r2⟩ := (KB1.out.below HS.out KB1.out.lt).all
    go_wp2_with fail
    exact ⟨_, by rw [HFX.out]; simp [upd, e27, e24], rfl, HS.out, Below.refl _ _⟩
  · intro u W hS hd hp
    have HS := Lib.hid hS
    clear hS
    obtain ⟨d28, d24, -⟩ := hd
    have e28 : u 28 = .slice (some ⟨ga, oa, none⟩) gn d1 := d28 rfl
    have e24 : u 24 = .bool false := d24 rfl
    rw [HFX.out]
    simp only [e28, e24]
    clear hp d28 d24
    go_wp2_with fail
    exact ⟨_, by rw [HFX.out]; simp [upd, e28, e24], rfl, HS.out, Below.refl _ _⟩
  · intro u W hS hd hp
    have HS := Lib.hid hS
    clear hS
    obtain ⟨d26, d29, d24, -⟩ := hd
    have e26 : u 26 = .int .i64 (sn : Int) := d26 rfl
    have e29 : u 29 = .int .i64 (gn : Int) := d29 rfl
    have e24 : u 24 = .bool false := d24 rfl
    rw [HFX.out]
    simp only [e26, e29, e24]
    clear hp d26 d29 d24
    have e4 : decide ((gn : Int) ≤ (sn : Int)) = false := decide_eq_false (by omega)
    have e4n : decide (gn ≤ sn) = false := decide_eq_false (by omega)
    go_wp2_with fail
    exact ⟨_, by rw [HFX.out]; simp [upd, e26, e29, e24], rfl, HS.out, Below.refl _ _⟩
  · intro u W hS hd hp
    have HS := Lib.hid hS
    clear hS
    obtain ⟨d24, d30, -⟩ := hd
    have e24 : u 24 = .bool false := d24 rfl
    have e30 : u 30 = .bool false := d30 rfl
    rw [HFX.out]
    simp only [e24, e30]
    clear hp d24 d30
    go_wp2_with fail
    exact ⟨_, by rw [HFX.out]; simp [upd, e24, e30], rfl, HS.out, Below.refl _ _⟩
  · intro u W hS hd hp
    have HS := Lib.hid hS
    clear hS
    obtain ⟨d31, -⟩ := hd
    have e31 : u 31 = .bool false := d31 rfl
    rw [HFX.out]
    simp only [e31]
    clear hp d31
    go_wp2_with fail
    exact ⟨_, by rw [HFX.out]; simp [upd, e31], rfl, HS.out, Below.refl _ _⟩
  · intro u W hS hd hp
    have HS := Lib.hid hS
    clear hS
    obtain ⟨d32, -⟩ := hd
    have e32 : u 32 = .bool false := d32 rfl
    rw [HFX.out]
    simp only [e32]
    clear hp d32
    go_wp2_with fail
    exact ⟨_, by rw [HFX.out]; simp [upd, e32], rfl, HS.out, Below.refl _ _⟩
  · intro u W hS hd hp
    have HS := Lib.hid hS
    clear hS
    obtain ⟨d33, d32, -⟩ := hd
    have e33 : u 33 = .pointer (some ⟨ba, 4, none⟩) := d33 rfl
    have e32 : u 32 = .bool false := d32 rfl
    rw [HFX.out]
    simp only [e33, e32]
    clear hp d33 d32
    obtain ⟨r0, r1, r2⟩ := (KA.out.below HS.out KA.out.lt).all
    go_wp2_with fail
    exact ⟨_, by rw [HFX.out]; simp [upd, e33, e32], rfl, HS.out, Below.refl _ _⟩
  · intro u W hS hd hp
    have HS := Lib.hid hS
    clear hS
    obtain ⟨d32, -⟩ := hd
    have e32 : u 32 = .bool false := d32 rfl
    rw [HFX.out]
    simp only [e32]
    clear hp d32
    go_wp2_with fail
    exact ⟨_, by rw [HFX.out]; simp [upd, e32], rfl, HS.out, Below.refl _ _⟩
  · intro u W hS hd hp
    have HS := Lib.hid hS
    clear hS
    obtain ⟨d35, d32, -⟩ := hd
    have e35 : u 35 = .pointer (some ⟨w.heap.size + 1, 2, none⟩) := d35 rfl
    have e32 : u 32 = .bool false := d32 rfl
    rw [HFX.out]
    simp only [e35, e32]
    clear hp d35 d32
    obtain ⟨r0, r1, r2⟩ := (KB1.out.below HS.out KB1.out.lt).all
    go_wp2_with fail
    exact ⟨_, by rw [HFX.out]; simp [upd, e35, e32], rfl, HS.out, Below.refl _ _⟩
  · intro u W hS hd hp
    have HS := Lib.hid hS
    clear hS
    obtain ⟨d32, -⟩ := hd
    have e32 : u 32 = .bool false := d32 rfl
    rw [HFX.out]
    simp only [e32]
    clear hp d32
    go_wp2_with fail
    exact ⟨_, by rw [HFX.out]; simp [upd, e32], rfl, HS.out, Below.refl _ _⟩
  · intro u W hS hd hp
    have HS := Lib.hid hS
    clear hS
    obtain ⟨d37, d32, -⟩ := hd
    have e37 : u 37 = .pointer (some ⟨w.heap.size, 4, none⟩) := d37 rfl
    have e32 : u 32 = .bool false := d32 rfl
    rw [HFX.out]
    simp only [e37, e32]
    clear hp d37 d32
    obtain ⟨r0, r1, r2⟩ := (KB0.out.below HS.out KB0.out.lt).all
    go_wp2_with fail
    exact ⟨_, by rw [HFX.out]; simp [upd, e37, e32], rfl, HS.out, Below.refl _ _⟩
  · intro u W hS hd hp
    have HS := Lib.hid hS
    clear hS
    obtain ⟨d36, d38, d32, -⟩ := hd
    have e36 : u 36 = .slice (some ⟨ga, oa, none⟩) gn d1 := d36 rfl
    have e38 : u 38 = .int .i64 (sn : Int) := d38 rfl
    have e32 : u 32 = .bool false := d32 rfl
    rw [HFX.out]
    simp only [e36, e38, e32]
    clear hp d36 d38 d32
    have ib0 : (0 : Int) ≤ (sn : Int) := by omega
    have ib1 : (sn : Int) < (gn : Int) := by omega
    go_wp2_with fail
    exact ⟨_, by rw [HFX.out]; simp [upd, e36, e38, e32], rfl, HS.out, Below.refl _ _⟩
  · intro u W hS hd hp
    have HS := Lib.hid hS
    clear hS
    obtain ⟨d39, d32, -⟩ := hd
    have e39 : u 39 = .pointer (some ⟨ga, oa + sn, none⟩) := d39 rfl
    have e32 : u 32 = .bool false := d32 rfl
    rw [HFX.out]
    simp only [e39, e32]
    clear hp d39 d32
    have r0 := (HS.out.cell (p := ⟨ga, oa + sn, none⟩) PGL.out).trans PG.out
    go_wp2_with fail
    exact ⟨_, by rw [HFX.out]; simp [upd, e39, e32], rfl, HS.out, Below.refl _ _⟩
  · intro u W hS hd hp
    have HS := Lib.hid hS
    clear hS
    obtain ⟨d34, d40, d32, -⟩ := hd
    have e34 : u 34 = .int .i64 ns := d34 rfl
    have e40 : u 40 = .int .i64 ns := d40 rfl
    have e32 : u 32 = .bool false := d32 rfl
    rw [HFX.out]
    simp only [e34, e40, e32]
    clear hp d34 d40 d32
    go_wp2_with fail
    exact ⟨_, by rw [HFX.out]; simp [upd, e34, e40, e32], rfl, HS.out, Below.refl _ _⟩
  · intro u W hS hd hp
    have HS := Lib.hid hS
    clear hS
    obtain ⟨d32, d41, -⟩ := hd
    have e32 : u 32 = .bool false := d32 rfl
    have e41 : u 41 = .bool false := d41 rfl
    rw [HFX.out]
    simp only [e32, e41]
    clear hp d32 d41
    go_wp2_with fail
    exact ⟨_, by rw [HFX.out]; simp [upd, e32, e41], rfl, HS.out, Below.refl _ _⟩
  · intro u W hS hd hp
    have HS := Lib.hid hS
    clear hS
    obtain ⟨d42, -⟩ := hd
    have e42 : u 42 = .bool false := d42 rfl
    rw [HFX.out]
    simp only [e42]
    clear hp d42
    go_wp2_with fail
    exact ⟨_, by rw [HFX.out]; simp [upd, e42], rfl, HS.out, Below.refl _ _⟩
  · intro u W hS hd hp
    have HS := Lib.hid hS
    clear hS
    obtain ⟨d43, -⟩ := hd
    have e43 : u 43 = .bool false := d43 rfl
    rw [HFX.out]
    simp only [e43]
    clear hp d43
    go_wp2_with fail
    exact ⟨_, by rw [HFX.out]; simp [upd, e43], rfl, HS.out, Below.refl _ _⟩
  · intro u W hS hd hp
    have HS := Lib.hid hS
    clear hS
    obtain ⟨d44, d43, -⟩ := hd
    have e44 : u 44 = .pointer (some ⟨ba, 2, none⟩) := d44 rfl
    have e43 : u 43 = .bool false := d43 rfl
    rw [HFX.out]
    simp only [e44, e43]
    clear hp d44 d43
    obtain ⟨r0, r1, r2⟩ := (KA.out.below HS.out KA.out.lt).all
    go_wp2_with fail
    exact ⟨_, by rw [HFX.out]; simp [upd, e44, e43], rfl, HS.out, Below.refl _ _⟩
  · intro u W hS hd hp
    have HS := Lib.hid hS
    clear hS
    obtain ⟨d45, d43, -⟩ := hd
    have e45 : u 45 = .slice x1 cl y1 := d45 rfl
    have e43 : u 43 = .bool false := d43 rfl
    rw [HFX.out]
    simp only [e45, e43]
    clear hp d45 d43
    go_wp2_with fail
    exact ⟨_, by rw [HFX.out]; simp [upd, e45, e43], rfl, HS.out, Below.refl _ _⟩
  · intro u W hS hd hp
    have HS := Lib.hid hS
    clear hS
    obtain ⟨d43, -⟩ := hd
    have e43 : u 43 = .bool false := d43 rfl
    rw [HFX.out]
    simp only [e43]
    clear hp d43
    go_wp2_with fail
    exact ⟨_, by rw [HFX.out]; simp [upd, e43], rfl, HS.out, Below.refl _ _⟩
  · intro u W hS hd hp
    have HS := Lib.hid hS
    clear hS
    obtain ⟨d47, d43, -⟩ := hd
    have e47 : u 47 = .pointer (some ⟨w.heap.size, 2, none⟩) := d47 rfl
    have e43 : u 43 = .bool false := d43 rfl
    rw [HFX.out]
    simp only [e47, e43]
    clear hp d47 d43
    obtain ⟨r0, r1, r2⟩ := (KB0.out.below HS.out KB0.out.lt).all
    go_wp2_with fail
    exact ⟨_, by rw [HFX.out]; simp [upd, e47, e43], rfl, HS.out, Below.refl _ _⟩
  · intro u W hS hd hp
    have HS := Lib.hid hS
    clear hS
    obtain ⟨d48, d43, -⟩ := hd
    have e48 : u 48 = .slice a1 cl c1 := d48 rfl
    have e43 : u 43 = .bool false := d43 rfl
    rw [HFX.out]
    simp only [e48, e43]
    clear hp d48 d43
    go_wp2_with fail
    exact ⟨_, by rw [HFX.out]; simp [upd, e48, e43], rfl, HS.out, Below.refl _ _⟩
  · intro u W hS hd hp
    have HS := Lib.hid hS
    clear hS
    obtain ⟨d46, d49, d43, -⟩ := hd
    have e46 : u 46 = .int .i64 (cl : Int) := d46 rfl
    have e49 : u 49 = .int .i64 (cl : Int) := d49 rfl
    have e43 : u 43 = .bool false := d43 rfl
    rw [HFX.out]
    simp only [e46, e49, e43]
    clear hp d46 d49 d43
    go_wp2_with fail
    exact ⟨_, by rw [HFX.out]; simp [upd, e46, e49, e43], rfl, HS.out, Below.refl _ _⟩
  · intro u W hS hd hp
    have HS := Lib.hid hS
    clear hS
    obtain ⟨d43, d50, -⟩ := hd
    have e43 : u 43 = .bool false := d43 rfl
    have e50 : u 50 = .bool false := d50 rfl
    rw [HFX.out]
    simp only [e43, e50]
    clear hp d43 d50
    go_wp2_with fail
    exact ⟨_, by rw [HFX.out]; simp [upd, e43, e50], rfl, HS.out, Below.refl _ _⟩
  · intro u W hS hd hp
    have HS := Lib.hid hS
    clear hS
    obtain ⟨d51, -⟩ := hd
    have e51 : u 51 = .bool false := d51 rfl
    rw [HFX.out]
    simp only [e51]
    clear hp d51
    go_wp2_with fail
    exact ⟨_, by rw [HFX.out]; simp [upd, e51], rfl, HS.out, Below.refl _ _⟩
  · intro u W hS hd hp
    have HS := Lib.hid hS
    clear hS
    obtain ⟨d52, -⟩ := hd
    have e52 : u 52 = .bool false := d52 rfl
    rw [HFX.out]
    simp only [e52]
    clear hp d52
    go_wp2_with fail
    exact ⟨_, by rw [HFX.out]; simp [upd, e52], rfl, HS.out, Below.refl _ _⟩
  · intro u W hS hd hp
    have HS := Lib.hid hS
    clear hS
    obtain ⟨d53, d52, -⟩ := hd
    have e53 : u 53 = .pointer (some ⟨ba, 5, none⟩) := d53 rfl
    have e52 : u 52 = .bool false := d52 rfl
    rw [HFX.out]
    simp only [e53, e52]
    clear hp d53 d52
    obtain ⟨r0, r1, r2⟩ := (KA.out.below HS.out KA.out.lt).all
    go_wp2_with fail
    exact ⟨_, by rw [HFX.out]; simp [upd, e53, e52], rfl, HS.out, Below.refl _ _⟩
  · intro u W hS hd hp
    have HS := Lib.hid hS
    clear hS
    obtain ⟨d52, -⟩ := hd
    have e52 : u 52 = .bool false := d52 rfl
    rw [HFX.out]
    simp only [e52]
    clear hp d52
    go_wp2_with fail
    exact ⟨_, by rw [HFX.out]; simp [upd, e52], rfl, HS.out, Below.refl _ _⟩
  · intro u W hS hd hp
    have HS := Lib.hid hS
    clear hS
    obtain ⟨d55, d52, -⟩ := hd
    have e55 : u 55 = .pointer (some ⟨w.heap.size, 5, none⟩) := d55 rfl
    have e52 : u 52 = .bool false := d52 rfl
    rw [HFX.out]
    simp only [e55, e52]
    clear hp d55 d52
    obtain ⟨r0, r1, r2⟩ := (KB0.out.below HS.out KB0.out.lt).all
    go_wp2_with fail
    exact ⟨_, by rw [HFX.out]; simp [upd, e55, e52], rfl, HS.out, Below.refl _ _⟩
  · intro u W hS hd hp
    have HS := Lib.hid hS
    clear hS
    obtain ⟨d54, d56, _, d52, -⟩ := hd
    have e54 : u 54 = .slice x2 k2 y2 := d54 rfl
    have e56 : u 56 = .slice a2 k2 c2 := d56 rfl
    have e52 : u 52 = .bool false := d52 rfl
    rw [HFX.out]
    simp only [e54, e56, e52]
    clear hp d54 d56 d52
    have HC := Lib.hid (HIN.out W HS.out)
    go_wp2_with fail
    refine HC.out.mono ?_
    rintro e W2 ⟨rfl, b2⟩
    go_wp2_with fail
    exact ⟨_, by rw [HFX.out]; simp [upd, e54, e56, e52], rfl, PSv.go HS.out b2, b2⟩
  · intro u W hS hd hp
    have HS := Lib.hid hS
    clear hS
    obtain ⟨d57, d52, -⟩ := hd
    have e57 : u 57 = .bool true := d57 rfl
    have e52 : u 52 = .bool false := d52 rfl
    rw [HFX.out]
    simp only [e57, e52]
    clear hp d57 d52
    go_wp2_with fail
    exact ⟨_, by rw [HFX.out]; simp [upd, e57, e52], rfl, HS.out, Below.refl _ _⟩
  · intro u W hS hd hp
    have HS := Lib.hid hS
    clear hS
    obtain ⟨d52, d58, -⟩ := hd
    have e52 : u 52 = .bool false := d52 rfl
    have e58 : u 58 = .bool false := d58 rfl
    rw [HFX.out]
    simp only [e52, e58]
    clear hp d52 d58
    go_wp2_with fail
    exact ⟨_, by rw [HFX.out]; simp [upd, e52, e58], rfl, HS.out, Below.refl _ _⟩
  intro u W hS hf
  have e59 : u 59 = .bool false := hf 59 (by decide)
  rw [HFX.out]
  simp only [e59]
  replace HB := Lib.hid (HB.out.trans (Below.mono hS HB.out.size))
  replace KB0 := Lib.hid (KB0.out.below hS KB0.out.lt)
  replace KB1 := Lib.hid (KB1.out.below hS KB1.out.lt)
  replace KB2 := Lib.hid (KB2.out.below hS KB2.out.lt)
  replace KB3 := Lib.hid (KB3.out.below hS KB3.out.lt)
  replace KB4 := Lib.hid (KB4.out.below hS KB4.out.lt)
  replace KA := Lib.hid (KA.out.below hS KA.out.lt)
  replace HAT := Lib.hid (HAT.out.below (Below.mono hS HBZ.out))
  have HBZ2 := Lib.hid (Nat.le_trans HBZ.out (Below.size hS))
  clear HBZ hf HFX F hS e59 HIN PG PGL
  obtain ⟨t00, t01, t02⟩ := KB0.out.all
  go_wp2_with fail
  have hcb : cl ≤ 1000000 := by rw [← HCL.out]; exact SM.out.1
  go_loopw [18] (fun i wr => ∃ k : Nat, k ≤ cl ∧ i = .int .i64 (k : Int) ∧ Hid (Below W.heap.size W wr)) (fun i _ => cl - (intOf i).toNat)
  case atStart => exact ⟨0, Nat.zero_le _, rfl, Lib.hid (Below.refl _ _)⟩
  case round =>
    clear t00 t01 t02
    obtain ⟨k, hk, rfl, HW⟩ := hrel
    obtain ⟨t00, t01, t02⟩ := (KB0.out.below HW.out KB0.out.lt).all
    obtain ⟨ta0, ta1, ta2⟩ := (KA.out.below HW.out KA.out.lt).all
    by_cases hlt : k < cl
    · obtain ⟨s, hs⟩ : ∃ s, cs[k]? = some s := ⟨_, List.getElem?_eq_getElem (by rw [HCL.out]; exact hlt)⟩
      obtain ⟨g7, o7, hA7, hg7, p7⟩ := (HM.out.below (HB.out.trans (HW.out.mono HB.out.size))).cs k s hs
      have hA7 : a1 = some ⟨g7, o7, none⟩ := hA7
      subst hA7
      obtain ⟨g8, o8, hA8, hg8, p8⟩ := (HAT.out.below (HW.out.mono HBZ2.out)).cs k s hs
      have hA8 : x1 = some ⟨g8, o8, none⟩ := hA8
      subst hA8
      have p7 : wr.cell? ⟨g7, o7 + k, none⟩ = some (.int .i64 s) := p7
      have p8 : wr.cell? ⟨g8, o8 + k, none⟩ = some (.int .i64 s) := p8
      have ib0 : (0 : Int) ≤ (k : Int) := by omega
      have ib1 : (k : Int) < (cl : Int) := by omega
      clear hs
      go_upto_region 12 with fail
      go_quiet (fail)
      have HW2 := Lib.hid (Lim.below_dN HW.out nq)
      clear t00 t01 t02 ta0 ta1 ta2 p7 p8
      go_wp2
      go_roundw
      case rel => exact ⟨k + 1, Nat.succ_le_of_lt hlt, by go_num, HW2⟩
      case measure => simp [intOf]; omega
    · obtain rfl : cl = k := Nat.le_antisymm (Nat.le_of_not_lt hlt) hk
      replace HB := Lib.hid (HB.out.trans (HW.out.mono HB.out.size))
      replace KB0 := Lib.hid (KB0.out.below HW.out KB0.out.lt)
      replace KB1 := Lib.hid (KB1.out.below HW.out KB1.out.lt)
      replace KB2 := Lib.hid (KB2.out.below HW.out KB2.out.lt)
      replace KB3 := Lib.hid (KB3.out.below HW.out KB3.out.lt)
      replace KB4 := Lib.hid (KB4.out.below HW.out KB4.out.lt)
      replace KA := Lib.hid (KA.out.below HW.out KA.out.lt)
      replace HAT := Lib.hid (HAT.out.below (HW.out.mono HBZ2.out))
      have HBZ3 := Lib.hid (Nat.le_trans HBZ2.out HW.out.size)
      clear HW HBZ2 t00 t01 t02 ta0 ta1 ta2
      have hv1 := fun V (hV : Below wr.heap.size wr V) => valid_any V w.heap.size _ _ (HM.out.below (HB.out.trans (hV.mono HB.out.size))) (HB.out.trans (hV.mono HB.out.size)).size SM.out _ _ (HP.out.below (HB.out.trans (hV.mono HB.out.size))) SP.out z5.1 z5.2.1 z5.2.2 (HD.out.1.below (HB.out.trans (hV.mono HB.out.size))) (by omega)
      have hv2 := fun V (hV : Below wr.heap.size wr V) => valid_any V V.heap.size _ _ ((HAT.out.below (hV.mono HBZ3.out)).wide (Nat.le_trans HBZ3.out hV.size)) (Nat.le_refl _) HSA.out _ _ ((HQ.out.below (HB.out.trans (hV.mono HB.out.size))).wide (HB.out.trans (hV.mono HB.out.size)).size) SQ.out z5.1 z5.2.1 z5.2.2 (DmAt.widen (HD.out.1.below (HB.out.trans (hV.mono HB.out.size))) (HB.out.trans (hV.mono HB.out.size)).size) (by omega)
      have hv3 := fun V (hV : Below wr.heap.size wr V) => gvalid_any V (HT.out.below (HB.out.trans (hV.mono HB.out.size))) w.heap.size _ _ (HG.out.below (HB.out.trans (hV.mono HB.out.size))) (HB.out.trans (hV.mono HB.out.size)).size SG.out _ _ (HP.out.below (HB.out.trans (hV.mono HB.out.size))) SP.out _ _ (HQ.out.below (HB.out.trans (hV.mono HB.out.size))) SQ.out
      rw [HV.out] at hv3
      have hv1 : ∀ V, Below wr.heap.size wr V → Calls Tryz.prog 23 #[.agg #[.string id, .int .i64 o, .slice a1 cl c1, .string pr, .int .i64 (sn : Int), .slice a2 k2 c2, .slice a3 N c3, .slice a4 K c4], .agg #[.string pn, .slice e1 pl f1, .slice e2 pml f2], .agg #[.slice z5.2.1 z5.1.length z5.2.2]] V fun e w' => e = .returned (.bool (vldB ⟨id, o, cs, pr, (sn : Int), mv, rs, ls⟩ ⟨pn, pss, pms⟩ z5.1)) ∧ Below V.heap.size V w' := fun V hV => by
        have k := hv1 V hV
        rw [show mtC ⟨id, o, cs, pr, (sn : Int), mv, rs, ls⟩ ⟨a1, c1, a2, c2, a3, c3, a4, c4, lv⟩ = #[.string id, .int .i64 o, .slice a1 cl c1, .string pr, .int .i64 (sn : Int), .slice a2 k2 c2, .slice a3 N c3, .slice a4 K c4] from by unfold mtC; simp only [HCL.out, HK2.out, HN.out, HK.out], show pcC ⟨pn, pss, pms⟩ ⟨e1, f1, e2, f2⟩ = #[.string pn, .slice e1 pl f1, .slice e2 pml f2] from by unfold pcC; simp only [HPL.out, HPML.out]] at k
        exact k
      have hv2 : ∀ V, Below wr.heap.size wr V → Calls Tryz.prog 23 #[.agg #[.string id, .int .i64 o, .slice x1 cl y1, .string tn, .int .i64 ns, .slice x2 k2 y2, .slice x3 xN y3, .slice x4 xK y4], .agg #[.string tn, .slice i1 ql j1, .slice i2 qml j2], .agg #[.slice z5.2.1 z5.1.length z5.2.2]] V fun e w' => e = .returned (.bool (vldB ⟨id, o, cs, tn, ns, mv, xrs, xls⟩ ⟨tn, qss, qms⟩ z5.1)) ∧ Below V.heap.size V w' := fun V hV => by
        have k := hv2 V hV
        rw [show mtC ⟨id, o, cs, tn, ns, mv, xrs, xls⟩ ⟨x1, y1, x2, y2, x3, y3, x4, y4, xlv⟩ = #[.string id, .int .i64 o, .slice x1 cl y1, .string tn, .int .i64 ns, .slice x2 k2 y2, .slice x3 xN y3, .slice x4 xK y4] from by unfold mtC; simp only [HCL.out, HK2.out, HXN.out, HXK2.out], show pcC ⟨tn, qss, qms⟩ ⟨i1, j1, i2, j2⟩ = #[.string tn, .slice i1 ql j1, .slice i2 qml j2] from by unfold pcC; simp only [HQL.out, HQML.out]] at k
        exact k
      have hv3 : ∀ V, Below wr.heap.size wr V → Calls Tryz.prog 18 #[.agg #[.string fr, .string tn, .slice (some ⟨ga, oa, none⟩) gn d1, .slice b2 grl d2, .slice b3 J d3], .agg #[.string pn, .slice e1 pl f1, .slice e2 pml f2], .agg #[.string tn, .slice i1 ql j1, .slice i2 qml j2]] V fun e w' => e = .returned (.bool true) ∧ Below V.heap.size V w' := fun V hV => by
        have k := hv3 V hV
        rw [show mgC ⟨fr, tn, gst, grs, gts⟩ ⟨some ⟨ga, oa, none⟩, d1, b2, d2, b3, d3, tv⟩ = #[.string fr, .string tn, .slice (some ⟨ga, oa, none⟩) gn d1, .slice b2 grl d2, .slice b3 J d3] from by unfold mgC; simp only [HGN.out, HGRL.out, HJ.out], show pcC ⟨pn, pss, pms⟩ ⟨e1, f1, e2, f2⟩ = #[.string pn, .slice e1 pl f1, .slice e2 pml f2] from by unfold pcC; simp only [HPL.out, HPML.out], show pcC ⟨tn, qss, qms⟩ ⟨i1, j1, i2, j2⟩ = #[.string tn, .slice i1 ql j1, .slice i2 qml j2] from by unfold pcC; simp only [HQL.out, HQML.out]] at k
        exact k
      have HV1 := Lib.hid hv1
      have HV2 := Lib.hid hv2
      have HV3 := Lib.hid hv3
      clear hv1 hv2 hv3
      obtain ⟨t00, t01, t02⟩ := KB0.out.all
      obtain ⟨t20, t21, t22⟩ := KB2.out.all
      obtain ⟨t40, t41, t42⟩ := KB4.out.all
      cases hvv : vldB ⟨id, o, cs, pr, (sn : Int), mv, rs, ls⟩ ⟨pn, pss, pms⟩ z5.1 with
      | false =>
        have c1 := HV1.out wr (Below.refl _ _)
        rw [hvv] at c1
        have C1 := Lib.hid c1
        clear c1 hvv
        go_wp2_with fail
        refine C1.out.mono ?_
        rintro e V1 ⟨rfl, g1⟩
        clear t00 t01 t02 t20 t21 t22 t40 t41 t42 C1
        obtain ⟨t10, t11, t12⟩ := (KB1.out.below g1 KB1.out.lt).all
        obtain ⟨t20, t21, t22⟩ := (KB2.out.below g1 KB2.out.lt).all
        obtain ⟨t30, t31, t32⟩ := (KB3.out.below g1 KB3.out.lt).all
        have C3 := Lib.hid (HV3.out V1 g1)
        go_wp2_with fail
        refine C3.out.mono ?_
        rintro e V2 ⟨rfl, g2⟩
        have HE := Lib.hid (HB.out.trans ((g1.trans (g2.mono g1.size)).mono HB.out.size))
        clear g1 g2 t10 t11 t12 t20 t21 t22 t30 t31 t32
        go_wp2
        go_ret
        exact ⟨rfl, HE.out⟩
      | true =>
        have c1 := HV1.out wr (Below.refl _ _)
        rw [hvv] at c1
        have C1 := Lib.hid c1
        have HV4 := Lib.hid (HVD.out _ hvv)
        clear c1 hvv
        go_wp2_with fail
        refine C1.out.mono ?_
        rintro e V1 ⟨rfl, g1⟩
        clear t00 t01 t02 t20 t21 t22 t40 t41 t42 C1
        obtain ⟨ta0, ta1, ta2⟩ := (KA.out.below g1 KA.out.lt).all
        obtain ⟨t30, t31, t32⟩ := (KB3.out.below g1 KB3.out.lt).all
        obtain ⟨t40, t41, t42⟩ := (KB4.out.below g1 KB4.out.lt).all
        have c2 := HV2.out V1 g1
        rw [HV4.out] at c2
        have C2 := Lib.hid c2
        clear c2
        go_wp2_with fail
        refine C2.out.mono ?_
        rintro e V2 ⟨rfl, g2⟩
        have g3 := g1.trans (g2.mono g1.size)
        clear g1 g2 ta0 ta1 ta2 t30 t31 t32 t40 t41 t42
        obtain ⟨t10, t11, t12⟩ := (KB1.out.below g3 KB1.out.lt).all
        obtain ⟨t20, t21, t22⟩ := (KB2.out.below g3 KB2.out.lt).all
        obtain ⟨t30, t31, t32⟩ := (KB3.out.below g3 KB3.out.lt).all
        have C3 := Lib.hid (HV3.out V2 g3)
        go_wp2_with fail
        refine C3.out.mono ?_
        rintro e V3 ⟨rfl, g4⟩
        have HE := Lib.hid (HB.out.trans ((g3.trans (g4.mono g3.size)).mono HB.out.size))
        clear g3 g4 t10 t11 t12 t20 t21 t22 t30 t31 t32
        go_wp2
        go_ret
        exact ⟨rfl, HE.out⟩
end Go.Proofs.YtknchlpcpgflkaaGreatDoor
