/- MigrateRights. -/
import Derived.Test.YtknchlpcpgflkaaGreatDoorKNd
import Derived.Test.YtknchlpcpgflkaaGreatDoorKGBW
import Derived.Test.YtknchlpcpgflkaaGreatDoorKGBA
import Derived.Test.YtknchlpcpgflkaaGreatDoorKGAU
import Derived.Test.YtknchlpcpgflkaaGreatDoorKGBS
import Derived.Test.YtknchlpcpgflkaaGreatDoorKWv
import Derived.Test.YtknchlpcpgflkaaGreatDoorKGBT
namespace Go.Proofs.YtknchlpcpgflkaaGreatDoor
open Go.RowKit Go.Shelf

set_option maxRecDepth 100000 in
set_option maxHeartbeats 16000000 in
theorem rights_walk (w : World) (ht : Tbs w) (z1 : Mt × MtX) (h1 : MtIn w z1) (z2 : Mg × MgX) (h2 : MgIn w z2) (z3 : Pc × PcX) (h3 : PcIn w z3) (z4 : Pc × PcX) (h4 : PcIn w z4) (day : Int) (_wd : (Lit.int .i64 day).wf = true) (C : Option Addr) (cc : Nat) (l : List Int) (hl : Ints w w.heap.size C l) (on : Int) (_won : (Lit.int .i64 on).wf = true) :
    Calls Tryz.prog 5 #[.agg (mtC z1.1 z1.2), .agg (mgC z2.1 z2.2), .agg (pcC z3.1 z3.2), .agg (pcC z4.1 z4.2), .int .i64 day, .slice C l.length cc, .int .i64 on] w fun e w' => e = .returned (.bool true) ∧ Below w.heap.size w w' := by
  obtain ⟨m, x⟩ := z1
  obtain ⟨g, z⟩ := z2
  obtain ⟨p, y⟩ := z3
  obtain ⟨q, v⟩ := z4
  obtain ⟨hm, zm⟩ := h1
  obtain ⟨hg, zg⟩ := h2
  obtain ⟨hp, zp⟩ := h3
  obtain ⟨hq, zq⟩ := h4
  obtain ⟨hD, hw, hll⟩ := hl
  simp only at hm zm hg zg hp zp hq zq ⊢
  have hfew := fun W (hW : Below w.heap.size w W) => lfew_any W w.heap.size hW.size m x (hm.below hW) ⟨zm.1, zm.2.1, zm.2.2.1, zm.2.2.2.1⟩ g z (hg.below hW) zg p y (hp.below hW) zp q v (hq.below hW) zq C l.length cc hll
  have hhd := fun W (hW : Below w.heap.size w W) => head_any W (ht.below hW)
  have hap := fun W (hW : Below w.heap.size w W) (sm : Sml m) (sg : SmlG g) (sp : SmlP p) (sq : SmlP q) (hl2 : l.length ≤ 100) => gapply_any W (ht.below hW) w.heap.size m x (hm.below hW) hW.size sm g z (hg.below hW) sg p y (hp.below hW) sp q v (hq.below hW) sq day C l cc (hD.below hW) (by omega) hw
  have FM : Hid (FewL m g p q l.length → Sml m ∧ SmlG g ∧ SmlP p ∧ SmlP q ∧ l.length ≤ 100) := Lib.hid (fun h => ⟨h.1.sml, h.2.1.sml, h.2.2.1.sml, h.2.2.2.1.sml, h.2.2.2.2⟩)
  obtain ⟨E, hE⟩ : ∃ E, applyE m g p q day l = E := ⟨_, rfl⟩
  obtain ⟨a, ha⟩ : ∃ a, applyM m g p q day l = a := ⟨_, rfl⟩
  rw [hE, ha] at hap
  obtain ⟨PF, hPF⟩ : ∃ P, FewL m g p q l.length = P := ⟨_, rfl⟩
  rw [hPF] at hfew FM
  have HM := Lib.hid hm
  have HG := Lib.hid hg
  have HP := Lib.hid hp
  have HQ := Lib.hid hq
  have HE := Lib.hid hE
  have HA := Lib.hid ha
  clear hPF hE ha hm hg hp hq zm zg zp zq hD hw
  obtain ⟨id, o, cs, pr, st, mv, rs, ls⟩ := m
  obtain ⟨a1, c1, a2, c2, a3, c3, a4, c4, lv⟩ := x
  obtain ⟨fr, tn, gst, grs, gts⟩ := g
  obtain ⟨b1, dq1, b2, dq2, b3, dq3, tv⟩ := z
  obtain ⟨pn, pss, pms⟩ := p
  obtain ⟨ez1, f1, ez2, f2⟩ := y
  obtain ⟨qn, qss, qms⟩ := q
  obtain ⟨i1, j1, i2, j2⟩ := v
  obtain ⟨cl, hcl⟩ : ∃ k, cs.length = k := ⟨_, rfl⟩
  obtain ⟨k2, hk2⟩ : ∃ k, mv.length = k := ⟨_, rfl⟩
  obtain ⟨N, hN⟩ : ∃ k, rs.length = k := ⟨_, rfl⟩
  obtain ⟨K, hK⟩ : ∃ k, ls.length = k := ⟨_, rfl⟩
  obtain ⟨gn, hgn⟩ : ∃ k, gst.length = k := ⟨_, rfl⟩
  obtain ⟨grl, hgrl⟩ : ∃ k, grs.length = k := ⟨_, rfl⟩
  obtain ⟨J, hJ⟩ : ∃ k, gts.length = k := ⟨_, rfl⟩
  obtain ⟨pl, hpl⟩ : ∃ k, pss.length = k := ⟨_, rfl⟩
  obtain ⟨pml, hpml⟩ : ∃ k, pms.length = k := ⟨_, rfl⟩
  obtain ⟨ql, hql⟩ : ∃ k, qss.length = k := ⟨_, rfl⟩
  obtain ⟨qml, hqml⟩ : ∃ k, qms.length = k := ⟨_, rfl⟩
  have eM : mtC ⟨id, o, cs, pr, st, mv, rs, ls⟩ ⟨a1, c1, a2, c2, a3, c3, a4, c4, lv⟩ = #[.string id, .int .i64 o, .slice a1 cl c1, .string pr, .int .i64 st, .slice a2 k2 c2, .slice a3 N c3, .slice a4 K c4] := by unfold mtC; simp only [hcl, hk2, hN, hK]
  have eG : mgC ⟨fr, tn, gst, grs, gts⟩ ⟨b1, dq1, b2, dq2, b3, dq3, tv⟩ = #[.string fr, .string tn, .slice b1 gn dq1, .slice b2 grl dq2, .slice b3 J dq3] := by unfold mgC; simp only [hgn, hgrl, hJ]
  have eP : pcC ⟨pn, pss, pms⟩ ⟨ez1, f1, ez2, f2⟩ = #[.string pn, .slice ez1 pl f1, .slice ez2 pml f2] := by unfold pcC; simp only [hpl, hpml]
  have eQ : pcC ⟨qn, qss, qms⟩ ⟨i1, j1, i2, j2⟩ = #[.string qn, .slice i1 ql j1, .slice i2 qml j2] := by unfold pcC; simp only [hql, hqml]
  rw [eM, eG, eP, eQ] at hfew hap
  rw [eM, eG, eP, eQ]
  have FEW := Lib.hid hfew
  have HHD := Lib.hid hhd
  have HAP := Lib.hid hap
  have HT := Lib.hid ht
  have HCL := Lib.hid hcl
  have HK2 := Lib.hid hk2
  have HN := Lib.hid hN
  have HK := Lib.hid hK
  have HGN := Lib.hid hgn
  have HPL := Lib.hid hpl
  have HGRL := Lib.hid hgrl
  have HJ := Lib.hid hJ
  have HPML := Lib.hid hpml
  have HQL := Lib.hid hql
  have HQML := Lib.hid hqml
  clear eM eG eP eQ hfew hhd hap ht hcl hk2 hN hK hgn hgrl hJ hpl hpml hql hqml
  have hb := (((below_self_alloc w (.cells #[.string id, .int .i64 o, .slice a1 cl c1, .string pr, .int .i64 st, .slice a2 k2 c2, .slice a3 N c3, .slice a4 K c4] 27)).alloc (by simp) (.cells #[.string fr, .string tn, .slice b1 gn dq1, .slice b2 grl dq2, .slice b3 J dq3] 30)).alloc (by simp; omega) (.cells #[.string pn, .slice ez1 pl f1, .slice ez2 pml f2] 34)).alloc (by simp; omega) (.cells #[.string qn, .slice i1 ql j1, .slice i2 qml j2] 34)
  have kb0 := (((Blk.new w 27 #[.string id, .int .i64 o, .slice a1 cl c1, .string pr, .int .i64 st, .slice a2 k2 c2, .slice a3 N c3, .slice a4 K c4]).alloc (.cells #[.string fr, .string tn, .slice b1 gn dq1, .slice b2 grl dq2, .slice b3 J dq3] 30)).alloc (.cells #[.string pn, .slice ez1 pl f1, .slice ez2 pml f2] 34)).alloc (.cells #[.string qn, .slice i1 ql j1, .slice i2 qml j2] 34)
  have kb1 := ((Blk.new (w.alloc (.cells #[.string id, .int .i64 o, .slice a1 cl c1, .string pr, .int .i64 st, .slice a2 k2 c2, .slice a3 N c3, .slice a4 K c4] 27)) 30 #[.string fr, .string tn, .slice b1 gn dq1, .slice b2 grl dq2, .slice b3 J dq3]).alloc (.cells #[.string pn, .slice ez1 pl f1, .slice ez2 pml f2] 34)).alloc (.cells #[.string qn, .slice i1 ql j1, .slice i2 qml j2] 34)
  rw [show ((w.alloc (.cells #[.string id, .int .i64 o, .slice a1 cl c1, .string pr, .int .i64 st, .slice a2 k2 c2, .slice a3 N c3, .slice a4 K c4] 27))).heap.size = w.heap.size + 1 from by simp] at kb1
  have kb2 := (Blk.new ((w.alloc (.cells #[.string id, .int .i64 o, .slice a1 cl c1, .string pr, .int .i64 st, .slice a2 k2 c2, .slice a3 N c3, .slice a4 K c4] 27)).alloc (.cells #[.string fr, .string tn, .slice b1 gn dq1, .slice b2 grl dq2, .slice b3 J dq3] 30)) 34 #[.string pn, .slice ez1 pl f1, .slice ez2 pml f2]).alloc (.cells #[.string qn, .slice i1 ql j1, .slice i2 qml j2] 34)
  rw [show (((w.alloc (.cells #[.string id, .int .i64 o, .slice a1 cl c1, .string pr, .int .i64 st, .slice a2 k2 c2, .slice a3 N c3, .slice a4 K c4] 27)).alloc (.cells #[.string fr, .string tn, .slice b1 gn dq1, .slice b2 grl dq2, .slice b3 J dq3] 30))).heap.size = w.heap.size + 1 + 1 from by simp] at kb2
  have kb3 := Blk.new (((w.alloc (.cells #[.string id, .int .i64 o, .slice a1 cl c1, .string pr, .int .i64 st, .slice a2 k2 c2, .slice a3 N c3, .slice a4 K c4] 27)).alloc (.cells #[.string fr, .string tn, .slice b1 gn dq1, .slice b2 grl dq2, .slice b3 J dq3] 30)).alloc (.cells #[.string pn, .slice ez1 pl f1, .slice ez2 pml f2] 34)) 34 #[.string qn, .slice i1 ql j1, .slice i2 qml j2]
  rw [show ((((w.alloc (.cells #[.string id, .int .i64 o, .slice a1 cl c1, .string pr, .int .i64 st, .slice a2 k2 c2, .slice a3 N c3, .slice a4 K c4] 27)).alloc (.cells #[.string fr, .string tn, .slice b1 gn dq1, .slice b2 grl dq2, .slice b3 J dq3] 30)).alloc (.cells #[.string pn, .slice ez1 pl f1, .slice ez2 pml f2] 34))).heap.size = w.heap.size + 1 + 1 + 1 from by simp] at kb3
  have KB0 := Lib.hid kb0
  have KB1 := Lib.hid kb1
  have KB2 := Lib.hid kb2
  have KB3 := Lib.hid kb3
  have HB := Lib.hid hb
  clear hb kb0 kb1 kb2 kb3
  go_enter Tryz.func5, Tryz.ntmps5
  go_upto_region 1 with fail
  generalize ((((w.alloc (.cells #[.string id, .int .i64 o, .slice a1 cl c1, .string pr, .int .i64 st, .slice a2 k2 c2, .slice a3 N c3, .slice a4 K c4] 27)).alloc (.cells #[.string fr, .string tn, .slice b1 gn dq1, .slice b2 grl dq2, .slice b3 J dq3] 30)).alloc (.cells #[.string pn, .slice ez1 pl f1, .slice ez2 pml f2] 34)).alloc (.cells #[.string qn, .slice i1 ql j1, .slice i2 qml j2] 34)) = W0 at *
  go_wp2_with fail
  refine (HHD.out W0 HB.out).mono ?_
  rintro e W1 ⟨rfl, bb⟩
  replace HB := Lib.hid (HB.out.trans (bb.mono HB.out.size))
  replace KB0 := Lib.hid (KB0.out.below bb KB0.out.lt)
  replace KB1 := Lib.hid (KB1.out.below bb KB1.out.lt)
  replace KB2 := Lib.hid (KB2.out.below bb KB2.out.lt)
  replace KB3 := Lib.hid (KB3.out.below bb KB3.out.lt)
  clear bb
  obtain ⟨t00, t01, t02⟩ := KB0.out.all
  obtain ⟨t10, t11, t12⟩ := KB1.out.all
  obtain ⟨t20, t21, t22⟩ := KB2.out.all
  obtain ⟨t30, t31, t32⟩ := KB3.out.all
  go_wp2_with fail
  refine (FEW.out W1 HB.out).mono ?_
  rintro e W2 ⟨qf, rfl, hqf, bb⟩
  clear t00 t01 t02 t10 t11 t12 t20 t21 t22 t30 t31 t32
  replace HB := Lib.hid (HB.out.trans (bb.mono HB.out.size))
  replace KB0 := Lib.hid (KB0.out.below bb KB0.out.lt)
  replace KB1 := Lib.hid (KB1.out.below bb KB1.out.lt)
  replace KB2 := Lib.hid (KB2.out.below bb KB2.out.lt)
  replace KB3 := Lib.hid (KB3.out.below bb KB3.out.lt)
  clear bb
  cases qf with
  | false =>
    go_wp2
    go_ret
    exact ⟨rfl, HB.out⟩
  | true =>
  obtain ⟨sm, sg, sp, sq, sl⟩ := FM.out (hqf rfl)
  have SM := Lib.hid sm
  have SG := Lib.hid sg
  have SP := Lib.hid sp
  have SQ := Lib.hid sq
  have SL := Lib.hid sl
  clear sm sg sp sq sl hqf
  obtain ⟨t00, t01, t02⟩ := KB0.out.all
  obtain ⟨t10, t11, t12⟩ := KB1.out.all
  obtain ⟨t20, t21, t22⟩ := KB2.out.all
  obtain ⟨t30, t31, t32⟩ := KB3.out.all
  go_wp2_with fail
  refine (HAP.out W2 HB.out SM.out SG.out SP.out SQ.out SL.out).mono ?_
  rintro e W3 ⟨⟨x1, y1, x2, y2, x3, y3, x4, y4, xlv⟩, he, hat, bb⟩
  obtain ⟨xid, xo, xcs, xpr, xst, xmv, xrs, xls⟩ := a
  obtain ⟨xcl, hxcl⟩ : ∃ k, xcs.length = k := ⟨_, rfl⟩
  obtain ⟨xk, hxk⟩ : ∃ k, xmv.length = k := ⟨_, rfl⟩
  obtain ⟨xN, hxN⟩ : ∃ k, xrs.length = k := ⟨_, rfl⟩
  obtain ⟨xK, hxK⟩ : ∃ k, xls.length = k := ⟨_, rfl⟩
  have eA : mtC ⟨xid, xo, xcs, xpr, xst, xmv, xrs, xls⟩ ⟨x1, y1, x2, y2, x3, y3, x4, y4, xlv⟩ = #[.string xid, .int .i64 xo, .slice x1 xcl y1, .string xpr, .int .i64 xst, .slice x2 xk y2, .slice x3 xN y3, .slice x4 xK y4] := by unfold mtC; simp only [hxcl, hxk, hxN, hxK]
  rw [eA] at he
  subst he
  have HAT := Lib.hid hat
  have HXCL := Lib.hid hxcl
  have HXK := Lib.hid hxk
  have HXN := Lib.hid hxN
  have HXK2 := Lib.hid hxK
  clear eA hat hxcl hxk hxN hxK
  clear t00 t01 t02 t10 t11 t12 t20 t21 t22 t30 t31 t32
  replace HB := Lib.hid (HB.out.trans (bb.mono HB.out.size))
  replace KB0 := Lib.hid (KB0.out.below bb KB0.out.lt)
  replace KB1 := Lib.hid (KB1.out.below bb KB1.out.lt)
  replace KB2 := Lib.hid (KB2.out.below bb KB2.out.lt)
  replace KB3 := Lib.hid (KB3.out.below bb KB3.out.lt)
  clear bb
  go_upto_region 5 with fail
  have KA := Lib.hid (Blk.new W3 27 #[.string xid, .int .i64 xo, .slice x1 xcl y1, .string xpr, .int .i64 xst, .slice x2 xk y2, .slice x3 xN y3, .slice x4 xK y4])
  have ba := below_self_alloc W3 (.cells #[.string xid, .int .i64 xo, .slice x1 xcl y1, .string xpr, .int .i64 xst, .slice x2 xk y2, .slice x3 xN y3, .slice x4 xK y4] 27)
  generalize hW4 : W3.alloc (.cells #[.string xid, .int .i64 xo, .slice x1 xcl y1, .string xpr, .int .i64 xst, .slice x2 xk y2, .slice x3 xN y3, .slice x4 xK y4] 27) = W4 at *
  have bb := ba
  replace HB := Lib.hid (HB.out.trans (bb.mono HB.out.size))
  replace KB0 := Lib.hid (KB0.out.below bb KB0.out.lt)
  replace KB1 := Lib.hid (KB1.out.below bb KB1.out.lt)
  replace KB2 := Lib.hid (KB2.out.below bb KB2.out.lt)
  replace KB3 := Lib.hid (KB3.out.below bb KB3.out.lt)
  clear bb
  replace HAT := Lib.hid (HAT.out.below ba)
  have HBA := Lib.hid ba
  clear ba hW4
  generalize W3.heap.size = ba at *
  by_cases hE0 : E = 0
  case neg =>
    have hz : applyM ⟨id, o, cs, pr, st, mv, rs, ls⟩ ⟨fr, tn, gst, grs, gts⟩ ⟨pn, pss, pms⟩ ⟨qn, qss, qms⟩ day l = Mt.zero := apply_no (by rw [HE.out]; exact hE0)
    rw [HA.out] at hz
    simp only [Mt.zero, Mt.mk.injEq] at hz
    obtain ⟨r1, -, -, -, -, -, r7, -⟩ := hz
    have h0 : xN = 0 := by rw [← HXN.out, r7]; rfl
    subst r1 h0
    clear r7
    obtain ⟨ta0, ta1, ta2⟩ := KA.out.all
    go_wp2
    go_ret
    exact ⟨rfl, HB.out⟩
  subst hE0
  obtain ⟨hap1, -, -, -, -, heq⟩ := apply_ok HE.out
  rw [HA.out] at heq
  simp only [Mt.mk.injEq] at heq
  obtain ⟨-, -, -, -, -, -, q7, -⟩ := heq
  have hha := fun n => apply_has (n := n) (on := on) HE.out
  rw [HA.out] at hha
  have hcN : N ≤ 1000000 := by rw [← HN.out]; exact SM.out.2.2.1
  have hcX : xN ≤ N := by rw [← HXN.out, ← HN.out, q7]; exact mergeR_len _ _
  have HHA := Lib.hid hha
  have HRS : Hid (xrs = mergeR grs rs) := Lib.hid q7
  have HBZ : Hid (ba ≤ W4.heap.size) := Lib.hid (Nat.le_of_lt KA.out.lt)
  have ch1 : ∀ V, Below W4.heap.size W4 V → ∀ n : ByteArray, Calls Tryz.prog 20 #[.agg #[.string id, .int .i64 o, .slice a1 cl c1, .string pr, .int .i64 st, .slice a2 k2 c2, .slice a3 N c3, .slice a4 K c4], .string n, .int .i64 on] V fun e w' => e = .returned (.bool (hasB rs n on)) ∧ Below V.heap.size V w' := fun V hV n => by
    have k := has_any V w.heap.size ⟨id, o, cs, pr, st, mv, rs, ls⟩ ⟨a1, c1, a2, c2, a3, c3, a4, c4, lv⟩ (HM.out.rs.below (HB.out.trans (hV.mono HB.out.size))) (HB.out.trans (hV.mono HB.out.size)).size (by have := SM.out.2.2.1; simp only at this ⊢; omega) n on
    rw [show mtC ⟨id, o, cs, pr, st, mv, rs, ls⟩ ⟨a1, c1, a2, c2, a3, c3, a4, c4, lv⟩ = #[.string id, .int .i64 o, .slice a1 cl c1, .string pr, .int .i64 st, .slice a2 k2 c2, .slice a3 N c3, .slice a4 K c4] from by unfold mtC; simp only [HCL.out, HK2.out, HN.out, HK.out]] at k
    exact k
  have ch2 : ∀ V, Below W4.heap.size W4 V → ∀ n : ByteArray, Calls Tryz.prog 20 #[.agg #[.string xid, .int .i64 xo, .slice x1 xcl y1, .string xpr, .int .i64 xst, .slice x2 xk y2, .slice x3 xN y3, .slice x4 xK y4], .string n, .int .i64 on] V fun e w' => e = .returned (.bool (hasB xrs n on)) ∧ Below V.heap.size V w' := fun V hV n => by
    have k := has_any V V.heap.size ⟨xid, xo, xcs, xpr, xst, xmv, xrs, xls⟩ ⟨x1, y1, x2, y2, x3, y3, x4, y4, xlv⟩ ((HAT.out.rs.below (hV.mono HBZ.out)).wide (Nat.le_trans HBZ.out hV.size)) (Nat.le_refl _) (by have := HXN.out; simp only at this ⊢; omega) n on
    rw [show mtC ⟨xid, xo, xcs, xpr, xst, xmv, xrs, xls⟩ ⟨x1, y1, x2, y2, x3, y3, x4, y4, xlv⟩ = #[.string xid, .int .i64 xo, .slice x1 xcl y1, .string xpr, .int .i64 xst, .slice x2 xk y2, .slice x3 xN y3, .slice x4 xK y4] from by unfold mtC; simp only [HXCL.out, HXK.out, HXN.out, HXK2.out]] at k
    exact k
  have cn : ∀ V, Below W4.heap.size W4 V → ∀ n : ByteArray, Calls Tryz.prog 21 #[.agg #[.string fr, .string tn, .slice b1 gn dq1, .slice b2 grl dq2, .slice b3 J dq3], .string n] V fun e w' => e = .returned (.string (namedL grs n)) ∧ Below V.heap.size V w' := fun V hV n => by
    have k := rnamed32_any V w.heap.size ⟨fr, tn, gst, grs, gts⟩ ⟨b1, dq1, b2, dq2, b3, dq3, tv⟩ (HG.out.rs.below (HB.out.trans (hV.mono HB.out.size))) (HB.out.trans (hV.mono HB.out.size)).size (by have := SG.out.2.1; simp only at this ⊢; omega) n
    rw [show mgC ⟨fr, tn, gst, grs, gts⟩ ⟨b1, dq1, b2, dq2, b3, dq3, tv⟩ = #[.string fr, .string tn, .slice b1 gn dq1, .slice b2 grl dq2, .slice b3 J dq3] from by unfold mgC; simp only [HGN.out, HGRL.out, HJ.out]] at k
    exact k
  have CCH1 := Lib.hid ch1
  have CCH2 := Lib.hid ch2
  have CCN := Lib.hid cn
  clear hap1 hha q7 ch1 ch2 cn
  go_upto_region 7 with fail
  go_cut [18] from 23 (fun v wx => v = .int .i64 0 ∧ wx = W4)
  case first =>
    go_wp2_with fail
    go_meet
    case rel => exact ⟨rfl, rfl⟩
  case rest =>
  obtain ⟨rfl, hcut⟩ := hcut
  replace hcut := hcut.symm
  subst hcut
  obtain ⟨t00, t01, t02⟩ := KB0.out.all
  go_wp2_with fail
  go_loopw [18] (fun i wr => ∃ k : Nat, k ≤ N ∧ i = .int .i64 (k : Int) ∧ Hid (Below W4.heap.size W4 wr)) (fun i _ => N - (intOf i).toNat)
  case atStart => exact ⟨0, Nat.zero_le _, rfl, Lib.hid (Below.refl _ _)⟩
  case round =>
    clear t00 t01 t02
    obtain ⟨k, hk, rfl, HW⟩ := hrel
    obtain ⟨t00, t01, t02⟩ := (KB0.out.below HW.out KB0.out.lt).all
    by_cases hlt : k < N
    · obtain ⟨r, hr⟩ : ∃ r, rs[k]? = some r := ⟨_, List.getElem?_eq_getElem (by rw [HN.out]; exact hlt)⟩
      obtain ⟨rn, rv⟩ := r
      obtain ⟨g5, o5, hA5, hg5, p0, p1⟩ := (HM.out.below (HB.out.trans (HW.out.mono HB.out.size))).rs k _ hr
      have hA5 : a3 = some ⟨g5, o5, none⟩ := hA5
      subst hA5
      have p0 : wr.cell? ⟨g5, o5 + k * 2, none⟩ = some (.string rn) := p0
      have p1 : wr.cell? ⟨g5, o5 + k * 2 + 1, none⟩ = some (.int .i64 rv) := p1
      have ib0 : (0 : Int) ≤ (k : Int) := by omega
      have ib1 : (k : Int) < (N : Int) := by omega
      go_upto_region 11 with fail
      have K19 := Lib.hid (Blk.new wr 56 #[.string rn, .int .i64 rv])
      have q0 := below_self_alloc wr (.cells #[.string rn, .int .i64 rv] 56)
      have HW5 := Lib.hid (HW.out.trans (q0.mono HW.out.size))
      generalize wr.alloc (.cells #[.string rn, .int .i64 rv] 56) = W5 at *
      generalize wr.heap.size = b19 at *
      obtain ⟨nn, hnn⟩ : ∃ nn, namedL grs rn = nn := ⟨_, rfl⟩
      have hh2 : hasB rs rn on = true → hasB xrs nn on = true := fun h => hnn ▸ HHA.out rn h
      have cn := fun V (hV : PSv W5 V) => CCN.out V (HW5.out.trans (Below.mono hV HW5.out.size)) rn
      rw [hnn] at cn
      have CN := Lib.hid cn
      have ch1 := fun V (hV : PSv W5 V) => CCH1.out V (HW5.out.trans (Below.mono hV HW5.out.size)) rn
      have ch2 := fun V (hV : PSv W5 V) => CCH2.out V (HW5.out.trans (Below.mono hV HW5.out.size)) nn
      replace KB0 := Lib.hid (KB0.out.below HW5.out KB0.out.lt)
      replace KB1 := Lib.hid (KB1.out.below HW5.out KB1.out.lt)
      replace KA := Lib.hid (KA.out.below HW5.out KA.out.lt)
      cases hr1 : hasB rs rn on with
      | true =>
        rw [hh2 hr1] at ch2
        rw [hr1] at ch1
        have CH1 := Lib.hid ch1
        have CH2 := Lib.hid ch2
        clear ch1 ch2 hr1 hh2 hnn cn hr p0 p1 q0 t00 t01 t02
        refine wp_region_rg2 (PSv W5) RB ([isV (.agg #[.string id, .int .i64 o, .slice a1 cl c1, .string pr, .int .i64 st, .slice a2 k2 c2, .slice (some ⟨g5, o5, none⟩) N c3, .slice a4 K c4]), isV (.pointer (some ⟨b19, 0, none⟩)), isV (.string rn), isV (.int .i64 on), isV (.bool true), isV (.bool true), isV (.agg #[.string xid, .int .i64 xo, .slice x1 xcl y1, .string xpr, .int .i64 xst, .slice x2 xk y2, .slice x3 xN y3, .slice x4 xK y4]), isV (.agg #[.string fr, .string tn, .slice b1 gn dq1, .slice b2 grl dq2, .slice b3 J dq3]), isV (.pointer (some ⟨b19, 0, none⟩)), isV (.string rn), isV (.string nn), isV (.int .i64 on), isV (.bool true), isV (.bool false), isV (.bool false)]) [0, 1, 2, 3, 4, 5, 6, 7, 8, 9, 10, 11, 12, 13, 14] (by kernel_rfl) (by kernel_rfl) (by kernel_rfl) (below_drewM W5) ⟨isV_mono _, isV_mono _, isV_mono _, isV_mono _, isV_mono _, isV_mono _, isV_mono _, isV_mono _, isV_mono _, isV_mono _, isV_mono _, isV_mono _, isV_mono _, isV_mono _, isV_mono _, trivial⟩ ?_
        intro F hF
        simp only [putAll, List.map_cons, List.map_nil, Act.put, List.setIfInBounds_toArray, List.set_cons_succ, List.set_cons_zero] at hF
        have HFX := Lib.hid hF
        clear hF
        refine ⟨fun Q' => ⟨?_, ?_, ?_, ?_, ?_, ?_, ?_, ?_, ?_, ?_, ?_, ?_, ?_, ?_, ?_, trivial⟩, ?_⟩
        · intro u W hS hd hp
          have HS := Lib.hid hS
          clear hS
          rw [HFX.out]
          clear hd hp 
          obtain ⟨r0, r1, r2⟩ := (KB0.out.below HS.out KB0.out.lt).all
          go_wp2_with fail
          exact ⟨_, by rw [HFX.out]; simp [upd], rfl, HS.out, Below.refl _ _⟩
        · intro u W hS hd hp
          have HS := Lib.hid hS
          clear hS
          rw [HFX.out]
          clear hd hp 
          go_wp2_with fail
          exact ⟨_, by rw [HFX.out]; simp [upd], rfl, HS.out, Below.refl _ _⟩
        · intro u W hS hd hp
          have HS := Lib.hid hS
          clear hS
          obtain ⟨d1, -⟩ := hd
          have e1 : u 1 = .pointer (some ⟨b19, 0, none⟩) := d1 rfl
          rw [HFX.out]
          simp only [e1]
          clear hp d1
          obtain ⟨r0, r1, r2⟩ := (K19.out.below HS.out K19.out.lt).all
          go_wp2_with fail
          exact ⟨_, by rw [HFX.out]; simp [upd, e1], rfl, HS.out, Below.refl _ _⟩
        · intro u W hS hd hp
          have HS := Lib.hid hS
          clear hS
          rw [HFX.out]
          clear hd hp 
          go_wp2_with fail
          exact ⟨_, by rw [HFX.out]; simp [upd], rfl, HS.out, Below.refl _ _⟩
        · intro u W hS hd hp
          have HS := Lib.hid hS
          clear hS
          obtain ⟨d0, d2, d3, -⟩ := hd
          have e0 : u 0 = .agg #[.string id, .int .i64 o, .slice a1 cl c1, .string pr, .int .i64 st, .slice a2 k2 c2, .slice (some ⟨g5, o5, none⟩) N c3, .slice a4 K c4] := d0 rfl
          have e2 : u 2 = .string rn := d2 rfl
          have e3 : u 3 = .int .i64 on := d3 rfl
          rw [HFX.out]
          simp only [e0, e2, e3]
          clear hp d0 d2 d3
          have HC := Lib.hid (CH1.out W HS.out)
          go_wp2_with fail
          refine HC.out.mono ?_
          rintro e W2 ⟨rfl, b2⟩
          go_wp2_with fail
          exact ⟨_, by rw [HFX.out]; simp [upd, e0, e2, e3], rfl, PSv.go HS.out b2, b2⟩
        · intro u W hS hd hp
          have HS := Lib.hid hS
          clear hS
          obtain ⟨d4, -⟩ := hd
          have e4 : u 4 = .bool true := d4 rfl
          rw [HFX.out]
          simp only [e4]
          clear hp d4
          go_wp2_with fail
          exact ⟨_, by rw [HFX.out]; simp [upd, e4], rfl, HS.out, Below.refl _ _⟩
        · intro u W hS hd hp
          have HS := Lib.hid hS
          clear hS
          obtain ⟨d5, -⟩ := hd
          have e5 : u 5 = .bool true := d5 rfl
          rw [HFX.out]
          simp only [e5]
          clear hp d5
          obtain ⟨r0, r1, r2⟩ := (KA.out.below HS.out KA.out.lt).all
          go_wp2_with fail
          exact ⟨_, by rw [HFX.out]; simp [upd, e5], rfl, HS.out, Below.refl _ _⟩
        · intro u W hS hd hp
          have HS := Lib.hid hS
          clear hS
          obtain ⟨d5, -⟩ := hd
          have e5 : u 5 = .bool true := d5 rfl
          rw [HFX.out]
          simp only [e5]
          clear hp d5
          obtain ⟨r0, r1, r2⟩ := (KB1.out.below HS.out KB1.out.lt).all
          go_wp2_with fail
          exact ⟨_, by rw [HFX.out]; simp [upd, e5], rfl, HS.out, Below.refl _ _⟩
        · intro u W hS hd hp
          have HS := Lib.hid hS
          clear hS
          obtain ⟨d5, -⟩ := hd
          have e5 : u 5 = .bool true := d5 rfl
          rw [HFX.out]
          simp only [e5]
          clear hp d5
          go_wp2_with fail
          exact ⟨_, by rw [HFX.out]; simp [upd, e5], rfl, HS.out, Below.refl _ _⟩
        · intro u W hS hd hp
          have HS := Lib.hid hS
          clear hS
          obtain ⟨d8, d5, -⟩ := hd
          have e8 : u 8 = .pointer (some ⟨b19, 0, none⟩) := d8 rfl
          have e5 : u 5 = .bool true := d5 rfl
          rw [HFX.out]
          simp only [e8, e5]
          clear hp d8 d5
          obtain ⟨r0, r1, r2⟩ := (K19.out.below HS.out K19.out.lt).all
          go_wp2_with fail
          exact ⟨_, by rw [HFX.out]; simp [upd, e8, e5], rfl, HS.out, Below.refl _ _⟩
        · intro u W hS hd hp
          have HS := Lib.hid hS
          clear hS
          obtain ⟨d7, d9, _, d5, -⟩ := hd
          have e7 : u 7 = .agg #[.string fr, .string tn, .slice b1 gn dq1, .slice b2 grl dq2, .slice b3 J dq3] := d7 rfl
          have e9 : u 9 = .string rn := d9 rfl
          have e5 : u 5 = .bool true := d5 rfl
          rw [HFX.out]
          simp only [e7, e9, e5]
          clear hp d7 d9 d5
          have HC := Lib.hid (CN.out W HS.out)
          go_wp2_with fail
          refine HC.out.mono ?_
          rintro e W2 ⟨rfl, b2⟩
          go_wp2_with fail
          exact ⟨_, by rw [HFX.out]; simp [upd, e7, e9, e5], rfl, PSv.go HS.out b2, b2⟩
        · intro u W hS hd hp
          have HS := Lib.hid hS
          clear hS
          obtain ⟨d5, -⟩ := hd
          have e5 : u 5 = .bool true := d5 rfl
          rw [HFX.out]
          simp only [e5]
          clear hp d5
          go_wp2_with fail
          exact ⟨_, by rw [HFX.out]; simp [upd, e5], rfl, HS.out, Below.refl _ _⟩
        · intro u W hS hd hp
          have HS := Lib.hid hS
          clear hS
          obtain ⟨d6, d10, d11, _, d5, -⟩ := hd
          have e6 : u 6 = .agg #[.string xid, .int .i64 xo, .slice x1 xcl y1, .string xpr, .int .i64 xst, .slice x2 xk y2, .slice x3 xN y3, .slice x4 xK y4] := d6 rfl
          have e10 : u 10 = .string nn := d10 rfl
          have e11 : u 11 = .int .i64 on := d11 rfl
          have e5 : u 5 = .bool true := d5 rfl
          rw [HFX.out]
          simp only [e6, e10, e11, e5]
          clear hp d6 d10 d11 d5
          have HC := Lib.hid (CH2.out W HS.out)
          go_wp2_with fail
          refine HC.out.mono ?_
          rintro e W2 ⟨rfl, b2⟩
          go_wp2_with fail
          exact ⟨_, by rw [HFX.out]; simp [upd, e6, e10, e11, e5], rfl, PSv.go HS.out b2, b2⟩
        · intro u W hS hd hp
          have HS := Lib.hid hS
          clear hS
          obtain ⟨d12, d5, -⟩ := hd
          have e12 : u 12 = .bool true := d12 rfl
          have e5 : u 5 = .bool true := d5 rfl
          rw [HFX.out]
          simp only [e12, e5]
          clear hp d12 d5
          go_wp2_with fail
          exact ⟨_, by rw [HFX.out]; simp [upd, e12, e5], rfl, HS.out, Below.refl _ _⟩
        · intro u W hS hd hp
          have HS := Lib.hid hS
          clear hS
          obtain ⟨d5, d13, -⟩ := hd
          have e5 : u 5 = .bool true := d5 rfl
          have e13 : u 13 = .bool false := d13 rfl
          rw [HFX.out]
          simp only [e5, e13]
          clear hp d5 d13
          go_wp2_with fail
          exact ⟨_, by rw [HFX.out]; simp [upd, e5, e13], rfl, HS.out, Below.refl _ _⟩
        intro u W hS hf
        have eE : u 14 = .bool false := hf 14 (by decide)
        rw [HFX.out]
        simp only [eE]
        clear eE hf HFX F
        have HW2 := Lib.hid (HW5.out.trans (Below.mono hS HW5.out.size))
        clear hS
        go_wp2
        go_roundw
        case rel => exact ⟨k + 1, by omega, by go_num, HW2⟩
        case measure => simp [intOf]; omega
      | false =>
        rw [hr1] at ch1
        have CH1 := Lib.hid ch1
        clear ch1 ch2 hr1 hh2 hnn cn hr p0 p1 q0 t00 t01 t02
        refine wp_region_rg2 (PSv W5) RB ([isV (.agg #[.string id, .int .i64 o, .slice a1 cl c1, .string pr, .int .i64 st, .slice a2 k2 c2, .slice (some ⟨g5, o5, none⟩) N c3, .slice a4 K c4]), isV (.pointer (some ⟨b19, 0, none⟩)), isV (.string rn), isV (.int .i64 on), isV (.bool false), isV (.bool false), isV (.tuple #[]), isV (.tuple #[]), isV (.tuple #[]), isV (.tuple #[]), isV (.tuple #[]), isV (.tuple #[]), isV (.tuple #[]), isV (.tuple #[]), isV (.bool false)]) [0, 1, 2, 3, 4, 5, 6, 7, 8, 9, 10, 11, 12, 13, 14] (by kernel_rfl) (by kernel_rfl) (by kernel_rfl) (below_drewM W5) ⟨isV_mono _, isV_mono _, isV_mono _, isV_mono _, isV_mono _, isV_mono _, isV_mono _, isV_mono _, isV_mono _, isV_mono _, isV_mono _, isV_mono _, isV_mono _, isV_mono _, isV_mono _, trivial⟩ ?_
        intro F hF
        simp only [putAll, List.map_cons, List.map_nil, Act.put, List.setIfInBounds_toArray, List.set_cons_succ, List.set_cons_zero] at hF
        have HFX := Lib.hid hF
        clear hF
        refine ⟨fun Q' => ⟨?_, ?_, ?_, ?_, ?_, ?_, ?_, ?_, ?_, ?_, ?_, ?_, ?_, ?_, ?_, trivial⟩, ?_⟩
        · intro u W hS hd hp
          have HS := Lib.hid hS
          clear hS
          rw [HFX.out]
          clear hd hp 
          obtain ⟨r0, r1, r2⟩ := (KB0.out.below HS.out KB0.out.lt).all
          go_wp2_with fail
          exact ⟨_, by rw [HFX.out]; simp [upd], rfl, HS.out, Below.refl _ _⟩
        · intro u W hS hd hp
          have HS := Lib.hid hS
          clear hS
          rw [HFX.out]
          clear hd hp 
          go_wp2_with fail
          exact ⟨_, by rw [HFX.out]; simp [upd], rfl, HS.out, Below.refl _ _⟩
        · intro u W hS hd hp
          have HS := Lib.hid hS
          clear hS
          obtain ⟨d1, -⟩ := hd
          have e1 : u 1 = .pointer (some ⟨b19, 0, none⟩) := d1 rfl
          rw [HFX.out]
          simp only [e1]
          clear hp d1
          obtain ⟨r0, r1, r2⟩ := (K19.out.below HS.out K19.out.lt).all
          go_wp2_with fail
          exact ⟨_, by rw [HFX.out]; simp [upd, e1], rfl, HS.out, Below.refl _ _⟩
        · intro u W hS hd hp
          have HS := Lib.hid hS
          clear hS
          rw [HFX.out]
          clear hd hp 
          go_wp2_with fail
          exact ⟨_, by rw [HFX.out]; simp [upd], rfl, HS.out, Below.refl _ _⟩
        · intro u W hS hd hp
          have HS := Lib.hid hS
          clear hS
          obtain ⟨d0, d2, d3, -⟩ := hd
          have e0 : u 0 = .agg #[.string id, .int .i64 o, .slice a1 cl c1, .string pr, .int .i64 st, .slice a2 k2 c2, .slice (some ⟨g5, o5, none⟩) N c3, .slice a4 K c4] := d0 rfl
          have e2 : u 2 = .string rn := d2 rfl
          have e3 : u 3 = .int .i64 on := d3 rfl
          rw [HFX.out]
          simp only [e0, e2, e3]
          clear hp d0 d2 d3
          have HC := Lib.hid (CH1.out W HS.out)
          go_wp2_with fail
          refine HC.out.mono ?_
          rintro e W2 ⟨rfl, b2⟩
          go_wp2_with fail
          exact ⟨_, by rw [HFX.out]; simp [upd, e0, e2, e3], rfl, PSv.go HS.out b2, b2⟩
        · intro u W hS hd hp
          have HS := Lib.hid hS
          clear hS
          obtain ⟨d4, -⟩ := hd
          have e4 : u 4 = .bool false := d4 rfl
          rw [HFX.out]
          simp only [e4]
          clear hp d4
          go_wp2_with fail
          exact ⟨_, by rw [HFX.out]; simp [upd, e4], rfl, HS.out, Below.refl _ _⟩
        · intro u W hS hd hp
          have HS := Lib.hid hS
          clear hS
          obtain ⟨d5, -⟩ := hd
          have e5 : u 5 = .bool false := d5 rfl
          rw [HFX.out]
          simp only [e5]
          clear hp d5
          go_wp2_with fail
          exact ⟨_, by rw [HFX.out]; simp [upd, e5]; rfl, rfl, HS.out, Below.refl _ _⟩
        · intro u W hS hd hp
          have HS := Lib.hid hS
          clear hS
          obtain ⟨d5, -⟩ := hd
          have e5 : u 5 = .bool false := d5 rfl
          rw [HFX.out]
          simp only [e5]
          clear hp d5
          go_wp2_with fail
          exact ⟨_, by rw [HFX.out]; simp [upd, e5]; rfl, rfl, HS.out, Below.refl _ _⟩
        · intro u W hS hd hp
          have HS := Lib.hid hS
          clear hS
          obtain ⟨d5, -⟩ := hd
          have e5 : u 5 = .bool false := d5 rfl
          rw [HFX.out]
          simp only [e5]
          clear hp d5
          go_wp2_with fail
          exact ⟨_, by rw [HFX.out]; simp [upd, e5]; rfl, rfl, HS.out, Below.refl _ _⟩
        · intro u W hS hd hp
          have HS := Lib.hid hS
          clear hS
          obtain ⟨d8, d5, -⟩ := hd
          have e8 : u 8 = .tuple #[] := d8 rfl
          have e5 : u 5 = .bool false := d5 rfl
          rw [HFX.out]
          simp only [e8, e5]
          clear hp d8 d5
          go_wp2_with fail
          exact ⟨_, by rw [HFX.out]; simp [upd, e8, e5]; rfl, rfl, HS.out, Below.refl _ _⟩
        · intro u W hS hd hp
          have HS := Lib.hid hS
          clear hS
          obtain ⟨d7, d9, _, d5, -⟩ := hd
          have e7 : u 7 = .tuple #[] := d7 rfl
          have e9 : u 9 = .tuple #[] := d9 rfl
          have e5 : u 5 = .bool false := d5 rfl
          rw [HFX.out]
          simp only [e7, e9, e5]
          clear hp d7 d9 d5
          go_wp2_with fail
          exact ⟨_, by rw [HFX.out]; simp [upd, e7, e9, e5]; rfl, rfl, HS.out, Below.refl _ _⟩
        · intro u W hS hd hp
          have HS := Lib.hid hS
          clear hS
          obtain ⟨d5, -⟩ := hd
          have e5 : u 5 = .bool false := d5 rfl
          rw [HFX.out]
          simp only [e5]
          clear hp d5
          go_wp2_with fail
          exact ⟨_, by rw [HFX.out]; simp [upd, e5]; rfl, rfl, HS.out, Below.refl _ _⟩
        · intro u W hS hd hp
          have HS := Lib.hid hS
          clear hS
          obtain ⟨d6, d10, d11, _, d5, -⟩ := hd
          have e6 : u 6 = .tuple #[] := d6 rfl
          have e10 : u 10 = .tuple #[] := d10 rfl
          have e11 : u 11 = .tuple #[] := d11 rfl
          have e5 : u 5 = .bool false := d5 rfl
          rw [HFX.out]
          simp only [e6, e10, e11, e5]
          clear hp d6 d10 d11 d5
          go_wp2_with fail
          exact ⟨_, by rw [HFX.out]; simp [upd, e6, e10, e11, e5]; rfl, rfl, HS.out, Below.refl _ _⟩
        · intro u W hS hd hp
          have HS := Lib.hid hS
          clear hS
          obtain ⟨d12, d5, -⟩ := hd
          have e12 : u 12 = .tuple #[] := d12 rfl
          have e5 : u 5 = .bool false := d5 rfl
          rw [HFX.out]
          simp only [e12, e5]
          clear hp d12 d5
          go_wp2_with fail
          exact ⟨_, by rw [HFX.out]; simp [upd, e12, e5]; rfl, rfl, HS.out, Below.refl _ _⟩
        · intro u W hS hd hp
          have HS := Lib.hid hS
          clear hS
          obtain ⟨d5, d13, -⟩ := hd
          have e5 : u 5 = .bool false := d5 rfl
          have e13 : u 13 = .tuple #[] := d13 rfl
          rw [HFX.out]
          simp only [e5, e13]
          clear hp d5 d13
          go_wp2_with fail
          exact ⟨_, by rw [HFX.out]; simp [upd, e5, e13], rfl, HS.out, Below.refl _ _⟩
        intro u W hS hf
        have eE : u 14 = .bool false := hf 14 (by decide)
        rw [HFX.out]
        simp only [eE]
        clear eE hf HFX F
        have HW2 := Lib.hid (HW5.out.trans (Below.mono hS HW5.out.size))
        clear hS
        go_wp2
        go_roundw
        case rel => exact ⟨k + 1, by omega, by go_num, HW2⟩
        case measure => simp [intOf]; omega
    · obtain rfl : N = k := by omega
      go_wp2_with fail
      go_loopw [20] (fun v wr => ∃ i : Nat, i ≤ xN ∧ v = .int .i64 (i : Int) ∧ Hid (Below W4.heap.size W4 wr)) (fun v _ => xN - (intOf v).toNat)
      case atStart => exact ⟨0, Nat.zero_le _, rfl, HW⟩
      case round =>
        clear HW t00 t01 t02
        obtain ⟨i, hi, rfl, HW⟩ := hrel
        obtain ⟨t00, t01, t02⟩ := (KB0.out.below HW.out KB0.out.lt).all
        obtain ⟨ta0, ta1, ta2⟩ := (KA.out.below HW.out KA.out.lt).all
        by_cases hlt : i < xN
        · obtain ⟨xr, hxr⟩ : ∃ r, xrs[i]? = some r := ⟨_, List.getElem?_eq_getElem (by rw [HXN.out]; exact hlt)⟩
          obtain ⟨xn, xv⟩ := xr
          obtain ⟨wo, rfl⟩ : ∃ q, q = wr := ⟨wr, rfl⟩
          go_wp2_with fail
          go_loopw [21, 22] (fun f v wr => ∃ k : Nat, k ≤ N ∧ f = .bool ((rs.take k).any fun r => decide (namedL grs r.1 = xn) && decide (r.2 = xv)) ∧ v = .int .i64 (k : Int) ∧ Hid (Below W4.heap.size W4 wr)) (fun _ v _ => N - (intOf v).toNat)
          case atStart => exact ⟨0, Nat.zero_le _, rfl, rfl, HW⟩
          case round =>
            clear HW t00 t01 t02 ta0 ta1 ta2
            obtain ⟨k, hk, rfl, rfl, HW⟩ := hrel
            obtain ⟨t00, t01, t02⟩ := (KB0.out.below HW.out KB0.out.lt).all
            by_cases hlk : k < N
            · obtain ⟨r, hr⟩ : ∃ r, rs[k]? = some r := ⟨_, List.getElem?_eq_getElem (by rw [HN.out]; exact hlk)⟩
              obtain ⟨rn, rv⟩ := r
              obtain ⟨g5, o5, hA5, hg5, p0, p1⟩ := (HM.out.below (HB.out.trans (HW.out.mono HB.out.size))).rs k _ hr
              have hA5 : a3 = some ⟨g5, o5, none⟩ := hA5
              subst hA5
              obtain ⟨g6, o6, hA6, hg6, p2, p3⟩ := (HAT.out.below (HW.out.mono HBZ.out)).rs i _ hxr
              have hA6 : x3 = some ⟨g6, o6, none⟩ := hA6
              subst hA6
              have P0 : Hid (wr.cell? ⟨g5, o5 + k * 2, none⟩ = some (.string rn)) := Lib.hid p0
              have P1 : Hid (wr.cell? ⟨g5, o5 + k * 2 + 1, none⟩ = some (.int .i64 rv)) := Lib.hid p1
              have P2 : Hid (wr.cell? ⟨g6, o6 + i * 2, none⟩ = some (.string xn)) := Lib.hid p2
              have P3 : Hid (wr.cell? ⟨g6, o6 + i * 2 + 1, none⟩ = some (.int .i64 xv)) := Lib.hid p3
              have PG5L : Hid (g5 < wr.heap.size) := Lib.hid (Nat.lt_of_lt_of_le hg5 (HB.out.trans (HW.out.mono HB.out.size)).size)
              have PG6L : Hid (g6 < wr.heap.size) := Lib.hid (Nat.lt_of_lt_of_le hg6 (Nat.le_trans HBZ.out HW.out.size))
              obtain ⟨nn, hnn⟩ : ∃ nn, namedL grs rn = nn := ⟨_, rfl⟩
              have cn := fun V (hV : PSv wr V) => CCN.out V (HW.out.trans (Below.mono hV HW.out.size)) rn
              rw [hnn] at cn
              have CN := Lib.hid cn
              have hnx : (rs.take (k + 1)).any (fun r => decide (namedL grs r.1 = xn) && decide (r.2 = xv)) = ((rs.take k).any (fun r => decide (namedL grs r.1 = xn) && decide (r.2 = xv)) || (decide (nn = xn) && decide (rv = xv))) := by
                rw [take_snoc' hr, List.any_append]
                simp only [List.any_cons, List.any_nil, Bool.or_false, hnn]
              obtain ⟨f, hf0⟩ : ∃ f, (rs.take k).any (fun r => decide (namedL grs r.1 = xn) && decide (r.2 = xv)) = f := ⟨_, rfl⟩
              rw [hf0] at hnx ⊢
              clear hf0 hnn cn hr p0 p1 p2 p3
              go_upto_region 20 with fail
              clear t00 t01 t02
              replace KB0 := Lib.hid (KB0.out.below HW.out KB0.out.lt)
              replace KB1 := Lib.hid (KB1.out.below HW.out KB1.out.lt)
              replace KA := Lib.hid (KA.out.below HW.out KA.out.lt)
              cases f with
              | true =>
                have HNX : Hid (_ = true) := Lib.hid (hnx.trans (Bool.true_or _))
                clear hnx
                refine wp_region_rg2 (PSv wr) RB ([isV (.bool true), isV (.bool true), isV (.tuple #[]), isV (.tuple #[]), isV (.tuple #[]), isV (.tuple #[]), isV (.tuple #[]), isV (.tuple #[]), isV (.tuple #[]), isV (.tuple #[]), isV (.tuple #[]), isV (.tuple #[]), isV (.tuple #[]), isV (.tuple #[]), isV (.tuple #[]), isV (.tuple #[]), isV (.tuple #[]), isV (.tuple #[]), isV (.tuple #[]), isV (.tuple #[]), isV (.tuple #[]), isV (.tuple #[]), isV (.tuple #[]), isV (.tuple #[]), isV (.tuple #[]), isV (.tuple #[]), isV (.tuple #[]), isV (.tuple #[]), isV (.tuple #[]), isV (.tuple #[]), isV (.tuple #[]), isV (.tuple #[]), isV (.bool true), isV (.bool true)]) [0, 1, 2, 3, 4, 5, 6, 7, 8, 9, 10, 11, 12, 13, 14, 15, 16, 17, 18, 19, 20, 21, 22, 23, 24, 25, 26, 27, 28, 29, 30, 31, 32, 33] (by kernel_rfl) (by kernel_rfl) (by kernel_rfl) (below_drewM wr) ⟨isV_mono _, isV_mono _, isV_mono _, isV_mono _, isV_mono _, isV_mono _, isV_mono _, isV_mono _, isV_mono _, isV_mono _, isV_mono _, isV_mono _, isV_mono _, isV_mono _, isV_mono _, isV_mono _, isV_mono _, isV_mono _, isV_mono _, isV_mono _, isV_mono _, isV_mono _, isV_mono _, isV_mono _, isV_mono _, isV_mono _, isV_mono _, isV_mono _, isV_mono _, isV_mono _, isV_mono _, isV_mono _, isV_mono _, isV_mono _, trivial⟩ ?_
                intro F hF
                simp only [putAll, List.map_cons, List.map_nil, Act.put, List.setIfInBounds_toArray, List.set_cons_succ, List.set_cons_zero] at hF
                have HFX := Lib.hid hF
                clear hF
                refine ⟨fun Q' => ⟨?_, ?_, ?_, ?_, ?_, ?_, ?_, ?_, ?_, ?_, ?_, ?_, ?_, ?_, ?_, ?_, ?_, ?_, ?_, ?_, ?_, ?_, ?_, ?_, ?_, ?_, ?_, ?_, ?_, ?_, ?_, ?_, ?_, ?_, trivial⟩, ?_⟩
                · intro u W hS hd hp
                  have HS := Lib.hid hS
                  clear hS
                  have e33 : u 33 = .bool true := hp 33 (.inr (by kernel_rfl))
                  rw [HFX.out]
                  simp only [e33]
                  clear hd hp 
                  go_wp2_with fail
                  exact ⟨_, by rw [HFX.out]; simp [upd, e33], rfl, HS.out, Below.refl _ _⟩
                · intro u W hS hd hp
                  have HS := Lib.hid hS
                  clear hS
                  obtain ⟨d0, -⟩ := hd
                  have e0 : u 0 = .bool true := d0 rfl
                  rw [HFX.out]
                  simp only [e0]
                  clear hp d0
                  go_wp2_with fail
                  exact ⟨_, by rw [HFX.out]; simp [upd, e0], rfl, HS.out, Below.refl _ _⟩
                · intro u W hS hd hp
                  have HS := Lib.hid hS
                  clear hS
                  obtain ⟨d1, -⟩ := hd
                  have e1 : u 1 = .bool true := d1 rfl
                  rw [HFX.out]
                  simp only [e1]
                  clear hp d1
                  go_wp2_with fail
                  exact ⟨_, by rw [HFX.out]; simp [upd, e1]; rfl, rfl, HS.out, Below.refl _ _⟩
                · intro u W hS hd hp
                  have HS := Lib.hid hS
                  clear hS
                  obtain ⟨d1, -⟩ := hd
                  have e1 : u 1 = .bool true := d1 rfl
                  rw [HFX.out]
                  simp only [e1]
                  clear hp d1
                  go_wp2_with fail
                  exact ⟨_, by rw [HFX.out]; simp [upd, e1]; rfl, rfl, HS.out, Below.refl _ _⟩
                · intro u W hS hd hp
                  have HS := Lib.hid hS
                  clear hS
                  obtain ⟨d3, d1, -⟩ := hd
                  have e3 : u 3 = .tuple #[] := d3 rfl
                  have e1 : u 1 = .bool true := d1 rfl
                  rw [HFX.out]
                  simp only [e3, e1]
                  clear hp d3 d1
                  go_wp2_with fail
                  exact ⟨_, by rw [HFX.out]; simp [upd, e3, e1]; rfl, rfl, HS.out, Below.refl _ _⟩
                · intro u W hS hd hp
                  have HS := Lib.hid hS
                  clear hS
                  obtain ⟨d1, -⟩ := hd
                  have e1 : u 1 = .bool true := d1 rfl
                  rw [HFX.out]
                  simp only [e1]
                  clear hp d1
                  go_wp2_with fail
                  exact ⟨_, by rw [HFX.out]; simp [upd, e1]; rfl, rfl, HS.out, Below.refl _ _⟩
                · intro u W hS hd hp
                  have HS := Lib.hid hS
                  clear hS
                  obtain ⟨d4, d5, d1, -⟩ := hd
                  have e4 : u 4 = .tuple #[] := d4 rfl
                  have e5 : u 5 = .tuple #[] := d5 rfl
                  have e1 : u 1 = .bool true := d1 rfl
                  rw [HFX.out]
                  simp only [e4, e5, e1]
                  clear hp d4 d5 d1
                  go_wp2_with fail
                  exact ⟨_, by rw [HFX.out]; simp [upd, e4, e5, e1]; rfl, rfl, HS.out, Below.refl _ _⟩
                · intro u W hS hd hp
                  have HS := Lib.hid hS
                  clear hS
                  obtain ⟨d6, d1, -⟩ := hd
                  have e6 : u 6 = .tuple #[] := d6 rfl
                  have e1 : u 1 = .bool true := d1 rfl
                  rw [HFX.out]
                  simp only [e6, e1]
                  clear hp d6 d1
                  go_wp2_with fail
                  exact ⟨_, by rw [HFX.out]; simp [upd, e6, e1]; rfl, rfl, HS.out, Below.refl _ _⟩
                · intro u W hS hd hp
                  have HS := Lib.hid hS
                  clear hS
                  obtain ⟨d7, d1, -⟩ := hd
                  have e7 : u 7 = .tuple #[] := d7 rfl
                  have e1 : u 1 = .bool true := d1 rfl
                  rw [HFX.out]
                  simp only [e7, e1]
                  clear hp d7 d1
                  go_wp2_with fail
                  exact ⟨_, by rw [HFX.out]; simp [upd, e7, e1]; rfl, rfl, HS.out, Below.refl _ _⟩
                · intro u W hS hd hp
                  have HS := Lib.hid hS
                  clear hS
                  obtain ⟨d2, d8, _, d1, -⟩ := hd
                  have e2 : u 2 = .tuple #[] := d2 rfl
                  have e8 : u 8 = .tuple #[] := d8 rfl
                  have e1 : u 1 = .bool true := d1 rfl
                  rw [HFX.out]
                  simp only [e2, e8, e1]
                  clear hp d2 d8 d1
                  go_wp2_with fail
                  exact ⟨_, by rw [HFX.out]; simp [upd, e2, e8, e1]; rfl, rfl, HS.out, Below.refl _ _⟩
                · intro u W hS hd hp
                  have HS := Lib.hid hS
                  clear hS
                  obtain ⟨d1, -⟩ := hd
                  have e1 : u 1 = .bool true := d1 rfl
                  rw [HFX.out]
                  simp only [e1]
                  clear hp d1
                  go_wp2_with fail
                  exact ⟨_, by rw [HFX.out]; simp [upd, e1]; rfl, rfl, HS.out, Below.refl _ _⟩
                · intro u W hS hd hp
                  have HS := Lib.hid hS
                  clear hS
                  obtain ⟨d10, d1, -⟩ := hd
                  have e10 : u 10 = .tuple #[] := d10 rfl
                  have e1 : u 1 = .bool true := d1 rfl
                  rw [HFX.out]
                  simp only [e10, e1]
                  clear hp d10 d1
                  go_wp2_with fail
                  exact ⟨_, by rw [HFX.out]; simp [upd, e10, e1]; rfl, rfl, HS.out, Below.refl _ _⟩
                · intro u W hS hd hp
                  have HS := Lib.hid hS
                  clear hS
                  obtain ⟨d1, -⟩ := hd
                  have e1 : u 1 = .bool true := d1 rfl
                  rw [HFX.out]
                  simp only [e1]
                  clear hp d1
                  go_wp2_with fail
                  exact ⟨_, by rw [HFX.out]; simp [upd, e1]; rfl, rfl, HS.out, Below.refl _ _⟩
                · intro u W hS hd hp
                  have HS := Lib.hid hS
                  clear hS
                  obtain ⟨d11, d12, d1, -⟩ := hd
                  have e11 : u 11 = .tuple #[] := d11 rfl
                  have e12 : u 12 = .tuple #[] := d12 rfl
                  have e1 : u 1 = .bool true := d1 rfl
                  rw [HFX.out]
                  simp only [e11, e12, e1]
                  clear hp d11 d12 d1
                  go_wp2_with fail
                  exact ⟨_, by rw [HFX.out]; simp [upd, e11, e12, e1]; rfl, rfl, HS.out, Below.refl _ _⟩
                · intro u W hS hd hp
                  have HS := Lib.hid hS
                  clear hS
                  obtain ⟨d13, d1, -⟩ := hd
                  have e13 : u 13 = .tuple #[] := d13 rfl
                  have e1 : u 1 = .bool true := d1 rfl
                  rw [HFX.out]
                  simp only [e13, e1]
                  clear hp d13 d1
                  go_wp2_with fail
                  exact ⟨_, by rw [HFX.out]; simp [upd, e13, e1]; rfl, rfl, HS.out, Below.refl _ _⟩
                · intro u W hS hd hp
                  have HS := Lib.hid hS
                  clear hS
                  obtain ⟨d14, d1, -⟩ := hd
                  have e14 : u 14 = .tuple #[] := d14 rfl
                  have e1 : u 1 = .bool true := d1 rfl
                  rw [HFX.out]
                  simp only [e14, e1]
                  clear hp d14 d1
                  go_wp2_with fail
                  exact ⟨_, by rw [HFX.out]; simp [upd, e14, e1]; rfl, rfl, HS.out, Below.refl _ _⟩
                · intro u W hS hd hp
                  have HS := Lib.hid hS
                  clear hS
                  obtain ⟨d9, d15, d1, -⟩ := hd
                  have e9 : u 9 = .tuple #[] := d9 rfl
                  have e15 : u 15 = .tuple #[] := d15 rfl
                  have e1 : u 1 = .bool true := d1 rfl
                  rw [HFX.out]
                  simp only [e9, e15, e1]
                  clear hp d9 d15 d1
                  go_wp2_with fail
                  exact ⟨_, by rw [HFX.out]; simp [upd, e9, e15, e1]; rfl, rfl, HS.out, Below.refl _ _⟩
                · intro u W hS hd hp
                  have HS := Lib.hid hS
                  clear hS
                  obtain ⟨d16, _, d1, -⟩ := hd
                  have e16 : u 16 = .tuple #[] := d16 rfl
                  have e1 : u 1 = .bool true := d1 rfl
                  rw [HFX.out]
                  simp only [e16, e1]
                  clear hp d16 d1
                  go_wp2_with fail
                  exact ⟨_, by rw [HFX.out]; simp [upd, e16, e1]; rfl, rfl, HS.out, Below.refl _ _⟩
                · intro u W hS hd hp
                  have HS := Lib.hid hS
                  clear hS
                  obtain ⟨d17, -⟩ := hd
                  have e17 : u 17 = .tuple #[] := d17 rfl
                  rw [HFX.out]
                  simp only [e17]
                  clear hp d17
                  go_wp2_with fail
                  exact ⟨_, by rw [HFX.out]; simp [upd, e17]; rfl, rfl, HS.out, Below.refl _ _⟩
                · intro u W hS hd hp
                  have HS := Lib.hid hS
                  clear hS
                  obtain ⟨d18, d17, -⟩ := hd
                  have e18 : u 18 = .tuple #[] := d18 rfl
                  have e17 : u 17 = .tuple #[] := d17 rfl
                  rw [HFX.out]
                  simp only [e18, e17]
                  clear hp d18 d17
                  go_wp2_with fail
                  exact ⟨_, by rw [HFX.out]; simp [upd, e18, e17]; rfl, rfl, HS.out, Below.refl _ _⟩
                · intro u W hS hd hp
                  have HS := Lib.hid hS
                  clear hS
                  obtain ⟨d17, -⟩ := hd
                  have e17 : u 17 = .tuple #[] := d17 rfl
                  rw [HFX.out]
                  simp only [e17]
                  clear hp d17
                  go_wp2_with fail
                  exact ⟨_, by rw [HFX.out]; simp [upd, e17]; rfl, rfl, HS.out, Below.refl _ _⟩
                · intro u W hS hd hp
                  have HS := Lib.hid hS
                  clear hS
                  obtain ⟨d19, d20, d17, -⟩ := hd
                  have e19 : u 19 = .tuple #[] := d19 rfl
                  have e20 : u 20 = .tuple #[] := d20 rfl
                  have e17 : u 17 = .tuple #[] := d17 rfl
                  rw [HFX.out]
                  simp only [e19, e20, e17]
                  clear hp d19 d20 d17
                  go_wp2_with fail
                  exact ⟨_, by rw [HFX.out]; simp [upd, e19, e20, e17]; rfl, rfl, HS.out, Below.refl _ _⟩
                · intro u W hS hd hp
                  have HS := Lib.hid hS
                  clear hS
                  obtain ⟨d21, d17, -⟩ := hd
                  have e21 : u 21 = .tuple #[] := d21 rfl
                  have e17 : u 17 = .tuple #[] := d17 rfl
                  rw [HFX.out]
                  simp only [e21, e17]
                  clear hp d21 d17
                  go_wp2_with fail
                  exact ⟨_, by rw [HFX.out]; simp [upd, e21, e17]; rfl, rfl, HS.out, Below.refl _ _⟩
                · intro u W hS hd hp
                  have HS := Lib.hid hS
                  clear hS
                  obtain ⟨d22, d17, -⟩ := hd
                  have e22 : u 22 = .tuple #[] := d22 rfl
                  have e17 : u 17 = .tuple #[] := d17 rfl
                  rw [HFX.out]
                  simp only [e22, e17]
                  clear hp d22 d17
                  go_wp2_with fail
                  exact ⟨_, by rw [HFX.out]; simp [upd, e22, e17]; rfl, rfl, HS.out, Below.refl _ _⟩
                · intro u W hS hd hp
                  have HS := Lib.hid hS
                  clear hS
                  obtain ⟨d17, -⟩ := hd
                  have e17 : u 17 = .tuple #[] := d17 rfl
                  rw [HFX.out]
                  simp only [e17]
                  clear hp d17
                  go_wp2_with fail
                  exact ⟨_, by rw [HFX.out]; simp [upd, e17]; rfl, rfl, HS.out, Below.refl _ _⟩
                · intro u W hS hd hp
                  have HS := Lib.hid hS
                  clear hS
                  obtain ⟨d24, d17, -⟩ := hd
                  have e24 : u 24 = .tuple #[] := d24 rfl
                  have e17 : u 17 = .tuple #[] := d17 rfl
                  rw [HFX.out]
                  simp only [e24, e17]
                  clear hp d24 d17
                  go_wp2_with fail
                  exact ⟨_, by rw [HFX.out]; simp [upd, e24, e17]; rfl, rfl, HS.out, Below.refl _ _⟩
                · intro u W hS hd hp
                  have HS := Lib.hid hS
                  clear hS
                  obtain ⟨d17, -⟩ := hd
                  have e17 : u 17 = .tuple #[] := d17 rfl
                  rw [HFX.out]
                  simp only [e17]
                  clear hp d17
                  go_wp2_with fail
                  exact ⟨_, by rw [HFX.out]; simp [upd, e17]; rfl, rfl, HS.out, Below.refl _ _⟩
                · intro u W hS hd hp
                  have HS := Lib.hid hS
                  clear hS
                  obtain ⟨d25, d26, d17, -⟩ := hd
                  have e25 : u 25 = .tuple #[] := d25 rfl
                  have e26 : u 26 = .tuple #[] := d26 rfl
                  have e17 : u 17 = .tuple #[] := d17 rfl
                  rw [HFX.out]
                  simp only [e25, e26, e17]
                  clear hp d25 d26 d17
                  go_wp2_with fail
                  exact ⟨_, by rw [HFX.out]; simp [upd, e25, e26, e17]; rfl, rfl, HS.out, Below.refl _ _⟩
                · intro u W hS hd hp
                  have HS := Lib.hid hS
                  clear hS
                  obtain ⟨d27, d17, -⟩ := hd
                  have e27 : u 27 = .tuple #[] := d27 rfl
                  have e17 : u 17 = .tuple #[] := d17 rfl
                  rw [HFX.out]
                  simp only [e27, e17]
                  clear hp d27 d17
                  go_wp2_with fail
                  exact ⟨_, by rw [HFX.out]; simp [upd, e27, e17]; rfl, rfl, HS.out, Below.refl _ _⟩
                · intro u W hS hd hp
                  have HS := Lib.hid hS
                  clear hS
                  obtain ⟨d28, d17, -⟩ := hd
                  have e28 : u 28 = .tuple #[] := d28 rfl
                  have e17 : u 17 = .tuple #[] := d17 rfl
                  rw [HFX.out]
                  simp only [e28, e17]
                  clear hp d28 d17
                  go_wp2_with fail
                  exact ⟨_, by rw [HFX.out]; simp [upd, e28, e17]; rfl, rfl, HS.out, Below.refl _ _⟩
                · intro u W hS hd hp
                  have HS := Lib.hid hS
                  clear hS
                  obtain ⟨d23, d29, d17, -⟩ := hd
                  have e23 : u 23 = .tuple #[] := d23 rfl
                  have e29 : u 29 = .tuple #[] := d29 rfl
                  have e17 : u 17 = .tuple #[] := d17 rfl
                  rw [HFX.out]
                  simp only [e23, e29, e17]
                  clear hp d23 d29 d17
                  go_wp2_with fail
                  exact ⟨_, by rw [HFX.out]; simp [upd, e23, e29, e17]; rfl, rfl, HS.out, Below.refl _ _⟩
                · intro u W hS hd hp
                  have HS := Lib.hid hS
                  clear hS
                  obtain ⟨d17, d30, d1, -⟩ := hd
                  have e17 : u 17 = .tuple #[] := d17 rfl
                  have e30 : u 30 = .tuple #[] := d30 rfl
                  have e1 : u 1 = .bool true := d1 rfl
                  rw [HFX.out]
                  simp only [e17, e30, e1]
                  clear hp d17 d30 d1
                  go_wp2_with fail
                  exact ⟨_, by rw [HFX.out]; simp [upd, e17, e30, e1]; rfl, rfl, HS.out, Below.refl _ _⟩
                · intro u W hS hd hp
                  have HS := Lib.hid hS
                  clear hS
                  obtain ⟨d1, d31, -⟩ := hd
                  have e1 : u 1 = .bool true := d1 rfl
                  have e31 : u 31 = .tuple #[] := d31 rfl
                  rw [HFX.out]
                  simp only [e1, e31]
                  clear hp d1 d31
                  go_wp2_with fail
                  exact ⟨_, by rw [HFX.out]; simp [upd, e1, e31], rfl, HS.out, Below.refl _ _⟩
                · intro u W hS hd hp
                  have HS := Lib.hid hS
                  clear hS
                  obtain ⟨d32, -⟩ := hd
                  have e32 : u 32 = .bool true := d32 rfl
                  rw [HFX.out]
                  simp only [e32]
                  clear hp d32
                  go_wp2_with fail
                  exact ⟨_, by rw [HFX.out]; simp [upd, e32], rfl, HS.out, Below.refl _ _⟩
                intro u W hS hf
                have eE : u 33 = .bool true := hf 33 (by decide)
                rw [HFX.out]
                simp only [eE]
                clear eE hf HFX F
                have HW2 := Lib.hid (HW.out.trans (Below.mono hS HW.out.size))
                clear hS
                go_wp2
                go_roundw
                case rel => exact ⟨k + 1, by omega, by rw [HNX.out], by go_num, HW2⟩
                case measure => simp [intOf]; omega
              | false =>
              by_cases h1 : nn = xn
              case neg =>
                have HNX : Hid (_ = false) := Lib.hid (hnx.trans (by rw [decide_eq_false h1]; rfl))
                have ENM : Hid ((nn.toList == xn.toList) = false) := Lib.hid (str_no h1)
                clear hnx h1
                refine wp_region_rg2 (PSv wr) RB ([isV (.bool false), isV (.bool false), isV (.agg #[.string fr, .string tn, .slice b1 gn dq1, .slice b2 grl dq2, .slice b3 J dq3]), isV (.pointer (some ⟨w.heap.size, 6, none⟩)), isV (.slice (some ⟨g5, o5, none⟩) N c3), isV (.int .i64 (k : Int)), isV (.pointer (some ⟨g5, o5 + k * 2, none⟩)), isV (.pointer (some ⟨g5, o5 + k * 2, none⟩)), isV (.string rn), isV (.string nn), isV (.pointer (some ⟨ba, 6, none⟩)), isV (.slice (some ⟨g6, o6, none⟩) xN y3), isV (.int .i64 (i : Int)), isV (.pointer (some ⟨g6, o6 + i * 2, none⟩)), isV (.pointer (some ⟨g6, o6 + i * 2, none⟩)), isV (.string xn), isV (.bool false), isV (.bool false), isV (.tuple #[]), isV (.tuple #[]), isV (.tuple #[]), isV (.tuple #[]), isV (.tuple #[]), isV (.tuple #[]), isV (.tuple #[]), isV (.tuple #[]), isV (.tuple #[]), isV (.tuple #[]), isV (.tuple #[]), isV (.tuple #[]), isV (.tuple #[]), isV (.bool false), isV (.bool false), isV (.bool false)]) [0, 1, 2, 3, 4, 5, 6, 7, 8, 9, 10, 11, 12, 13, 14, 15, 16, 17, 18, 19, 20, 21, 22, 23, 24, 25, 26, 27, 28, 29, 30, 31, 32, 33] (by kernel_rfl) (by kernel_rfl) (by kernel_rfl) (below_drewM wr) ⟨isV_mono _, isV_mono _, isV_mono _, isV_mono _, isV_mono _, isV_mono _, isV_mono _, isV_mono _, isV_mono _, isV_mono _, isV_mono _, isV_mono _, isV_mono _, isV_mono _, isV_mono _, isV_mono _, isV_mono _, isV_mono _, isV_mono _, isV_mono _, isV_mono _, isV_mono _, isV_mono _, isV_mono _, isV_mono _, isV_mono _, isV_mono _, isV_mono _, isV_mono _, isV_mono _, isV_mono _, isV_mono _, isV_mono _, isV_mono _, trivial⟩ ?_
                intro F hF
                simp only [putAll, List.map_cons, List.map_nil, Act.put, List.setIfInBounds_toArray, List.set_cons_succ, List.set_cons_zero] at hF
                have HFX := Lib.hid hF
                clear hF
                refine ⟨fun Q' => ⟨?_, ?_, ?_, ?_, ?_, ?_, ?_, ?_, ?_, ?_, ?_, ?_, ?_, ?_, ?_, ?_, ?_, ?_, ?_, ?_, ?_, ?_, ?_, ?_, ?_, ?_, ?_, ?_, ?_, ?_, ?_, ?_, ?_, ?_, trivial⟩, ?_⟩
                · intro u W hS hd hp
                  have HS := Lib.hid hS
                  clear hS
                  have e33 : u 33 = .bool false := hp 33 (.inr (by kernel_rfl))
                  rw [HFX.out]
                  simp only [e33]
                  clear hd hp 
                  go_wp2_with fail
                  exact ⟨_, by rw [HFX.out]; simp [upd, e33], rfl, HS.out, Below.refl _ _⟩
                · intro u W hS hd hp
                  have HS := Lib.hid hS
                  clear hS
                  obtain ⟨d0, -⟩ := hd
                  have e0 : u 0 = .bool false := d0 rfl
                  rw [HFX.out]
                  simp only [e0]
                  clear hp d0
                  go_wp2_with fail
                  exact ⟨_, by rw [HFX.out]; simp [upd, e0], rfl, HS.out, Below.refl _ _⟩
                · intro u W hS hd hp
                  have HS := Lib.hid hS
                  clear hS
                  obtain ⟨d1, -⟩ := hd
                  have e1 : u 1 = .bool false := d1 rfl
                  rw [HFX.out]
                  simp only [e1]
                  clear hp d1
                  obtain ⟨r0, r1, r2⟩ := (KB1.out.below HS.out KB1.out.lt).all
                  go_wp2_with fail
                  exact ⟨_, by rw [HFX.out]; simp [upd, e1], rfl, HS.out, Below.refl _ _⟩
                · intro u W hS hd hp
                  have HS := Lib.hid hS
                  clear hS
                  obtain ⟨d1, -⟩ := hd
                  have e1 : u 1 = .bool false := d1 rfl
                  rw [HFX.out]
                  simp only [e1]
                  clear hp d1
                  go_wp2_with fail
                  exact ⟨_, by rw [HFX.out]; simp [upd, e1], rfl, HS.out, Below.refl _ _⟩
                · intro u W hS hd hp
                  have HS := Lib.hid hS
                  clear hS
                  obtain ⟨d3, d1, -⟩ := hd
                  have e3 : u 3 = .pointer (some ⟨w.heap.size, 6, none⟩) := d3 rfl
                  have e1 : u 1 = .bool false := d1 rfl
                  rw [HFX.out]
                  simp only [e3, e1]
                  clear hp d3 d1
                  obtain ⟨r0, r1, r2⟩ := (KB0.out.below HS.out KB0.out.lt).all
                  go_wp2_with fail
                  exact ⟨_, by rw [HFX.out]; simp [upd, e3, e1], rfl, HS.out, Below.refl _ _⟩
                · intro u W hS hd hp
                  have HS := Lib.hid hS
                  clear hS
                  obtain ⟨d1, -⟩ := hd
                  have e1 : u 1 = .bool false := d1 rfl
                  rw [HFX.out]
                  simp only [e1]
                  clear hp d1
                  go_wp2_with fail
                  exact ⟨_, by rw [HFX.out]; simp [upd, e1], rfl, HS.out, Below.refl _ _⟩
                · intro u W hS hd hp
                  have HS := Lib.hid hS
                  clear hS
                  obtain ⟨d4, d5, d1, -⟩ := hd
                  have e4 : u 4 = .slice (some ⟨g5, o5, none⟩) N c3 := d4 rfl
                  have e5 : u 5 = .int .i64 (k : Int) := d5 rfl
                  have e1 : u 1 = .bool false := d1 rfl
                  rw [HFX.out]
                  simp only [e4, e5, e1]
                  clear hp d4 d5 d1
                  have ib0 : (0 : Int) ≤ (k : Int) := by omega
                  have ib1 : (k : Int) < (N : Int) := by omega
                  go_wp2_with fail
                  exact ⟨_, by rw [HFX.out]; simp [upd, e4, e5, e1], rfl, HS.out, Below.refl _ _⟩
                · intro u W hS hd hp
                  have HS := Lib.hid hS
                  clear hS
                  obtain ⟨d6, d1, -⟩ := hd
                  have e6 : u 6 = .pointer (some ⟨g5, o5 + k * 2, none⟩) := d6 rfl
                  have e1 : u 1 = .bool false := d1 rfl
                  rw [HFX.out]
                  simp only [e6, e1]
                  clear hp d6 d1
                  go_wp2_with fail
                  exact ⟨_, by rw [HFX.out]; simp [upd, e6, e1], rfl, HS.out, Below.refl _ _⟩
                · intro u W hS hd hp
                  have HS := Lib.hid hS
                  clear hS
                  obtain ⟨d7, d1, -⟩ := hd
                  have e7 : u 7 = .pointer (some ⟨g5, o5 + k * 2, none⟩) := d7 rfl
                  have e1 : u 1 = .bool false := d1 rfl
                  rw [HFX.out]
                  simp only [e7, e1]
                  clear hp d7 d1
                  have r0 := (HS.out.cell (p := ⟨g5, o5 + k * 2, none⟩) (by have := PG5L.out; omega)).trans P0.out
                  go_wp2_with fail
                  exact ⟨_, by rw [HFX.out]; simp [upd, e7, e1], rfl, HS.out, Below.refl _ _⟩
                · intro u W hS hd hp
                  have HS := Lib.hid hS
                  clear hS
                  obtain ⟨d2, d8, _, d1, -⟩ := hd
                  have e2 : u 2 = .agg #[.string fr, .string tn, .slice b1 gn dq1, .slice b2 grl dq2, .slice b3 J dq3] := d2 rfl
                  have e8 : u 8 = .string rn := d8 rfl
                  have e1 : u 1 = .bool false := d1 rfl
                  rw [HFX.out]
                  simp only [e2, e8, e1]
                  clear hp d2 d8 d1
                  have HC := Lib.hid (CN.out W HS.out)
                  go_wp2_with fail
                  refine HC.out.mono ?_
                  rintro e W2 ⟨rfl, b2⟩
                  go_wp2_with fail
                  exact ⟨_, by rw [HFX.out]; simp [upd, e2, e8, e1], rfl, PSv.go HS.out b2, b2⟩
                · intro u W hS hd hp
                  have HS := Lib.hid hS
                  clear hS
                  obtain ⟨d1, -⟩ := hd
                  have e1 : u 1 = .bool false := d1 rfl
                  rw [HFX.out]
                  simp only [e1]
                  clear hp d1
                  go_wp2_with fail
                  exact ⟨_, by rw [HFX.out]; simp [upd, e1], rfl, HS.out, Below.refl _ _⟩
                · intro u W hS hd hp
                  have HS := Lib.hid hS
                  clear hS
                  obtain ⟨d10, d1, -⟩ := hd
                  have e10 : u 10 = .pointer (some ⟨ba, 6, none⟩) := d10 rfl
                  have e1 : u 1 = .bool false := d1 rfl
                  rw [HFX.out]
                  simp only [e10, e1]
                  clear hp d10 d1
                  obtain ⟨r0, r1, r2⟩ := (KA.out.below HS.out KA.out.lt).all
                  go_wp2_with fail
                  exact ⟨_, by rw [HFX.out]; simp [upd, e10, e1], rfl, HS.out, Below.refl _ _⟩
                · intro u W hS hd hp
                  have HS := Lib.hid hS
                  clear hS
                  obtain ⟨d1, -⟩ := hd
                  have e1 : u 1 = .bool false := d1 rfl
                  rw [HFX.out]
                  simp only [e1]
                  clear hp d1
                  go_wp2_with fail
                  exact ⟨_, by rw [HFX.out]; simp [upd, e1], rfl, HS.out, Below.refl _ _⟩
                · intro u W hS hd hp
                  have HS := Lib.hid hS
                  clear hS
                  obtain ⟨d11, d12, d1, -⟩ := hd
                  have e11 : u 11 = .slice (some ⟨g6, o6, none⟩) xN y3 := d11 rfl
                  have e12 : u 12 = .int .i64 (i : Int) := d12 rfl
                  have e1 : u 1 = .bool false := d1 rfl
                  rw [HFX.out]
                  simp only [e11, e12, e1]
                  clear hp d11 d12 d1
                  have ib0 : (0 : Int) ≤ (i : Int) := by omega
                  have ib1 : (i : Int) < (xN : Int) := by omega
                  go_wp2_with fail
                  exact ⟨_, by rw [HFX.out]; simp [upd, e11, e12, e1], rfl, HS.out, Below.refl _ _⟩
                · intro u W hS hd hp
                  have HS := Lib.hid hS
                  clear hS
                  obtain ⟨d13, d1, -⟩ := hd
                  have e13 : u 13 = .pointer (some ⟨g6, o6 + i * 2, none⟩) := d13 rfl
                  have e1 : u 1 = .bool false := d1 rfl
                  rw [HFX.out]
                  simp only [e13, e1]
                  clear hp d13 d1
                  go_wp2_with fail
                  exact ⟨_, by rw [HFX.out]; simp [upd, e13, e1], rfl, HS.out, Below.refl _ _⟩
                · intro u W hS hd hp
                  have HS := Lib.hid hS
                  clear hS
                  obtain ⟨d14, d1, -⟩ := hd
                  have e14 : u 14 = .pointer (some ⟨g6, o6 + i * 2, none⟩) := d14 rfl
                  have e1 : u 1 = .bool false := d1 rfl
                  rw [HFX.out]
                  simp only [e14, e1]
                  clear hp d14 d1
                  have r0 := (HS.out.cell (p := ⟨g6, o6 + i * 2, none⟩) (by have := PG6L.out; omega)).trans P2.out
                  go_wp2_with fail
                  exact ⟨_, by rw [HFX.out]; simp [upd, e14, e1], rfl, HS.out, Below.refl _ _⟩
                · intro u W hS hd hp
                  have HS := Lib.hid hS
                  clear hS
                  obtain ⟨d9, d15, d1, -⟩ := hd
                  have e9 : u 9 = .string nn := d9 rfl
                  have e15 : u 15 = .string xn := d15 rfl
                  have e1 : u 1 = .bool false := d1 rfl
                  rw [HFX.out]
                  simp only [e9, e15, e1]
                  clear hp d9 d15 d1
                  have es5 : (nn.toList == xn.toList) = false := ENM.out
                  go_wp2_with fail
                  exact ⟨_, by rw [HFX.out]; simp [upd, e9, e15, e1], rfl, HS.out, Below.refl _ _⟩
                · intro u W hS hd hp
                  have HS := Lib.hid hS
                  clear hS
                  obtain ⟨d16, _, d1, -⟩ := hd
                  have e16 : u 16 = .bool false := d16 rfl
                  have e1 : u 1 = .bool false := d1 rfl
                  rw [HFX.out]
                  simp only [e16, e1]
                  clear hp d16 d1
                  go_wp2_with fail
                  exact ⟨_, by rw [HFX.out]; simp [upd, e16, e1], rfl, HS.out, Below.refl _ _⟩
                · intro u W hS hd hp
                  have HS := Lib.hid hS
                  clear hS
                  obtain ⟨d17, -⟩ := hd
                  have e17 : u 17 = .bool false := d17 rfl
                  rw [HFX.out]
                  simp only [e17]
                  clear hp d17
                  go_wp2_with fail
                  exact ⟨_, by rw [HFX.out]; simp [upd, e17]; rfl, rfl, HS.out, Below.refl _ _⟩
                · intro u W hS hd hp
                  have HS := Lib.hid hS
                  clear hS
                  obtain ⟨d18, d17, -⟩ := hd
                  have e18 : u 18 = .tuple #[] := d18 rfl
                  have e17 : u 17 = .bool false := d17 rfl
                  rw [HFX.out]
                  simp only [e18, e17]
                  clear hp d18 d17
                  go_wp2_with fail
                  exact ⟨_, by rw [HFX.out]; simp [upd, e18, e17]; rfl, rfl, HS.out, Below.refl _ _⟩
                · intro u W hS hd hp
                  have HS := Lib.hid hS
                  clear hS
                  obtain ⟨d17, -⟩ := hd
                  have e17 : u 17 = .bool false := d17 rfl
                  rw [HFX.out]
                  simp only [e17]
                  clear hp d17
                  go_wp2_with fail
                  exact ⟨_, by rw [HFX.out]; simp [upd, e17]; rfl, rfl, HS.out, Below.refl _ _⟩
                · intro u W hS hd hp
                  have HS := Lib.hid hS
                  clear hS
                  obtain ⟨d19, d20, d17, -⟩ := hd
                  have e19 : u 19 = .tuple #[] := d19 rfl
                  have e20 : u 20 = .tuple #[] := d20 rfl
                  have e17 : u 17 = .bool false := d17 rfl
                  rw [HFX.out]
                  simp only [e19, e20, e17]
                  clear hp d19 d20 d17
                  go_wp2_with fail
                  exact ⟨_, by rw [HFX.out]; simp [upd, e19, e20, e17]; rfl, rfl, HS.out, Below.refl _ _⟩
                · intro u W hS hd hp
                  have HS := Lib.hid hS
                  clear hS
                  obtain ⟨d21, d17, -⟩ := hd
                  have e21 : u 21 = .tuple #[] := d21 rfl
                  have e17 : u 17 = .bool false := d17 rfl
                  rw [HFX.out]
                  simp only [e21, e17]
                  clear hp d21 d17
                  go_wp2_with fail
                  exact ⟨_, by rw [HFX.out]; simp [upd, e21, e17]; rfl, rfl, HS.out, Below.refl _ _⟩
                · intro u W hS hd hp
                  have HS := Lib.hid hS
                  clear hS
                  obtain ⟨d22, d17, -⟩ := hd
                  have e22 : u 22 = .tuple #[] := d22 rfl
                  have e17 : u 17 = .bool false := d17 rfl
                  rw [HFX.out]
                  simp only [e22, e17]
                  clear hp d22 d17
                  go_wp2_with fail
                  exact ⟨_, by rw [HFX.out]; simp [upd, e22, e17]; rfl, rfl, HS.out, Below.refl _ _⟩
                · intro u W hS hd hp
                  have HS := Lib.hid hS
                  clear hS
                  obtain ⟨d17, -⟩ := hd
                  have e17 : u 17 = .bool false := d17 rfl
                  rw [HFX.out]
                  simp only [e17]
                  clear hp d17
                  go_wp2_with fail
                  exact ⟨_, by rw [HFX.out]; simp [upd, e17]; rfl, rfl, HS.out, Below.refl _ _⟩
                · intro u W hS hd hp
                  have HS := Lib.hid hS
                  clear hS
                  obtain ⟨d24, d17, -⟩ := hd
                  have e24 : u 24 = .tuple #[] := d24 rfl
                  have e17 : u 17 = .bool false := d17 rfl
                  rw [HFX.out]
                  simp only [e24, e17]
                  clear hp d24 d17
                  go_wp2_with fail
                  exact ⟨_, by rw [HFX.out]; simp [upd, e24, e17]; rfl, rfl, HS.out, Below.refl _ _⟩
                · intro u W hS hd hp
                  have HS := Lib.hid hS
                  clear hS
                  obtain ⟨d17, -⟩ := hd
                  have e17 : u 17 = .bool false := d17 rfl
                  rw [HFX.out]
                  simp only [e17]
                  clear hp d17
                  go_wp2_with fail
                  exact ⟨_, by rw [HFX.out]; simp [upd, e17]; rfl, rfl, HS.out, Below.refl _ _⟩
                · intro u W hS hd hp
                  have HS := Lib.hid hS
                  clear hS
                  obtain ⟨d25, d26, d17, -⟩ := hd
                  have e25 : u 25 = .tuple #[] := d25 rfl
                  have e26 : u 26 = .tuple #[] := d26 rfl
                  have e17 : u 17 = .bool false := d17 rfl
                  rw [HFX.out]
                  simp only [e25, e26, e17]
                  clear hp d25 d26 d17
                  go_wp2_with fail
                  exact ⟨_, by rw [HFX.out]; simp [upd, e25, e26, e17]; rfl, rfl, HS.out, Below.refl _ _⟩
                · intro u W hS hd hp
                  have HS := Lib.hid hS
                  clear hS
                  obtain ⟨d27, d17, -⟩ := hd
                  have e27 : u 27 = .tuple #[] := d27 rfl
                  have e17 : u 17 = .bool false := d17 rfl
                  rw [HFX.out]
                  simp only [e27, e17]
                  clear hp d27 d17
                  go_wp2_with fail
                  exact ⟨_, by rw [HFX.out]; simp [upd, e27, e17]; rfl, rfl, HS.out, Below.refl _ _⟩
                · intro u W hS hd hp
                  have HS := Lib.hid hS
                  clear hS
                  obtain ⟨d28, d17, -⟩ := hd
                  have e28 : u 28 = .tuple #[] := d28 rfl
                  have e17 : u 17 = .bool false := d17 rfl
                  rw [HFX.out]
                  simp only [e28, e17]
                  clear hp d28 d17
                  go_wp2_with fail
                  exact ⟨_, by rw [HFX.out]; simp [upd, e28, e17]; rfl, rfl, HS.out, Below.refl _ _⟩
                · intro u W hS hd hp
                  have HS := Lib.hid hS
                  clear hS
                  obtain ⟨d23, d29, d17, -⟩ := hd
                  have e23 : u 23 = .tuple #[] := d23 rfl
                  have e29 : u 29 = .tuple #[] := d29 rfl
                  have e17 : u 17 = .bool false := d17 rfl
                  rw [HFX.out]
                  simp only [e23, e29, e17]
                  clear hp d23 d29 d17
                  go_wp2_with fail
                  exact ⟨_, by rw [HFX.out]; simp [upd, e23, e29, e17]; rfl, rfl, HS.out, Below.refl _ _⟩
                · intro u W hS hd hp
                  have HS := Lib.hid hS
                  clear hS
                  obtain ⟨d17, d30, d1, -⟩ := hd
                  have e17 : u 17 = .bool false := d17 rfl
                  have e30 : u 30 = .tuple #[] := d30 rfl
                  have e1 : u 1 = .bool false := d1 rfl
                  rw [HFX.out]
                  simp only [e17, e30, e1]
                  clear hp d17 d30 d1
                  go_wp2_with fail
                  exact ⟨_, by rw [HFX.out]; simp [upd, e17, e30, e1], rfl, HS.out, Below.refl _ _⟩
                · intro u W hS hd hp
                  have HS := Lib.hid hS
                  clear hS
                  obtain ⟨d1, d31, -⟩ := hd
                  have e1 : u 1 = .bool false := d1 rfl
                  have e31 : u 31 = .bool false := d31 rfl
                  rw [HFX.out]
                  simp only [e1, e31]
                  clear hp d1 d31
                  go_wp2_with fail
                  exact ⟨_, by rw [HFX.out]; simp [upd, e1, e31], rfl, HS.out, Below.refl _ _⟩
                · intro u W hS hd hp
                  have HS := Lib.hid hS
                  clear hS
                  obtain ⟨d32, -⟩ := hd
                  have e32 : u 32 = .bool false := d32 rfl
                  rw [HFX.out]
                  simp only [e32]
                  clear hp d32
                  go_wp2_with fail
                  exact ⟨_, by rw [HFX.out]; simp [upd, e32], rfl, HS.out, Below.refl _ _⟩
                intro u W hS hf
                have eE : u 33 = .bool false := hf 33 (by decide)
                rw [HFX.out]
                simp only [eE]
                clear eE hf HFX F
                have HW2 := Lib.hid (HW.out.trans (Below.mono hS HW.out.size))
                clear hS
                go_wp2
                go_roundw
                case rel => exact ⟨k + 1, by omega, by rw [HNX.out], by go_num, HW2⟩
                case measure => simp [intOf]; omega
              have ENM : Hid ((nn.toList == xn.toList) = true) := Lib.hid (by rw [h1]; simp)
              by_cases h2 : rv = xv
              case neg =>
                have HNX : Hid (_ = false) := Lib.hid (hnx.trans (by rw [decide_eq_false h2, Bool.and_false]; rfl))
                have EDY : Hid (decide (rv = xv) = false) := Lib.hid (decide_eq_false h2)
                clear hnx h1 h2
                refine wp_region_rg2 (PSv wr) RB ([isV (.bool false), isV (.bool false), isV (.agg #[.string fr, .string tn, .slice b1 gn dq1, .slice b2 grl dq2, .slice b3 J dq3]), isV (.pointer (some ⟨w.heap.size, 6, none⟩)), isV (.slice (some ⟨g5, o5, none⟩) N c3), isV (.int .i64 (k : Int)), isV (.pointer (some ⟨g5, o5 + k * 2, none⟩)), isV (.pointer (some ⟨g5, o5 + k * 2, none⟩)), isV (.string rn), isV (.string nn), isV (.pointer (some ⟨ba, 6, none⟩)), isV (.slice (some ⟨g6, o6, none⟩) xN y3), isV (.int .i64 (i : Int)), isV (.pointer (some ⟨g6, o6 + i * 2, none⟩)), isV (.pointer (some ⟨g6, o6 + i * 2, none⟩)), isV (.string xn), isV (.bool true), isV (.bool true), isV (.pointer (some ⟨w.heap.size, 6, none⟩)), isV (.slice (some ⟨g5, o5, none⟩) N c3), isV (.int .i64 (k : Int)), isV (.pointer (some ⟨g5, o5 + k * 2, none⟩)), isV (.pointer (some ⟨g5, o5 + k * 2 + 1, none⟩)), isV (.int .i64 rv), isV (.pointer (some ⟨ba, 6, none⟩)), isV (.slice (some ⟨g6, o6, none⟩) xN y3), isV (.int .i64 (i : Int)), isV (.pointer (some ⟨g6, o6 + i * 2, none⟩)), isV (.pointer (some ⟨g6, o6 + i * 2 + 1, none⟩)), isV (.int .i64 xv), isV (.bool false), isV (.bool false), isV (.bool false), isV (.bool false)]) [0, 1, 2, 3, 4, 5, 6, 7, 8, 9, 10, 11, 12, 13, 14, 15, 16, 17, 18, 19, 20, 21, 22, 23, 24, 25, 26, 27, 28, 29, 30, 31, 32, 33] (by kernel_rfl) (by kernel_rfl) (by kernel_rfl) (below_drewM wr) ⟨isV_mono _, isV_mono _, isV_mono _, isV_mono _, isV_mono _, isV_mono _, isV_mono _, isV_mono _, isV_mono _, isV_mono _, isV_mono _, isV_mono _, isV_mono _, isV_mono _, isV_mono _, isV_mono _, isV_mono _, isV_mono _, isV_mono _, isV_mono _, isV_mono _, isV_mono _, isV_mono _, isV_mono _, isV_mono _, isV_mono _, isV_mono _, isV_mono _, isV_mono _, isV_mono _, isV_mono _, isV_mono _, isV_mono _, isV_mono _, trivial⟩ ?_
                intro F hF
                simp only [putAll, List.map_cons, List.map_nil, Act.put, List.setIfInBounds_toArray, List.set_cons_succ, List.set_cons_zero] at hF
                have HFX := Lib.hid hF
                clear hF
                refine ⟨fun Q' => ⟨?_, ?_, ?_, ?_, ?_, ?_, ?_, ?_, ?_, ?_, ?_, ?_, ?_, ?_, ?_, ?_, ?_, ?_, ?_, ?_, ?_, ?_, ?_, ?_, ?_, ?_, ?_, ?_, ?_, ?_, ?_, ?_, ?_, ?_, trivial⟩, ?_⟩
                · intro u W hS hd hp
                  have HS := Lib.hid hS
                  clear hS
                  have e33 : u 33 = .bool false := hp 33 (.inr (by kernel_rfl))
                  rw [HFX.out]
                  simp only [e33]
                  clear hd hp 
                  go_wp2_with fail
                  exact ⟨_, by rw [HFX.out]; simp [upd, e33], rfl, HS.out, Below.refl _ _⟩
                · intro u W hS hd hp
                  have HS := Lib.hid hS
                  clear hS
                  obtain ⟨d0, -⟩ := hd
                  have e0 : u 0 = .bool false := d0 rfl
                  rw [HFX.out]
                  simp only [e0]
                  clear hp d0
                  go_wp2_with fail
                  exact ⟨_, by rw [HFX.out]; simp [upd, e0], rfl, HS.out, Below.refl _ _⟩
                · intro u W hS hd hp
                  have HS := Lib.hid hS
                  clear hS
                  obtain ⟨d1, -⟩ := hd
                  have e1 : u 1 = .bool false := d1 rfl
                  rw [HFX.out]
                  simp only [e1]
                  clear hp d1
                  obtain ⟨r0, r1, r2⟩ := (KB1.out.below HS.out KB1.out.lt).all
                  go_wp2_with fail
                  exact ⟨_, by rw [HFX.out]; simp [upd, e1], rfl, HS.out, Below.refl _ _⟩
                · intro u W hS hd hp
                  have HS := Lib.hid hS
                  clear hS
                  obtain ⟨d1, -⟩ := hd
                  have e1 : u 1 = .bool false := d1 rfl
                  rw [HFX.out]
                  simp only [e1]
                  clear hp d1
                  go_wp2_with fail
                  exact ⟨_, by rw [HFX.out]; simp [upd, e1], rfl, HS.out, Below.refl _ _⟩
                · intro u W hS hd hp
                  have HS := Lib.hid hS
                  clear hS
                  obtain ⟨d3, d1, -⟩ := hd
                  have e3 : u 3 = .pointer (some ⟨w.heap.size, 6, none⟩) := d3 rfl
                  have e1 : u 1 = .bool false := d1 rfl
                  rw [HFX.out]
                  simp only [e3, e1]
                  clear hp d3 d1
                  obtain ⟨r0, r1, r2⟩ := (KB0.out.below HS.out KB0.out.lt).all
                  go_wp2_with fail
                  exact ⟨_, by rw [HFX.out]; simp [upd, e3, e1], rfl, HS.out, Below.refl _ _⟩
                · intro u W hS hd hp
                  have HS := Lib.hid hS
                  clear hS
                  obtain ⟨d1, -⟩ := hd
                  have e1 : u 1 = .bool false := d1 rfl
                  rw [HFX.out]
                  simp only [e1]
                  clear hp d1
                  go_wp2_with fail
                  exact ⟨_, by rw [HFX.out]; simp [upd, e1], rfl, HS.out, Below.refl _ _⟩
                · intro u W hS hd hp
                  have HS := Lib.hid hS
                  clear hS
                  obtain ⟨d4, d5, d1, -⟩ := hd
                  have e4 : u 4 = .slice (some ⟨g5, o5, none⟩) N c3 := d4 rfl
                  have e5 : u 5 = .int .i64 (k : Int) := d5 rfl
                  have e1 : u 1 = .bool false := d1 rfl
                  rw [HFX.out]
                  simp only [e4, e5, e1]
                  clear hp d4 d5 d1
                  have ib0 : (0 : Int) ≤ (k : Int) := by omega
                  have ib1 : (k : Int) < (N : Int) := by omega
                  go_wp2_with fail
                  exact ⟨_, by rw [HFX.out]; simp [upd, e4, e5, e1], rfl, HS.out, Below.refl _ _⟩
                · intro u W hS hd hp
                  have HS := Lib.hid hS
                  clear hS
                  obtain ⟨d6, d1, -⟩ := hd
                  have e6 : u 6 = .pointer (some ⟨g5, o5 + k * 2, none⟩) := d6 rfl
                  have e1 : u 1 = .bool false := d1 rfl
                  rw [HFX.out]
                  simp only [e6, e1]
                  clear hp d6 d1
                  go_wp2_with fail
                  exact ⟨_, by rw [HFX.out]; simp [upd, e6, e1], rfl, HS.out, Below.refl _ _⟩
                · intro u W hS hd hp
                  have HS := Lib.hid hS
                  clear hS
                  obtain ⟨d7, d1, -⟩ := hd
                  have e7 : u 7 = .pointer (some ⟨g5, o5 + k * 2, none⟩) := d7 rfl
                  have e1 : u 1 = .bool false := d1 rfl
                  rw [HFX.out]
                  simp only [e7, e1]
                  clear hp d7 d1
                  have r0 := (HS.out.cell (p := ⟨g5, o5 + k * 2, none⟩) (by have := PG5L.out; omega)).trans P0.out
                  go_wp2_with fail
                  exact ⟨_, by rw [HFX.out]; simp [upd, e7, e1], rfl, HS.out, Below.refl _ _⟩
                · intro u W hS hd hp
                  have HS := Lib.hid hS
                  clear hS
                  obtain ⟨d2, d8, _, d1, -⟩ := hd
                  have e2 : u 2 = .agg #[.string fr, .string tn, .slice b1 gn dq1, .slice b2 grl dq2, .slice b3 J dq3] := d2 rfl
                  have e8 : u 8 = .string rn := d8 rfl
                  have e1 : u 1 = .bool false := d1 rfl
                  rw [HFX.out]
                  simp only [e2, e8, e1]
                  clear hp d2 d8 d1
                  have HC := Lib.hid (CN.out W HS.out)
                  go_wp2_with fail
                  refine HC.out.mono ?_
                  rintro e W2 ⟨rfl, b2⟩
                  go_wp2_with fail
                  exact ⟨_, by rw [HFX.out]; simp [upd, e2, e8, e1], rfl, PSv.go HS.out b2, b2⟩
                · intro u W hS hd hp
                  have HS := Lib.hid hS
                  clear hS
                  obtain ⟨d1, -⟩ := hd
                  have e1 : u 1 = .bool false := d1 rfl
                  rw [HFX.out]
                  simp only [e1]
                  clear hp d1
                  go_wp2_with fail
                  exact ⟨_, by rw [HFX.out]; simp [upd, e1], rfl, HS.out, Below.refl _ _⟩
                · intro u W hS hd hp
                  have HS := Lib.hid hS
                  clear hS
                  obtain ⟨d10, d1, -⟩ := hd
                  have e10 : u 10 = .pointer (some ⟨ba, 6, none⟩) := d10 rfl
                  have e1 : u 1 = .bool false := d1 rfl
                  rw [HFX.out]
                  simp only [e10, e1]
                  clear hp d10 d1
                  obtain ⟨r0, r1, r2⟩ := (KA.out.below HS.out KA.out.lt).all
                  go_wp2_with fail
                  exact ⟨_, by rw [HFX.out]; simp [upd, e10, e1], rfl, HS.out, Below.refl _ _⟩
                · intro u W hS hd hp
                  have HS := Lib.hid hS
                  clear hS
                  obtain ⟨d1, -⟩ := hd
                  have e1 : u 1 = .bool false := d1 rfl
                  rw [HFX.out]
                  simp only [e1]
                  clear hp d1
                  go_wp2_with fail
                  exact ⟨_, by rw [HFX.out]; simp [upd, e1], rfl, HS.out, Below.refl _ _⟩
                · intro u W hS hd hp
                  have HS := Lib.hid hS
                  clear hS
                  obtain ⟨d11, d12, d1, -⟩ := hd
                  have e11 : u 11 = .slice (some ⟨g6, o6, none⟩) xN y3 := d11 rfl
                  have e12 : u 12 = .int .i64 (i : Int) := d12 rfl
                  have e1 : u 1 = .bool false := d1 rfl
                  rw [HFX.out]
                  simp only [e11, e12, e1]
                  clear hp d11 d12 d1
                  have ib0 : (0 : Int) ≤ (i : Int) := by omega
                  have ib1 : (i : Int) < (xN : Int) := by omega
                  go_wp2_with fail
                  exact ⟨_, by rw [HFX.out]; simp [upd, e11, e12, e1], rfl, HS.out, Below.refl _ _⟩
                · intro u W hS hd hp
                  have HS := Lib.hid hS
                  clear hS
                  obtain ⟨d13, d1, -⟩ := hd
                  have e13 : u 13 = .pointer (some ⟨g6, o6 + i * 2, none⟩) := d13 rfl
                  have e1 : u 1 = .bool false := d1 rfl
                  rw [HFX.out]
                  simp only [e13, e1]
                  clear hp d13 d1
                  go_wp2_with fail
                  exact ⟨_, by rw [HFX.out]; simp [upd, e13, e1], rfl, HS.out, Below.refl _ _⟩
                · intro u W hS hd hp
                  have HS := Lib.hid hS
                  clear hS
                  obtain ⟨d14, d1, -⟩ := hd
                  have e14 : u 14 = .pointer (some ⟨g6, o6 + i * 2, none⟩) := d14 rfl
                  have e1 : u 1 = .bool false := d1 rfl
                  rw [HFX.out]
                  simp only [e14, e1]
                  clear hp d14 d1
                  have r0 := (HS.out.cell (p := ⟨g6, o6 + i * 2, none⟩) (by have := PG6L.out; omega)).trans P2.out
                  go_wp2_with fail
                  exact ⟨_, by rw [HFX.out]; simp [upd, e14, e1], rfl, HS.out, Below.refl _ _⟩
                · intro u W hS hd hp
                  have HS := Lib.hid hS
                  clear hS
                  obtain ⟨d9, d15, d1, -⟩ := hd
                  have e9 : u 9 = .string nn := d9 rfl
                  have e15 : u 15 = .string xn := d15 rfl
                  have e1 : u 1 = .bool false := d1 rfl
                  rw [HFX.out]
                  simp only [e9, e15, e1]
                  clear hp d9 d15 d1
                  have es5 : (nn.toList == xn.toList) = true := ENM.out
                  go_wp2_with fail
                  exact ⟨_, by rw [HFX.out]; simp [upd, e9, e15, e1], rfl, HS.out, Below.refl _ _⟩
                · intro u W hS hd hp
                  have HS := Lib.hid hS
                  clear hS
                  obtain ⟨d16, _, d1, -⟩ := hd
                  have e16 : u 16 = .bool true := d16 rfl
                  have e1 : u 1 = .bool false := d1 rfl
                  rw [HFX.out]
                  simp only [e16, e1]
                  clear hp d16 d1
                  go_wp2_with fail
                  exact ⟨_, by rw [HFX.out]; simp [upd, e16, e1], rfl, HS.out, Below.refl _ _⟩
                · intro u W hS hd hp
                  have HS := Lib.hid hS
                  clear hS
                  obtain ⟨d17, -⟩ := hd
                  have e17 : u 17 = .bool true := d17 rfl
                  rw [HFX.out]
                  simp only [e17]
                  clear hp d17
                  go_wp2_with fail
                  exact ⟨_, by rw [HFX.out]; simp [upd, e17], rfl, HS.out, Below.refl _ _⟩
                · intro u W hS hd hp
                  have HS := Lib.hid hS
                  clear hS
                  obtain ⟨d18, d17, -⟩ := hd
                  have e18 : u 18 = .pointer (some ⟨w.heap.size, 6, none⟩) := d18 rfl
                  have e17 : u 17 = .bool true := d17 rfl
                  rw [HFX.out]
                  simp only [e18, e17]
                  clear hp d18 d17
                  obtain ⟨r0, r1, r2⟩ := (KB0.out.below HS.out KB0.out.lt).all
                  go_wp2_with fail
                  exact ⟨_, by rw [HFX.out]; simp [upd, e18, e17], rfl, HS.out, Below.refl _ _⟩
                · intro u W hS hd hp
                  have HS := Lib.hid hS
                  clear hS
                  obtain ⟨d17, -⟩ := hd
                  have e17 : u 17 = .bool true := d17 rfl
                  rw [HFX.out]
                  simp only [e17]
                  clear hp d17
                  go_wp2_with fail
                  exact ⟨_, by rw [HFX.out]; simp [upd, e17], rfl, HS.out, Below.refl _ _⟩
                · intro u W hS hd hp
                  have HS := Lib.hid hS
                  clear hS
                  obtain ⟨d19, d20, d17, -⟩ := hd
                  have e19 : u 19 = .slice (some ⟨g5, o5, none⟩) N c3 := d19 rfl
                  have e20 : u 20 = .int .i64 (k : Int) := d20 rfl
                  have e17 : u 17 = .bool true := d17 rfl
                  rw [HFX.out]
                  simp only [e19, e20, e17]
                  clear hp d19 d20 d17
                  have ib0 : (0 : Int) ≤ (k : Int) := by omega
                  have ib1 : (k : Int) < (N : Int) := by omega
                  go_wp2_with fail
                  exact ⟨_, by rw [HFX.out]; simp [upd, e19, e20, e17], rfl, HS.out, Below.refl _ _⟩
                · intro u W hS hd hp
                  have HS := Lib.hid hS
                  clear hS
                  obtain ⟨d21, d17, -⟩ := hd
                  have e21 : u 21 = .pointer (some ⟨g5, o5 + k * 2, none⟩) := d21 rfl
                  have e17 : u 17 = .bool true := d17 rfl
                  rw [HFX.out]
                  simp only [e21, e17]
                  clear hp d21 d17
                  go_wp2_with fail
                  exact ⟨_, by rw [HFX.out]; simp [upd, e21, e17], rfl, HS.out, Below.refl _ _⟩
                · intro u W hS hd hp
                  have HS := Lib.hid hS
                  clear hS
                  obtain ⟨d22, d17, -⟩ := hd
                  have e22 : u 22 = .pointer (some ⟨g5, o5 + k * 2 + 1, none⟩) := d22 rfl
                  have e17 : u 17 = .bool true := d17 rfl
                  rw [HFX.out]
                  simp only [e22, e17]
                  clear hp d22 d17
                  have r0 := (HS.out.cell (p := ⟨g5, o5 + k * 2 + 1, none⟩) (by have := PG5L.out; omega)).trans P1.out
                  go_wp2_with fail
                  exact ⟨_, by rw [HFX.out]; simp [upd, e22, e17], rfl, HS.out, Below.refl _ _⟩
                · intro u W hS hd hp
                  have HS := Lib.hid hS
                  clear hS
                  obtain ⟨d17, -⟩ := hd
                  have e17 : u 17 = .bool true := d17 rfl
                  rw [HFX.out]
                  simp only [e17]
                  clear hp d17
                  go_wp2_with fail
                  exact ⟨_, by rw [HFX.out]; simp [upd, e17], rfl, HS.out, Below.refl _ _⟩
                · intro u W hS hd hp
                  have HS := Lib.hid hS
                  clear hS
                  obtain ⟨d24, d17, -⟩ := hd
                  have e24 : u 24 = .pointer (some ⟨ba, 6, none⟩) := d24 rfl
                  have e17 : u 17 = .bool true := d17 rfl
                  rw [HFX.out]
                  simp only [e24, e17]
                  clear hp d24 d17
                  obtain ⟨r0, r1, r2⟩ := (KA.out.below HS.out KA.out.lt).all
                  go_wp2_with fail
                  exact ⟨_, by rw [HFX.out]; simp [upd, e24, e17], rfl, HS.out, Below.refl _ _⟩
                · intro u W hS hd hp
                  have HS := Lib.hid hS
                  clear hS
                  obtain ⟨d17, -⟩ := hd
                  have e17 : u 17 = .bool true := d17 rfl
                  rw [HFX.out]
                  simp only [e17]
                  clear hp d17
                  go_wp2_with fail
                  exact ⟨_, by rw [HFX.out]; simp [upd, e17], rfl, HS.out, Below.refl _ _⟩
                · intro u W hS hd hp
                  have HS := Lib.hid hS
                  clear hS
                  obtain ⟨d25, d26, d17, -⟩ := hd
                  have e25 : u 25 = .slice (some ⟨g6, o6, none⟩) xN y3 := d25 rfl
                  have e26 : u 26 = .int .i64 (i : Int) := d26 rfl
                  have e17 : u 17 = .bool true := d17 rfl
                  rw [HFX.out]
                  simp only [e25, e26, e17]
                  clear hp d25 d26 d17
                  have ib0 : (0 : Int) ≤ (i : Int) := by omega
                  have ib1 : (i : Int) < (xN : Int) := by omega
                  go_wp2_with fail
                  exact ⟨_, by rw [HFX.out]; simp [upd, e25, e26, e17], rfl, HS.out, Below.refl _ _⟩
                · intro u W hS hd hp
                  have HS := Lib.hid hS
                  clear hS
                  obtain ⟨d27, d17, -⟩ := hd
                  have e27 : u 27 = .pointer (some ⟨g6, o6 + i * 2, none⟩) := d27 rfl
                  have e17 : u 17 = .bool true := d17 rfl
                  rw [HFX.out]
                  simp only [e27, e17]
                  clear hp d27 d17
                  go_wp2_with fail
                  exact ⟨_, by rw [HFX.out]; simp [upd, e27, e17], rfl, HS.out, Below.refl _ _⟩
                · intro u W hS hd hp
                  have HS := Lib.hid hS
                  clear hS
                  obtain ⟨d28, d17, -⟩ := hd
                  have e28 : u 28 = .pointer (some ⟨g6, o6 + i * 2 + 1, none⟩) := d28 rfl
                  have e17 : u 17 = .bool true := d17 rfl
                  rw [HFX.out]
                  simp only [e28, e17]
                  clear hp d28 d17
                  have r0 := (HS.out.cell (p := ⟨g6, o6 + i * 2 + 1, none⟩) (by have := PG6L.out; omega)).trans P3.out
                  go_wp2_with fail
                  exact ⟨_, by rw [HFX.out]; simp [upd, e28, e17], rfl, HS.out, Below.refl _ _⟩
                · intro u W hS hd hp
                  have HS := Lib.hid hS
                  clear hS
                  obtain ⟨d23, d29, d17, -⟩ := hd
                  have e23 : u 23 = .int .i64 rv := d23 rfl
                  have e29 : u 29 = .int .i64 xv := d29 rfl
                  have e17 : u 17 = .bool true := d17 rfl
                  rw [HFX.out]
                  simp only [e23, e29, e17]
                  clear hp d23 d29 d17
                  go_wp2_with fail
                  exact ⟨_, by rw [HFX.out]; simp [upd, e23, e29, e17]; exact of_decide_eq_false EDY.out, rfl, HS.out, Below.refl _ _⟩
                · intro u W hS hd hp
                  have HS := Lib.hid hS
                  clear hS
                  obtain ⟨d17, d30, d1, -⟩ := hd
                  have e17 : u 17 = .bool true := d17 rfl
                  have e30 : u 30 = .bool false := d30 rfl
                  have e1 : u 1 = .bool false := d1 rfl
                  rw [HFX.out]
                  simp only [e17, e30, e1]
                  clear hp d17 d30 d1
                  go_wp2_with fail
                  exact ⟨_, by rw [HFX.out]; simp [upd, e17, e30, e1], rfl, HS.out, Below.refl _ _⟩
                · intro u W hS hd hp
                  have HS := Lib.hid hS
                  clear hS
                  obtain ⟨d1, d31, -⟩ := hd
                  have e1 : u 1 = .bool false := d1 rfl
                  have e31 : u 31 = .bool false := d31 rfl
                  rw [HFX.out]
                  simp only [e1, e31]
                  clear hp d1 d31
                  go_wp2_with fail
                  exact ⟨_, by rw [HFX.out]; simp [upd, e1, e31], rfl, HS.out, Below.refl _ _⟩
                · intro u W hS hd hp
                  have HS := Lib.hid hS
                  clear hS
                  obtain ⟨d32, -⟩ := hd
                  have e32 : u 32 = .bool false := d32 rfl
                  rw [HFX.out]
                  simp only [e32]
                  clear hp d32
                  go_wp2_with fail
                  exact ⟨_, by rw [HFX.out]; simp [upd, e32], rfl, HS.out, Below.refl _ _⟩
                intro u W hS hf
                have eE : u 33 = .bool false := hf 33 (by decide)
                rw [HFX.out]
                simp only [eE]
                clear eE hf HFX F
                have HW2 := Lib.hid (HW.out.trans (Below.mono hS HW.out.size))
                clear hS
                go_wp2
                go_roundw
                case rel => exact ⟨k + 1, by omega, by rw [HNX.out], by go_num, HW2⟩
                case measure => simp [intOf]; omega
              have HNX : Hid (_ = true) := Lib.hid (hnx.trans (by rw [decide_eq_true h1, decide_eq_true h2]; rfl))
              clear hnx h1
              subst h2
              refine wp_region_rg2 (PSv wr) RB ([isV (.bool false), isV (.bool false), isV (.agg #[.string fr, .string tn, .slice b1 gn dq1, .slice b2 grl dq2, .slice b3 J dq3]), isV (.pointer (some ⟨w.heap.size, 6, none⟩)), isV (.slice (some ⟨g5, o5, none⟩) N c3), isV (.int .i64 (k : Int)), isV (.pointer (some ⟨g5, o5 + k * 2, none⟩)), isV (.pointer (some ⟨g5, o5 + k * 2, none⟩)), isV (.string rn), isV (.string nn), isV (.pointer (some ⟨ba, 6, none⟩)), isV (.slice (some ⟨g6, o6, none⟩) xN y3), isV (.int .i64 (i : Int)), isV (.pointer (some ⟨g6, o6 + i * 2, none⟩)), isV (.pointer (some ⟨g6, o6 + i * 2, none⟩)), isV (.string xn), isV (.bool true), isV (.bool true), isV (.pointer (some ⟨w.heap.size, 6, none⟩)), isV (.slice (some ⟨g5, o5, none⟩) N c3), isV (.int .i64 (k : Int)), isV (.pointer (some ⟨g5, o5 + k * 2, none⟩)), isV (.pointer (some ⟨g5, o5 + k * 2 + 1, none⟩)), isV (.int .i64 rv), isV (.pointer (some ⟨ba, 6, none⟩)), isV (.slice (some ⟨g6, o6, none⟩) xN y3), isV (.int .i64 (i : Int)), isV (.pointer (some ⟨g6, o6 + i * 2, none⟩)), isV (.pointer (some ⟨g6, o6 + i * 2 + 1, none⟩)), isV (.int .i64 rv), isV (.bool true), isV (.bool true), isV (.bool true), isV (.bool true)]) [0, 1, 2, 3, 4, 5, 6, 7, 8, 9, 10, 11, 12, 13, 14, 15, 16, 17, 18, 19, 20, 21, 22, 23, 24, 25, 26, 27, 28, 29, 30, 31, 32, 33] (by kernel_rfl) (by kernel_rfl) (by kernel_rfl) (below_drewM wr) ⟨isV_mono _, isV_mono _, isV_mono _, isV_mono _, isV_mono _, isV_mono _, isV_mono _, isV_mono _, isV_mono _, isV_mono _, isV_mono _, isV_mono _, isV_mono _, isV_mono _, isV_mono _, isV_mono _, isV_mono _, isV_mono _, isV_mono _, isV_mono _, isV_mono _, isV_mono _, isV_mono _, isV_mono _, isV_mono _, isV_mono _, isV_mono _, isV_mono _, isV_mono _, isV_mono _, isV_mono _, isV_mono _, isV_mono _, isV_mono _, trivial⟩ ?_
              intro F hF
              simp only [putAll, List.map_cons, List.map_nil, Act.put, List.setIfInBounds_toArray, List.set_cons_succ, List.set_cons_zero] at hF
              have HFX := Lib.hid hF
              clear hF
              refine ⟨fun Q' => ⟨?_, ?_, ?_, ?_, ?_, ?_, ?_, ?_, ?_, ?_, ?_, ?_, ?_, ?_, ?_, ?_, ?_, ?_, ?_, ?_, ?_, ?_, ?_, ?_, ?_, ?_, ?_, ?_, ?_, ?_, ?_, ?_, ?_, ?_, trivial⟩, ?_⟩
              · intro u W hS hd hp
                have HS := Lib.hid hS
                clear hS
                have e33 : u 33 = .bool false := hp 33 (.inr (by kernel_rfl))
                rw [HFX.out]
                simp only [e33]
                clear hd hp 
                go_wp2_with fail
                exact ⟨_, by rw [HFX.out]; simp [upd, e33], rfl, HS.out, Below.refl _ _⟩
              · intro u W hS hd hp
                have HS := Lib.hid hS
                clear hS
                obtain ⟨d0, -⟩ := hd
                have e0 : u 0 = .bool false := d0 rfl
                rw [HFX.out]
                simp only [e0]
                clear hp d0
                go_wp2_with fail
                exact ⟨_, by rw [HFX.out]; simp [upd, e0], rfl, HS.out, Below.refl _ _⟩
              · intro u W hS hd hp
                have HS := Lib.hid hS
                clear hS
                obtain ⟨d1, -⟩ := hd
                have e1 : u 1 = .bool false := d1 rfl
                rw [HFX.out]
                simp only [e1]
                clear hp d1
                obtain ⟨r0, r1, r2⟩ := (KB1.out.below HS.out KB1.out.lt).all
                go_wp2_with fail
                exact ⟨_, by rw [HFX.out]; simp [upd, e1], rfl, HS.out, Below.refl _ _⟩
              · intro u W hS hd hp
                have HS := Lib.hid hS
                clear hS
                obtain ⟨d1, -⟩ := hd
                have e1 : u 1 = .bool false := d1 rfl
                rw [HFX.out]
                simp only [e1]
                clear hp d1
                go_wp2_with fail
                exact ⟨_, by rw [HFX.out]; simp [upd, e1], rfl, HS.out, Below.refl _ _⟩
              · intro u W hS hd hp
                have HS := Lib.hid hS
                clear hS
                obtain ⟨d3, d1, -⟩ := hd
                have e3 : u 3 = .pointer (some ⟨w.heap.size, 6, none⟩) := d3 rfl
                have e1 : u 1 = .bool false := d1 rfl
                rw [HFX.out]
                simp only [e3, e1]
                clear hp d3 d1
                obtain ⟨r0, r1, r2⟩ := (KB0.out.below HS.out KB0.out.lt).all
                go_wp2_with fail
                exact ⟨_, by rw [HFX.out]; simp [upd, e3, e1], rfl, HS.out, Below.refl _ _⟩
              · intro u W hS hd hp
                have HS := Lib.hid hS
                clear hS
                obtain ⟨d1, -⟩ := hd
                have e1 : u 1 = .bool false := d1 rfl
                rw [HFX.out]
                simp only [e1]
                clear hp d1
                go_wp2_with fail
                exact ⟨_, by rw [HFX.out]; simp [upd, e1], rfl, HS.out, Below.refl _ _⟩
              · intro u W hS hd hp
                have HS := Lib.hid hS
                clear hS
                obtain ⟨d4, d5, d1, -⟩ := hd
                have e4 : u 4 = .slice (some ⟨g5, o5, none⟩) N c3 := d4 rfl
                have e5 : u 5 = .int .i64 (k : Int) := d5 rfl
                have e1 : u 1 = .bool false := d1 rfl
                rw [HFX.out]
                simp only [e4, e5, e1]
                clear hp d4 d5 d1
                have ib0 : (0 : Int) ≤ (k : Int) := by omega
                have ib1 : (k : Int) < (N : Int) := by omega
                go_wp2_with fail
                exact ⟨_, by rw [HFX.out]; simp [upd, e4, e5, e1], rfl, HS.out, Below.refl _ _⟩
              · intro u W hS hd hp
                have HS := Lib.hid hS
                clear hS
                obtain ⟨d6, d1, -⟩ := hd
                have e6 : u 6 = .pointer (some ⟨g5, o5 + k * 2, none⟩) := d6 rfl
                have e1 : u 1 = .bool false := d1 rfl
                rw [HFX.out]
                simp only [e6, e1]
                clear hp d6 d1
                go_wp2_with fail
                exact ⟨_, by rw [HFX.out]; simp [upd, e6, e1], rfl, HS.out, Below.refl _ _⟩
              · intro u W hS hd hp
                have HS := Lib.hid hS
                clear hS
                obtain ⟨d7, d1, -⟩ := hd
                have e7 : u 7 = .pointer (some ⟨g5, o5 + k * 2, none⟩) := d7 rfl
                have e1 : u 1 = .bool false := d1 rfl
                rw [HFX.out]
                simp only [e7, e1]
                clear hp d7 d1
                have r0 := (HS.out.cell (p := ⟨g5, o5 + k * 2, none⟩) (by have := PG5L.out; omega)).trans P0.out
                go_wp2_with fail
                exact ⟨_, by rw [HFX.out]; simp [upd, e7, e1], rfl, HS.out, Below.refl _ _⟩
              · intro u W hS hd hp
                have HS := Lib.hid hS
                clear hS
                obtain ⟨d2, d8, _, d1, -⟩ := hd
                have e2 : u 2 = .agg #[.string fr, .string tn, .slice b1 gn dq1, .slice b2 grl dq2, .slice b3 J dq3] := d2 rfl
                have e8 : u 8 = .string rn := d8 rfl
                have e1 : u 1 = .bool false := d1 rfl
                rw [HFX.out]
                simp only [e2, e8, e1]
                clear hp d2 d8 d1
                have HC := Lib.hid (CN.out W HS.out)
                go_wp2_with fail
                refine HC.out.mono ?_
                rintro e W2 ⟨rfl, b2⟩
                go_wp2_with fail
                exact ⟨_, by rw [HFX.out]; simp [upd, e2, e8, e1], rfl, PSv.go HS.out b2, b2⟩
              · intro u W hS hd hp
                have HS := Lib.hid hS
                clear hS
                obtain ⟨d1, -⟩ := hd
                have e1 : u 1 = .bool false := d1 rfl
                rw [HFX.out]
                simp only [e1]
                clear hp d1
                go_wp2_with fail
                exact ⟨_, by rw [HFX.out]; simp [upd, e1], rfl, HS.out, Below.refl _ _⟩
              · intro u W hS hd hp
                have HS := Lib.hid hS
                clear hS
                obtain ⟨d10, d1, -⟩ := hd
                have e10 : u 10 = .pointer (some ⟨ba, 6, none⟩) := d10 rfl
                have e1 : u 1 = .bool false := d1 rfl
                rw [HFX.out]
                simp only [e10, e1]
                clear hp d10 d1
                obtain ⟨r0, r1, r2⟩ := (KA.out.below HS.out KA.out.lt).all
                go_wp2_with fail
                exact ⟨_, by rw [HFX.out]; simp [upd, e10, e1], rfl, HS.out, Below.refl _ _⟩
              · intro u W hS hd hp
                have HS := Lib.hid hS
                clear hS
                obtain ⟨d1, -⟩ := hd
                have e1 : u 1 = .bool false := d1 rfl
                rw [HFX.out]
                simp only [e1]
                clear hp d1
                go_wp2_with fail
                exact ⟨_, by rw [HFX.out]; simp [upd, e1], rfl, HS.out, Below.refl _ _⟩
              · intro u W hS hd hp
                have HS := Lib.hid hS
                clear hS
                obtain ⟨d11, d12, d1, -⟩ := hd
                have e11 : u 11 = .slice (some ⟨g6, o6, none⟩) xN y3 := d11 rfl
                have e12 : u 12 = .int .i64 (i : Int) := d12 rfl
                have e1 : u 1 = .bool false := d1 rfl
                rw [HFX.out]
                simp only [e11, e12, e1]
                clear hp d11 d12 d1
                have ib0 : (0 : Int) ≤ (i : Int) := by omega
                have ib1 : (i : Int) < (xN : Int) := by omega
                go_wp2_with fail
                exact ⟨_, by rw [HFX.out]; simp [upd, e11, e12, e1], rfl, HS.out, Below.refl _ _⟩
              · intro u W hS hd hp
                have HS := Lib.hid hS
                clear hS
                obtain ⟨d13, d1, -⟩ := hd
                have e13 : u 13 = .pointer (some ⟨g6, o6 + i * 2, none⟩) := d13 rfl
                have e1 : u 1 = .bool false := d1 rfl
                rw [HFX.out]
                simp only [e13, e1]
                clear hp d13 d1
                go_wp2_with fail
                exact ⟨_, by rw [HFX.out]; simp [upd, e13, e1], rfl, HS.out, Below.refl _ _⟩
              · intro u W hS hd hp
                have HS := Lib.hid hS
                clear hS
                obtain ⟨d14, d1, -⟩ := hd
                have e14 : u 14 = .pointer (some ⟨g6, o6 + i * 2, none⟩) := d14 rfl
                have e1 : u 1 = .bool false := d1 rfl
                rw [HFX.out]
                simp only [e14, e1]
                clear hp d14 d1
                have r0 := (HS.out.cell (p := ⟨g6, o6 + i * 2, none⟩) (by have := PG6L.out; omega)).trans P2.out
                go_wp2_with fail
                exact ⟨_, by rw [HFX.out]; simp [upd, e14, e1], rfl, HS.out, Below.refl _ _⟩
              · intro u W hS hd hp
                have HS := Lib.hid hS
                clear hS
                obtain ⟨d9, d15, d1, -⟩ := hd
                have e9 : u 9 = .string nn := d9 rfl
                have e15 : u 15 = .string xn := d15 rfl
                have e1 : u 1 = .bool false := d1 rfl
                rw [HFX.out]
                simp only [e9, e15, e1]
                clear hp d9 d15 d1
                have es5 : (nn.toList == xn.toList) = true := ENM.out
                go_wp2_with fail
                exact ⟨_, by rw [HFX.out]; simp [upd, e9, e15, e1], rfl, HS.out, Below.refl _ _⟩
              · intro u W hS hd hp
                have HS := Lib.hid hS
                clear hS
                obtain ⟨d16, _, d1, -⟩ := hd
                have e16 : u 16 = .bool true := d16 rfl
                have e1 : u 1 = .bool false := d1 rfl
                rw [HFX.out]
                simp only [e16, e1]
                clear hp d16 d1
                go_wp2_with fail
                exact ⟨_, by rw [HFX.out]; simp [upd, e16, e1], rfl, HS.out, Below.refl _ _⟩
              · intro u W hS hd hp
                have HS := Lib.hid hS
                clear hS
                obtain ⟨d17, -⟩ := hd
                have e17 : u 17 = .bool true := d17 rfl
                rw [HFX.out]
                simp only [e17]
                clear hp d17
                go_wp2_with fail
                exact ⟨_, by rw [HFX.out]; simp [upd, e17], rfl, HS.out, Below.refl _ _⟩
              · intro u W hS hd hp
                have HS := Lib.hid hS
                clear hS
                obtain ⟨d18, d17, -⟩ := hd
                have e18 : u 18 = .pointer (some ⟨w.heap.size, 6, none⟩) := d18 rfl
                have e17 : u 17 = .bool true := d17 rfl
                rw [HFX.out]
                simp only [e18, e17]
                clear hp d18 d17
                obtain ⟨r0, r1, r2⟩ := (KB0.out.below HS.out KB0.out.lt).all
                go_wp2_with fail
                exact ⟨_, by rw [HFX.out]; simp [upd, e18, e17], rfl, HS.out, Below.refl _ _⟩
              · intro u W hS hd hp
                have HS := Lib.hid hS
                clear hS
                obtain ⟨d17, -⟩ := hd
                have e17 : u 17 = .bool true := d17 rfl
                rw [HFX.out]
                simp only [e17]
                clear hp d17
                go_wp2_with fail
                exact ⟨_, by rw [HFX.out]; simp [upd, e17], rfl, HS.out, Below.refl _ _⟩
              · intro u W hS hd hp
                have HS := Lib.hid hS
                clear hS
                obtain ⟨d19, d20, d17, -⟩ := hd
                have e19 : u 19 = .slice (some ⟨g5, o5, none⟩) N c3 := d19 rfl
                have e20 : u 20 = .int .i64 (k : Int) := d20 rfl
                have e17 : u 17 = .bool true := d17 rfl
                rw [HFX.out]
                simp only [e19, e20, e17]
                clear hp d19 d20 d17
                have ib0 : (0 : Int) ≤ (k : Int) := by omega
                have ib1 : (k : Int) < (N : Int) := by omega
                go_wp2_with fail
                exact ⟨_, by rw [HFX.out]; simp [upd, e19, e20, e17], rfl, HS.out, Below.refl _ _⟩
              · intro u W hS hd hp
                have HS := Lib.hid hS
                clear hS
                obtain ⟨d21, d17, -⟩ := hd
                have e21 : u 21 = .pointer (some ⟨g5, o5 + k * 2, none⟩) := d21 rfl
                have e17 : u 17 = .bool true := d17 rfl
                rw [HFX.out]
                simp only [e21, e17]
                clear hp d21 d17
                go_wp2_with fail
                exact ⟨_, by rw [HFX.out]; simp [upd, e21, e17], rfl, HS.out, Below.refl _ _⟩
              · intro u W hS hd hp
                have HS := Lib.hid hS
                clear hS
                obtain ⟨d22, d17, -⟩ := hd
                have e22 : u 22 = .pointer (some ⟨g5, o5 + k * 2 + 1, none⟩) := d22 rfl
                have e17 : u 17 = .bool true := d17 rfl
                rw [HFX.out]
                simp only [e22, e17]
                clear hp d22 d17
                have r0 := (HS.out.cell (p := ⟨g5, o5 + k * 2 + 1, none⟩) (by have := PG5L.out; omega)).trans P1.out
                go_wp2_with fail
                exact ⟨_, by rw [HFX.out]; simp [upd, e22, e17], rfl, HS.out, Below.refl _ _⟩
              · intro u W hS hd hp
                have HS := Lib.hid hS
                clear hS
                obtain ⟨d17, -⟩ := hd
                have e17 : u 17 = .bool true := d17 rfl
                rw [HFX.out]
                simp only [e17]
                clear hp d17
                go_wp2_with fail
                exact ⟨_, by rw [HFX.out]; simp [upd, e17], rfl, HS.out, Below.refl _ _⟩
              · intro u W hS hd hp
                have HS := Lib.hid hS
                clear hS
                obtain ⟨d24, d17, -⟩ := hd
                have e24 : u 24 = .pointer (some ⟨ba, 6, none⟩) := d24 rfl
                have e17 : u 17 = .bool true := d17 rfl
                rw [HFX.out]
                simp only [e24, e17]
                clear hp d24 d17
                obtain ⟨r0, r1, r2⟩ := (KA.out.below HS.out KA.out.lt).all
                go_wp2_with fail
                exact ⟨_, by rw [HFX.out]; simp [upd, e24, e17], rfl, HS.out, Below.refl _ _⟩
              · intro u W hS hd hp
                have HS := Lib.hid hS
                clear hS
                obtain ⟨d17, -⟩ := hd
                have e17 : u 17 = .bool true := d17 rfl
                rw [HFX.out]
                simp only [e17]
                clear hp d17
                go_wp2_with fail
                exact ⟨_, by rw [HFX.out]; simp [upd, e17], rfl, HS.out, Below.refl _ _⟩
              · intro u W hS hd hp
                have HS := Lib.hid hS
                clear hS
                obtain ⟨d25, d26, d17, -⟩ := hd
                have e25 : u 25 = .slice (some ⟨g6, o6, none⟩) xN y3 := d25 rfl
                have e26 : u 26 = .int .i64 (i : Int) := d26 rfl
                have e17 : u 17 = .bool true := d17 rfl
                rw [HFX.out]
                simp only [e25, e26, e17]
                clear hp d25 d26 d17
                have ib0 : (0 : Int) ≤ (i : Int) := by omega
                have ib1 : (i : Int) < (xN : Int) := by omega
                go_wp2_with fail
                exact ⟨_, by rw [HFX.out]; simp [upd, e25, e26, e17], rfl, HS.out, Below.refl _ _⟩
              · intro u W hS hd hp
                have HS := Lib.hid hS
                clear hS
                obtain ⟨d27, d17, -⟩ := hd
                have e27 : u 27 = .pointer (some ⟨g6, o6 + i * 2, none⟩) := d27 rfl
                have e17 : u 17 = .bool true := d17 rfl
                rw [HFX.out]
                simp only [e27, e17]
                clear hp d27 d17
                go_wp2_with fail
                exact ⟨_, by rw [HFX.out]; simp [upd, e27, e17], rfl, HS.out, Below.refl _ _⟩
              · intro u W hS hd hp
                have HS := Lib.hid hS
                clear hS
                obtain ⟨d28, d17, -⟩ := hd
                have e28 : u 28 = .pointer (some ⟨g6, o6 + i * 2 + 1, none⟩) := d28 rfl
                have e17 : u 17 = .bool true := d17 rfl
                rw [HFX.out]
                simp only [e28, e17]
                clear hp d28 d17
                have r0 := (HS.out.cell (p := ⟨g6, o6 + i * 2 + 1, none⟩) (by have := PG6L.out; omega)).trans P3.out
                go_wp2_with fail
                exact ⟨_, by rw [HFX.out]; simp [upd, e28, e17], rfl, HS.out, Below.refl _ _⟩
              · intro u W hS hd hp
                have HS := Lib.hid hS
                clear hS
                obtain ⟨d23, d29, d17, -⟩ := hd
                have e23 : u 23 = .int .i64 rv := d23 rfl
                have e29 : u 29 = .int .i64 rv := d29 rfl
                have e17 : u 17 = .bool true := d17 rfl
                rw [HFX.out]
                simp only [e23, e29, e17]
                clear hp d23 d29 d17
                go_wp2_with fail
                exact ⟨_, by rw [HFX.out]; simp [upd, e23, e29, e17], rfl, HS.out, Below.refl _ _⟩
              · intro u W hS hd hp
                have HS := Lib.hid hS
                clear hS
                obtain ⟨d17, d30, d1, -⟩ := hd
                have e17 : u 17 = .bool true := d17 rfl
                have e30 : u 30 = .bool true := d30 rfl
                have e1 : u 1 = .bool false := d1 rfl
                rw [HFX.out]
                simp only [e17, e30, e1]
                clear hp d17 d30 d1
                go_wp2_with fail
                exact ⟨_, by rw [HFX.out]; simp [upd, e17, e30, e1], rfl, HS.out, Below.refl _ _⟩
              · intro u W hS hd hp
                have HS := Lib.hid hS
                clear hS
                obtain ⟨d1, d31, -⟩ := hd
                have e1 : u 1 = .bool false := d1 rfl
                have e31 : u 31 = .bool true := d31 rfl
                rw [HFX.out]
                simp only [e1, e31]
                clear hp d1 d31
                go_wp2_with fail
                exact ⟨_, by rw [HFX.out]; simp [upd, e1, e31], rfl, HS.out, Below.refl _ _⟩
              · intro u W hS hd hp
                have HS := Lib.hid hS
                clear hS
                obtain ⟨d32, -⟩ := hd
                have e32 : u 32 = .bool true := d32 rfl
                rw [HFX.out]
                simp only [e32]
                clear hp d32
                go_wp2_with fail
                exact ⟨_, by rw [HFX.out]; simp [upd, e32], rfl, HS.out, Below.refl _ _⟩
              intro u W hS hf
              have eE : u 33 = .bool true := hf 33 (by decide)
              rw [HFX.out]
              simp only [eE]
              clear eE hf HFX F
              have HW2 := Lib.hid (HW.out.trans (Below.mono hS HW.out.size))
              clear hS
              go_wp2
              go_roundw
              case rel => exact ⟨k + 1, by omega, by rw [HNX.out], by go_num, HW2⟩
              case measure => simp [intOf]; omega
            · obtain rfl : N = k := by omega
              have hall : (rs.take N).any (fun r => decide (namedL grs r.1 = xn) && decide (r.2 = xv)) = true := by
                rw [List.take_of_length_le (by rw [HN.out]; exact Nat.le_refl _), List.any_eq_true]
                have hm : (xn, xv) ∈ mergeR grs rs := by rw [← HRS.out]; exact List.mem_of_getElem? hxr
                obtain ⟨r, hr, he⟩ := mergeR_mem hm
                injection he with ez1 ez2
                exact ⟨r, hr, by rw [decide_eq_true ez1.symm, decide_eq_true ez2.symm]; rfl⟩
              rw [hall]
              clear hall hxr
              go_wp2
              go_roundw
              case rel => exact ⟨i + 1, by omega, by go_num, HW⟩
              case measure => simp [intOf]; omega
        · obtain rfl : xN = i := by omega
          have dle : decide ((xN : Int) ≤ (N : Int)) = true := decide_eq_true (by omega)
          have dle2 : decide (xN ≤ N) = true := decide_eq_true hcX
          go_wp2
          go_ret
          exact ⟨rfl, HB.out.trans (HW.out.mono HB.out.size)⟩
end Go.Proofs.YtknchlpcpgflkaaGreatDoor
