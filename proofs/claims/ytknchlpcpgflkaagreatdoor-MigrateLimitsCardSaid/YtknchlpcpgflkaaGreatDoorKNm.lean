/- MigrateLimits. -/
import Derived.Test.YtknchlpcpgflkaaGreatDoorKNd
import Derived.Test.YtknchlpcpgflkaaGreatDoorKGBW
import Derived.Test.YtknchlpcpgflkaaGreatDoorKGBA
import Derived.Test.YtknchlpcpgflkaaGreatDoorKGZA
import Derived.Test.YtknchlpcpgflkaaGreatDoorKGBS
import Derived.Test.YtknchlpcpgflkaaGreatDoorKWv
import Derived.Test.YtknchlpcpgflkaaGreatDoorKGBB
namespace Go.Proofs.YtknchlpcpgflkaaGreatDoor
open Go.RowKit Go.Shelf

set_option maxRecDepth 100000 in
set_option maxHeartbeats 16000000 in
theorem limits_walk (w : World) (ht : Tbs w) (z1 : Mt × MtX) (h1 : MtIn w z1) (z2 : Mg × MgX) (h2 : MgIn w z2) (z3 : Pc × PcX) (h3 : PcIn w z3) (z4 : Pc × PcX) (h4 : PcIn w z4) (day : Int) (_wd : (Lit.int .i64 day).wf = true) (C : Option Addr) (cc : Nat) (l : List Int) (hl : Ints w w.heap.size C l) :
    Calls Tryz.prog 3 #[.agg (mtC z1.1 z1.2), .agg (mgC z2.1 z2.2), .agg (pcC z3.1 z3.2), .agg (pcC z4.1 z4.2), .int .i64 day, .slice C l.length cc] w fun e w' => e = .returned (.bool true) ∧ Below w.heap.size w w' := by
  obtain ⟨m, x⟩ := z1
  obtain ⟨g, z⟩ := z2
  obtain ⟨p, y⟩ := z3
  obtain ⟨q, v⟩ := z4
  obtain ⟨hm, zm⟩ := h1
  obtain ⟨hg, zg⟩ := h2
  obtain ⟨hp, zp⟩ := h3
  obtain ⟨hq, zq⟩ := h4
  obtain ⟨hD, hw, hll⟩ := hl
  simp only at hm zm hg zg hp zp hq zq ⊢
  have hfew := fun W (hW : Below w.heap.size w W) => lfew_any W w.heap.size hW.size m x (hm.below hW) ⟨zm.1, zm.2.1, zm.2.2.1, zm.2.2.2.1⟩ g z (hg.below hW) zg p y (hp.below hW) zp q v (hq.below hW) zq C l.length cc hll
  have hhd := fun W (hW : Below w.heap.size w W) => head_any W (ht.below hW)
  have hap := fun W (hW : Below w.heap.size w W) (sm : Sml m) (sg : SmlG g) (sp : SmlP p) (sq : SmlP q) (hl2 : l.length ≤ 100) => gapply_any W (ht.below hW) w.heap.size m x (hm.below hW) hW.size sm g z (hg.below hW) sg p y (hp.below hW) sp q v (hq.below hW) sq day C l cc (hD.below hW) (by omega) hw
  have FM : Hid (FewL m g p q l.length → Sml m ∧ SmlG g ∧ SmlP p ∧ SmlP q ∧ l.length ≤ 100) := Lib.hid (fun h => ⟨h.1.sml, h.2.1.sml, h.2.2.1.sml, h.2.2.2.1.sml, h.2.2.2.2⟩)
  obtain ⟨E, hE⟩ : ∃ E, applyE m g p q day l = E := ⟨_, rfl⟩
  obtain ⟨a, ha⟩ : ∃ a, applyM m g p q day l = a := ⟨_, rfl⟩
  rw [hE, ha] at hap
  have HDI := Lib.hid hD
  have HWF := Lib.hid hw
  obtain ⟨PF, hPF⟩ : ∃ P, FewL m g p q l.length = P := ⟨_, rfl⟩
  rw [hPF] at hfew FM
  have HM := Lib.hid hm
  have HG := Lib.hid hg
  have HP := Lib.hid hp
  have HQ := Lib.hid hq
  have HE := Lib.hid hE
  have HA := Lib.hid ha
  clear hPF hE ha hm hg hp hq zm zg zp zq hD hw
  obtain ⟨id, o, cs, pr, st, mv, rs, ls⟩ := m
  obtain ⟨a1, c1, a2, c2, a3, c3, a4, c4, lv⟩ := x
  obtain ⟨fr, tn, gst, grs, gts⟩ := g
  obtain ⟨b1, dq1, b2, dq2, b3, dq3, tv⟩ := z
  obtain ⟨pn, pss, pms⟩ := p
  obtain ⟨ez1, f1, ez2, f2⟩ := y
  obtain ⟨qn, qss, qms⟩ := q
  obtain ⟨i1, j1, i2, j2⟩ := v
  obtain ⟨cl, hcl⟩ : ∃ k, cs.length = k := ⟨_, rfl⟩
  obtain ⟨k2, hk2⟩ : ∃ k, mv.length = k := ⟨_, rfl⟩
  obtain ⟨N, hN⟩ : ∃ k, rs.length = k := ⟨_, rfl⟩
  obtain ⟨K, hK⟩ : ∃ k, ls.length = k := ⟨_, rfl⟩
  obtain ⟨gn, hgn⟩ : ∃ k, gst.length = k := ⟨_, rfl⟩
  obtain ⟨grl, hgrl⟩ : ∃ k, grs.length = k := ⟨_, rfl⟩
  obtain ⟨J, hJ⟩ : ∃ k, gts.length = k := ⟨_, rfl⟩
  obtain ⟨pl, hpl⟩ : ∃ k, pss.length = k := ⟨_, rfl⟩
  obtain ⟨pml, hpml⟩ : ∃ k, pms.length = k := ⟨_, rfl⟩
  obtain ⟨ql, hql⟩ : ∃ k, qss.length = k := ⟨_, rfl⟩
  obtain ⟨qml, hqml⟩ : ∃ k, qms.length = k := ⟨_, rfl⟩
  have eM : mtC ⟨id, o, cs, pr, st, mv, rs, ls⟩ ⟨a1, c1, a2, c2, a3, c3, a4, c4, lv⟩ = #[.string id, .int .i64 o, .slice a1 cl c1, .string pr, .int .i64 st, .slice a2 k2 c2, .slice a3 N c3, .slice a4 K c4] := by unfold mtC; simp only [hcl, hk2, hN, hK]
  have eG : mgC ⟨fr, tn, gst, grs, gts⟩ ⟨b1, dq1, b2, dq2, b3, dq3, tv⟩ = #[.string fr, .string tn, .slice b1 gn dq1, .slice b2 grl dq2, .slice b3 J dq3] := by unfold mgC; simp only [hgn, hgrl, hJ]
  have eP : pcC ⟨pn, pss, pms⟩ ⟨ez1, f1, ez2, f2⟩ = #[.string pn, .slice ez1 pl f1, .slice ez2 pml f2] := by unfold pcC; simp only [hpl, hpml]
  have eQ : pcC ⟨qn, qss, qms⟩ ⟨i1, j1, i2, j2⟩ = #[.string qn, .slice i1 ql j1, .slice i2 qml j2] := by unfold pcC; simp only [hql, hqml]
  rw [eM, eG, eP, eQ] at hfew hap
  rw [eM, eG, eP, eQ]
  have FEW := Lib.hid hfew
  have HHD := Lib.hid hhd
  have HAP := Lib.hid hap
  have HT := Lib.hid ht
  have HCL := Lib.hid hcl
  have HK2 := Lib.hid hk2
  have HN := Lib.hid hN
  have HK := Lib.hid hK
  have HGN := Lib.hid hgn
  have HPL := Lib.hid hpl
  have HGRL := Lib.hid hgrl
  have HJ := Lib.hid hJ
  have HPML := Lib.hid hpml
  have HQL := Lib.hid hql
  have HQML := Lib.hid hqml
  clear eM eG eP eQ hfew hhd hap ht hcl hk2 hN hK hgn hgrl hJ hpl hpml hql hqml
  have hb := (((below_self_alloc w (.cells #[.string id, .int .i64 o, .slice a1 cl c1, .string pr, .int .i64 st, .slice a2 k2 c2, .slice a3 N c3, .slice a4 K c4] 27)).alloc (by simp) (.cells #[.string fr, .string tn, .slice b1 gn dq1, .slice b2 grl dq2, .slice b3 J dq3] 30)).alloc (by simp; omega) (.cells #[.string pn, .slice ez1 pl f1, .slice ez2 pml f2] 34)).alloc (by simp; omega) (.cells #[.string qn, .slice i1 ql j1, .slice i2 qml j2] 34)
  have kb0 := (((Blk.new w 27 #[.string id, .int .i64 o, .slice a1 cl c1, .string pr, .int .i64 st, .slice a2 k2 c2, .slice a3 N c3, .slice a4 K c4]).alloc (.cells #[.string fr, .string tn, .slice b1 gn dq1, .slice b2 grl dq2, .slice b3 J dq3] 30)).alloc (.cells #[.string pn, .slice ez1 pl f1, .slice ez2 pml f2] 34)).alloc (.cells #[.string qn, .slice i1 ql j1, .slice i2 qml j2] 34)
  have kb1 := ((Blk.new (w.alloc (.cells #[.string id, .int .i64 o, .slice a1 cl c1, .string pr, .int .i64 st, .slice a2 k2 c2, .slice a3 N c3, .slice a4 K c4] 27)) 30 #[.string fr, .string tn, .slice b1 gn dq1, .slice b2 grl dq2, .slice b3 J dq3]).alloc (.cells #[.string pn, .slice ez1 pl f1, .slice ez2 pml f2] 34)).alloc (.cells #[.string qn, .slice i1 ql j1, .slice i2 qml j2] 34)
  rw [show ((w.alloc (.cells #[.string id, .int .i64 o, .slice a1 cl c1, .string pr, .int .i64 st, .slice a2 k2 c2, .slice a3 N c3, .slice a4 K c4] 27))).heap.size = w.heap.size + 1 from by simp] at kb1
  have kb2 := (Blk.new ((w.alloc (.cells #[.string id, .int .i64 o, .slice a1 cl c1, .string pr, .int .i64 st, .slice a2 k2 c2, .slice a3 N c3, .slice a4 K c4] 27)).alloc (.cells #[.string fr, .string tn, .slice b1 gn dq1, .slice b2 grl dq2, .slice b3 J dq3] 30)) 34 #[.string pn, .slice ez1 pl f1, .slice ez2 pml f2]).alloc (.cells #[.string qn, .slice i1 ql j1, .slice i2 qml j2] 34)
  rw [show (((w.alloc (.cells #[.string id, .int .i64 o, .slice a1 cl c1, .string pr, .int .i64 st, .slice a2 k2 c2, .slice a3 N c3, .slice a4 K c4] 27)).alloc (.cells #[.string fr, .string tn, .slice b1 gn dq1, .slice b2 grl dq2, .slice b3 J dq3] 30))).heap.size = w.heap.size + 1 + 1 from by simp] at kb2
  have kb3 := Blk.new (((w.alloc (.cells #[.string id, .int .i64 o, .slice a1 cl c1, .string pr, .int .i64 st, .slice a2 k2 c2, .slice a3 N c3, .slice a4 K c4] 27)).alloc (.cells #[.string fr, .string tn, .slice b1 gn dq1, .slice b2 grl dq2, .slice b3 J dq3] 30)).alloc (.cells #[.string pn, .slice ez1 pl f1, .slice ez2 pml f2] 34)) 34 #[.string qn, .slice i1 ql j1, .slice i2 qml j2]
  rw [show ((((w.alloc (.cells #[.string id, .int .i64 o, .slice a1 cl c1, .string pr, .int .i64 st, .slice a2 k2 c2, .slice a3 N c3, .slice a4 K c4] 27)).alloc (.cells #[.string fr, .string tn, .slice b1 gn dq1, .slice b2 grl dq2, .slice b3 J dq3] 30)).alloc (.cells #[.string pn, .slice ez1 pl f1, .slice ez2 pml f2] 34))).heap.size = w.heap.size + 1 + 1 + 1 from by simp] at kb3
  have KB0 := Lib.hid kb0
  have KB1 := Lib.hid kb1
  have KB2 := Lib.hid kb2
  have KB3 := Lib.hid kb3
  have HB := Lib.hid hb
  clear hb kb0 kb1 kb2 kb3
  go_enter Tryz.func3, Tryz.ntmps3
  go_upto_region 1 with fail
  generalize ((((w.alloc (.cells #[.string id, .int .i64 o, .slice a1 cl c1, .string pr, .int .i64 st, .slice a2 k2 c2, .slice a3 N c3, .slice a4 K c4] 27)).alloc (.cells #[.string fr, .string tn, .slice b1 gn dq1, .slice b2 grl dq2, .slice b3 J dq3] 30)).alloc (.cells #[.string pn, .slice ez1 pl f1, .slice ez2 pml f2] 34)).alloc (.cells #[.string qn, .slice i1 ql j1, .slice i2 qml j2] 34)) = W0 at *
  go_wp2_with fail
  refine (HHD.out W0 HB.out).mono ?_
  rintro e W1 ⟨rfl, bb⟩
  replace HB := Lib.hid (HB.out.trans (bb.mono HB.out.size))
  replace KB0 := Lib.hid (KB0.out.below bb KB0.out.lt)
  replace KB1 := Lib.hid (KB1.out.below bb KB1.out.lt)
  replace KB2 := Lib.hid (KB2.out.below bb KB2.out.lt)
  replace KB3 := Lib.hid (KB3.out.below bb KB3.out.lt)
  clear bb
  obtain ⟨t00, t01, t02⟩ := KB0.out.all
  obtain ⟨t10, t11, t12⟩ := KB1.out.all
  obtain ⟨t20, t21, t22⟩ := KB2.out.all
  obtain ⟨t30, t31, t32⟩ := KB3.out.all
  go_wp2_with fail
  refine (FEW.out W1 HB.out).mono ?_
  rintro e W2 ⟨qf, rfl, hqf, bb⟩
  clear t00 t01 t02 t10 t11 t12 t20 t21 t22 t30 t31 t32
  replace HB := Lib.hid (HB.out.trans (bb.mono HB.out.size))
  replace KB0 := Lib.hid (KB0.out.below bb KB0.out.lt)
  replace KB1 := Lib.hid (KB1.out.below bb KB1.out.lt)
  replace KB2 := Lib.hid (KB2.out.below bb KB2.out.lt)
  replace KB3 := Lib.hid (KB3.out.below bb KB3.out.lt)
  clear bb
  cases qf with
  | false =>
    go_wp2
    go_ret
    exact ⟨rfl, HB.out⟩
  | true =>
  obtain ⟨sm, sg, sp, sq, sl⟩ := FM.out (hqf rfl)
  have SM := Lib.hid sm
  have SG := Lib.hid sg
  have SP := Lib.hid sp
  have SQ := Lib.hid sq
  have SL := Lib.hid sl
  clear sm sg sp sq sl hqf
  obtain ⟨t00, t01, t02⟩ := KB0.out.all
  obtain ⟨t10, t11, t12⟩ := KB1.out.all
  obtain ⟨t20, t21, t22⟩ := KB2.out.all
  obtain ⟨t30, t31, t32⟩ := KB3.out.all
  go_wp2_with fail
  refine (HAP.out W2 HB.out SM.out SG.out SP.out SQ.out SL.out).mono ?_
  rintro e W3 ⟨⟨x1, y1, x2, y2, x3, y3, x4, y4, xlv⟩, he, hat, bb⟩
  obtain ⟨xid, xo, xcs, xpr, xst, xmv, xrs, xls⟩ := a
  obtain ⟨xcl, hxcl⟩ : ∃ k, xcs.length = k := ⟨_, rfl⟩
  obtain ⟨xk, hxk⟩ : ∃ k, xmv.length = k := ⟨_, rfl⟩
  obtain ⟨xN, hxN⟩ : ∃ k, xrs.length = k := ⟨_, rfl⟩
  obtain ⟨xK, hxK⟩ : ∃ k, xls.length = k := ⟨_, rfl⟩
  have eA : mtC ⟨xid, xo, xcs, xpr, xst, xmv, xrs, xls⟩ ⟨x1, y1, x2, y2, x3, y3, x4, y4, xlv⟩ = #[.string xid, .int .i64 xo, .slice x1 xcl y1, .string xpr, .int .i64 xst, .slice x2 xk y2, .slice x3 xN y3, .slice x4 xK y4] := by unfold mtC; simp only [hxcl, hxk, hxN, hxK]
  rw [eA] at he
  subst he
  have HAT := Lib.hid hat
  have HXCL := Lib.hid hxcl
  have HXK := Lib.hid hxk
  have HXN := Lib.hid hxN
  have HXK2 := Lib.hid hxK
  clear eA hat hxcl hxk hxN hxK
  clear t00 t01 t02 t10 t11 t12 t20 t21 t22 t30 t31 t32
  replace HB := Lib.hid (HB.out.trans (bb.mono HB.out.size))
  replace KB0 := Lib.hid (KB0.out.below bb KB0.out.lt)
  replace KB1 := Lib.hid (KB1.out.below bb KB1.out.lt)
  replace KB2 := Lib.hid (KB2.out.below bb KB2.out.lt)
  replace KB3 := Lib.hid (KB3.out.below bb KB3.out.lt)
  clear bb
  go_upto_region 5 with fail
  have KA := Lib.hid (Blk.new W3 27 #[.string xid, .int .i64 xo, .slice x1 xcl y1, .string xpr, .int .i64 xst, .slice x2 xk y2, .slice x3 xN y3, .slice x4 xK y4])
  have ba := below_self_alloc W3 (.cells #[.string xid, .int .i64 xo, .slice x1 xcl y1, .string xpr, .int .i64 xst, .slice x2 xk y2, .slice x3 xN y3, .slice x4 xK y4] 27)
  generalize hW4 : W3.alloc (.cells #[.string xid, .int .i64 xo, .slice x1 xcl y1, .string xpr, .int .i64 xst, .slice x2 xk y2, .slice x3 xN y3, .slice x4 xK y4] 27) = W4 at *
  have bb := ba
  replace HB := Lib.hid (HB.out.trans (bb.mono HB.out.size))
  replace KB0 := Lib.hid (KB0.out.below bb KB0.out.lt)
  replace KB1 := Lib.hid (KB1.out.below bb KB1.out.lt)
  replace KB2 := Lib.hid (KB2.out.below bb KB2.out.lt)
  replace KB3 := Lib.hid (KB3.out.below bb KB3.out.lt)
  clear bb
  replace HAT := Lib.hid (HAT.out.below ba)
  have HBA := Lib.hid ba
  clear ba hW4
  generalize W3.heap.size = ba at *
  by_cases hE0 : E = 0
  case neg =>
    have hz : applyM ⟨id, o, cs, pr, st, mv, rs, ls⟩ ⟨fr, tn, gst, grs, gts⟩ ⟨pn, pss, pms⟩ ⟨qn, qss, qms⟩ day l = Mt.zero := apply_no (by rw [HE.out]; exact hE0)
    rw [HA.out] at hz
    clear hz
    go_wp2
    go_ret
    exact ⟨rfl, HB.out⟩
  subst hE0
  obtain ⟨hap1, -, -, -, hce, heq⟩ := apply_ok HE.out
  rw [HA.out] at heq
  simp only [Mt.mk.injEq] at heq
  obtain ⟨-, -, -, -, -, -, -, q8⟩ := heq
  simp only at hce
  obtain ⟨hv, -, -, -, hdy⟩ := apB_iff.1 hap1
  obtain ⟨hmg, -⟩ := vdB_iff.1 hv
  have hdif := difB_iff.1 (mgB_iff.1 hmg).2.2.2.2.2
  simp only at hdif
  obtain ⟨hd0, hd1⟩ := (isB_iff _).1 hdy
  have hcK : K ≤ 1000000 := by rw [← HK.out]; exact SM.out.2.2.2
  have hcJ : J ≤ 1000000 := by rw [← HJ.out]; exact SG.out.2.2
  have hKK : K = xK := by rw [← HXK2.out, q8, ← HK.out]; unfold chgL; rw [List.length_map]
  subst hKK
  have hlv : lv.map (·.1) = ls := HM.out.lv
  have htv : tv.map (·.1) = gts := HG.out.tv
  have hxv : xlv.map (·.1) = xls := HAT.out.lv
  have hlvl : lv.length = K := by have := congrArg List.length hlv; rw [List.length_map] at this; rw [this]; exact HK.out
  have htvl : tv.length = J := by have := congrArg List.length htv; rw [List.length_map] at this; rw [this]; exact HJ.out
  have hxvl : xlv.length = K := by have := congrArg List.length hxv; rw [List.length_map] at this; rw [this]; exact HXK2.out
  have HCE : Hid (∀ x ∈ ls, (chgS gts day l x).2 = 0) := Lib.hid (chgE_zero.1 hce)
  have HXY : Hid (∀ (i : Nat) (x y : LmV), lv[i]? = some x → xlv[i]? = some y → y.1 = (chgS gts day l x.1).1) := Lib.hid (by
    intro i x y hx hy
    have h1 : xls[i]? = some y.1 := by rw [← hxv, List.getElem?_map, hy]; rfl
    have h2 : ls[i]? = some x.1 := by rw [← hlv, List.getElem?_map, hx]; rfl
    rw [q8] at h1
    unfold chgL at h1
    rw [List.getElem?_map, h2] at h1
    injection h1 with h1
    exact h1.symm)
  have HLV := Lib.hid hlv
  have HTV := Lib.hid htv
  have HLVL := Lib.hid hlvl
  have HTVL := Lib.hid htvl
  have HXVL := Lib.hid hxvl
  have HDIF := Lib.hid hdif
  have HBZ : Hid (ba ≤ W4.heap.size) := Lib.hid (Nat.le_of_lt KA.out.lt)
  clear hap1 hce q8 hv hdy hmg hdif hlv htv hxv hlvl htvl hxvl
  obtain ⟨t00, t01, t02⟩ := KB0.out.all
  obtain ⟨ta0, ta1, ta2⟩ := KA.out.all
  go_upto_region 9 with fail
  go_cut [16] from 23 (fun v wx => v = .int .i64 0 ∧ wx = W4)
  case first =>
    go_wp2_with fail
    go_meet
    case rel => exact ⟨rfl, rfl⟩
  case rest =>
  obtain ⟨rfl, hcut⟩ := hcut
  replace hcut := hcut.symm
  subst hcut
  go_wp2_with fail
  go_loopw [16] (fun v wr => ∃ k : Nat, k ≤ K ∧ v = .int .i64 (k : Int) ∧ Hid (Below W4.heap.size W4 wr)) (fun v _ => K - (intOf v).toNat)
  case atStart => exact ⟨0, Nat.zero_le _, rfl, Lib.hid (Below.refl _ _)⟩
  case round =>
    clear t00 t01 t02 ta0 ta1 ta2
    obtain ⟨k, hk, rfl, HW⟩ := hrel
    obtain ⟨wo, rfl⟩ : ∃ q, q = wr := ⟨wr, rfl⟩
    obtain ⟨t00, t01, t02⟩ := (KB0.out.below HW.out KB0.out.lt).all
    obtain ⟨t10, t11, t12⟩ := (KB1.out.below HW.out KB1.out.lt).all
    by_cases hlt : k < K
    · obtain ⟨x, hx⟩ : ∃ x, lv[k]? = some x := ⟨_, List.getElem?_eq_getElem (by rw [HLVL.out]; exact hlt)⟩
      obtain ⟨y, hy⟩ : ∃ y, xlv[k]? = some y := ⟨_, List.getElem?_eq_getElem (by rw [HXVL.out]; exact hlt)⟩
      have hxy := HXY.out k x y hx hy
      have hce := HCE.out x.1 (by rw [← HLV.out]; exact List.mem_map.2 ⟨x, List.mem_of_getElem? hx, rfl⟩)
      have HX := Lib.hid hx
      have HY := Lib.hid hy
      have HXY1 := Lib.hid hxy
      have HCE1 := Lib.hid hce
      clear hx hy hxy hce
      go_wp2_with fail
      go_loopw [17, 18] (fun f v wr => ∃ j : Nat, j ≤ J ∧ f = .int .i64 (leastL x.1.id (-1) (tv.take j)) ∧ v = .int .i64 (j : Int) ∧ Hid (Below W4.heap.size W4 wr)) (fun _ v _ => J - (intOf v).toNat)
      case atStart => exact ⟨0, Nat.zero_le _, rfl, rfl, HW⟩
      case round =>
        clear HW t00 t01 t02 t10 t11 t12
        obtain ⟨j, hj, rfl, rfl, HW⟩ := hrel
        obtain ⟨t00, t01, t02⟩ := (KB0.out.below HW.out KB0.out.lt).all
        obtain ⟨t10, t11, t12⟩ := (KB1.out.below HW.out KB1.out.lt).all
        by_cases hlj : j < J
        · obtain ⟨t, htt⟩ : ∃ t, tv[j]? = some t := ⟨_, List.getElem?_eq_getElem (by rw [HTVL.out]; exact hlj)⟩
          obtain ⟨g5, o5, hA5, hg5, p0, p1, p2, p3, p4, -⟩ := (HM.out.ls.below (HB.out.trans (HW.out.mono HB.out.size))) k x HX.out
          have hA5 : a4 = some ⟨g5, o5, none⟩ := hA5
          subst hA5
          obtain ⟨g6, o6, hA6, hg6, q0, q1, q2, q3, q4, -⟩ := (HG.out.ts.below (HB.out.trans (HW.out.mono HB.out.size))) j t htt
          have hA6 : b3 = some ⟨g6, o6, none⟩ := hA6
          subst hA6
          have hnx := leastL_take (id := x.1.id) (a := -1) htt
          obtain ⟨lst, hlst⟩ : ∃ v, leastL x.1.id (-1) (tv.take j) = v := ⟨_, rfl⟩
          rw [hlst] at hnx ⊢
          have ib0 : (0 : Int) ≤ (j : Int) := by omega
          have ib1 : (j : Int) < (J : Int) := by omega
          have ic0 : (0 : Int) ≤ (k : Int) := by omega
          have ic1 : (k : Int) < (K : Int) := by omega
          clear hlst htt p1 p2 p3 p4 q1 q2 q4
          by_cases h1 : t.1.id = x.1.id
          · have HNX : Hid (_ = t.1.f) := Lib.hid (hnx.trans (if_pos h1))
            have es5 : (t.1.id.toList == x.1.id.toList) = true := by rw [h1]; simp
            clear hnx h1
            go_upto_region 16 with fail
            go_quiet (fail)
            have HW2 := Lib.hid (Lim.below_dN HW.out nq)
            have q3' : (wr.drewN nq).cell? ⟨g6, o6 + j * 5 + 3, none⟩ = some (.int .i64 t.1.f) := q3
            obtain ⟨t10', t11', t12'⟩ := (KB1.out.below HW2.out KB1.out.lt).all
            go_wp2
            go_roundw
            case rel => exact ⟨j + 1, by omega, by rw [HNX.out], by go_num, HW2⟩
            case measure => simp [intOf]; omega
          · have HNX : Hid (_ = lst) := Lib.hid (hnx.trans (if_neg h1))
            have es5 := str_no h1
            clear hnx h1 q3
            go_upto_region 16 with fail
            go_quiet (fail)
            have HW2 := Lib.hid (Lim.below_dN HW.out nq)
            go_wp2
            go_roundw
            case rel => exact ⟨j + 1, by omega, by rw [HNX.out], by go_num, HW2⟩
            case measure => simp [intOf]; omega
        · obtain rfl : J = j := by omega
          rw [show tv.take J = tv from List.take_of_length_le (by rw [HTVL.out]; exact Nat.le_refl _)]
          have nb : ¬ (J : Int) < (J : Int) := by omega
          go_upto_region 18 with fail
          clear t00 t01 t02 t10 t11 t12 nb
          obtain ⟨g5, o5, hA5, hg5, p0, p1, p2, p3, p4, hlx⟩ := (HM.out.ls.below (HB.out.trans (HW.out.mono HB.out.size))) k x HX.out
          have hA5 : a4 = some ⟨g5, o5, none⟩ := hA5
          subst hA5
          obtain ⟨g6, o6, hA6, hg6, q0, q1, q2, q3, q4, hly⟩ := (HAT.out.ls.below (HW.out.mono HBZ.out)) k y HY.out
          have hA6 : x4 = some ⟨g6, o6, none⟩ := hA6
          subst hA6
          have P0 := Lib.hid p0
          have P1 := Lib.hid p1
          have P2 := Lib.hid p2
          have P3 := Lib.hid p3
          have P4 := Lib.hid p4
          have Q0 := Lib.hid q0
          have Q1 := Lib.hid q1
          have Q2 := Lib.hid q2
          have Q3 := Lib.hid q3
          have Q4 := Lib.hid q4
          have PGL : Hid (g5 < wr.heap.size) := Lib.hid (Nat.lt_of_lt_of_le hg5 (HB.out.trans (HW.out.mono HB.out.size)).size)
          have QGL : Hid (g6 < wr.heap.size) := Lib.hid (Nat.lt_of_lt_of_le hg6 (Nat.le_trans HBZ.out HW.out.size))
          have HLX : Hid (LmAt wr wr.heap.size x.2.1 x.1) := Lib.hid (hlx.wide (HB.out.trans (HW.out.mono HB.out.size)).size)
          have HLY : Hid (LmAt wr wr.heap.size y.2.1 y.1) := Lib.hid (hly.wide (Nat.le_trans HBZ.out HW.out.size))
          have hsm : y.1 = x.1 → ∀ V, PSv wr V → Calls Tryz.prog 13 #[.agg #[.string y.1.id, .int .i64 y.1.n, .int .i64 y.1.u, .int .i64 y.1.f, .slice y.2.1 y.1.S.length y.2.2], .agg #[.string x.1.id, .int .i64 x.1.n, .int .i64 x.1.u, .int .i64 x.1.f, .slice x.2.1 x.1.S.length x.2.2]] V fun e w' => e = .returned (.bool true) ∧ Below V.heap.size V w' := fun he V hV => rsameL_any V wr.heap.size y.1 x.1 y.2.1 x.2.1 y.2.2 x.2.2 (HLY.out.below hV) (HLX.out.below hV) (Below.size hV) true ⟨fun _ => he, fun _ => rfl⟩
          replace KB0 := Lib.hid (KB0.out.below HW.out KB0.out.lt)
          replace KA := Lib.hid (KA.out.below HW.out KA.out.lt)
          have hcg := HCE1.out
          have hxy := HXY1.out
          unfold chgS at hcg hxy
          obtain ⟨lst, hlst⟩ : ∃ v, leastL x.1.id (-1) tv = v := ⟨_, rfl⟩
          rw [hlst]
          clear p0 p1 p2 p3 p4 q0 q1 q2 q3 q4 hlx hly
          cases hto : termOf gts x.1.id with
          | none =>
            rw [hto] at hxy
            replace hxy : y.1 = x.1 := hxy
            have CSM := Lib.hid (hsm hxy)
            have hl1 : lst = -1 := by
              rw [← hlst]
              exact leastL_none fun t ht he => termOf_no2 hto t.1 (by rw [← HTV.out]; exact List.mem_map.2 ⟨t, ht, rfl⟩) he
            subst hl1
            clear hto hxy hsm hcg hlst
            go_upto_region 19 with fail
            refine wp_region_rg2 (PSv wr) RB ([isV (.pointer (some ⟨ba, 7, none⟩)), isV (.slice (some ⟨g6, o6, none⟩) K y4), isV (.int .i64 (k : Int)), isV (.pointer (some ⟨g6, o6 + k * 5, none⟩)), isV (.agg #[.string y.1.id, .int .i64 y.1.n, .int .i64 y.1.u, .int .i64 y.1.f, .slice y.2.1 y.1.S.length y.2.2]), isV (.pointer (some ⟨w.heap.size, 7, none⟩)), isV (.slice (some ⟨g5, o5, none⟩) K c4), isV (.int .i64 (k : Int)), isV (.pointer (some ⟨g5, o5 + k * 5, none⟩)), isV (.agg #[.string x.1.id, .int .i64 x.1.n, .int .i64 x.1.u, .int .i64 x.1.f, .slice x.2.1 x.1.S.length x.2.2]), isV (.bool true), isV (.bool false)]) [0, 1, 2, 3, 4, 5, 6, 7, 8, 9, 10, 11] (by kernel_rfl) (by kernel_rfl) (by kernel_rfl) (below_drewM wr) ⟨isV_mono _, isV_mono _, isV_mono _, isV_mono _, isV_mono _, isV_mono _, isV_mono _, isV_mono _, isV_mono _, isV_mono _, isV_mono _, isV_mono _, trivial⟩ ?_
            intro F hF
            simp only [putAll, List.map_cons, List.map_nil, Act.put, List.setIfInBounds_toArray, List.set_cons_succ, List.set_cons_zero] at hF
            have HFX := Lib.hid hF
            clear hF
            refine ⟨fun Q' => ⟨?_, ?_, ?_, ?_, ?_, ?_, ?_, ?_, ?_, ?_, ?_, ?_, trivial⟩, ?_⟩
            · intro u W hS hd hp
              have HS := Lib.hid hS
              clear hS
              rw [HFX.out]
              clear hd hp 
              go_wp2_with fail
              exact ⟨_, by rw [HFX.out]; simp [upd], rfl, HS.out, Below.refl _ _⟩
            · intro u W hS hd hp
              have HS := Lib.hid hS
              clear hS
              obtain ⟨d0, -⟩ := hd
              have e0 : u 0 = .pointer (some ⟨ba, 7, none⟩) := d0 rfl
              rw [HFX.out]
              simp only [e0]
              clear hp d0
              obtain ⟨r0, r1, r2⟩ := (KA.out.below HS.out KA.out.lt).all
              go_wp2_with fail
              exact ⟨_, by rw [HFX.out]; simp [upd, e0], rfl, HS.out, Below.refl _ _⟩
            · intro u W hS hd hp
              have HS := Lib.hid hS
              clear hS
              rw [HFX.out]
              clear hd hp 
              go_wp2_with fail
              exact ⟨_, by rw [HFX.out]; simp [upd], rfl, HS.out, Below.refl _ _⟩
            · intro u W hS hd hp
              have HS := Lib.hid hS
              clear hS
              obtain ⟨d1, d2, -⟩ := hd
              have e1 : u 1 = .slice (some ⟨g6, o6, none⟩) K y4 := d1 rfl
              have e2 : u 2 = .int .i64 (k : Int) := d2 rfl
              rw [HFX.out]
              simp only [e1, e2]
              clear hp d1 d2
              have ib0 : (0 : Int) ≤ (k : Int) := by omega
              have ib1 : (k : Int) < (K : Int) := by omega
              go_wp2_with fail
              exact ⟨_, by rw [HFX.out]; simp [upd, e1, e2], rfl, HS.out, Below.refl _ _⟩
            · intro u W hS hd hp
              have HS := Lib.hid hS
              clear hS
              obtain ⟨d3, -⟩ := hd
              have e3 : u 3 = .pointer (some ⟨g6, o6 + k * 5, none⟩) := d3 rfl
              rw [HFX.out]
              simp only [e3]
              clear hp d3
              have r0 := (HS.out.cell (p := ⟨g6, o6 + k * 5, none⟩) (by have := QGL.out; omega)).trans Q0.out
              have r1 := (HS.out.cell (p := ⟨g6, o6 + k * 5 + 1, none⟩) (by have := QGL.out; omega)).trans Q1.out
              have r2 := (HS.out.cell (p := ⟨g6, o6 + k * 5 + 2, none⟩) (by have := QGL.out; omega)).trans Q2.out
              have r3 := (HS.out.cell (p := ⟨g6, o6 + k * 5 + 3, none⟩) (by have := QGL.out; omega)).trans Q3.out
              have r4 := (HS.out.cell (p := ⟨g6, o6 + k * 5 + 4, none⟩) (by have := QGL.out; omega)).trans Q4.out
              go_wp2_with fail
              exact ⟨_, by rw [HFX.out]; simp [upd, e3], rfl, HS.out, Below.refl _ _⟩
            · intro u W hS hd hp
              have HS := Lib.hid hS
              clear hS
              rw [HFX.out]
              clear hd hp 
              go_wp2_with fail
              exact ⟨_, by rw [HFX.out]; simp [upd], rfl, HS.out, Below.refl _ _⟩
            · intro u W hS hd hp
              have HS := Lib.hid hS
              clear hS
              obtain ⟨d5, -⟩ := hd
              have e5 : u 5 = .pointer (some ⟨w.heap.size, 7, none⟩) := d5 rfl
              rw [HFX.out]
              simp only [e5]
              clear hp d5
              obtain ⟨r0, r1, r2⟩ := (KB0.out.below HS.out KB0.out.lt).all
              go_wp2_with fail
              exact ⟨_, by rw [HFX.out]; simp [upd, e5], rfl, HS.out, Below.refl _ _⟩
            · intro u W hS hd hp
              have HS := Lib.hid hS
              clear hS
              rw [HFX.out]
              clear hd hp 
              go_wp2_with fail
              exact ⟨_, by rw [HFX.out]; simp [upd], rfl, HS.out, Below.refl _ _⟩
            · intro u W hS hd hp
              have HS := Lib.hid hS
              clear hS
              obtain ⟨d6, d7, -⟩ := hd
              have e6 : u 6 = .slice (some ⟨g5, o5, none⟩) K c4 := d6 rfl
              have e7 : u 7 = .int .i64 (k : Int) := d7 rfl
              rw [HFX.out]
              simp only [e6, e7]
              clear hp d6 d7
              have ib0 : (0 : Int) ≤ (k : Int) := by omega
              have ib1 : (k : Int) < (K : Int) := by omega
              go_wp2_with fail
              exact ⟨_, by rw [HFX.out]; simp [upd, e6, e7], rfl, HS.out, Below.refl _ _⟩
            · intro u W hS hd hp
              have HS := Lib.hid hS
              clear hS
              obtain ⟨d8, -⟩ := hd
              have e8 : u 8 = .pointer (some ⟨g5, o5 + k * 5, none⟩) := d8 rfl
              rw [HFX.out]
              simp only [e8]
              clear hp d8
              have r0 := (HS.out.cell (p := ⟨g5, o5 + k * 5, none⟩) (by have := PGL.out; omega)).trans P0.out
              have r1 := (HS.out.cell (p := ⟨g5, o5 + k * 5 + 1, none⟩) (by have := PGL.out; omega)).trans P1.out
              have r2 := (HS.out.cell (p := ⟨g5, o5 + k * 5 + 2, none⟩) (by have := PGL.out; omega)).trans P2.out
              have r3 := (HS.out.cell (p := ⟨g5, o5 + k * 5 + 3, none⟩) (by have := PGL.out; omega)).trans P3.out
              have r4 := (HS.out.cell (p := ⟨g5, o5 + k * 5 + 4, none⟩) (by have := PGL.out; omega)).trans P4.out
              go_wp2_with fail
              exact ⟨_, by rw [HFX.out]; simp [upd, e8], rfl, HS.out, Below.refl _ _⟩
            · intro u W hS hd hp
              have HS := Lib.hid hS
              clear hS
              obtain ⟨d4, d9, -⟩ := hd
              have e4 : u 4 = .agg #[.string y.1.id, .int .i64 y.1.n, .int .i64 y.1.u, .int .i64 y.1.f, .slice y.2.1 y.1.S.length y.2.2] := d4 rfl
              have e9 : u 9 = .agg #[.string x.1.id, .int .i64 x.1.n, .int .i64 x.1.u, .int .i64 x.1.f, .slice x.2.1 x.1.S.length x.2.2] := d9 rfl
              rw [HFX.out]
              simp only [e4, e9]
              clear hp d4 d9
              have HC := Lib.hid (CSM.out W HS.out)
              go_wp2_with fail
              refine HC.out.mono ?_
              rintro e W2 ⟨rfl, b2⟩
              go_wp2_with fail
              exact ⟨_, by rw [HFX.out]; simp [upd, e4, e9], rfl, PSv.go HS.out b2, b2⟩
            · intro u W hS hd hp
              have HS := Lib.hid hS
              clear hS
              obtain ⟨d10, -⟩ := hd
              have e10 : u 10 = .bool true := d10 rfl
              rw [HFX.out]
              simp only [e10]
              clear hp d10
              go_wp2_with fail
              exact ⟨_, by rw [HFX.out]; simp [upd, e10], rfl, HS.out, Below.refl _ _⟩
            intro u W hS hf
            have eE : u 11 = .bool false := hf 11 (by decide)
            rw [HFX.out]
            simp only [eE]
            clear eE hf HFX F
            have HW2 := Lib.hid (HW.out.trans (Below.mono hS HW.out.size))
            clear hS
            go_wp2
            go_roundw
            case rel => exact ⟨k + 1, by omega, by go_num, HW2⟩
            case measure => simp [intOf]; omega
          | some t =>
            rw [hto] at hxy hcg
            simp only at hxy hcg
            have hl1 : lst = t.f := by rw [← hlst]; exact leastL_some HTV.out HDIF.out.2.1 hto
            have hdu1 := fun V (hV : PSv wr V) => due_any V x.1 wr.heap.size x.2.1 x.2.2 (HLX.out.below hV) (Below.size hV) C l cc ((HDI.out.below (HB.out.trans ((HW.out.trans (Below.mono hV HW.out.size)).mono HB.out.size))).wide (Nat.le_trans (HB.out.trans (HW.out.mono HB.out.size)).size (Nat.le_refl _))) (by have := SL.out; omega) HWF.out
            have hdu2 := fun V (hV : PSv wr V) => due_any V y.1 wr.heap.size y.2.1 y.2.2 (HLY.out.below hV) (Below.size hV) C l cc ((HDI.out.below (HB.out.trans ((HW.out.trans (Below.mono hV HW.out.size)).mono HB.out.size))).wide (Nat.le_trans (HB.out.trans (HW.out.mono HB.out.size)).size (Nat.le_refl _))) (by have := SL.out; omega) HWF.out
            obtain ⟨was, hwas⟩ : ∃ v, (dueS x.1 l).1 = v := ⟨_, rfl⟩
            obtain ⟨now, hnow⟩ : ∃ v, (dueS y.1 l).1 = v := ⟨_, rfl⟩
            rw [hwas] at hdu1
            rw [hnow] at hdu2
            have hkeep : (dueS x.1 l).2 = 0 ∧ (dueS y.1 l).2 = 0 ∧ y.1.id = x.1.id ∧ ((was < day ∧ y.1 = x.1) ∨ (¬ was < day ∧ day + lst ≤ now)) ∧ 0 ≤ lst ∧ lst ≤ 1000000 := by
              have hlb : tmB t = true := HDIF.out.1 t (List.mem_of_find?_eq_some hto)
              rw [hl1, ← hwas, ← hnow]
              unfold tmB at hlb
              rw [Bool.and_eq_true] at hlb
              obtain ⟨hlb, -⟩ := hlb
              rcases change_cases x.1 day t.n t.u t.f l with ⟨f, hf, he⟩ | ⟨c1', c2', he⟩ | ⟨c1', c2', -, -, c5', c6', N', U', F', he, c8', c9', -⟩
              · rw [he] at hcg; exact absurd hcg hf
              · rw [he] at hxy
                have hxy : y.1 = x.1 := hxy
                rw [hxy]
                have hpf := (isB_iff _).1 (prB_iff.1 hlb).2.1
                exact ⟨c1', c1', rfl, .inl ⟨c2', rfl⟩, hpf.1, hpf.2⟩
              · rw [he] at hxy
                have hxy : y.1 = ⟨x.1.id, N', U', F', x.1.S⟩ := hxy
                rw [hxy]
                exact ⟨c1', c8', rfl, .inr ⟨c2', c9'⟩, c5', c6'⟩
            obtain ⟨k1, k2', k3, k4, k5, k6⟩ := hkeep
            rw [k1] at hdu1
            rw [k2'] at hdu2
            have hdu1 : ∀ V, PSv wr V → Calls Tryz.prog 14 #[.agg #[.string x.1.id, .int .i64 x.1.n, .int .i64 x.1.u, .int .i64 x.1.f, .slice x.2.1 x.1.S.length x.2.2], .slice C l.length cc] V fun e w' => e = .returned (.tuple #[.int .i64 was, .int .i64 0]) ∧ Below V.heap.size V w' := hdu1
            have hdu2 : ∀ V, PSv wr V → Calls Tryz.prog 14 #[.agg #[.string y.1.id, .int .i64 y.1.n, .int .i64 y.1.u, .int .i64 y.1.f, .slice y.2.1 y.1.S.length y.2.2], .slice C l.length cc] V fun e w' => e = .returned (.tuple #[.int .i64 now, .int .i64 0]) ∧ Below V.heap.size V w' := hdu2
            have DU1 := Lib.hid hdu1
            have DU2 := Lib.hid hdu2
            have EID : Hid ((y.1.id.toList == x.1.id.toList) = true) := Lib.hid (by rw [k3]; simp)
            have EWR : Hid (wrap64 (day + lst) = day + lst) := Lib.hid (by unfold wrap64; omega)
            have K4' := Lib.hid k4
            have HSM := Lib.hid hsm
            have el0 : decide (lst < 0) = false := decide_eq_false (by omega)
            clear hto hxy hcg hl1 hdu1 hdu2 hwas hnow k1 k2' k3 k4 hsm hlst
            obtain ⟨t00, t01, t02⟩ := KB0.out.all
            have r0 := P0.out
            have r1 := P1.out
            have r2 := P2.out
            have r3 := P3.out
            have r4 := P4.out
            have ib0 : (0 : Int) ≤ (k : Int) := by omega
            have ib1 : (k : Int) < (K : Int) := by omega
            go_wp2_with fail
            refine (DU1.out wr (Below.refl _ _)).mono ?_
            rintro e V1 ⟨rfl, bb⟩
            clear t00 t01 t02 r0 r1 r2 r3 r4
            obtain ⟨ta0, ta1, ta2⟩ := (KA.out.below bb KA.out.lt).all
            have r0 := (bb.cell (p := ⟨g6, o6 + k * 5, none⟩) (by have := QGL.out; omega)).trans Q0.out
            have r1 := (bb.cell (p := ⟨g6, o6 + k * 5 + 1, none⟩) (by have := QGL.out; omega)).trans Q1.out
            have r2 := (bb.cell (p := ⟨g6, o6 + k * 5 + 2, none⟩) (by have := QGL.out; omega)).trans Q2.out
            have r3 := (bb.cell (p := ⟨g6, o6 + k * 5 + 3, none⟩) (by have := QGL.out; omega)).trans Q3.out
            have r4 := (bb.cell (p := ⟨g6, o6 + k * 5 + 4, none⟩) (by have := QGL.out; omega)).trans Q4.out
            go_wp2_with fail
            refine (DU2.out V1 bb).mono ?_
            rintro e V2 ⟨rfl, bc⟩
            replace bb := bb.trans (bc.mono bb.size)
            clear bc ta0 ta1 ta2 r0 r1 r2 r3 r4
            replace KB0 := Lib.hid (KB0.out.below bb KB0.out.lt)
            replace KA := Lib.hid (KA.out.below bb KA.out.lt)
            replace HW := Lib.hid (HW.out.trans (bb.mono HW.out.size))
            have BBL := bb.size
            replace P0 := Lib.hid ((bb.cell (p := ⟨g5, o5 + k * 5, none⟩) (by have := PGL.out; omega)).trans P0.out)
            replace P1 := Lib.hid ((bb.cell (p := ⟨g5, o5 + k * 5 + 1, none⟩) (by have := PGL.out; omega)).trans P1.out)
            replace P2 := Lib.hid ((bb.cell (p := ⟨g5, o5 + k * 5 + 2, none⟩) (by have := PGL.out; omega)).trans P2.out)
            replace P3 := Lib.hid ((bb.cell (p := ⟨g5, o5 + k * 5 + 3, none⟩) (by have := PGL.out; omega)).trans P3.out)
            replace P4 := Lib.hid ((bb.cell (p := ⟨g5, o5 + k * 5 + 4, none⟩) (by have := PGL.out; omega)).trans P4.out)
            replace Q0 := Lib.hid ((bb.cell (p := ⟨g6, o6 + k * 5, none⟩) (by have := QGL.out; omega)).trans Q0.out)
            replace Q1 := Lib.hid ((bb.cell (p := ⟨g6, o6 + k * 5 + 1, none⟩) (by have := QGL.out; omega)).trans Q1.out)
            replace Q2 := Lib.hid ((bb.cell (p := ⟨g6, o6 + k * 5 + 2, none⟩) (by have := QGL.out; omega)).trans Q2.out)
            replace Q3 := Lib.hid ((bb.cell (p := ⟨g6, o6 + k * 5 + 3, none⟩) (by have := QGL.out; omega)).trans Q3.out)
            replace Q4 := Lib.hid ((bb.cell (p := ⟨g6, o6 + k * 5 + 4, none⟩) (by have := QGL.out; omega)).trans Q4.out)
            replace PGL : Hid (g5 < V2.heap.size) := Lib.hid (Nat.lt_of_lt_of_le PGL.out bb.size)
            replace QGL : Hid (g6 < V2.heap.size) := Lib.hid (Nat.lt_of_lt_of_le QGL.out bb.size)
            have HBB2 := Lib.hid bb
            clear bb BBL
            obtain ⟨vv, rfl⟩ : ∃ q, q = wr := ⟨wr, rfl⟩
            obtain ⟨wr, rfl⟩ : ∃ q, q = V2 := ⟨V2, rfl⟩
            go_upto_region 23 with fail
            rcases K4'.out with ⟨h1, h2⟩ | ⟨h1, h2⟩
            · have EWD : Hid (decide (was < day) = true) := Lib.hid (decide_eq_true (by omega))
              have EDW : Hid (decide (day ≤ was) = false) := Lib.hid (decide_eq_false (by omega))
              have CSM : Hid (∀ V, PSv wr V → _) := Lib.hid (fun V hV => HSM.out h2 V (HBB2.out.trans (Below.mono hV HBB2.out.size)))
              clear h1 h2
              refine wp_region_rg2 (PSv wr) RB ([isV (.int .i64 0), isV (.bool false), isV (.bool false), isV (.int .i64 0), isV (.bool false), isV (.bool false), isV (.bool false), isV (.pointer (some ⟨ba, 7, none⟩)), isV (.slice (some ⟨g6, o6, none⟩) K y4), isV (.int .i64 (k : Int)), isV (.pointer (some ⟨g6, o6 + k * 5, none⟩)), isV (.pointer (some ⟨g6, o6 + k * 5, none⟩)), isV (.string y.1.id), isV (.pointer (some ⟨w.heap.size, 7, none⟩)), isV (.slice (some ⟨g5, o5, none⟩) K c4), isV (.int .i64 (k : Int)), isV (.pointer (some ⟨g5, o5 + k * 5, none⟩)), isV (.pointer (some ⟨g5, o5 + k * 5, none⟩)), isV (.string x.1.id), isV (.bool false), isV (.bool false), isV (.bool false), isV (.int .i64 was), isV (.int .i64 day), isV (.bool true), isV (.bool true), isV (.pointer (some ⟨ba, 7, none⟩)), isV (.slice (some ⟨g6, o6, none⟩) K y4), isV (.int .i64 (k : Int)), isV (.pointer (some ⟨g6, o6 + k * 5, none⟩)), isV (.agg #[.string y.1.id, .int .i64 y.1.n, .int .i64 y.1.u, .int .i64 y.1.f, .slice y.2.1 y.1.S.length y.2.2]), isV (.pointer (some ⟨w.heap.size, 7, none⟩)), isV (.slice (some ⟨g5, o5, none⟩) K c4), isV (.int .i64 (k : Int)), isV (.pointer (some ⟨g5, o5 + k * 5, none⟩)), isV (.agg #[.string x.1.id, .int .i64 x.1.n, .int .i64 x.1.u, .int .i64 x.1.f, .slice x.2.1 x.1.S.length x.2.2]), isV (.bool true), isV (.bool false), isV (.bool false), isV (.bool false), isV (.bool false), isV (.int .i64 was), isV (.int .i64 day), isV (.bool false), isV (.bool false), isV (.tuple #[]), isV (.tuple #[]), isV (.tuple #[]), isV (.tuple #[]), isV (.tuple #[]), isV (.bool false), isV (.bool false)]) [0, 1, 2, 3, 4, 5, 6, 7, 8, 9, 10, 11, 12, 13, 14, 15, 16, 17, 18, 19, 20, 21, 22, 23, 24, 25, 26, 27, 28, 29, 30, 31, 32, 33, 34, 35, 36, 37, 38, 39, 40, 41, 42, 43, 44, 45, 46, 47, 48, 49, 50, 51] (by kernel_rfl) (by kernel_rfl) (by kernel_rfl) (below_drewM wr) ⟨isV_mono _, isV_mono _, isV_mono _, isV_mono _, isV_mono _, isV_mono _, isV_mono _, isV_mono _, isV_mono _, isV_mono _, isV_mono _, isV_mono _, isV_mono _, isV_mono _, isV_mono _, isV_mono _, isV_mono _, isV_mono _, isV_mono _, isV_mono _, isV_mono _, isV_mono _, isV_mono _, isV_mono _, isV_mono _, isV_mono _, isV_mono _, isV_mono _, isV_mono _, isV_mono _, isV_mono _, isV_mono _, isV_mono _, isV_mono _, isV_mono _, isV_mono _, isV_mono _, isV_mono _, isV_mono _, isV_mono _, isV_mono _, isV_mono _, isV_mono _, isV_mono _, isV_mono _, isV_mono _, isV_mono _, isV_mono _, isV_mono _, isV_mono _, isV_mono _, isV_mono _, trivial⟩ ?_
              intro F hF
              simp only [putAll, List.map_cons, List.map_nil, Act.put, List.setIfInBounds_toArray, List.set_cons_succ, List.set_cons_zero] at hF
              have HFX := Lib.hid hF
              clear hF
              refine ⟨fun Q' => ⟨?_, ?_, ?_, ?_, ?_, ?_, ?_, ?_, ?_, ?_, ?_, ?_, ?_, ?_, ?_, ?_, ?_, ?_, ?_, ?_, ?_, ?_, ?_, ?_, ?_, ?_, ?_, ?_, ?_, ?_, ?_, ?_, ?_, ?_, ?_, ?_, ?_, ?_, ?_, ?_, ?_, ?_, ?_, ?_, ?_, ?_, ?_, ?_, ?_, ?_, ?_, ?_, trivial⟩, ?_⟩
              · intro u W hS hd hp
                have HS := Lib.hid hS
                clear hS
                rw [HFX.out]
                clear hd hp 
                go_wp2_with fail
                exact ⟨_, by rw [HFX.out]; simp [upd], rfl, HS.out, Below.refl _ _⟩
              · intro u W hS hd hp
                have HS := Lib.hid hS
                clear hS
                obtain ⟨d0, -⟩ := hd
                have e0 : u 0 = .int .i64 0 := d0 rfl
                rw [HFX.out]
                simp only [e0]
                clear hp d0
                go_wp2_with fail
                exact ⟨_, by rw [HFX.out]; simp [upd, e0], rfl, HS.out, Below.refl _ _⟩
              · intro u W hS hd hp
                have HS := Lib.hid hS
                clear hS
                obtain ⟨d1, -⟩ := hd
                have e1 : u 1 = .bool false := d1 rfl
                rw [HFX.out]
                simp only [e1]
                clear hp d1
                go_wp2_with fail
                exact ⟨_, by rw [HFX.out]; simp [upd, e1], rfl, HS.out, Below.refl _ _⟩
              · intro u W hS hd hp
                have HS := Lib.hid hS
                clear hS
                obtain ⟨d2, -⟩ := hd
                have e2 : u 2 = .bool false := d2 rfl
                rw [HFX.out]
                simp only [e2]
                clear hp d2
                go_wp2_with fail
                exact ⟨_, by rw [HFX.out]; simp [upd, e2], rfl, HS.out, Below.refl _ _⟩
              · intro u W hS hd hp
                have HS := Lib.hid hS
                clear hS
                obtain ⟨d3, d2, -⟩ := hd
                have e3 : u 3 = .int .i64 0 := d3 rfl
                have e2 : u 2 = .bool false := d2 rfl
                rw [HFX.out]
                simp only [e3, e2]
                clear hp d3 d2
                go_wp2_with fail
                exact ⟨_, by rw [HFX.out]; simp [upd, e3, e2], rfl, HS.out, Below.refl _ _⟩
              · intro u W hS hd hp
                have HS := Lib.hid hS
                clear hS
                obtain ⟨d2, d4, -⟩ := hd
                have e2 : u 2 = .bool false := d2 rfl
                have e4 : u 4 = .bool false := d4 rfl
                rw [HFX.out]
                simp only [e2, e4]
                clear hp d2 d4
                go_wp2_with fail
                exact ⟨_, by rw [HFX.out]; simp [upd, e2, e4], rfl, HS.out, Below.refl _ _⟩
              · intro u W hS hd hp
                have HS := Lib.hid hS
                clear hS
                obtain ⟨d5, -⟩ := hd
                have e5 : u 5 = .bool false := d5 rfl
                rw [HFX.out]
                simp only [e5]
                clear hp d5
                go_wp2_with fail
                exact ⟨_, by rw [HFX.out]; simp [upd, e5], rfl, HS.out, Below.refl _ _⟩
              · intro u W hS hd hp
                have HS := Lib.hid hS
                clear hS
                obtain ⟨d6, -⟩ := hd
                have e6 : u 6 = .bool false := d6 rfl
                rw [HFX.out]
                simp only [e6]
                clear hp d6
                go_wp2_with fail
                exact ⟨_, by rw [HFX.out]; simp [upd, e6], rfl, HS.out, Below.refl _ _⟩
              · intro u W hS hd hp
                have HS := Lib.hid hS
                clear hS
                obtain ⟨d7, d6, -⟩ := hd
                have e7 : u 7 = .pointer (some ⟨ba, 7, none⟩) := d7 rfl
                have e6 : u 6 = .bool false := d6 rfl
                rw [HFX.out]
                simp only [e7, e6]
                clear hp d7 d6
                obtain ⟨r0, r1, r2⟩ := (KA.out.below HS.out KA.out.lt).all
                go_wp2_with fail
                exact ⟨_, by rw [HFX.out]; simp [upd, e7, e6], rfl, HS.out, Below.refl _ _⟩
              · intro u W hS hd hp
                have HS := Lib.hid hS
                clear hS
                obtain ⟨d6, -⟩ := hd
                have e6 : u 6 = .bool false := d6 rfl
                rw [HFX.out]
                simp only [e6]
                clear hp d6
                go_wp2_with fail
                exact ⟨_, by rw [HFX.out]; simp [upd, e6], rfl, HS.out, Below.refl _ _⟩
              · intro u W hS hd hp
                have HS := Lib.hid hS
                clear hS
                obtain ⟨d8, d9, d6, -⟩ := hd
                have e8 : u 8 = .slice (some ⟨g6, o6, none⟩) K y4 := d8 rfl
                have e9 : u 9 = .int .i64 (k : Int) := d9 rfl
                have e6 : u 6 = .bool false := d6 rfl
                rw [HFX.out]
                simp only [e8, e9, e6]
                clear hp d8 d9 d6
                have ib0 : (0 : Int) ≤ (k : Int) := by omega
                have ib1 : (k : Int) < (K : Int) := by omega
                go_wp2_with fail
                exact ⟨_, by rw [HFX.out]; simp [upd, e8, e9, e6], rfl, HS.out, Below.refl _ _⟩
              · intro u W hS hd hp
                have HS := Lib.hid hS
                clear hS
                obtain ⟨d10, d6, -⟩ := hd
                have e10 : u 10 = .pointer (some ⟨g6, o6 + k * 5, none⟩) := d10 rfl
                have e6 : u 6 = .bool false := d6 rfl
                rw [HFX.out]
                simp only [e10, e6]
                clear hp d10 d6
                go_wp2_with fail
                exact ⟨_, by rw [HFX.out]; simp [upd, e10, e6], rfl, HS.out, Below.refl _ _⟩
              · intro u W hS hd hp
                have HS := Lib.hid hS
                clear hS
                obtain ⟨d11, d6, -⟩ := hd
                have e11 : u 11 = .pointer (some ⟨g6, o6 + k * 5, none⟩) := d11 rfl
                have e6 : u 6 = .bool false := d6 rfl
                rw [HFX.out]
                simp only [e11, e6]
                clear hp d11 d6
                have r0 := (HS.out.cell (p := ⟨g6, o6 + k * 5, none⟩) (by have := QGL.out; omega)).trans Q0.out
                go_wp2_with fail
                exact ⟨_, by rw [HFX.out]; simp [upd, e11, e6], rfl, HS.out, Below.refl _ _⟩
              · intro u W hS hd hp
                have HS := Lib.hid hS
                clear hS
                obtain ⟨d6, -⟩ := hd
                have e6 : u 6 = .bool false := d6 rfl
                rw [HFX.out]
                simp only [e6]
                clear hp d6
                go_wp2_with fail
                exact ⟨_, by rw [HFX.out]; simp [upd, e6], rfl, HS.out, Below.refl _ _⟩
              · intro u W hS hd hp
                have HS := Lib.hid hS
                clear hS
                obtain ⟨d13, d6, -⟩ := hd
                have e13 : u 13 = .pointer (some ⟨w.heap.size, 7, none⟩) := d13 rfl
                have e6 : u 6 = .bool false := d6 rfl
                rw [HFX.out]
                simp only [e13, e6]
                clear hp d13 d6
                obtain ⟨r0, r1, r2⟩ := (KB0.out.below HS.out KB0.out.lt).all
                go_wp2_with fail
                exact ⟨_, by rw [HFX.out]; simp [upd, e13, e6], rfl, HS.out, Below.refl _ _⟩
              · intro u W hS hd hp
                have HS := Lib.hid hS
                clear hS
                obtain ⟨d6, -⟩ := hd
                have e6 : u 6 = .bool false := d6 rfl
                rw [HFX.out]
                simp only [e6]
                clear hp d6
                go_wp2_with fail
                exact ⟨_, by rw [HFX.out]; simp [upd, e6], rfl, HS.out, Below.refl _ _⟩
              · intro u W hS hd hp
                have HS := Lib.hid hS
                clear hS
                obtain ⟨d14, d15, d6, -⟩ := hd
                have e14 : u 14 = .slice (some ⟨g5, o5, none⟩) K c4 := d14 rfl
                have e15 : u 15 = .int .i64 (k : Int) := d15 rfl
                have e6 : u 6 = .bool false := d6 rfl
                rw [HFX.out]
                simp only [e14, e15, e6]
                clear hp d14 d15 d6
                have ib0 : (0 : Int) ≤ (k : Int) := by omega
                have ib1 : (k : Int) < (K : Int) := by omega
                go_wp2_with fail
                exact ⟨_, by rw [HFX.out]; simp [upd, e14, e15, e6], rfl, HS.out, Below.refl _ _⟩
              · intro u W hS hd hp
                have HS := Lib.hid hS
                clear hS
                obtain ⟨d16, d6, -⟩ := hd
                have e16 : u 16 = .pointer (some ⟨g5, o5 + k * 5, none⟩) := d16 rfl
                have e6 : u 6 = .bool false := d6 rfl
                rw [HFX.out]
                simp only [e16, e6]
                clear hp d16 d6
                go_wp2_with fail
                exact ⟨_, by rw [HFX.out]; simp [upd, e16, e6], rfl, HS.out, Below.refl _ _⟩
              · intro u W hS hd hp
                have HS := Lib.hid hS
                clear hS
                obtain ⟨d17, d6, -⟩ := hd
                have e17 : u 17 = .pointer (some ⟨g5, o5 + k * 5, none⟩) := d17 rfl
                have e6 : u 6 = .bool false := d6 rfl
                rw [HFX.out]
                simp only [e17, e6]
                clear hp d17 d6
                have r0 := (HS.out.cell (p := ⟨g5, o5 + k * 5, none⟩) (by have := PGL.out; omega)).trans P0.out
                go_wp2_with fail
                exact ⟨_, by rw [HFX.out]; simp [upd, e17, e6], rfl, HS.out, Below.refl _ _⟩
              · intro u W hS hd hp
                have HS := Lib.hid hS
                clear hS
                obtain ⟨d12, d18, d6, -⟩ := hd
                have e12 : u 12 = .string y.1.id := d12 rfl
                have e18 : u 18 = .string x.1.id := d18 rfl
                have e6 : u 6 = .bool false := d6 rfl
                rw [HFX.out]
                simp only [e12, e18, e6]
                clear hp d12 d18 d6
                have es5 : (y.1.id.toList == x.1.id.toList) = true := EID.out
                go_wp2_with fail
                exact ⟨_, by rw [HFX.out]; simp [upd, e12, e18, e6], rfl, HS.out, Below.refl _ _⟩
              · intro u W hS hd hp
                have HS := Lib.hid hS
                clear hS
                obtain ⟨d6, d19, -⟩ := hd
                have e6 : u 6 = .bool false := d6 rfl
                have e19 : u 19 = .bool false := d19 rfl
                rw [HFX.out]
                simp only [e6, e19]
                clear hp d6 d19
                go_wp2_with fail
                exact ⟨_, by rw [HFX.out]; simp [upd, e6, e19], rfl, HS.out, Below.refl _ _⟩
              · intro u W hS hd hp
                have HS := Lib.hid hS
                clear hS
                obtain ⟨d20, -⟩ := hd
                have e20 : u 20 = .bool false := d20 rfl
                rw [HFX.out]
                simp only [e20]
                clear hp d20
                go_wp2_with fail
                exact ⟨_, by rw [HFX.out]; simp [upd, e20], rfl, HS.out, Below.refl _ _⟩
              · intro u W hS hd hp
                have HS := Lib.hid hS
                clear hS
                obtain ⟨d21, -⟩ := hd
                have e21 : u 21 = .bool false := d21 rfl
                rw [HFX.out]
                simp only [e21]
                clear hp d21
                go_wp2_with fail
                exact ⟨_, by rw [HFX.out]; simp [upd, e21], rfl, HS.out, Below.refl _ _⟩
              · intro u W hS hd hp
                have HS := Lib.hid hS
                clear hS
                obtain ⟨d21, -⟩ := hd
                have e21 : u 21 = .bool false := d21 rfl
                rw [HFX.out]
                simp only [e21]
                clear hp d21
                go_wp2_with fail
                exact ⟨_, by rw [HFX.out]; simp [upd, e21], rfl, HS.out, Below.refl _ _⟩
              · intro u W hS hd hp
                have HS := Lib.hid hS
                clear hS
                obtain ⟨d22, d23, d21, -⟩ := hd
                have e22 : u 22 = .int .i64 was := d22 rfl
                have e23 : u 23 = .int .i64 day := d23 rfl
                have e21 : u 21 = .bool false := d21 rfl
                rw [HFX.out]
                simp only [e22, e23, e21]
                clear hp d22 d23 d21
                have es6 : decide (was < day) = true := EWD.out
                go_wp2_with fail
                exact ⟨_, by rw [HFX.out]; simp [upd, e22, e23, e21], rfl, HS.out, Below.refl _ _⟩
              · intro u W hS hd hp
                have HS := Lib.hid hS
                clear hS
                obtain ⟨d24, _, d21, -⟩ := hd
                have e24 : u 24 = .bool true := d24 rfl
                have e21 : u 21 = .bool false := d21 rfl
                rw [HFX.out]
                simp only [e24, e21]
                clear hp d24 d21
                go_wp2_with fail
                exact ⟨_, by rw [HFX.out]; simp [upd, e24, e21], rfl, HS.out, Below.refl _ _⟩
              · intro u W hS hd hp
                have HS := Lib.hid hS
                clear hS
                obtain ⟨d25, -⟩ := hd
                have e25 : u 25 = .bool true := d25 rfl
                rw [HFX.out]
                simp only [e25]
                clear hp d25
                go_wp2_with fail
                exact ⟨_, by rw [HFX.out]; simp [upd, e25], rfl, HS.out, Below.refl _ _⟩
              · intro u W hS hd hp
                have HS := Lib.hid hS
                clear hS
                obtain ⟨d26, d25, -⟩ := hd
                have e26 : u 26 = .pointer (some ⟨ba, 7, none⟩) := d26 rfl
                have e25 : u 25 = .bool true := d25 rfl
                rw [HFX.out]
                simp only [e26, e25]
                clear hp d26 d25
                obtain ⟨r0, r1, r2⟩ := (KA.out.below HS.out KA.out.lt).all
                go_wp2_with fail
                exact ⟨_, by rw [HFX.out]; simp [upd, e26, e25], rfl, HS.out, Below.refl _ _⟩
              · intro u W hS hd hp
                have HS := Lib.hid hS
                clear hS
                obtain ⟨d25, -⟩ := hd
                have e25 : u 25 = .bool true := d25 rfl
                rw [HFX.out]
                simp only [e25]
                clear hp d25
                go_wp2_with fail
                exact ⟨_, by rw [HFX.out]; simp [upd, e25], rfl, HS.out, Below.refl _ _⟩
              · intro u W hS hd hp
                have HS := Lib.hid hS
                clear hS
                obtain ⟨d27, d28, d25, -⟩ := hd
                have e27 : u 27 = .slice (some ⟨g6, o6, none⟩) K y4 := d27 rfl
                have e28 : u 28 = .int .i64 (k : Int) := d28 rfl
                have e25 : u 25 = .bool true := d25 rfl
                rw [HFX.out]
                simp only [e27, e28, e25]
                clear hp d27 d28 d25
                have ib0 : (0 : Int) ≤ (k : Int) := by omega
                have ib1 : (k : Int) < (K : Int) := by omega
                go_wp2_with fail
                exact ⟨_, by rw [HFX.out]; simp [upd, e27, e28, e25], rfl, HS.out, Below.refl _ _⟩
              · intro u W hS hd hp
                have HS := Lib.hid hS
                clear hS
                obtain ⟨d29, d25, -⟩ := hd
                have e29 : u 29 = .pointer (some ⟨g6, o6 + k * 5, none⟩) := d29 rfl
                have e25 : u 25 = .bool true := d25 rfl
                rw [HFX.out]
                simp only [e29, e25]
                clear hp d29 d25
                have r0 := (HS.out.cell (p := ⟨g6, o6 + k * 5, none⟩) (by have := QGL.out; omega)).trans Q0.out
                have r1 := (HS.out.cell (p := ⟨g6, o6 + k * 5 + 1, none⟩) (by have := QGL.out; omega)).trans Q1.out
                have r2 := (HS.out.cell (p := ⟨g6, o6 + k * 5 + 2, none⟩) (by have := QGL.out; omega)).trans Q2.out
                have r3 := (HS.out.cell (p := ⟨g6, o6 + k * 5 + 3, none⟩) (by have := QGL.out; omega)).trans Q3.out
                have r4 := (HS.out.cell (p := ⟨g6, o6 + k * 5 + 4, none⟩) (by have := QGL.out; omega)).trans Q4.out
                go_wp2_with fail
                exact ⟨_, by rw [HFX.out]; simp [upd, e29, e25], rfl, HS.out, Below.refl _ _⟩
              · intro u W hS hd hp
                have HS := Lib.hid hS
                clear hS
                obtain ⟨d25, -⟩ := hd
                have e25 : u 25 = .bool true := d25 rfl
                rw [HFX.out]
                simp only [e25]
                clear hp d25
                go_wp2_with fail
                exact ⟨_, by rw [HFX.out]; simp [upd, e25], rfl, HS.out, Below.refl _ _⟩
              · intro u W hS hd hp
                have HS := Lib.hid hS
                clear hS
                obtain ⟨d31, d25, -⟩ := hd
                have e31 : u 31 = .pointer (some ⟨w.heap.size, 7, none⟩) := d31 rfl
                have e25 : u 25 = .bool true := d25 rfl
                rw [HFX.out]
                simp only [e31, e25]
                clear hp d31 d25
                obtain ⟨r0, r1, r2⟩ := (KB0.out.below HS.out KB0.out.lt).all
                go_wp2_with fail
                exact ⟨_, by rw [HFX.out]; simp [upd, e31, e25], rfl, HS.out, Below.refl _ _⟩
              · intro u W hS hd hp
                have HS := Lib.hid hS
                clear hS
                obtain ⟨d25, -⟩ := hd
                have e25 : u 25 = .bool true := d25 rfl
                rw [HFX.out]
                simp only [e25]
                clear hp d25
                go_wp2_with fail
                exact ⟨_, by rw [HFX.out]; simp [upd, e25], rfl, HS.out, Below.refl _ _⟩
              · intro u W hS hd hp
                have HS := Lib.hid hS
                clear hS
                obtain ⟨d32, d33, d25, -⟩ := hd
                have e32 : u 32 = .slice (some ⟨g5, o5, none⟩) K c4 := d32 rfl
                have e33 : u 33 = .int .i64 (k : Int) := d33 rfl
                have e25 : u 25 = .bool true := d25 rfl
                rw [HFX.out]
                simp only [e32, e33, e25]
                clear hp d32 d33 d25
                have ib0 : (0 : Int) ≤ (k : Int) := by omega
                have ib1 : (k : Int) < (K : Int) := by omega
                go_wp2_with fail
                exact ⟨_, by rw [HFX.out]; simp [upd, e32, e33, e25], rfl, HS.out, Below.refl _ _⟩
              · intro u W hS hd hp
                have HS := Lib.hid hS
                clear hS
                obtain ⟨d34, d25, -⟩ := hd
                have e34 : u 34 = .pointer (some ⟨g5, o5 + k * 5, none⟩) := d34 rfl
                have e25 : u 25 = .bool true := d25 rfl
                rw [HFX.out]
                simp only [e34, e25]
                clear hp d34 d25
                have r0 := (HS.out.cell (p := ⟨g5, o5 + k * 5, none⟩) (by have := PGL.out; omega)).trans P0.out
                have r1 := (HS.out.cell (p := ⟨g5, o5 + k * 5 + 1, none⟩) (by have := PGL.out; omega)).trans P1.out
                have r2 := (HS.out.cell (p := ⟨g5, o5 + k * 5 + 2, none⟩) (by have := PGL.out; omega)).trans P2.out
                have r3 := (HS.out.cell (p := ⟨g5, o5 + k * 5 + 3, none⟩) (by have := PGL.out; omega)).trans P3.out
                have r4 := (HS.out.cell (p := ⟨g5, o5 + k * 5 + 4, none⟩) (by have := PGL.out; omega)).trans P4.out
                go_wp2_with fail
                exact ⟨_, by rw [HFX.out]; simp [upd, e34, e25], rfl, HS.out, Below.refl _ _⟩
              · intro u W hS hd hp
                have HS := Lib.hid hS
                clear hS
                obtain ⟨d30, d35, _, d25, -⟩ := hd
                have e30 : u 30 = .agg #[.string y.1.id, .int .i64 y.1.n, .int .i64 y.1.u, .int .i64 y.1.f, .slice y.2.1 y.1.S.length y.2.2] := d30 rfl
                have e35 : u 35 = .agg #[.string x.1.id, .int .i64 x.1.n, .int .i64 x.1.u, .int .i64 x.1.f, .slice x.2.1 x.1.S.length x.2.2] := d35 rfl
                have e25 : u 25 = .bool true := d25 rfl
                rw [HFX.out]
                simp only [e30, e35, e25]
                clear hp d30 d35 d25
                have HC := Lib.hid (CSM.out W HS.out)
                go_wp2_with fail
                refine HC.out.mono ?_
                rintro e W2 ⟨rfl, b2⟩
                go_wp2_with fail
                exact ⟨_, by rw [HFX.out]; simp [upd, e30, e35, e25], rfl, PSv.go HS.out b2, b2⟩
              · intro u W hS hd hp
                have HS := Lib.hid hS
                clear hS
                obtain ⟨d36, d25, -⟩ := hd
                have e36 : u 36 = .bool true := d36 rfl
                have e25 : u 25 = .bool true := d25 rfl
                rw [HFX.out]
                simp only [e36, e25]
                clear hp d36 d25
                go_wp2_with fail
                exact ⟨_, by rw [HFX.out]; simp [upd, e36, e25], rfl, HS.out, Below.refl _ _⟩
              · intro u W hS hd hp
                have HS := Lib.hid hS
                clear hS
                obtain ⟨d25, d37, d21, -⟩ := hd
                have e25 : u 25 = .bool true := d25 rfl
                have e37 : u 37 = .bool false := d37 rfl
                have e21 : u 21 = .bool false := d21 rfl
                rw [HFX.out]
                simp only [e25, e37, e21]
                clear hp d25 d37 d21
                go_wp2_with fail
                exact ⟨_, by rw [HFX.out]; simp [upd, e25, e37, e21], rfl, HS.out, Below.refl _ _⟩
              · intro u W hS hd hp
                have HS := Lib.hid hS
                clear hS
                obtain ⟨d21, d38, -⟩ := hd
                have e21 : u 21 = .bool false := d21 rfl
                have e38 : u 38 = .bool false := d38 rfl
                rw [HFX.out]
                simp only [e21, e38]
                clear hp d21 d38
                go_wp2_with fail
                exact ⟨_, by rw [HFX.out]; simp [upd, e21, e38], rfl, HS.out, Below.refl _ _⟩
              · intro u W hS hd hp
                have HS := Lib.hid hS
                clear hS
                obtain ⟨d39, -⟩ := hd
                have e39 : u 39 = .bool false := d39 rfl
                rw [HFX.out]
                simp only [e39]
                clear hp d39
                go_wp2_with fail
                exact ⟨_, by rw [HFX.out]; simp [upd, e39], rfl, HS.out, Below.refl _ _⟩
              · intro u W hS hd hp
                have HS := Lib.hid hS
                clear hS
                obtain ⟨d40, -⟩ := hd
                have e40 : u 40 = .bool false := d40 rfl
                rw [HFX.out]
                simp only [e40]
                clear hp d40
                go_wp2_with fail
                exact ⟨_, by rw [HFX.out]; simp [upd, e40], rfl, HS.out, Below.refl _ _⟩
              · intro u W hS hd hp
                have HS := Lib.hid hS
                clear hS
                obtain ⟨d40, -⟩ := hd
                have e40 : u 40 = .bool false := d40 rfl
                rw [HFX.out]
                simp only [e40]
                clear hp d40
                go_wp2_with fail
                exact ⟨_, by rw [HFX.out]; simp [upd, e40], rfl, HS.out, Below.refl _ _⟩
              · intro u W hS hd hp
                have HS := Lib.hid hS
                clear hS
                obtain ⟨d41, d42, d40, -⟩ := hd
                have e41 : u 41 = .int .i64 was := d41 rfl
                have e42 : u 42 = .int .i64 day := d42 rfl
                have e40 : u 40 = .bool false := d40 rfl
                rw [HFX.out]
                simp only [e41, e42, e40]
                clear hp d41 d42 d40
                have es6 : decide (day ≤ was) = false := EDW.out
                go_wp2_with fail
                exact ⟨_, by rw [HFX.out]; simp [upd, e41, e42, e40], rfl, HS.out, Below.refl _ _⟩
              · intro u W hS hd hp
                have HS := Lib.hid hS
                clear hS
                obtain ⟨d43, _, d40, -⟩ := hd
                have e43 : u 43 = .bool false := d43 rfl
                have e40 : u 40 = .bool false := d40 rfl
                rw [HFX.out]
                simp only [e43, e40]
                clear hp d43 d40
                go_wp2_with fail
                exact ⟨_, by rw [HFX.out]; simp [upd, e43, e40], rfl, HS.out, Below.refl _ _⟩
              · intro u W hS hd hp
                have HS := Lib.hid hS
                clear hS
                obtain ⟨d44, -⟩ := hd
                have e44 : u 44 = .bool false := d44 rfl
                rw [HFX.out]
                simp only [e44]
                clear hp d44
                go_wp2_with fail
                exact ⟨_, by rw [HFX.out]; simp [upd, e44]; rfl, rfl, HS.out, Below.refl _ _⟩
              · intro u W hS hd hp
                have HS := Lib.hid hS
                clear hS
                obtain ⟨d44, -⟩ := hd
                have e44 : u 44 = .bool false := d44 rfl
                rw [HFX.out]
                simp only [e44]
                clear hp d44
                go_wp2_with fail
                exact ⟨_, by rw [HFX.out]; simp [upd, e44]; rfl, rfl, HS.out, Below.refl _ _⟩
              · intro u W hS hd hp
                have HS := Lib.hid hS
                clear hS
                obtain ⟨d44, -⟩ := hd
                have e44 : u 44 = .bool false := d44 rfl
                rw [HFX.out]
                simp only [e44]
                clear hp d44
                go_wp2_with fail
                exact ⟨_, by rw [HFX.out]; simp [upd, e44]; rfl, rfl, HS.out, Below.refl _ _⟩
              · intro u W hS hd hp
                have HS := Lib.hid hS
                clear hS
                obtain ⟨d46, d47, d44, -⟩ := hd
                have e46 : u 46 = .tuple #[] := d46 rfl
                have e47 : u 47 = .tuple #[] := d47 rfl
                have e44 : u 44 = .bool false := d44 rfl
                rw [HFX.out]
                simp only [e46, e47, e44]
                clear hp d46 d47 d44
                go_wp2_with fail
                exact ⟨_, by rw [HFX.out]; simp [upd, e46, e47, e44]; rfl, rfl, HS.out, Below.refl _ _⟩
              · intro u W hS hd hp
                have HS := Lib.hid hS
                clear hS
                obtain ⟨d45, d48, d44, -⟩ := hd
                have e45 : u 45 = .tuple #[] := d45 rfl
                have e48 : u 48 = .tuple #[] := d48 rfl
                have e44 : u 44 = .bool false := d44 rfl
                rw [HFX.out]
                simp only [e45, e48, e44]
                clear hp d45 d48 d44
                go_wp2_with fail
                exact ⟨_, by rw [HFX.out]; simp [upd, e45, e48, e44]; rfl, rfl, HS.out, Below.refl _ _⟩
              · intro u W hS hd hp
                have HS := Lib.hid hS
                clear hS
                obtain ⟨d44, d49, d40, -⟩ := hd
                have e44 : u 44 = .bool false := d44 rfl
                have e49 : u 49 = .tuple #[] := d49 rfl
                have e40 : u 40 = .bool false := d40 rfl
                rw [HFX.out]
                simp only [e44, e49, e40]
                clear hp d44 d49 d40
                go_wp2_with fail
                exact ⟨_, by rw [HFX.out]; simp [upd, e44, e49, e40], rfl, HS.out, Below.refl _ _⟩
              · intro u W hS hd hp
                have HS := Lib.hid hS
                clear hS
                obtain ⟨d40, d50, -⟩ := hd
                have e40 : u 40 = .bool false := d40 rfl
                have e50 : u 50 = .bool false := d50 rfl
                rw [HFX.out]
                simp only [e40, e50]
                clear hp d40 d50
                go_wp2_with fail
                exact ⟨_, by rw [HFX.out]; simp [upd, e40, e50], rfl, HS.out, Below.refl _ _⟩
              intro u W hS hf
              have eE : u 51 = .bool false := hf 51 (by decide)
              rw [HFX.out]
              simp only [eE]
              clear eE hf HFX F
              have HW2 := Lib.hid (HW.out.trans (Below.mono hS HW.out.size))
              clear hS
              go_wp2
              go_roundw
              case rel => exact ⟨k + 1, by omega, by go_num, HW2⟩
              case measure => simp [intOf]; omega
            · have EWD : Hid (decide (was < day) = false) := Lib.hid (decide_eq_false (by omega))
              have EDW : Hid (decide (day ≤ was) = true) := Lib.hid (decide_eq_true (by omega))
              have ENW : Hid (decide (now < day + lst) = false) := Lib.hid (decide_eq_false (by omega))
              clear h1 h2
              refine wp_region_rg2 (PSv wr) RB ([isV (.int .i64 0), isV (.bool false), isV (.bool false), isV (.int .i64 0), isV (.bool false), isV (.bool false), isV (.bool false), isV (.pointer (some ⟨ba, 7, none⟩)), isV (.slice (some ⟨g6, o6, none⟩) K y4), isV (.int .i64 (k : Int)), isV (.pointer (some ⟨g6, o6 + k * 5, none⟩)), isV (.pointer (some ⟨g6, o6 + k * 5, none⟩)), isV (.string y.1.id), isV (.pointer (some ⟨w.heap.size, 7, none⟩)), isV (.slice (some ⟨g5, o5, none⟩) K c4), isV (.int .i64 (k : Int)), isV (.pointer (some ⟨g5, o5 + k * 5, none⟩)), isV (.pointer (some ⟨g5, o5 + k * 5, none⟩)), isV (.string x.1.id), isV (.bool false), isV (.bool false), isV (.bool false), isV (.int .i64 was), isV (.int .i64 day), isV (.bool false), isV (.bool false), isV (.tuple #[]), isV (.tuple #[]), isV (.tuple #[]), isV (.tuple #[]), isV (.tuple #[]), isV (.tuple #[]), isV (.tuple #[]), isV (.tuple #[]), isV (.tuple #[]), isV (.tuple #[]), isV (.tuple #[]), isV (.tuple #[]), isV (.bool false), isV (.bool false), isV (.bool false), isV (.int .i64 was), isV (.int .i64 day), isV (.bool true), isV (.bool true), isV (.int .i64 now), isV (.int .i64 day), isV (.int .i64 lst), isV (.int .i64 (day + lst)), isV (.bool false), isV (.bool false), isV (.bool false)]) [0, 1, 2, 3, 4, 5, 6, 7, 8, 9, 10, 11, 12, 13, 14, 15, 16, 17, 18, 19, 20, 21, 22, 23, 24, 25, 26, 27, 28, 29, 30, 31, 32, 33, 34, 35, 36, 37, 38, 39, 40, 41, 42, 43, 44, 45, 46, 47, 48, 49, 50, 51] (by kernel_rfl) (by kernel_rfl) (by kernel_rfl) (below_drewM wr) ⟨isV_mono _, isV_mono _, isV_mono _, isV_mono _, isV_mono _, isV_mono _, isV_mono _, isV_mono _, isV_mono _, isV_mono _, isV_mono _, isV_mono _, isV_mono _, isV_mono _, isV_mono _, isV_mono _, isV_mono _, isV_mono _, isV_mono _, isV_mono _, isV_mono _, isV_mono _, isV_mono _, isV_mono _, isV_mono _, isV_mono _, isV_mono _, isV_mono _, isV_mono _, isV_mono _, isV_mono _, isV_mono _, isV_mono _, isV_mono _, isV_mono _, isV_mono _, isV_mono _, isV_mono _, isV_mono _, isV_mono _, isV_mono _, isV_mono _, isV_mono _, isV_mono _, isV_mono _, isV_mono _, isV_mono _, isV_mono _, isV_mono _, isV_mono _, isV_mono _, isV_mono _, trivial⟩ ?_
              intro F hF
              simp only [putAll, List.map_cons, List.map_nil, Act.put, List.setIfInBounds_toArray, List.set_cons_succ, List.set_cons_zero] at hF
              have HFX := Lib.hid hF
              clear hF
              refine ⟨fun Q' => ⟨?_, ?_, ?_, ?_, ?_, ?_, ?_, ?_, ?_, ?_, ?_, ?_, ?_, ?_, ?_, ?_, ?_, ?_, ?_, ?_, ?_, ?_, ?_, ?_, ?_, ?_, ?_, ?_, ?_, ?_, ?_, ?_, ?_, ?_, ?_, ?_, ?_, ?_, ?_, ?_, ?_, ?_, ?_, ?_, ?_, ?_, ?_, ?_, ?_, ?_, ?_, ?_, trivial⟩, ?_⟩
              · intro u W hS hd hp
                have HS := Lib.hid hS
                clear hS
                rw [HFX.out]
                clear hd hp 
                go_wp2_with fail
                exact ⟨_, by rw [HFX.out]; simp [upd], rfl, HS.out, Below.refl _ _⟩
              · intro u W hS hd hp
                have HS := Lib.hid hS
                clear hS
                obtain ⟨d0, -⟩ := hd
                have e0 : u 0 = .int .i64 0 := d0 rfl
                rw [HFX.out]
                simp only [e0]
                clear hp d0
                go_wp2_with fail
                exact ⟨_, by rw [HFX.out]; simp [upd, e0], rfl, HS.out, Below.refl _ _⟩
              · intro u W hS hd hp
                have HS := Lib.hid hS
                clear hS
                obtain ⟨d1, -⟩ := hd
                have e1 : u 1 = .bool false := d1 rfl
                rw [HFX.out]
                simp only [e1]
                clear hp d1
                go_wp2_with fail
                exact ⟨_, by rw [HFX.out]; simp [upd, e1], rfl, HS.out, Below.refl _ _⟩
              · intro u W hS hd hp
                have HS := Lib.hid hS
                clear hS
                obtain ⟨d2, -⟩ := hd
                have e2 : u 2 = .bool false := d2 rfl
                rw [HFX.out]
                simp only [e2]
                clear hp d2
                go_wp2_with fail
                exact ⟨_, by rw [HFX.out]; simp [upd, e2], rfl, HS.out, Below.refl _ _⟩
              · intro u W hS hd hp
                have HS := Lib.hid hS
                clear hS
                obtain ⟨d3, d2, -⟩ := hd
                have e3 : u 3 = .int .i64 0 := d3 rfl
                have e2 : u 2 = .bool false := d2 rfl
                rw [HFX.out]
                simp only [e3, e2]
                clear hp d3 d2
                go_wp2_with fail
                exact ⟨_, by rw [HFX.out]; simp [upd, e3, e2], rfl, HS.out, Below.refl _ _⟩
              · intro u W hS hd hp
                have HS := Lib.hid hS
                clear hS
                obtain ⟨d2, d4, -⟩ := hd
                have e2 : u 2 = .bool false := d2 rfl
                have e4 : u 4 = .bool false := d4 rfl
                rw [HFX.out]
                simp only [e2, e4]
                clear hp d2 d4
                go_wp2_with fail
                exact ⟨_, by rw [HFX.out]; simp [upd, e2, e4], rfl, HS.out, Below.refl _ _⟩
              · intro u W hS hd hp
                have HS := Lib.hid hS
                clear hS
                obtain ⟨d5, -⟩ := hd
                have e5 : u 5 = .bool false := d5 rfl
                rw [HFX.out]
                simp only [e5]
                clear hp d5
                go_wp2_with fail
                exact ⟨_, by rw [HFX.out]; simp [upd, e5], rfl, HS.out, Below.refl _ _⟩
              · intro u W hS hd hp
                have HS := Lib.hid hS
                clear hS
                obtain ⟨d6, -⟩ := hd
                have e6 : u 6 = .bool false := d6 rfl
                rw [HFX.out]
                simp only [e6]
                clear hp d6
                go_wp2_with fail
                exact ⟨_, by rw [HFX.out]; simp [upd, e6], rfl, HS.out, Below.refl _ _⟩
              · intro u W hS hd hp
                have HS := Lib.hid hS
                clear hS
                obtain ⟨d7, d6, -⟩ := hd
                have e7 : u 7 = .pointer (some ⟨ba, 7, none⟩) := d7 rfl
                have e6 : u 6 = .bool false := d6 rfl
                rw [HFX.out]
                simp only [e7, e6]
                clear hp d7 d6
                obtain ⟨r0, r1, r2⟩ := (KA.out.below HS.out KA.out.lt).all
                go_wp2_with fail
                exact ⟨_, by rw [HFX.out]; simp [upd, e7, e6], rfl, HS.out, Below.refl _ _⟩
              · intro u W hS hd hp
                have HS := Lib.hid hS
                clear hS
                obtain ⟨d6, -⟩ := hd
                have e6 : u 6 = .bool false := d6 rfl
                rw [HFX.out]
                simp only [e6]
                clear hp d6
                go_wp2_with fail
                exact ⟨_, by rw [HFX.out]; simp [upd, e6], rfl, HS.out, Below.refl _ _⟩
              · intro u W hS hd hp
                have HS := Lib.hid hS
                clear hS
                obtain ⟨d8, d9, d6, -⟩ := hd
                have e8 : u 8 = .slice (some ⟨g6, o6, none⟩) K y4 := d8 rfl
                have e9 : u 9 = .int .i64 (k : Int) := d9 rfl
                have e6 : u 6 = .bool false := d6 rfl
                rw [HFX.out]
                simp only [e8, e9, e6]
                clear hp d8 d9 d6
                have ib0 : (0 : Int) ≤ (k : Int) := by omega
                have ib1 : (k : Int) < (K : Int) := by omega
                go_wp2_with fail
                exact ⟨_, by rw [HFX.out]; simp [upd, e8, e9, e6], rfl, HS.out, Below.refl _ _⟩
              · intro u W hS hd hp
                have HS := Lib.hid hS
                clear hS
                obtain ⟨d10, d6, -⟩ := hd
                have e10 : u 10 = .pointer (some ⟨g6, o6 + k * 5, none⟩) := d10 rfl
                have e6 : u 6 = .bool false := d6 rfl
                rw [HFX.out]
                simp only [e10, e6]
                clear hp d10 d6
                go_wp2_with fail
                exact ⟨_, by rw [HFX.out]; simp [upd, e10, e6], rfl, HS.out, Below.refl _ _⟩
              · intro u W hS hd hp
                have HS := Lib.hid hS
                clear hS
                obtain ⟨d11, d6, -⟩ := hd
                have e11 : u 11 = .pointer (some ⟨g6, o6 + k * 5, none⟩) := d11 rfl
                have e6 : u 6 = .bool false := d6 rfl
                rw [HFX.out]
                simp only [e11, e6]
                clear hp d11 d6
                have r0 := (HS.out.cell (p := ⟨g6, o6 + k * 5, none⟩) (by have := QGL.out; omega)).trans Q0.out
                go_wp2_with fail
                exact ⟨_, by rw [HFX.out]; simp [upd, e11, e6], rfl, HS.out, Below.refl _ _⟩
              · intro u W hS hd hp
                have HS := Lib.hid hS
                clear hS
                obtain ⟨d6, -⟩ := hd
                have e6 : u 6 = .bool false := d6 rfl
                rw [HFX.out]
                simp only [e6]
                clear hp d6
                go_wp2_with fail
                exact ⟨_, by rw [HFX.out]; simp [upd, e6], rfl, HS.out, Below.refl _ _⟩
              · intro u W hS hd hp
                have HS := Lib.hid hS
                clear hS
                obtain ⟨d13, d6, -⟩ := hd
                have e13 : u 13 = .pointer (some ⟨w.heap.size, 7, none⟩) := d13 rfl
                have e6 : u 6 = .bool false := d6 rfl
                rw [HFX.out]
                simp only [e13, e6]
                clear hp d13 d6
                obtain ⟨r0, r1, r2⟩ := (KB0.out.below HS.out KB0.out.lt).all
                go_wp2_with fail
                exact ⟨_, by rw [HFX.out]; simp [upd, e13, e6], rfl, HS.out, Below.refl _ _⟩
              · intro u W hS hd hp
                have HS := Lib.hid hS
                clear hS
                obtain ⟨d6, -⟩ := hd
                have e6 : u 6 = .bool false := d6 rfl
                rw [HFX.out]
                simp only [e6]
                clear hp d6
                go_wp2_with fail
                exact ⟨_, by rw [HFX.out]; simp [upd, e6], rfl, HS.out, Below.refl _ _⟩
              · intro u W hS hd hp
                have HS := Lib.hid hS
                clear hS
                obtain ⟨d14, d15, d6, -⟩ := hd
                have e14 : u 14 = .slice (some ⟨g5, o5, none⟩) K c4 := d14 rfl
                have e15 : u 15 = .int .i64 (k : Int) := d15 rfl
                have e6 : u 6 = .bool false := d6 rfl
                rw [HFX.out]
                simp only [e14, e15, e6]
                clear hp d14 d15 d6
                have ib0 : (0 : Int) ≤ (k : Int) := by omega
                have ib1 : (k : Int) < (K : Int) := by omega
                go_wp2_with fail
                exact ⟨_, by rw [HFX.out]; simp [upd, e14, e15, e6], rfl, HS.out, Below.refl _ _⟩
              · intro u W hS hd hp
                have HS := Lib.hid hS
                clear hS
                obtain ⟨d16, d6, -⟩ := hd
                have e16 : u 16 = .pointer (some ⟨g5, o5 + k * 5, none⟩) := d16 rfl
                have e6 : u 6 = .bool false := d6 rfl
                rw [HFX.out]
                simp only [e16, e6]
                clear hp d16 d6
                go_wp2_with fail
                exact ⟨_, by rw [HFX.out]; simp [upd, e16, e6], rfl, HS.out, Below.refl _ _⟩
              · intro u W hS hd hp
                have HS := Lib.hid hS
                clear hS
                obtain ⟨d17, d6, -⟩ := hd
                have e17 : u 17 = .pointer (some ⟨g5, o5 + k * 5, none⟩) := d17 rfl
                have e6 : u 6 = .bool false := d6 rfl
                rw [HFX.out]
                simp only [e17, e6]
                clear hp d17 d6
                have r0 := (HS.out.cell (p := ⟨g5, o5 + k * 5, none⟩) (by have := PGL.out; omega)).trans P0.out
                go_wp2_with fail
                exact ⟨_, by rw [HFX.out]; simp [upd, e17, e6], rfl, HS.out, Below.refl _ _⟩
              · intro u W hS hd hp
                have HS := Lib.hid hS
                clear hS
                obtain ⟨d12, d18, d6, -⟩ := hd
                have e12 : u 12 = .string y.1.id := d12 rfl
                have e18 : u 18 = .string x.1.id := d18 rfl
                have e6 : u 6 = .bool false := d6 rfl
                rw [HFX.out]
                simp only [e12, e18, e6]
                clear hp d12 d18 d6
                have es5 : (y.1.id.toList == x.1.id.toList) = true := EID.out
                go_wp2_with fail
                exact ⟨_, by rw [HFX.out]; simp [upd, e12, e18, e6], rfl, HS.out, Below.refl _ _⟩
              · intro u W hS hd hp
                have HS := Lib.hid hS
                clear hS
                obtain ⟨d6, d19, -⟩ := hd
                have e6 : u 6 = .bool false := d6 rfl
                have e19 : u 19 = .bool false := d19 rfl
                rw [HFX.out]
                simp only [e6, e19]
                clear hp d6 d19
                go_wp2_with fail
                exact ⟨_, by rw [HFX.out]; simp [upd, e6, e19], rfl, HS.out, Below.refl _ _⟩
              · intro u W hS hd hp
                have HS := Lib.hid hS
                clear hS
                obtain ⟨d20, -⟩ := hd
                have e20 : u 20 = .bool false := d20 rfl
                rw [HFX.out]
                simp only [e20]
                clear hp d20
                go_wp2_with fail
                exact ⟨_, by rw [HFX.out]; simp [upd, e20], rfl, HS.out, Below.refl _ _⟩
              · intro u W hS hd hp
                have HS := Lib.hid hS
                clear hS
                obtain ⟨d21, -⟩ := hd
                have e21 : u 21 = .bool false := d21 rfl
                rw [HFX.out]
                simp only [e21]
                clear hp d21
                go_wp2_with fail
                exact ⟨_, by rw [HFX.out]; simp [upd, e21], rfl, HS.out, Below.refl _ _⟩
              · intro u W hS hd hp
                have HS := Lib.hid hS
                clear hS
                obtain ⟨d21, -⟩ := hd
                have e21 : u 21 = .bool false := d21 rfl
                rw [HFX.out]
                simp only [e21]
                clear hp d21
                go_wp2_with fail
                exact ⟨_, by rw [HFX.out]; simp [upd, e21], rfl, HS.out, Below.refl _ _⟩
              · intro u W hS hd hp
                have HS := Lib.hid hS
                clear hS
                obtain ⟨d22, d23, d21, -⟩ := hd
                have e22 : u 22 = .int .i64 was := d22 rfl
                have e23 : u 23 = .int .i64 day := d23 rfl
                have e21 : u 21 = .bool false := d21 rfl
                rw [HFX.out]
                simp only [e22, e23, e21]
                clear hp d22 d23 d21
                have es6 : decide (was < day) = false := EWD.out
                go_wp2_with fail
                exact ⟨_, by rw [HFX.out]; simp [upd, e22, e23, e21], rfl, HS.out, Below.refl _ _⟩
              · intro u W hS hd hp
                have HS := Lib.hid hS
                clear hS
                obtain ⟨d24, _, d21, -⟩ := hd
                have e24 : u 24 = .bool false := d24 rfl
                have e21 : u 21 = .bool false := d21 rfl
                rw [HFX.out]
                simp only [e24, e21]
                clear hp d24 d21
                go_wp2_with fail
                exact ⟨_, by rw [HFX.out]; simp [upd, e24, e21], rfl, HS.out, Below.refl _ _⟩
              · intro u W hS hd hp
                have HS := Lib.hid hS
                clear hS
                obtain ⟨d25, -⟩ := hd
                have e25 : u 25 = .bool false := d25 rfl
                rw [HFX.out]
                simp only [e25]
                clear hp d25
                go_wp2_with fail
                exact ⟨_, by rw [HFX.out]; simp [upd, e25]; rfl, rfl, HS.out, Below.refl _ _⟩
              · intro u W hS hd hp
                have HS := Lib.hid hS
                clear hS
                obtain ⟨d26, d25, -⟩ := hd
                have e26 : u 26 = .tuple #[] := d26 rfl
                have e25 : u 25 = .bool false := d25 rfl
                rw [HFX.out]
                simp only [e26, e25]
                clear hp d26 d25
                go_wp2_with fail
                exact ⟨_, by rw [HFX.out]; simp [upd, e26, e25]; rfl, rfl, HS.out, Below.refl _ _⟩
              · intro u W hS hd hp
                have HS := Lib.hid hS
                clear hS
                obtain ⟨d25, -⟩ := hd
                have e25 : u 25 = .bool false := d25 rfl
                rw [HFX.out]
                simp only [e25]
                clear hp d25
                go_wp2_with fail
                exact ⟨_, by rw [HFX.out]; simp [upd, e25]; rfl, rfl, HS.out, Below.refl _ _⟩
              · intro u W hS hd hp
                have HS := Lib.hid hS
                clear hS
                obtain ⟨d27, d28, d25, -⟩ := hd
                have e27 : u 27 = .tuple #[] := d27 rfl
                have e28 : u 28 = .tuple #[] := d28 rfl
                have e25 : u 25 = .bool false := d25 rfl
                rw [HFX.out]
                simp only [e27, e28, e25]
                clear hp d27 d28 d25
                go_wp2_with fail
                exact ⟨_, by rw [HFX.out]; simp [upd, e27, e28, e25]; rfl, rfl, HS.out, Below.refl _ _⟩
              · intro u W hS hd hp
                have HS := Lib.hid hS
                clear hS
                obtain ⟨d29, d25, -⟩ := hd
                have e29 : u 29 = .tuple #[] := d29 rfl
                have e25 : u 25 = .bool false := d25 rfl
                rw [HFX.out]
                simp only [e29, e25]
                clear hp d29 d25
                go_wp2_with fail
                exact ⟨_, by rw [HFX.out]; simp [upd, e29, e25]; rfl, rfl, HS.out, Below.refl _ _⟩
              · intro u W hS hd hp
                have HS := Lib.hid hS
                clear hS
                obtain ⟨d25, -⟩ := hd
                have e25 : u 25 = .bool false := d25 rfl
                rw [HFX.out]
                simp only [e25]
                clear hp d25
                go_wp2_with fail
                exact ⟨_, by rw [HFX.out]; simp [upd, e25]; rfl, rfl, HS.out, Below.refl _ _⟩
              · intro u W hS hd hp
                have HS := Lib.hid hS
                clear hS
                obtain ⟨d31, d25, -⟩ := hd
                have e31 : u 31 = .tuple #[] := d31 rfl
                have e25 : u 25 = .bool false := d25 rfl
                rw [HFX.out]
                simp only [e31, e25]
                clear hp d31 d25
                go_wp2_with fail
                exact ⟨_, by rw [HFX.out]; simp [upd, e31, e25]; rfl, rfl, HS.out, Below.refl _ _⟩
              · intro u W hS hd hp
                have HS := Lib.hid hS
                clear hS
                obtain ⟨d25, -⟩ := hd
                have e25 : u 25 = .bool false := d25 rfl
                rw [HFX.out]
                simp only [e25]
                clear hp d25
                go_wp2_with fail
                exact ⟨_, by rw [HFX.out]; simp [upd, e25]; rfl, rfl, HS.out, Below.refl _ _⟩
              · intro u W hS hd hp
                have HS := Lib.hid hS
                clear hS
                obtain ⟨d32, d33, d25, -⟩ := hd
                have e32 : u 32 = .tuple #[] := d32 rfl
                have e33 : u 33 = .tuple #[] := d33 rfl
                have e25 : u 25 = .bool false := d25 rfl
                rw [HFX.out]
                simp only [e32, e33, e25]
                clear hp d32 d33 d25
                go_wp2_with fail
                exact ⟨_, by rw [HFX.out]; simp [upd, e32, e33, e25]; rfl, rfl, HS.out, Below.refl _ _⟩
              · intro u W hS hd hp
                have HS := Lib.hid hS
                clear hS
                obtain ⟨d34, d25, -⟩ := hd
                have e34 : u 34 = .tuple #[] := d34 rfl
                have e25 : u 25 = .bool false := d25 rfl
                rw [HFX.out]
                simp only [e34, e25]
                clear hp d34 d25
                go_wp2_with fail
                exact ⟨_, by rw [HFX.out]; simp [upd, e34, e25]; rfl, rfl, HS.out, Below.refl _ _⟩
              · intro u W hS hd hp
                have HS := Lib.hid hS
                clear hS
                obtain ⟨d30, d35, _, d25, -⟩ := hd
                have e30 : u 30 = .tuple #[] := d30 rfl
                have e35 : u 35 = .tuple #[] := d35 rfl
                have e25 : u 25 = .bool false := d25 rfl
                rw [HFX.out]
                simp only [e30, e35, e25]
                clear hp d30 d35 d25
                go_wp2_with fail
                exact ⟨_, by rw [HFX.out]; simp [upd, e30, e35, e25]; rfl, rfl, HS.out, Below.refl _ _⟩
              · intro u W hS hd hp
                have HS := Lib.hid hS
                clear hS
                obtain ⟨d36, d25, -⟩ := hd
                have e36 : u 36 = .tuple #[] := d36 rfl
                have e25 : u 25 = .bool false := d25 rfl
                rw [HFX.out]
                simp only [e36, e25]
                clear hp d36 d25
                go_wp2_with fail
                exact ⟨_, by rw [HFX.out]; simp [upd, e36, e25]; rfl, rfl, HS.out, Below.refl _ _⟩
              · intro u W hS hd hp
                have HS := Lib.hid hS
                clear hS
                obtain ⟨d25, d37, d21, -⟩ := hd
                have e25 : u 25 = .bool false := d25 rfl
                have e37 : u 37 = .tuple #[] := d37 rfl
                have e21 : u 21 = .bool false := d21 rfl
                rw [HFX.out]
                simp only [e25, e37, e21]
                clear hp d25 d37 d21
                go_wp2_with fail
                exact ⟨_, by rw [HFX.out]; simp [upd, e25, e37, e21], rfl, HS.out, Below.refl _ _⟩
              · intro u W hS hd hp
                have HS := Lib.hid hS
                clear hS
                obtain ⟨d21, d38, -⟩ := hd
                have e21 : u 21 = .bool false := d21 rfl
                have e38 : u 38 = .bool false := d38 rfl
                rw [HFX.out]
                simp only [e21, e38]
                clear hp d21 d38
                go_wp2_with fail
                exact ⟨_, by rw [HFX.out]; simp [upd, e21, e38], rfl, HS.out, Below.refl _ _⟩
              · intro u W hS hd hp
                have HS := Lib.hid hS
                clear hS
                obtain ⟨d39, -⟩ := hd
                have e39 : u 39 = .bool false := d39 rfl
                rw [HFX.out]
                simp only [e39]
                clear hp d39
                go_wp2_with fail
                exact ⟨_, by rw [HFX.out]; simp [upd, e39], rfl, HS.out, Below.refl _ _⟩
              · intro u W hS hd hp
                have HS := Lib.hid hS
                clear hS
                obtain ⟨d40, -⟩ := hd
                have e40 : u 40 = .bool false := d40 rfl
                rw [HFX.out]
                simp only [e40]
                clear hp d40
                go_wp2_with fail
                exact ⟨_, by rw [HFX.out]; simp [upd, e40], rfl, HS.out, Below.refl _ _⟩
              · intro u W hS hd hp
                have HS := Lib.hid hS
                clear hS
                obtain ⟨d40, -⟩ := hd
                have e40 : u 40 = .bool false := d40 rfl
                rw [HFX.out]
                simp only [e40]
                clear hp d40
                go_wp2_with fail
                exact ⟨_, by rw [HFX.out]; simp [upd, e40], rfl, HS.out, Below.refl _ _⟩
              · intro u W hS hd hp
                have HS := Lib.hid hS
                clear hS
                obtain ⟨d41, d42, d40, -⟩ := hd
                have e41 : u 41 = .int .i64 was := d41 rfl
                have e42 : u 42 = .int .i64 day := d42 rfl
                have e40 : u 40 = .bool false := d40 rfl
                rw [HFX.out]
                simp only [e41, e42, e40]
                clear hp d41 d42 d40
                have es6 : decide (day ≤ was) = true := EDW.out
                go_wp2_with fail
                exact ⟨_, by rw [HFX.out]; simp [upd, e41, e42, e40], rfl, HS.out, Below.refl _ _⟩
              · intro u W hS hd hp
                have HS := Lib.hid hS
                clear hS
                obtain ⟨d43, _, d40, -⟩ := hd
                have e43 : u 43 = .bool true := d43 rfl
                have e40 : u 40 = .bool false := d40 rfl
                rw [HFX.out]
                simp only [e43, e40]
                clear hp d43 d40
                go_wp2_with fail
                exact ⟨_, by rw [HFX.out]; simp [upd, e43, e40], rfl, HS.out, Below.refl _ _⟩
              · intro u W hS hd hp
                have HS := Lib.hid hS
                clear hS
                obtain ⟨d44, -⟩ := hd
                have e44 : u 44 = .bool true := d44 rfl
                rw [HFX.out]
                simp only [e44]
                clear hp d44
                go_wp2_with fail
                exact ⟨_, by rw [HFX.out]; simp [upd, e44], rfl, HS.out, Below.refl _ _⟩
              · intro u W hS hd hp
                have HS := Lib.hid hS
                clear hS
                obtain ⟨d44, -⟩ := hd
                have e44 : u 44 = .bool true := d44 rfl
                rw [HFX.out]
                simp only [e44]
                clear hp d44
                go_wp2_with fail
                exact ⟨_, by rw [HFX.out]; simp [upd, e44], rfl, HS.out, Below.refl _ _⟩
              · intro u W hS hd hp
                have HS := Lib.hid hS
                clear hS
                obtain ⟨d44, -⟩ := hd
                have e44 : u 44 = .bool true := d44 rfl
                rw [HFX.out]
                simp only [e44]
                clear hp d44
                go_wp2_with fail
                exact ⟨_, by rw [HFX.out]; simp [upd, e44], rfl, HS.out, Below.refl _ _⟩
              · intro u W hS hd hp
                have HS := Lib.hid hS
                clear hS
                obtain ⟨d46, d47, d44, -⟩ := hd
                have e46 : u 46 = .int .i64 day := d46 rfl
                have e47 : u 47 = .int .i64 lst := d47 rfl
                have e44 : u 44 = .bool true := d44 rfl
                rw [HFX.out]
                simp only [e46, e47, e44]
                clear hp d46 d47 d44
                have es7 : wrap64 (day + lst) = day + lst := EWR.out
                go_wp2_with fail
                exact ⟨_, by rw [HFX.out]; simp [upd, e46, e47, e44], rfl, HS.out, Below.refl _ _⟩
              · intro u W hS hd hp
                have HS := Lib.hid hS
                clear hS
                obtain ⟨d45, d48, d44, -⟩ := hd
                have e45 : u 45 = .int .i64 now := d45 rfl
                have e48 : u 48 = .int .i64 (day + lst) := d48 rfl
                have e44 : u 44 = .bool true := d44 rfl
                rw [HFX.out]
                simp only [e45, e48, e44]
                clear hp d45 d48 d44
                have es8 : decide (now < day + lst) = false := ENW.out
                go_wp2_with fail
                exact ⟨_, by rw [HFX.out]; simp [upd, e45, e48, e44], rfl, HS.out, Below.refl _ _⟩
              · intro u W hS hd hp
                have HS := Lib.hid hS
                clear hS
                obtain ⟨d44, d49, d40, -⟩ := hd
                have e44 : u 44 = .bool true := d44 rfl
                have e49 : u 49 = .bool false := d49 rfl
                have e40 : u 40 = .bool false := d40 rfl
                rw [HFX.out]
                simp only [e44, e49, e40]
                clear hp d44 d49 d40
                go_wp2_with fail
                exact ⟨_, by rw [HFX.out]; simp [upd, e44, e49, e40], rfl, HS.out, Below.refl _ _⟩
              · intro u W hS hd hp
                have HS := Lib.hid hS
                clear hS
                obtain ⟨d40, d50, -⟩ := hd
                have e40 : u 40 = .bool false := d40 rfl
                have e50 : u 50 = .bool false := d50 rfl
                rw [HFX.out]
                simp only [e40, e50]
                clear hp d40 d50
                go_wp2_with fail
                exact ⟨_, by rw [HFX.out]; simp [upd, e40, e50], rfl, HS.out, Below.refl _ _⟩
              intro u W hS hf
              have eE : u 51 = .bool false := hf 51 (by decide)
              rw [HFX.out]
              simp only [eE]
              clear eE hf HFX F
              have HW2 := Lib.hid (HW.out.trans (Below.mono hS HW.out.size))
              clear hS
              go_wp2
              go_roundw
              case rel => exact ⟨k + 1, by omega, by go_num, HW2⟩
              case measure => simp [intOf]; omega
    · obtain rfl : K = k := by omega
      go_wp2
      go_ret
      exact ⟨rfl, HB.out.trans (HW.out.mono HB.out.size)⟩
end Go.Proofs.YtknchlpcpgflkaaGreatDoor
