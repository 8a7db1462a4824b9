/- MigrateStuck. -/
import Derived.Test.YtknchlpcpgflkaaGreatDoorKNd
import Derived.Test.YtknchlpcpgflkaaGreatDoorKGBW
import Derived.Test.YtknchlpcpgflkaaGreatDoorKGBU
import Derived.Test.YtknchlpcpgflkaaGreatDoorKGBX
import Derived.Test.YtknchlpcpgflkaaGreatDoorKGBT
import Derived.Test.YtknchlpcpgflkaaGreatDoorKGAV
namespace Go.Proofs.YtknchlpcpgflkaaGreatDoor
open Go.RowKit Go.Shelf

set_option maxRecDepth 100000 in
set_option maxHeartbeats 16000000 in
theorem stuck_walk (w : World) (ht : Tbs w) (z2 : Mg × MgX) (h2 : MgIn w z2) (z3 : Pc × PcX) (h3 : PcIn w z3) (z4 : Pc × PcX) (h4 : PcIn w z4) (raw : Int) (wr0 : (Lit.int .u8 raw).wf = true) :
    Calls Tryz.prog 4 #[.agg (mgC z2.1 z2.2), .agg (pcC z3.1 z3.2), .agg (pcC z4.1 z4.2), .int .u8 raw] w fun e w' => e = .returned (.bool true) ∧ Below w.heap.size w w' := by
  obtain ⟨g, z⟩ := z2
  obtain ⟨p, y⟩ := z3
  obtain ⟨q, v⟩ := z4
  obtain ⟨hg, zg⟩ := h2
  obtain ⟨hp, zp⟩ := h3
  obtain ⟨hq, zq⟩ := h4
  simp only at hg zg hp zp hq zq ⊢
  have hraw : 0 ≤ raw ∧ raw < 256 := by
    have h0 := wr0
    simp only [Lit.wf, Bool.and_eq_true, decide_eq_true_eq] at h0
    rw [show IntKind.u8.min = 0 from rfl, show IntKind.u8.max = 255 from rfl] at h0
    omega
  have hfp := fun W (hW : Below w.heap.size w W) => short_any W w.heap.size p y (hp.below hW) hW.size zp.1 zp.2
  have hfq := fun W (hW : Below w.heap.size w W) => short_any W w.heap.size q v (hq.below hW) hW.size zq.1 zq.2
  have hfg := fun W (hW : Below w.heap.size w W) => gfew_any W w.heap.size g z (hg.below hW) hW.size zg.1 zg.2.1 zg.2.2
  have hhd := fun W (hW : Below w.heap.size w W) => head_any W (ht.below hW)
  have hst := fun W (hW : Below w.heap.size w W) (sg : SmlG g) (sp : SmlP p) (sq : SmlP q) => gstuck_any W (ht.below hW) w.heap.size g z (hg.below hW) hW.size sg p y (hp.below hW) sp q v (hq.below hW) sq
  have hva := fun W (hW : Below w.heap.size w W) (sg : SmlG g) (sp : SmlP p) (sq : SmlP q) => gvalid_any W (ht.below hW) w.heap.size g z (hg.below hW) hW.size sg p y (hp.below hW) sp q v (hq.below hW) sq
  have hrp := fun W (hW : Below w.heap.size w W) (hin : MvIn p.ss.length p.ms) (sp : SmlP p) (s : Int) => reaches_any W w.heap.size p y (hp.below hW) hW.size hin sp.1 sp.2 s
  have hrq := fun W (hW : Below w.heap.size w W) (hin : MvIn q.ss.length q.ms) (sq : SmlP q) (s : Int) => reaches_any W w.heap.size q v (hq.below hW) hW.size hin sq.1 sq.2 s
  have hvi : vdB g p q = true → MvIn p.ss.length p.ms ∧ MvIn q.ss.length q.ms ∧ g.st.length = p.ss.length ∧ 0 < g.st.length := fun hv => by
    obtain ⟨h0, h1, h2, -, -, h5, -⟩ := vdB_iff.1 hv
    exact ⟨pc_in h1, pc_in h2, h5, List.length_pos_iff.2 (mgB_iff.1 h0).2.2.1.1⟩
  have hsg : FewG g → SmlG g := FewG.sml
  have hsp : FewP p → SmlP p := FewP.sml
  have hsq : FewP q → SmlP q := FewP.sml
  have hlen : SmlG g → (stuckL g p q).length ≤ 1000000 := fun h => by
    unfold stuckL
    split
    · exact Nat.le_trans (stuckTo_len g p q _) h.1
    · exact Nat.zero_le _
  have hno : vdB g p q = false → stuckL g p q = [] := fun h => by unfold stuckL; rw [h]; rfl
  have hhas := fun hv i hi => stuck_has (g := g) (p := p) (q := q) hv i hi
  have hsin := fun hv x hx => stuck_in (g := g) (p := p) (q := q) hv (x := x) hx
  have hsup := fun i x y h1 h2 => stuck_up (g := g) (p := p) (q := q) (i := i) (x := x) (y := y) h1 h2
  have hskb : vdB g p q = true → ∀ i s, g.st[i]? = some s → stkB g p q i = (decide (0 ≤ s) && (rchB p (i : Int) && !rchB q s)) := fun hv i s hi => by
    have hn : newSt g (i : Int) = s := by unfold newSt; rw [Int.toNat_natCast, hi]; rfl
    unfold stkB
    rw [hn, rchB_end (hvi hv).1, rchB_end (hvi hv).2.1]
  obtain ⟨V, hV⟩ : ∃ V, vdB g p q = V := ⟨_, rfl⟩
  obtain ⟨L, hL⟩ : ∃ V, stuckL g p q = V := ⟨_, rfl⟩
  obtain ⟨SK, hSK⟩ : ∃ V, stkB g p q = V := ⟨_, rfl⟩
  obtain ⟨RP, hRP⟩ : ∃ V, rchB p = V := ⟨_, rfl⟩
  obtain ⟨RQ, hRQ⟩ : ∃ V, rchB q = V := ⟨_, rfl⟩
  rw [hV] at hva hvi hno hhas hsin hskb
  rw [hL] at hst hlen hno hhas hsin hsup
  rw [hSK] at hhas hskb
  rw [hRP] at hrp hskb
  rw [hRQ] at hrq hskb
  have HGS := hg.st
  clear hV hL hSK hRP hRQ hg hp hq zg zp zq wr0
  obtain ⟨fr, tn, gst, grs, gts⟩ := g
  obtain ⟨b1, dq1, b2, dq2, b3, dq3, tv⟩ := z
  obtain ⟨pn, pss, pms⟩ := p
  obtain ⟨ez1, f1, ez2, f2⟩ := y
  obtain ⟨qn, qss, qms⟩ := q
  obtain ⟨i1, j1, i2, j2⟩ := v
  obtain ⟨gn, hgn⟩ : ∃ k, gst.length = k := ⟨_, rfl⟩
  obtain ⟨grl, hgrl⟩ : ∃ k, grs.length = k := ⟨_, rfl⟩
  obtain ⟨J, hJ⟩ : ∃ k, gts.length = k := ⟨_, rfl⟩
  obtain ⟨pl, hpl⟩ : ∃ k, pss.length = k := ⟨_, rfl⟩
  obtain ⟨pml, hpml⟩ : ∃ k, pms.length = k := ⟨_, rfl⟩
  obtain ⟨ql, hql⟩ : ∃ k, qss.length = k := ⟨_, rfl⟩
  obtain ⟨qml, hqml⟩ : ∃ k, qms.length = k := ⟨_, rfl⟩
  have eG : mgC ⟨fr, tn, gst, grs, gts⟩ ⟨b1, dq1, b2, dq2, b3, dq3, tv⟩ = #[.string fr, .string tn, .slice b1 gn dq1, .slice b2 grl dq2, .slice b3 J dq3] := by unfold mgC; simp only [hgn, hgrl, hJ]
  have eP : pcC ⟨pn, pss, pms⟩ ⟨ez1, f1, ez2, f2⟩ = #[.string pn, .slice ez1 pl f1, .slice ez2 pml f2] := by unfold pcC; simp only [hpl, hpml]
  have eQ : pcC ⟨qn, qss, qms⟩ ⟨i1, j1, i2, j2⟩ = #[.string qn, .slice i1 ql j1, .slice i2 qml j2] := by unfold pcC; simp only [hql, hqml]
  rw [eG] at hfg
  rw [eP] at hfp hrp
  rw [eQ] at hfq hrq
  rw [eG, eP, eQ] at hst hva
  rw [eG, eP, eQ]
  simp only at HGS hhas hsin hvi hrp hrq hskb
  rw [hgn, hpl, hql] at hvi
  rw [hpl] at hrp
  rw [hql] at hrq
  rw [hgn] at hhas hsin
  have HGN := Lib.hid hgn
  have HFP := Lib.hid hfp
  have HFQ := Lib.hid hfq
  have HFG := Lib.hid hfg
  have HHD := Lib.hid hhd
  have HST := Lib.hid hst
  have HVA := Lib.hid hva
  have HRP := Lib.hid hrp
  have HRQ := Lib.hid hrq
  have HVI := Lib.hid hvi
  have HSG := Lib.hid hsg
  have HSP := Lib.hid hsp
  have HSQ := Lib.hid hsq
  have HLEN := Lib.hid hlen
  have HNO := Lib.hid hno
  have HHAS := Lib.hid hhas
  have HSIN := Lib.hid hsin
  have HSUP := Lib.hid hsup
  have HSKB := Lib.hid hskb
  have HGSH := Lib.hid HGS
  have HT := Lib.hid ht
  obtain ⟨hr0, hr1⟩ := hraw
  clear ht eG eP eQ hfp hfq hfg hhd hst hva hrp hrq hvi hsg hsp hsq hlen hno hhas hsin hsup hskb HGS hgn hgrl hJ hpl hpml hql hqml
  have hb := ((below_self_alloc w (.cells #[.string fr, .string tn, .slice b1 gn dq1, .slice b2 grl dq2, .slice b3 J dq3] 30)).alloc (by simp) (.cells #[.string pn, .slice ez1 pl f1, .slice ez2 pml f2] 34)).alloc (by simp; omega) (.cells #[.string qn, .slice i1 ql j1, .slice i2 qml j2] 34)
  have kb0 := ((Blk.new w 30 #[.string fr, .string tn, .slice b1 gn dq1, .slice b2 grl dq2, .slice b3 J dq3]).alloc (.cells #[.string pn, .slice ez1 pl f1, .slice ez2 pml f2] 34)).alloc (.cells #[.string qn, .slice i1 ql j1, .slice i2 qml j2] 34)
  have kb1 := (Blk.new (w.alloc (.cells #[.string fr, .string tn, .slice b1 gn dq1, .slice b2 grl dq2, .slice b3 J dq3] 30)) 34 #[.string pn, .slice ez1 pl f1, .slice ez2 pml f2]).alloc (.cells #[.string qn, .slice i1 ql j1, .slice i2 qml j2] 34)
  rw [show ((w.alloc (.cells #[.string fr, .string tn, .slice b1 gn dq1, .slice b2 grl dq2, .slice b3 J dq3] 30))).heap.size = w.heap.size + 1 from by simp] at kb1
  have kb2 := Blk.new ((w.alloc (.cells #[.string fr, .string tn, .slice b1 gn dq1, .slice b2 grl dq2, .slice b3 J dq3] 30)).alloc (.cells #[.string pn, .slice ez1 pl f1, .slice ez2 pml f2] 34)) 34 #[.string qn, .slice i1 ql j1, .slice i2 qml j2]
  rw [show (((w.alloc (.cells #[.string fr, .string tn, .slice b1 gn dq1, .slice b2 grl dq2, .slice b3 J dq3] 30)).alloc (.cells #[.string pn, .slice ez1 pl f1, .slice ez2 pml f2] 34))).heap.size = w.heap.size + 1 + 1 from by simp] at kb2
  have KB0 := Lib.hid kb0
  have KB1 := Lib.hid kb1
  have KB2 := Lib.hid kb2
  have HB := Lib.hid hb
  clear hb kb0 kb1 kb2
  go_enter Tryz.func4, Tryz.ntmps4
  go_upto_region 1 with fail
  generalize (((w.alloc (.cells #[.string fr, .string tn, .slice b1 gn dq1, .slice b2 grl dq2, .slice b3 J dq3] 30)).alloc (.cells #[.string pn, .slice ez1 pl f1, .slice ez2 pml f2] 34)).alloc (.cells #[.string qn, .slice i1 ql j1, .slice i2 qml j2] 34)) = W0 at *
  go_wp2_with fail
  refine (HHD.out W0 HB.out).mono ?_
  rintro e W1 ⟨rfl, bb⟩
  replace HB := Lib.hid (HB.out.trans (bb.mono HB.out.size))
  replace KB0 := Lib.hid (KB0.out.below bb KB0.out.lt)
  replace KB1 := Lib.hid (KB1.out.below bb KB1.out.lt)
  replace KB2 := Lib.hid (KB2.out.below bb KB2.out.lt)
  clear bb
  obtain ⟨t00, t01, t02⟩ := KB0.out.all
  obtain ⟨t10, t11, t12⟩ := KB1.out.all
  obtain ⟨t20, t21, t22⟩ := KB2.out.all
  go_wp2_with fail
  refine (HFP.out W1 HB.out).mono ?_
  rintro e W2 ⟨qf, rfl, hqf, bb⟩
  clear t00 t01 t02 t10 t11 t12 t20 t21 t22
  replace HB := Lib.hid (HB.out.trans (bb.mono HB.out.size))
  replace KB0 := Lib.hid (KB0.out.below bb KB0.out.lt)
  replace KB1 := Lib.hid (KB1.out.below bb KB1.out.lt)
  replace KB2 := Lib.hid (KB2.out.below bb KB2.out.lt)
  clear bb
  obtain ⟨t00, t01, t02⟩ := KB0.out.all
  obtain ⟨t10, t11, t12⟩ := KB1.out.all
  obtain ⟨t20, t21, t22⟩ := KB2.out.all
  cases qf with
  | false =>
    go_wp2
    go_ret
    exact ⟨rfl, HB.out⟩
  | true =>
  have SP := Lib.hid (HSP.out (hqf rfl))
  clear hqf
  go_wp2_with fail
  refine (HFQ.out W2 HB.out).mono ?_
  rintro e W3 ⟨qf, rfl, hqf, bb⟩
  clear t00 t01 t02 t10 t11 t12 t20 t21 t22
  replace HB := Lib.hid (HB.out.trans (bb.mono HB.out.size))
  replace KB0 := Lib.hid (KB0.out.below bb KB0.out.lt)
  replace KB1 := Lib.hid (KB1.out.below bb KB1.out.lt)
  replace KB2 := Lib.hid (KB2.out.below bb KB2.out.lt)
  clear bb
  obtain ⟨t00, t01, t02⟩ := KB0.out.all
  obtain ⟨t10, t11, t12⟩ := KB1.out.all
  obtain ⟨t20, t21, t22⟩ := KB2.out.all
  cases qf with
  | false =>
    go_wp2
    go_ret
    exact ⟨rfl, HB.out⟩
  | true =>
  have SQ := Lib.hid (HSQ.out (hqf rfl))
  clear hqf
  go_wp2_with fail
  refine (HFG.out W3 HB.out).mono ?_
  rintro e W4 ⟨qf, rfl, hqf, bb⟩
  clear t00 t01 t02 t10 t11 t12 t20 t21 t22
  replace HB := Lib.hid (HB.out.trans (bb.mono HB.out.size))
  replace KB0 := Lib.hid (KB0.out.below bb KB0.out.lt)
  replace KB1 := Lib.hid (KB1.out.below bb KB1.out.lt)
  replace KB2 := Lib.hid (KB2.out.below bb KB2.out.lt)
  clear bb
  obtain ⟨t00, t01, t02⟩ := KB0.out.all
  obtain ⟨t10, t11, t12⟩ := KB1.out.all
  obtain ⟨t20, t21, t22⟩ := KB2.out.all
  cases qf with
  | false =>
    go_wp2
    go_ret
    exact ⟨rfl, HB.out⟩
  | true =>
  have SG := Lib.hid (HSG.out (hqf rfl))
  clear hqf
  go_wp2_with fail
  refine (HST.out W4 HB.out SG.out SP.out SQ.out).mono ?_
  rintro e W5 ⟨A, c, rfl, hA, bb⟩
  have HA := Lib.hid hA
  clear hA
  clear t00 t01 t02 t10 t11 t12 t20 t21 t22
  replace HB := Lib.hid (HB.out.trans (bb.mono HB.out.size))
  replace KB0 := Lib.hid (KB0.out.below bb KB0.out.lt)
  replace KB1 := Lib.hid (KB1.out.below bb KB1.out.lt)
  replace KB2 := Lib.hid (KB2.out.below bb KB2.out.lt)
  clear bb
  obtain ⟨t00, t01, t02⟩ := KB0.out.all
  obtain ⟨t10, t11, t12⟩ := KB1.out.all
  obtain ⟨t20, t21, t22⟩ := KB2.out.all
  go_wp2_with fail
  refine (HVA.out W5 HB.out SG.out SP.out SQ.out).mono ?_
  rintro e W6 ⟨rfl, bb⟩
  replace HA := Lib.hid (HA.out.below bb)
  have HAS := bb.size
  clear t00 t01 t02 t10 t11 t12 t20 t21 t22
  replace HB := Lib.hid (HB.out.trans (bb.mono HB.out.size))
  replace KB0 := Lib.hid (KB0.out.below bb KB0.out.lt)
  replace KB1 := Lib.hid (KB1.out.below bb KB1.out.lt)
  replace KB2 := Lib.hid (KB2.out.below bb KB2.out.lt)
  clear bb
  obtain ⟨t00, t01, t02⟩ := KB0.out.all
  obtain ⟨t10, t11, t12⟩ := KB1.out.all
  obtain ⟨t20, t21, t22⟩ := KB2.out.all
  obtain ⟨B5, hB5⟩ : ∃ b, W5.heap.size = b := ⟨_, rfl⟩
  rw [hB5] at HA HAS
  have HASH := Lib.hid HAS
  clear hB5 HAS
  obtain ⟨NL, hNL⟩ : ∃ N, L.length = N := ⟨_, rfl⟩
  cases V with
  | false =>
    have hL := HNO.out rfl
    subst hL
    obtain rfl : NL = 0 := hNL.symm
    clear HLEN HNO HHAS HSIN HSUP
    go_wp2
    go_ret
    exact ⟨rfl, HB.out⟩
  | true =>
  have hNLl : NL ≤ 1000000 := by rw [← hNL]; exact HLEN.out SG.out
  rw [hNL]
  have HNL := Lib.hid hNL
  clear hNL
  obtain ⟨hi1, hi2, hi3, hi4⟩ := HVI.out rfl
  have HI1 := Lib.hid hi1
  have HI2 := Lib.hid hi2
  obtain rfl : gn = pl := hi3
  clear hi1 hi2
  have hgl := SG.out.1
  simp only at hgl
  rw [HGN.out] at hgl
  have hw1 : IntKind.i64.wrap raw = raw := IntWalk.i64_in _ (by omega)
  have hw2 : IntKind.i64.wrap (gn : Int) = (gn : Int) := IntWalk.i64_in _ (by omega)
  have isn : ¬ ((gn : Int) = 0) := by omega
  go_upto_region 8 with fail
  obtain ⟨s, hs⟩ : ∃ s : Nat, raw % (gn : Int) = (s : Int) := ⟨(raw % (gn : Int)).toNat, (Int.toNat_of_nonneg (Int.emod_nonneg _ (by omega))).symm⟩
  have hsn : s < gn := by
    have := Int.emod_lt_of_pos raw (show (0 : Int) < gn by omega)
    omega
  rw [hs]
  have HSN := Lib.hid hsn
  clear hs hw1 hw2 isn hsn
  go_wp2_with fail
  go_loopw [12, 13] (fun f v wr => ∃ i : Nat, i ≤ NL ∧ f = .bool (decide ((s : Int) ∈ L.take i)) ∧ v = .int .i64 (i : Int) ∧ Hid (Below W6.heap.size W6 wr)) (fun _ v _ => NL - (intOf v).toNat)
  case atStart => exact ⟨0, Nat.zero_le _, by simp, rfl, Lib.hid (Below.refl _ _)⟩
  case round =>
    clear t00 t01 t02 t10 t11 t12 t20 t21 t22
    obtain ⟨i, hi, rfl, rfl, HW⟩ := hrel
    obtain ⟨t10, t11, t12⟩ := (KB1.out.below HW.out KB1.out.lt).all
    by_cases hlt : i < NL
    · obtain ⟨x, hx⟩ : ∃ x, L[i]? = some x := ⟨_, List.getElem?_eq_getElem (by rw [HNL.out]; exact hlt)⟩
      have hin := HSIN.out (by trivial) x (List.mem_of_getElem? hx)
      have hAW := HA.out.below (HW.out.mono HASH.out)
      obtain ⟨ga, oa, hAg, hga, pa⟩ := hAW i x hx
      subst hAg
      have hnx : decide ((s : Int) ∈ L.take (i + 1)) = (decide ((s : Int) ∈ L.take i) || decide (x = (s : Int))) := by
        rw [List.take_add_one, hx, Bool.eq_iff_iff]
        simp only [Option.toList_some, List.mem_append, List.mem_singleton, decide_eq_true_eq, Bool.or_eq_true]
        exact ⟨fun h => h.imp id Eq.symm, fun h => h.imp id Eq.symm⟩
      obtain ⟨f, hf⟩ : ∃ f, decide ((s : Int) ∈ L.take i) = f := ⟨_, rfl⟩
      rw [hf] at hnx ⊢
      have ib0 : (0 : Int) ≤ (i : Int) := by omega
      have ib1 : (i : Int) < (NL : Int) := by omega
      have c1 : decide (x < 0) = false := decide_eq_false (by omega)
      have c2 : decide ((gn : Int) ≤ x) = false := decide_eq_false (by omega)
      have PA := Lib.hid pa
      have HNX0 := Lib.hid hnx
      clear hnx
      by_cases h0 : i = 0
      · have c5 : decide ((0 : Int) < (i : Int)) = false := decide_eq_false (by omega)
        have c6 : decide (0 < i) = false := decide_eq_false (by omega)
        clear hf hx hin hAW h0
        have HWQ := Lib.hid HW.out
        go_upto_region 12 with fail
        go_quiet (fail)
        have HW2 := Lib.hid (below_drewN HW.out nq)
        have pa' : (wr.drewN nq).cell? ⟨ga, oa + i, none⟩ = some (.int .i64 x) := PA.out
        clear t10 t11 t12 pa HWQ
        generalize wr.drewN nq = wq at *
        have hnx := HNX0.out
        cases f with
        | true =>
          rw [Bool.true_or] at hnx
          have HNX := Lib.hid hnx
          clear hnx
          go_wp2
          go_roundw
          case rel => exact ⟨i + 1, by omega, by rw [HNX.out], by go_num, HW2⟩
          case measure => simp [intOf]; omega
        | false =>
          rw [Bool.false_or] at hnx
          by_cases hxs : x = (s : Int)
          · rw [decide_eq_true hxs] at hnx
            have HNX := Lib.hid hnx
            clear hnx
            subst hxs
            go_wp2
            go_roundw
            case rel => exact ⟨i + 1, by omega, by rw [HNX.out], by go_num, HW2⟩
            case measure => simp [intOf]; omega
          · rw [decide_eq_false hxs] at hnx
            have HNX := Lib.hid hnx
            have hxe : (x == (s : Int)) = false := by simpa using hxs
            have HXE := Lib.hid hxe
            clear hxe
            clear hnx
            go_wp2
            go_roundw
            case rel => exact ⟨i + 1, by omega, by rw [HNX.out, HXE.out], by go_num, HW2⟩
            case measure => simp [intOf]; omega
      · obtain ⟨j, rfl⟩ : ∃ j : Nat, i = j + 1 := ⟨i - 1, by omega⟩
        obtain ⟨y, hy⟩ : ∃ y, L[j]? = some y := ⟨_, List.getElem?_eq_getElem (by rw [HNL.out]; omega)⟩
        have hup := HSUP.out j y x hy hx
        obtain ⟨gb, ob, hBg, hgb, pb⟩ := hAW j y hy
        injection hBg with hBg
        injection hBg with e1 e2 e3
        subst e1 e2
        have c3 : decide (x ≤ y) = false := decide_eq_false (by omega)
        have c4 : wrap64 (((j + 1 : Nat) : Int) - 1) = (j : Int) := by unfold wrap64; omega
        have c5 : decide ((0 : Int) < ((j + 1 : Nat) : Int)) = true := decide_eq_true (by omega)
        have c6 : decide (0 < j + 1) = true := decide_eq_true (by omega)
        have ic0 : (0 : Int) ≤ (j : Int) := by omega
        have ic1 : (j : Int) < (NL : Int) := by omega
        clear hf hx hin hAW hy hup e3 h0
        have HWQ := Lib.hid HW.out
        go_upto_region 12 with fail
        go_quiet (fail)
        have HW2 := Lib.hid (below_drewN HW.out nq)
        have pa' : (wr.drewN nq).cell? ⟨ga, oa + (j + 1), none⟩ = some (.int .i64 x) := PA.out
        clear t10 t11 t12 pa pb HWQ
        generalize wr.drewN nq = wq at *
        have hnx := HNX0.out
        cases f with
        | true =>
          rw [Bool.true_or] at hnx
          have HNX := Lib.hid hnx
          clear hnx
          go_wp2
          go_roundw
          case rel => exact ⟨(j + 1) + 1, by omega, by rw [HNX.out], by go_num, HW2⟩
          case measure => simp [intOf]; omega
        | false =>
          rw [Bool.false_or] at hnx
          by_cases hxs : x = (s : Int)
          · rw [decide_eq_true hxs] at hnx
            have HNX := Lib.hid hnx
            clear hnx
            subst hxs
            go_wp2
            go_roundw
            case rel => exact ⟨(j + 1) + 1, by omega, by rw [HNX.out], by go_num, HW2⟩
            case measure => simp [intOf]; omega
          · rw [decide_eq_false hxs] at hnx
            have HNX := Lib.hid hnx
            have hxe : (x == (s : Int)) = false := by simpa using hxs
            have HXE := Lib.hid hxe
            clear hxe
            clear hnx
            go_wp2
            go_roundw
            case rel => exact ⟨(j + 1) + 1, by omega, by rw [HNX.out, HXE.out], by go_num, HW2⟩
            case measure => simp [intOf]; omega
    · obtain rfl : i = NL := by omega
      have nb : ¬ (i : Int) < (i : Int) := by omega
      rw [show L.take i = L from List.take_of_length_le (by rw [HNL.out]; exact Nat.le_refl _)]
      have hha := HHAS.out (by trivial) s HSN.out
      obtain ⟨ns, hns⟩ : ∃ x, gst[s]? = some x := ⟨_, List.getElem?_eq_getElem (by rw [HGN.out]; exact HSN.out)⟩
      have hsk := HSKB.out (by trivial) s ns hns
      obtain ⟨gc, oc, hCg, hgc, pc⟩ := (HGSH.out.below (HB.out.trans (HW.out.mono HB.out.size))) s ns hns
      have hCg : b1 = some ⟨gc, oc, none⟩ := hCg
      subst hCg
      rw [hha, hsk]
      have PN := Lib.hid pc
      have PGL : Hid (gc < wr.heap.size) := Lib.hid (Nat.lt_of_lt_of_le hgc (Nat.le_trans HB.out.size HW.out.size))
      have HBW := Lib.hid (HB.out.trans (HW.out.mono HB.out.size))
      replace KB0 := Lib.hid (KB0.out.below HW.out KB0.out.lt)
      replace KB1 := Lib.hid (KB1.out.below HW.out KB1.out.lt)
      replace KB2 := Lib.hid (KB2.out.below HW.out KB2.out.lt)
      have hcp := fun V (hV : PSv wr V) => HRP.out V (HBW.out.trans (Below.mono hV HBW.out.size)) HI1.out SP.out (s : Int)
      have hcq := fun V (hV : PSv wr V) => HRQ.out V (HBW.out.trans (Below.mono hV HBW.out.size)) HI2.out SQ.out ns
      obtain ⟨rp, hrp⟩ : ∃ r, RP (s : Int) = r := ⟨_, rfl⟩
      obtain ⟨rq, hrq⟩ : ∃ r, RQ ns = r := ⟨_, rfl⟩
      rw [hrp] at hcp
      rw [hrq] at hcq
      rw [hrp, hrq]
      have CP : Hid (∀ V, PSv wr V → Calls Tryz.prog 19 #[.agg #[.string pn, .slice ez1 gn f1, .slice ez2 pml f2], .int .i64 (s : Int)] V fun e w' => e = .returned (.bool rp) ∧ Below V.heap.size V w') := Lib.hid hcp
      have CQ : Hid (∀ V, PSv wr V → Calls Tryz.prog 19 #[.agg #[.string qn, .slice i1 ql j1, .slice i2 qml j2], .int .i64 ns] V fun e w' => e = .returned (.bool rq) ∧ Below V.heap.size V w') := Lib.hid hcq
      have ib0 : (0 : Int) ≤ (s : Int) := by omega
      have ib1 : (s : Int) < (gn : Int) := by have := HSN.out; omega
      clear hha hns hsk pc hcp hcq hrp hrq t10 t11 t12 hgc
      by_cases h0 : 0 ≤ ns
      · have E0 : Hid (decide (0 ≤ ns) = true) := Lib.hid (decide_eq_true h0)
        rw [decide_eq_true h0]
        clear h0
        cases rp with
        | false =>
          go_upto_region 15 with fail
          refine wp_region_rg2 (PSv wr) RB ([isV (.bool true), isV (.bool true), isV (.bool false), isV (.pointer (some ⟨w.heap.size, 2, none⟩)), isV (.slice (some ⟨gc, oc, none⟩) gn dq1), isV (.int .i64 (s : Int)), isV (.pointer (some ⟨gc, oc + s, none⟩)), isV (.int .i64 ns), isV (.bool true), isV (.bool true), isV (.agg #[.string pn, .slice ez1 gn f1, .slice ez2 pml f2]), isV (.int .i64 (s : Int)), isV (.bool false), isV (.bool false), isV (.bool false), isV (.tuple #[]), isV (.tuple #[]), isV (.tuple #[]), isV (.tuple #[]), isV (.tuple #[]), isV (.tuple #[]), isV (.tuple #[]), isV (.tuple #[]), isV (.bool false), isV (.bool true), isV (.bool true), isV (.bool true)]) [0, 1, 2, 3, 4, 5, 6, 7, 8, 9, 10, 11, 12, 13, 14, 15, 16, 17, 18, 19, 20, 21, 22, 23, 24, 25, 26] (by kernel_rfl) (by kernel_rfl) (by kernel_rfl) (below_drewM wr) ⟨isV_mono _, isV_mono _, isV_mono _, isV_mono _, isV_mono _, isV_mono _, isV_mono _, isV_mono _, isV_mono _, isV_mono _, isV_mono _, isV_mono _, isV_mono _, isV_mono _, isV_mono _, isV_mono _, isV_mono _, isV_mono _, isV_mono _, isV_mono _, isV_mono _, isV_mono _, isV_mono _, isV_mono _, isV_mono _, isV_mono _, isV_mono _, trivial⟩ ?_
          intro F hF
          simp only [putAll, List.map_cons, List.map_nil, Act.put, List.setIfInBounds_toArray, List.set_cons_succ, List.set_cons_zero] at hF
          have HFX := Lib.hid hF
          clear hF
          refine ⟨fun Q' => ⟨?_, ?_, ?_, ?_, ?_, ?_, ?_, ?_, ?_, ?_, ?_, ?_, ?_, ?_, ?_, ?_, ?_, ?_, ?_, ?_, ?_, ?_, ?_, ?_, ?_, ?_, ?_, trivial⟩, ?_⟩
          · intro u W hS hd hp
            have HS := Lib.hid hS
            clear hS
            rw [HFX.out]
            clear hd hp 
            go_wp2_with fail
            exact ⟨_, by rw [HFX.out]; simp [upd], rfl, HS.out, Below.refl _ _⟩
          · intro u W hS hd hp
            have HS := Lib.hid hS
            clear hS
            obtain ⟨d0, -⟩ := hd
            have e0 : u 0 = .bool true := d0 rfl
            rw [HFX.out]
            simp only [e0]
            clear hp d0
            go_wp2_with fail
            exact ⟨_, by rw [HFX.out]; simp [upd, e0], rfl, HS.out, Below.refl _ _⟩
          · intro u W hS hd hp
            have HS := Lib.hid hS
            clear hS
            obtain ⟨d1, -⟩ := hd
            have e1 : u 1 = .bool true := d1 rfl
            rw [HFX.out]
            simp only [e1]
            clear hp d1
            go_wp2_with fail
            exact ⟨_, by rw [HFX.out]; simp [upd, e1], rfl, HS.out, Below.refl _ _⟩
          · intro u W hS hd hp
            have HS := Lib.hid hS
            clear hS
            obtain ⟨d1, -⟩ := hd
            have e1 : u 1 = .bool true := d1 rfl
            rw [HFX.out]
            simp only [e1]
            clear hp d1
            go_wp2_with fail
            exact ⟨_, by rw [HFX.out]; simp [upd, e1], rfl, HS.out, Below.refl _ _⟩
          · intro u W hS hd hp
            have HS := Lib.hid hS
            clear hS
            obtain ⟨d3, d1, -⟩ := hd
            have e3 : u 3 = .pointer (some ⟨w.heap.size, 2, none⟩) := d3 rfl
            have e1 : u 1 = .bool true := d1 rfl
            rw [HFX.out]
            simp only [e3, e1]
            clear hp d3 d1
            obtain ⟨r0, r1, r2⟩ := (KB0.out.below HS.out KB0.out.lt).all
            go_wp2_with fail
            exact ⟨_, by rw [HFX.out]; simp [upd, e3, e1], rfl, HS.out, Below.refl _ _⟩
          · intro u W hS hd hp
            have HS := Lib.hid hS
            clear hS
            obtain ⟨d1, -⟩ := hd
            have e1 : u 1 = .bool true := d1 rfl
            rw [HFX.out]
            simp only [e1]
            clear hp d1
            go_wp2_with fail
            exact ⟨_, by rw [HFX.out]; simp [upd, e1], rfl, HS.out, Below.refl _ _⟩
          · intro u W hS hd hp
            have HS := Lib.hid hS
            clear hS
            obtain ⟨d4, d5, d1, -⟩ := hd
            have e4 : u 4 = .slice (some ⟨gc, oc, none⟩) gn dq1 := d4 rfl
            have e5 : u 5 = .int .i64 (s : Int) := d5 rfl
            have e1 : u 1 = .bool true := d1 rfl
            rw [HFX.out]
            simp only [e4, e5, e1]
            clear hp d4 d5 d1
            have jb0 := ib0
            have jb1 := ib1
            go_wp2_with fail
            exact ⟨_, by rw [HFX.out]; simp [upd, e4, e5, e1], rfl, HS.out, Below.refl _ _⟩
          · intro u W hS hd hp
            have HS := Lib.hid hS
            clear hS
            obtain ⟨d6, d1, -⟩ := hd
            have e6 : u 6 = .pointer (some ⟨gc, oc + s, none⟩) := d6 rfl
            have e1 : u 1 = .bool true := d1 rfl
            rw [HFX.out]
            simp only [e6, e1]
            clear hp d6 d1
            have r0 := (HS.out.cell (p := ⟨gc, oc + s, none⟩) (by have := PGL.out; omega)).trans PN.out
            go_wp2_with fail
            exact ⟨_, by rw [HFX.out]; simp [upd, e6, e1], rfl, HS.out, Below.refl _ _⟩
          · intro u W hS hd hp
            have HS := Lib.hid hS
            clear hS
            obtain ⟨d7, d1, -⟩ := hd
            have e7 : u 7 = .int .i64 ns := d7 rfl
            have e1 : u 1 = .bool true := d1 rfl
            rw [HFX.out]
            simp only [e7, e1]
            clear hp d7 d1
            have es : decide (0 ≤ ns) = true := E0.out
            go_wp2_with fail
            exact ⟨_, by rw [HFX.out]; simp [upd, e7, e1], rfl, HS.out, Below.refl _ _⟩
          · intro u W hS hd hp
            have HS := Lib.hid hS
            clear hS
            obtain ⟨d8, _, d1, -⟩ := hd
            have e8 : u 8 = .bool true := d8 rfl
            have e1 : u 1 = .bool true := d1 rfl
            rw [HFX.out]
            simp only [e8, e1]
            clear hp d8 d1
            go_wp2_with fail
            exact ⟨_, by rw [HFX.out]; simp [upd, e8, e1], rfl, HS.out, Below.refl _ _⟩
          · intro u W hS hd hp
            have HS := Lib.hid hS
            clear hS
            obtain ⟨d9, -⟩ := hd
            have e9 : u 9 = .bool true := d9 rfl
            rw [HFX.out]
            simp only [e9]
            clear hp d9
            obtain ⟨r0, r1, r2⟩ := (KB1.out.below HS.out KB1.out.lt).all
            go_wp2_with fail
            exact ⟨_, by rw [HFX.out]; simp [upd, e9], rfl, HS.out, Below.refl _ _⟩
          · intro u W hS hd hp
            have HS := Lib.hid hS
            clear hS
            obtain ⟨d9, -⟩ := hd
            have e9 : u 9 = .bool true := d9 rfl
            rw [HFX.out]
            simp only [e9]
            clear hp d9
            go_wp2_with fail
            exact ⟨_, by rw [HFX.out]; simp [upd, e9], rfl, HS.out, Below.refl _ _⟩
          · intro u W hS hd hp
            have HS := Lib.hid hS
            clear hS
            obtain ⟨d10, d11, _, d9, -⟩ := hd
            have e10 : u 10 = .agg #[.string pn, .slice ez1 gn f1, .slice ez2 pml f2] := d10 rfl
            have e11 : u 11 = .int .i64 (s : Int) := d11 rfl
            have e9 : u 9 = .bool true := d9 rfl
            rw [HFX.out]
            simp only [e10, e11, e9]
            clear hp d10 d11 d9
            have HC := Lib.hid (CP.out W HS.out)
            go_wp2_with fail
            refine HC.out.mono ?_
            rintro e W2 ⟨rfl, b2⟩
            go_wp2_with fail
            exact ⟨_, by rw [HFX.out]; simp [upd, e10, e11, e9], rfl, PSv.go HS.out b2, b2⟩
          · intro u W hS hd hp
            have HS := Lib.hid hS
            clear hS
            obtain ⟨d9, d12, d1, -⟩ := hd
            have e9 : u 9 = .bool true := d9 rfl
            have e12 : u 12 = .bool false := d12 rfl
            have e1 : u 1 = .bool true := d1 rfl
            rw [HFX.out]
            simp only [e9, e12, e1]
            clear hp d9 d12 d1
            go_wp2_with fail
            exact ⟨_, by rw [HFX.out]; simp [upd, e9, e12, e1], rfl, HS.out, Below.refl _ _⟩
          · intro u W hS hd hp
            have HS := Lib.hid hS
            clear hS
            obtain ⟨d13, _, d1, -⟩ := hd
            have e13 : u 13 = .bool false := d13 rfl
            have e1 : u 1 = .bool true := d1 rfl
            rw [HFX.out]
            simp only [e13, e1]
            clear hp d13 d1
            go_wp2_with fail
            exact ⟨_, by rw [HFX.out]; simp [upd, e13, e1], rfl, HS.out, Below.refl _ _⟩
          · intro u W hS hd hp
            have HS := Lib.hid hS
            clear hS
            obtain ⟨d14, -⟩ := hd
            have e14 : u 14 = .bool false := d14 rfl
            rw [HFX.out]
            simp only [e14]
            clear hp d14
            go_wp2_with fail
            exact ⟨_, by rw [HFX.out]; simp [upd, e14]; rfl, rfl, HS.out, Below.refl _ _⟩
          · intro u W hS hd hp
            have HS := Lib.hid hS
            clear hS
            obtain ⟨d14, -⟩ := hd
            have e14 : u 14 = .bool false := d14 rfl
            rw [HFX.out]
            simp only [e14]
            clear hp d14
            go_wp2_with fail
            exact ⟨_, by rw [HFX.out]; simp [upd, e14]; rfl, rfl, HS.out, Below.refl _ _⟩
          · intro u W hS hd hp
            have HS := Lib.hid hS
            clear hS
            obtain ⟨d16, d14, -⟩ := hd
            have e16 : u 16 = .tuple #[] := d16 rfl
            have e14 : u 14 = .bool false := d14 rfl
            rw [HFX.out]
            simp only [e16, e14]
            clear hp d16 d14
            go_wp2_with fail
            exact ⟨_, by rw [HFX.out]; simp [upd, e16, e14]; rfl, rfl, HS.out, Below.refl _ _⟩
          · intro u W hS hd hp
            have HS := Lib.hid hS
            clear hS
            obtain ⟨d14, -⟩ := hd
            have e14 : u 14 = .bool false := d14 rfl
            rw [HFX.out]
            simp only [e14]
            clear hp d14
            go_wp2_with fail
            exact ⟨_, by rw [HFX.out]; simp [upd, e14]; rfl, rfl, HS.out, Below.refl _ _⟩
          · intro u W hS hd hp
            have HS := Lib.hid hS
            clear hS
            obtain ⟨d17, d18, d14, -⟩ := hd
            have e17 : u 17 = .tuple #[] := d17 rfl
            have e18 : u 18 = .tuple #[] := d18 rfl
            have e14 : u 14 = .bool false := d14 rfl
            rw [HFX.out]
            simp only [e17, e18, e14]
            clear hp d17 d18 d14
            go_wp2_with fail
            exact ⟨_, by rw [HFX.out]; simp [upd, e17, e18, e14]; rfl, rfl, HS.out, Below.refl _ _⟩
          · intro u W hS hd hp
            have HS := Lib.hid hS
            clear hS
            obtain ⟨d19, d14, -⟩ := hd
            have e19 : u 19 = .tuple #[] := d19 rfl
            have e14 : u 14 = .bool false := d14 rfl
            rw [HFX.out]
            simp only [e19, e14]
            clear hp d19 d14
            go_wp2_with fail
            exact ⟨_, by rw [HFX.out]; simp [upd, e19, e14]; rfl, rfl, HS.out, Below.refl _ _⟩
          · intro u W hS hd hp
            have HS := Lib.hid hS
            clear hS
            obtain ⟨d15, d20, _, d14, -⟩ := hd
            have e15 : u 15 = .tuple #[] := d15 rfl
            have e20 : u 20 = .tuple #[] := d20 rfl
            have e14 : u 14 = .bool false := d14 rfl
            rw [HFX.out]
            simp only [e15, e20, e14]
            clear hp d15 d20 d14
            go_wp2_with fail
            exact ⟨_, by rw [HFX.out]; simp [upd, e15, e20, e14]; rfl, rfl, HS.out, Below.refl _ _⟩
          · intro u W hS hd hp
            have HS := Lib.hid hS
            clear hS
            obtain ⟨d21, d14, -⟩ := hd
            have e21 : u 21 = .tuple #[] := d21 rfl
            have e14 : u 14 = .bool false := d14 rfl
            rw [HFX.out]
            simp only [e21, e14]
            clear hp d21 d14
            go_wp2_with fail
            exact ⟨_, by rw [HFX.out]; simp [upd, e21, e14]; rfl, rfl, HS.out, Below.refl _ _⟩
          · intro u W hS hd hp
            have HS := Lib.hid hS
            clear hS
            obtain ⟨d14, d22, d1, -⟩ := hd
            have e14 : u 14 = .bool false := d14 rfl
            have e22 : u 22 = .tuple #[] := d22 rfl
            have e1 : u 1 = .bool true := d1 rfl
            rw [HFX.out]
            simp only [e14, e22, e1]
            clear hp d14 d22 d1
            go_wp2_with fail
            exact ⟨_, by rw [HFX.out]; simp [upd, e14, e22, e1], rfl, HS.out, Below.refl _ _⟩
          · intro u W hS hd hp
            have HS := Lib.hid hS
            clear hS
            obtain ⟨d2, d23, d1, -⟩ := hd
            have e2 : u 2 = .bool false := d2 rfl
            have e23 : u 23 = .bool false := d23 rfl
            have e1 : u 1 = .bool true := d1 rfl
            rw [HFX.out]
            simp only [e2, e23, e1]
            clear hp d2 d23 d1
            go_wp2_with fail
            exact ⟨_, by rw [HFX.out]; simp [upd, e2, e23, e1], rfl, HS.out, Below.refl _ _⟩
          · intro u W hS hd hp
            have HS := Lib.hid hS
            clear hS
            obtain ⟨d1, d24, -⟩ := hd
            have e1 : u 1 = .bool true := d1 rfl
            have e24 : u 24 = .bool true := d24 rfl
            rw [HFX.out]
            simp only [e1, e24]
            clear hp d1 d24
            go_wp2_with fail
            exact ⟨_, by rw [HFX.out]; simp [upd, e1, e24], rfl, HS.out, Below.refl _ _⟩
          · intro u W hS hd hp
            have HS := Lib.hid hS
            clear hS
            obtain ⟨d25, -⟩ := hd
            have e25 : u 25 = .bool true := d25 rfl
            rw [HFX.out]
            simp only [e25]
            clear hp d25
            go_wp2_with fail
            exact ⟨_, by rw [HFX.out]; simp [upd, e25], rfl, HS.out, Below.refl _ _⟩
          intro u W hS hf
          have eE : u 26 = .bool true := hf 26 (by decide)
          rw [HFX.out]
          simp only [eE]
          clear eE hf HFX F
          go_wp2
          go_ret
          exact ⟨rfl, HBW.out.trans (Below.mono hS HBW.out.size)⟩
        | true =>
          cases rq with
          | false =>
            go_upto_region 15 with fail
            refine wp_region_rg2 (PSv wr) RB ([isV (.bool true), isV (.bool true), isV (.bool true), isV (.pointer (some ⟨w.heap.size, 2, none⟩)), isV (.slice (some ⟨gc, oc, none⟩) gn dq1), isV (.int .i64 (s : Int)), isV (.pointer (some ⟨gc, oc + s, none⟩)), isV (.int .i64 ns), isV (.bool true), isV (.bool true), isV (.agg #[.string pn, .slice ez1 gn f1, .slice ez2 pml f2]), isV (.int .i64 (s : Int)), isV (.bool true), isV (.bool true), isV (.bool true), isV (.agg #[.string qn, .slice i1 ql j1, .slice i2 qml j2]), isV (.pointer (some ⟨w.heap.size, 2, none⟩)), isV (.slice (some ⟨gc, oc, none⟩) gn dq1), isV (.int .i64 (s : Int)), isV (.pointer (some ⟨gc, oc + s, none⟩)), isV (.int .i64 ns), isV (.bool false), isV (.bool true), isV (.bool true), isV (.bool true), isV (.bool true), isV (.bool true)]) [0, 1, 2, 3, 4, 5, 6, 7, 8, 9, 10, 11, 12, 13, 14, 15, 16, 17, 18, 19, 20, 21, 22, 23, 24, 25, 26] (by kernel_rfl) (by kernel_rfl) (by kernel_rfl) (below_drewM wr) ⟨isV_mono _, isV_mono _, isV_mono _, isV_mono _, isV_mono _, isV_mono _, isV_mono _, isV_mono _, isV_mono _, isV_mono _, isV_mono _, isV_mono _, isV_mono _, isV_mono _, isV_mono _, isV_mono _, isV_mono _, isV_mono _, isV_mono _, isV_mono _, isV_mono _, isV_mono _, isV_mono _, isV_mono _, isV_mono _, isV_mono _, isV_mono _, trivial⟩ ?_
            intro F hF
            simp only [putAll, List.map_cons, List.map_nil, Act.put, List.setIfInBounds_toArray, List.set_cons_succ, List.set_cons_zero] at hF
            have HFX := Lib.hid hF
            clear hF
            refine ⟨fun Q' => ⟨?_, ?_, ?_, ?_, ?_, ?_, ?_, ?_, ?_, ?_, ?_, ?_, ?_, ?_, ?_, ?_, ?_, ?_, ?_, ?_, ?_, ?_, ?_, ?_, ?_, ?_, ?_, trivial⟩, ?_⟩
            · intro u W hS hd hp
              have HS := Lib.hid hS
              clear hS
              rw [HFX.out]
              clear hd hp 
              go_wp2_with fail
              exact ⟨_, by rw [HFX.out]; simp [upd], rfl, HS.out, Below.refl _ _⟩
            · intro u W hS hd hp
              have HS := Lib.hid hS
              clear hS
              obtain ⟨d0, -⟩ := hd
              have e0 : u 0 = .bool true := d0 rfl
              rw [HFX.out]
              simp only [e0]
              clear hp d0
              go_wp2_with fail
              exact ⟨_, by rw [HFX.out]; simp [upd, e0], rfl, HS.out, Below.refl _ _⟩
            · intro u W hS hd hp
              have HS := Lib.hid hS
              clear hS
              obtain ⟨d1, -⟩ := hd
              have e1 : u 1 = .bool true := d1 rfl
              rw [HFX.out]
              simp only [e1]
              clear hp d1
              go_wp2_with fail
              exact ⟨_, by rw [HFX.out]; simp [upd, e1], rfl, HS.out, Below.refl _ _⟩
            · intro u W hS hd hp
              have HS := Lib.hid hS
              clear hS
              obtain ⟨d1, -⟩ := hd
              have e1 : u 1 = .bool true := d1 rfl
              rw [HFX.out]
              simp only [e1]
              clear hp d1
              go_wp2_with fail
              exact ⟨_, by rw [HFX.out]; simp [upd, e1], rfl, HS.out, Below.refl _ _⟩
            · intro u W hS hd hp
              have HS := Lib.hid hS
              clear hS
              obtain ⟨d3, d1, -⟩ := hd
              have e3 : u 3 = .pointer (some ⟨w.heap.size, 2, none⟩) := d3 rfl
              have e1 : u 1 = .bool true := d1 rfl
              rw [HFX.out]
              simp only [e3, e1]
              clear hp d3 d1
              obtain ⟨r0, r1, r2⟩ := (KB0.out.below HS.out KB0.out.lt).all
              go_wp2_with fail
              exact ⟨_, by rw [HFX.out]; simp [upd, e3, e1], rfl, HS.out, Below.refl _ _⟩
            · intro u W hS hd hp
              have HS := Lib.hid hS
              clear hS
              obtain ⟨d1, -⟩ := hd
              have e1 : u 1 = .bool true := d1 rfl
              rw [HFX.out]
              simp only [e1]
              clear hp d1
              go_wp2_with fail
              exact ⟨_, by rw [HFX.out]; simp [upd, e1], rfl, HS.out, Below.refl _ _⟩
            · intro u W hS hd hp
              have HS := Lib.hid hS
              clear hS
              obtain ⟨d4, d5, d1, -⟩ := hd
              have e4 : u 4 = .slice (some ⟨gc, oc, none⟩) gn dq1 := d4 rfl
              have e5 : u 5 = .int .i64 (s : Int) := d5 rfl
              have e1 : u 1 = .bool true := d1 rfl
              rw [HFX.out]
              simp only [e4, e5, e1]
              clear hp d4 d5 d1
              have jb0 := ib0
              have jb1 := ib1
              go_wp2_with fail
              exact ⟨_, by rw [HFX.out]; simp [upd, e4, e5, e1], rfl, HS.out, Below.refl _ _⟩
            · intro u W hS hd hp
              have HS := Lib.hid hS
              clear hS
              obtain ⟨d6, d1, -⟩ := hd
              have e6 : u 6 = .pointer (some ⟨gc, oc + s, none⟩) := d6 rfl
              have e1 : u 1 = .bool true := d1 rfl
              rw [HFX.out]
              simp only [e6, e1]
              clear hp d6 d1
              have r0 := (HS.out.cell (p := ⟨gc, oc + s, none⟩) (by have := PGL.out; omega)).trans PN.out
              go_wp2_with fail
              exact ⟨_, by rw [HFX.out]; simp [upd, e6, e1], rfl, HS.out, Below.refl _ _⟩
            · intro u W hS hd hp
              have HS := Lib.hid hS
              clear hS
              obtain ⟨d7, d1, -⟩ := hd
              have e7 : u 7 = .int .i64 ns := d7 rfl
              have e1 : u 1 = .bool true := d1 rfl
              rw [HFX.out]
              simp only [e7, e1]
              clear hp d7 d1
              have es : decide (0 ≤ ns) = true := E0.out
              go_wp2_with fail
              exact ⟨_, by rw [HFX.out]; simp [upd, e7, e1], rfl, HS.out, Below.refl _ _⟩
            · intro u W hS hd hp
              have HS := Lib.hid hS
              clear hS
              obtain ⟨d8, _, d1, -⟩ := hd
              have e8 : u 8 = .bool true := d8 rfl
              have e1 : u 1 = .bool true := d1 rfl
              rw [HFX.out]
              simp only [e8, e1]
              clear hp d8 d1
              go_wp2_with fail
              exact ⟨_, by rw [HFX.out]; simp [upd, e8, e1], rfl, HS.out, Below.refl _ _⟩
            · intro u W hS hd hp
              have HS := Lib.hid hS
              clear hS
              obtain ⟨d9, -⟩ := hd
              have e9 : u 9 = .bool true := d9 rfl
              rw [HFX.out]
              simp only [e9]
              clear hp d9
              obtain ⟨r0, r1, r2⟩ := (KB1.out.below HS.out KB1.out.lt).all
              go_wp2_with fail
              exact ⟨_, by rw [HFX.out]; simp [upd, e9], rfl, HS.out, Below.refl _ _⟩
            · intro u W hS hd hp
              have HS := Lib.hid hS
              clear hS
              obtain ⟨d9, -⟩ := hd
              have e9 : u 9 = .bool true := d9 rfl
              rw [HFX.out]
              simp only [e9]
              clear hp d9
              go_wp2_with fail
              exact ⟨_, by rw [HFX.out]; simp [upd, e9], rfl, HS.out, Below.refl _ _⟩
            · intro u W hS hd hp
              have HS := Lib.hid hS
              clear hS
              obtain ⟨d10, d11, _, d9, -⟩ := hd
              have e10 : u 10 = .agg #[.string pn, .slice ez1 gn f1, .slice ez2 pml f2] := d10 rfl
              have e11 : u 11 = .int .i64 (s : Int) := d11 rfl
              have e9 : u 9 = .bool true := d9 rfl
              rw [HFX.out]
              simp only [e10, e11, e9]
              clear hp d10 d11 d9
              have HC := Lib.hid (CP.out W HS.out)
              go_wp2_with fail
              refine HC.out.mono ?_
              rintro e W2 ⟨rfl, b2⟩
              go_wp2_with fail
              exact ⟨_, by rw [HFX.out]; simp [upd, e10, e11, e9], rfl, PSv.go HS.out b2, b2⟩
            · intro u W hS hd hp
              have HS := Lib.hid hS
              clear hS
              obtain ⟨d9, d12, d1, -⟩ := hd
              have e9 : u 9 = .bool true := d9 rfl
              have e12 : u 12 = .bool true := d12 rfl
              have e1 : u 1 = .bool true := d1 rfl
              rw [HFX.out]
              simp only [e9, e12, e1]
              clear hp d9 d12 d1
              go_wp2_with fail
              exact ⟨_, by rw [HFX.out]; simp [upd, e9, e12, e1], rfl, HS.out, Below.refl _ _⟩
            · intro u W hS hd hp
              have HS := Lib.hid hS
              clear hS
              obtain ⟨d13, _, d1, -⟩ := hd
              have e13 : u 13 = .bool true := d13 rfl
              have e1 : u 1 = .bool true := d1 rfl
              rw [HFX.out]
              simp only [e13, e1]
              clear hp d13 d1
              go_wp2_with fail
              exact ⟨_, by rw [HFX.out]; simp [upd, e13, e1], rfl, HS.out, Below.refl _ _⟩
            · intro u W hS hd hp
              have HS := Lib.hid hS
              clear hS
              obtain ⟨d14, -⟩ := hd
              have e14 : u 14 = .bool true := d14 rfl
              rw [HFX.out]
              simp only [e14]
              clear hp d14
              obtain ⟨r0, r1, r2⟩ := (KB2.out.below HS.out KB2.out.lt).all
              go_wp2_with fail
              exact ⟨_, by rw [HFX.out]; simp [upd, e14], rfl, HS.out, Below.refl _ _⟩
            · intro u W hS hd hp
              have HS := Lib.hid hS
              clear hS
              obtain ⟨d14, -⟩ := hd
              have e14 : u 14 = .bool true := d14 rfl
              rw [HFX.out]
              simp only [e14]
              clear hp d14
              go_wp2_with fail
              exact ⟨_, by rw [HFX.out]; simp [upd, e14], rfl, HS.out, Below.refl _ _⟩
            · intro u W hS hd hp
              have HS := Lib.hid hS
              clear hS
              obtain ⟨d16, d14, -⟩ := hd
              have e16 : u 16 = .pointer (some ⟨w.heap.size, 2, none⟩) := d16 rfl
              have e14 : u 14 = .bool true := d14 rfl
              rw [HFX.out]
              simp only [e16, e14]
              clear hp d16 d14
              obtain ⟨r0, r1, r2⟩ := (KB0.out.below HS.out KB0.out.lt).all
              go_wp2_with fail
              exact ⟨_, by rw [HFX.out]; simp [upd, e16, e14], rfl, HS.out, Below.refl _ _⟩
            · intro u W hS hd hp
              have HS := Lib.hid hS
              clear hS
              obtain ⟨d14, -⟩ := hd
              have e14 : u 14 = .bool true := d14 rfl
              rw [HFX.out]
              simp only [e14]
              clear hp d14
              go_wp2_with fail
              exact ⟨_, by rw [HFX.out]; simp [upd, e14], rfl, HS.out, Below.refl _ _⟩
            · intro u W hS hd hp
              have HS := Lib.hid hS
              clear hS
              obtain ⟨d17, d18, d14, -⟩ := hd
              have e17 : u 17 = .slice (some ⟨gc, oc, none⟩) gn dq1 := d17 rfl
              have e18 : u 18 = .int .i64 (s : Int) := d18 rfl
              have e14 : u 14 = .bool true := d14 rfl
              rw [HFX.out]
              simp only [e17, e18, e14]
              clear hp d17 d18 d14
              have jb0 := ib0
              have jb1 := ib1
              go_wp2_with fail
              exact ⟨_, by rw [HFX.out]; simp [upd, e17, e18, e14], rfl, HS.out, Below.refl _ _⟩
            · intro u W hS hd hp
              have HS := Lib.hid hS
              clear hS
              obtain ⟨d19, d14, -⟩ := hd
              have e19 : u 19 = .pointer (some ⟨gc, oc + s, none⟩) := d19 rfl
              have e14 : u 14 = .bool true := d14 rfl
              rw [HFX.out]
              simp only [e19, e14]
              clear hp d19 d14
              have r0 := (HS.out.cell (p := ⟨gc, oc + s, none⟩) (by have := PGL.out; omega)).trans PN.out
              go_wp2_with fail
              exact ⟨_, by rw [HFX.out]; simp [upd, e19, e14], rfl, HS.out, Below.refl _ _⟩
            · intro u W hS hd hp
              have HS := Lib.hid hS
              clear hS
              obtain ⟨d15, d20, _, d14, -⟩ := hd
              have e15 : u 15 = .agg #[.string qn, .slice i1 ql j1, .slice i2 qml j2] := d15 rfl
              have e20 : u 20 = .int .i64 ns := d20 rfl
              have e14 : u 14 = .bool true := d14 rfl
              rw [HFX.out]
              simp only [e15, e20, e14]
              clear hp d15 d20 d14
              have HC := Lib.hid (CQ.out W HS.out)
              go_wp2_with fail
              refine HC.out.mono ?_
              rintro e W2 ⟨rfl, b2⟩
              go_wp2_with fail
              exact ⟨_, by rw [HFX.out]; simp [upd, e15, e20, e14], rfl, PSv.go HS.out b2, b2⟩
            · intro u W hS hd hp
              have HS := Lib.hid hS
              clear hS
              obtain ⟨d21, d14, -⟩ := hd
              have e21 : u 21 = .bool false := d21 rfl
              have e14 : u 14 = .bool true := d14 rfl
              rw [HFX.out]
              simp only [e21, e14]
              clear hp d21 d14
              go_wp2_with fail
              exact ⟨_, by rw [HFX.out]; simp [upd, e21, e14], rfl, HS.out, Below.refl _ _⟩
            · intro u W hS hd hp
              have HS := Lib.hid hS
              clear hS
              obtain ⟨d14, d22, d1, -⟩ := hd
              have e14 : u 14 = .bool true := d14 rfl
              have e22 : u 22 = .bool true := d22 rfl
              have e1 : u 1 = .bool true := d1 rfl
              rw [HFX.out]
              simp only [e14, e22, e1]
              clear hp d14 d22 d1
              go_wp2_with fail
              exact ⟨_, by rw [HFX.out]; simp [upd, e14, e22, e1], rfl, HS.out, Below.refl _ _⟩
            · intro u W hS hd hp
              have HS := Lib.hid hS
              clear hS
              obtain ⟨d2, d23, d1, -⟩ := hd
              have e2 : u 2 = .bool true := d2 rfl
              have e23 : u 23 = .bool true := d23 rfl
              have e1 : u 1 = .bool true := d1 rfl
              rw [HFX.out]
              simp only [e2, e23, e1]
              clear hp d2 d23 d1
              go_wp2_with fail
              exact ⟨_, by rw [HFX.out]; simp [upd, e2, e23, e1], rfl, HS.out, Below.refl _ _⟩
            · intro u W hS hd hp
              have HS := Lib.hid hS
              clear hS
              obtain ⟨d1, d24, -⟩ := hd
              have e1 : u 1 = .bool true := d1 rfl
              have e24 : u 24 = .bool true := d24 rfl
              rw [HFX.out]
              simp only [e1, e24]
              clear hp d1 d24
              go_wp2_with fail
              exact ⟨_, by rw [HFX.out]; simp [upd, e1, e24], rfl, HS.out, Below.refl _ _⟩
            · intro u W hS hd hp
              have HS := Lib.hid hS
              clear hS
              obtain ⟨d25, -⟩ := hd
              have e25 : u 25 = .bool true := d25 rfl
              rw [HFX.out]
              simp only [e25]
              clear hp d25
              go_wp2_with fail
              exact ⟨_, by rw [HFX.out]; simp [upd, e25], rfl, HS.out, Below.refl _ _⟩
            intro u W hS hf
            have eE : u 26 = .bool true := hf 26 (by decide)
            rw [HFX.out]
            simp only [eE]
            clear eE hf HFX F
            go_wp2
            go_ret
            exact ⟨rfl, HBW.out.trans (Below.mono hS HBW.out.size)⟩
          | true =>
            go_upto_region 15 with fail
            refine wp_region_rg2 (PSv wr) RB ([isV (.bool true), isV (.bool true), isV (.bool false), isV (.pointer (some ⟨w.heap.size, 2, none⟩)), isV (.slice (some ⟨gc, oc, none⟩) gn dq1), isV (.int .i64 (s : Int)), isV (.pointer (some ⟨gc, oc + s, none⟩)), isV (.int .i64 ns), isV (.bool true), isV (.bool true), isV (.agg #[.string pn, .slice ez1 gn f1, .slice ez2 pml f2]), isV (.int .i64 (s : Int)), isV (.bool true), isV (.bool true), isV (.bool true), isV (.agg #[.string qn, .slice i1 ql j1, .slice i2 qml j2]), isV (.pointer (some ⟨w.heap.size, 2, none⟩)), isV (.slice (some ⟨gc, oc, none⟩) gn dq1), isV (.int .i64 (s : Int)), isV (.pointer (some ⟨gc, oc + s, none⟩)), isV (.int .i64 ns), isV (.bool true), isV (.bool false), isV (.bool false), isV (.bool true), isV (.bool true), isV (.bool true)]) [0, 1, 2, 3, 4, 5, 6, 7, 8, 9, 10, 11, 12, 13, 14, 15, 16, 17, 18, 19, 20, 21, 22, 23, 24, 25, 26] (by kernel_rfl) (by kernel_rfl) (by kernel_rfl) (below_drewM wr) ⟨isV_mono _, isV_mono _, isV_mono _, isV_mono _, isV_mono _, isV_mono _, isV_mono _, isV_mono _, isV_mono _, isV_mono _, isV_mono _, isV_mono _, isV_mono _, isV_mono _, isV_mono _, isV_mono _, isV_mono _, isV_mono _, isV_mono _, isV_mono _, isV_mono _, isV_mono _, isV_mono _, isV_mono _, isV_mono _, isV_mono _, isV_mono _, trivial⟩ ?_
            intro F hF
            simp only [putAll, List.map_cons, List.map_nil, Act.put, List.setIfInBounds_toArray, List.set_cons_succ, List.set_cons_zero] at hF
            have HFX := Lib.hid hF
            clear hF
            refine ⟨fun Q' => ⟨?_, ?_, ?_, ?_, ?_, ?_, ?_, ?_, ?_, ?_, ?_, ?_, ?_, ?_, ?_, ?_, ?_, ?_, ?_, ?_, ?_, ?_, ?_, ?_, ?_, ?_, ?_, trivial⟩, ?_⟩
            · intro u W hS hd hp
              have HS := Lib.hid hS
              clear hS
              rw [HFX.out]
              clear hd hp 
              go_wp2_with fail
              exact ⟨_, by rw [HFX.out]; simp [upd], rfl, HS.out, Below.refl _ _⟩
            · intro u W hS hd hp
              have HS := Lib.hid hS
              clear hS
              obtain ⟨d0, -⟩ := hd
              have e0 : u 0 = .bool true := d0 rfl
              rw [HFX.out]
              simp only [e0]
              clear hp d0
              go_wp2_with fail
              exact ⟨_, by rw [HFX.out]; simp [upd, e0], rfl, HS.out, Below.refl _ _⟩
            · intro u W hS hd hp
              have HS := Lib.hid hS
              clear hS
              obtain ⟨d1, -⟩ := hd
              have e1 : u 1 = .bool true := d1 rfl
              rw [HFX.out]
              simp only [e1]
              clear hp d1
              go_wp2_with fail
              exact ⟨_, by rw [HFX.out]; simp [upd, e1], rfl, HS.out, Below.refl _ _⟩
            · intro u W hS hd hp
              have HS := Lib.hid hS
              clear hS
              obtain ⟨d1, -⟩ := hd
              have e1 : u 1 = .bool true := d1 rfl
              rw [HFX.out]
              simp only [e1]
              clear hp d1
              go_wp2_with fail
              exact ⟨_, by rw [HFX.out]; simp [upd, e1], rfl, HS.out, Below.refl _ _⟩
            · intro u W hS hd hp
              have HS := Lib.hid hS
              clear hS
              obtain ⟨d3, d1, -⟩ := hd
              have e3 : u 3 = .pointer (some ⟨w.heap.size, 2, none⟩) := d3 rfl
              have e1 : u 1 = .bool true := d1 rfl
              rw [HFX.out]
              simp only [e3, e1]
              clear hp d3 d1
              obtain ⟨r0, r1, r2⟩ := (KB0.out.below HS.out KB0.out.lt).all
              go_wp2_with fail
              exact ⟨_, by rw [HFX.out]; simp [upd, e3, e1], rfl, HS.out, Below.refl _ _⟩
            · intro u W hS hd hp
              have HS := Lib.hid hS
              clear hS
              obtain ⟨d1, -⟩ := hd
              have e1 : u 1 = .bool true := d1 rfl
              rw [HFX.out]
              simp only [e1]
              clear hp d1
              go_wp2_with fail
              exact ⟨_, by rw [HFX.out]; simp [upd, e1], rfl, HS.out, Below.refl _ _⟩
            · intro u W hS hd hp
              have HS := Lib.hid hS
              clear hS
              obtain ⟨d4, d5, d1, -⟩ := hd
              have e4 : u 4 = .slice (some ⟨gc, oc, none⟩) gn dq1 := d4 rfl
              have e5 : u 5 = .int .i64 (s : Int) := d5 rfl
              have e1 : u 1 = .bool true := d1 rfl
              rw [HFX.out]
              simp only [e4, e5, e1]
              clear hp d4 d5 d1
              have jb0 := ib0
              have jb1 := ib1
              go_wp2_with fail
              exact ⟨_, by rw [HFX.out]; simp [upd, e4, e5, e1], rfl, HS.out, Below.refl _ _⟩
            · intro u W hS hd hp
              have HS := Lib.hid hS
              clear hS
              obtain ⟨d6, d1, -⟩ := hd
              have e6 : u 6 = .pointer (some ⟨gc, oc + s, none⟩) := d6 rfl
              have e1 : u 1 = .bool true := d1 rfl
              rw [HFX.out]
              simp only [e6, e1]
              clear hp d6 d1
              have r0 := (HS.out.cell (p := ⟨gc, oc + s, none⟩) (by have := PGL.out; omega)).trans PN.out
              go_wp2_with fail
              exact ⟨_, by rw [HFX.out]; simp [upd, e6, e1], rfl, HS.out, Below.refl _ _⟩
            · intro u W hS hd hp
              have HS := Lib.hid hS
              clear hS
              obtain ⟨d7, d1, -⟩ := hd
              have e7 : u 7 = .int .i64 ns := d7 rfl
              have e1 : u 1 = .bool true := d1 rfl
              rw [HFX.out]
              simp only [e7, e1]
              clear hp d7 d1
              have es : decide (0 ≤ ns) = true := E0.out
              go_wp2_with fail
              exact ⟨_, by rw [HFX.out]; simp [upd, e7, e1], rfl, HS.out, Below.refl _ _⟩
            · intro u W hS hd hp
              have HS := Lib.hid hS
              clear hS
              obtain ⟨d8, _, d1, -⟩ := hd
              have e8 : u 8 = .bool true := d8 rfl
              have e1 : u 1 = .bool true := d1 rfl
              rw [HFX.out]
              simp only [e8, e1]
              clear hp d8 d1
              go_wp2_with fail
              exact ⟨_, by rw [HFX.out]; simp [upd, e8, e1], rfl, HS.out, Below.refl _ _⟩
            · intro u W hS hd hp
              have HS := Lib.hid hS
              clear hS
              obtain ⟨d9, -⟩ := hd
              have e9 : u 9 = .bool true := d9 rfl
              rw [HFX.out]
              simp only [e9]
              clear hp d9
              obtain ⟨r0, r1, r2⟩ := (KB1.out.below HS.out KB1.out.lt).all
              go_wp2_with fail
              exact ⟨_, by rw [HFX.out]; simp [upd, e9], rfl, HS.out, Below.refl _ _⟩
            · intro u W hS hd hp
              have HS := Lib.hid hS
              clear hS
              obtain ⟨d9, -⟩ := hd
              have e9 : u 9 = .bool true := d9 rfl
              rw [HFX.out]
              simp only [e9]
              clear hp d9
              go_wp2_with fail
              exact ⟨_, by rw [HFX.out]; simp [upd, e9], rfl, HS.out, Below.refl _ _⟩
            · intro u W hS hd hp
              have HS := Lib.hid hS
              clear hS
              obtain ⟨d10, d11, _, d9, -⟩ := hd
              have e10 : u 10 = .agg #[.string pn, .slice ez1 gn f1, .slice ez2 pml f2] := d10 rfl
              have e11 : u 11 = .int .i64 (s : Int) := d11 rfl
              have e9 : u 9 = .bool true := d9 rfl
              rw [HFX.out]
              simp only [e10, e11, e9]
              clear hp d10 d11 d9
              have HC := Lib.hid (CP.out W HS.out)
              go_wp2_with fail
              refine HC.out.mono ?_
              rintro e W2 ⟨rfl, b2⟩
              go_wp2_with fail
              exact ⟨_, by rw [HFX.out]; simp [upd, e10, e11, e9], rfl, PSv.go HS.out b2, b2⟩
            · intro u W hS hd hp
              have HS := Lib.hid hS
              clear hS
              obtain ⟨d9, d12, d1, -⟩ := hd
              have e9 : u 9 = .bool true := d9 rfl
              have e12 : u 12 = .bool true := d12 rfl
              have e1 : u 1 = .bool true := d1 rfl
              rw [HFX.out]
              simp only [e9, e12, e1]
              clear hp d9 d12 d1
              go_wp2_with fail
              exact ⟨_, by rw [HFX.out]; simp [upd, e9, e12, e1], rfl, HS.out, Below.refl _ _⟩
            · intro u W hS hd hp
              have HS := Lib.hid hS
              clear hS
              obtain ⟨d13, _, d1, -⟩ := hd
              have e13 : u 13 = .bool true := d13 rfl
              have e1 : u 1 = .bool true := d1 rfl
              rw [HFX.out]
              simp only [e13, e1]
              clear hp d13 d1
              go_wp2_with fail
              exact ⟨_, by rw [HFX.out]; simp [upd, e13, e1], rfl, HS.out, Below.refl _ _⟩
            · intro u W hS hd hp
              have HS := Lib.hid hS
              clear hS
              obtain ⟨d14, -⟩ := hd
              have e14 : u 14 = .bool true := d14 rfl
              rw [HFX.out]
              simp only [e14]
              clear hp d14
              obtain ⟨r0, r1, r2⟩ := (KB2.out.below HS.out KB2.out.lt).all
              go_wp2_with fail
              exact ⟨_, by rw [HFX.out]; simp [upd, e14], rfl, HS.out, Below.refl _ _⟩
            · intro u W hS hd hp
              have HS := Lib.hid hS
              clear hS
              obtain ⟨d14, -⟩ := hd
              have e14 : u 14 = .bool true := d14 rfl
              rw [HFX.out]
              simp only [e14]
              clear hp d14
              go_wp2_with fail
              exact ⟨_, by rw [HFX.out]; simp [upd, e14], rfl, HS.out, Below.refl _ _⟩
            · intro u W hS hd hp
              have HS := Lib.hid hS
              clear hS
              obtain ⟨d16, d14, -⟩ := hd
              have e16 : u 16 = .pointer (some ⟨w.heap.size, 2, none⟩) := d16 rfl
              have e14 : u 14 = .bool true := d14 rfl
              rw [HFX.out]
              simp only [e16, e14]
              clear hp d16 d14
              obtain ⟨r0, r1, r2⟩ := (KB0.out.below HS.out KB0.out.lt).all
              go_wp2_with fail
              exact ⟨_, by rw [HFX.out]; simp [upd, e16, e14], rfl, HS.out, Below.refl _ _⟩
            · intro u W hS hd hp
              have HS := Lib.hid hS
              clear hS
              obtain ⟨d14, -⟩ := hd
              have e14 : u 14 = .bool true := d14 rfl
              rw [HFX.out]
              simp only [e14]
              clear hp d14
              go_wp2_with fail
              exact ⟨_, by rw [HFX.out]; simp [upd, e14], rfl, HS.out, Below.refl _ _⟩
            · intro u W hS hd hp
              have HS := Lib.hid hS
              clear hS
              obtain ⟨d17, d18, d14, -⟩ := hd
              have e17 : u 17 = .slice (some ⟨gc, oc, none⟩) gn dq1 := d17 rfl
              have e18 : u 18 = .int .i64 (s : Int) := d18 rfl
              have e14 : u 14 = .bool true := d14 rfl
              rw [HFX.out]
              simp only [e17, e18, e14]
              clear hp d17 d18 d14
              have jb0 := ib0
              have jb1 := ib1
              go_wp2_with fail
              exact ⟨_, by rw [HFX.out]; simp [upd, e17, e18, e14], rfl, HS.out, Below.refl _ _⟩
            · intro u W hS hd hp
              have HS := Lib.hid hS
              clear hS
              obtain ⟨d19, d14, -⟩ := hd
              have e19 : u 19 = .pointer (some ⟨gc, oc + s, none⟩) := d19 rfl
              have e14 : u 14 = .bool true := d14 rfl
              rw [HFX.out]
              simp only [e19, e14]
              clear hp d19 d14
              have r0 := (HS.out.cell (p := ⟨gc, oc + s, none⟩) (by have := PGL.out; omega)).trans PN.out
              go_wp2_with fail
              exact ⟨_, by rw [HFX.out]; simp [upd, e19, e14], rfl, HS.out, Below.refl _ _⟩
            · intro u W hS hd hp
              have HS := Lib.hid hS
              clear hS
              obtain ⟨d15, d20, _, d14, -⟩ := hd
              have e15 : u 15 = .agg #[.string qn, .slice i1 ql j1, .slice i2 qml j2] := d15 rfl
              have e20 : u 20 = .int .i64 ns := d20 rfl
              have e14 : u 14 = .bool true := d14 rfl
              rw [HFX.out]
              simp only [e15, e20, e14]
              clear hp d15 d20 d14
              have HC := Lib.hid (CQ.out W HS.out)
              go_wp2_with fail
              refine HC.out.mono ?_
              rintro e W2 ⟨rfl, b2⟩
              go_wp2_with fail
              exact ⟨_, by rw [HFX.out]; simp [upd, e15, e20, e14], rfl, PSv.go HS.out b2, b2⟩
            · intro u W hS hd hp
              have HS := Lib.hid hS
              clear hS
              obtain ⟨d21, d14, -⟩ := hd
              have e21 : u 21 = .bool true := d21 rfl
              have e14 : u 14 = .bool true := d14 rfl
              rw [HFX.out]
              simp only [e21, e14]
              clear hp d21 d14
              go_wp2_with fail
              exact ⟨_, by rw [HFX.out]; simp [upd, e21, e14], rfl, HS.out, Below.refl _ _⟩
            · intro u W hS hd hp
              have HS := Lib.hid hS
              clear hS
              obtain ⟨d14, d22, d1, -⟩ := hd
              have e14 : u 14 = .bool true := d14 rfl
              have e22 : u 22 = .bool false := d22 rfl
              have e1 : u 1 = .bool true := d1 rfl
              rw [HFX.out]
              simp only [e14, e22, e1]
              clear hp d14 d22 d1
              go_wp2_with fail
              exact ⟨_, by rw [HFX.out]; simp [upd, e14, e22, e1], rfl, HS.out, Below.refl _ _⟩
            · intro u W hS hd hp
              have HS := Lib.hid hS
              clear hS
              obtain ⟨d2, d23, d1, -⟩ := hd
              have e2 : u 2 = .bool false := d2 rfl
              have e23 : u 23 = .bool false := d23 rfl
              have e1 : u 1 = .bool true := d1 rfl
              rw [HFX.out]
              simp only [e2, e23, e1]
              clear hp d2 d23 d1
              go_wp2_with fail
              exact ⟨_, by rw [HFX.out]; simp [upd, e2, e23, e1], rfl, HS.out, Below.refl _ _⟩
            · intro u W hS hd hp
              have HS := Lib.hid hS
              clear hS
              obtain ⟨d1, d24, -⟩ := hd
              have e1 : u 1 = .bool true := d1 rfl
              have e24 : u 24 = .bool true := d24 rfl
              rw [HFX.out]
              simp only [e1, e24]
              clear hp d1 d24
              go_wp2_with fail
              exact ⟨_, by rw [HFX.out]; simp [upd, e1, e24], rfl, HS.out, Below.refl _ _⟩
            · intro u W hS hd hp
              have HS := Lib.hid hS
              clear hS
              obtain ⟨d25, -⟩ := hd
              have e25 : u 25 = .bool true := d25 rfl
              rw [HFX.out]
              simp only [e25]
              clear hp d25
              go_wp2_with fail
              exact ⟨_, by rw [HFX.out]; simp [upd, e25], rfl, HS.out, Below.refl _ _⟩
            intro u W hS hf
            have eE : u 26 = .bool true := hf 26 (by decide)
            rw [HFX.out]
            simp only [eE]
            clear eE hf HFX F
            go_wp2
            go_ret
            exact ⟨rfl, HBW.out.trans (Below.mono hS HBW.out.size)⟩
      · have E0 : Hid (decide (0 ≤ ns) = false) := Lib.hid (decide_eq_false h0)
        rw [decide_eq_false h0]
        clear h0
        go_upto_region 15 with fail
        refine wp_region_rg2 (PSv wr) RB ([isV (.bool true), isV (.bool true), isV (.bool false), isV (.pointer (some ⟨w.heap.size, 2, none⟩)), isV (.slice (some ⟨gc, oc, none⟩) gn dq1), isV (.int .i64 (s : Int)), isV (.pointer (some ⟨gc, oc + s, none⟩)), isV (.int .i64 ns), isV (.bool false), isV (.bool false), isV (.tuple #[]), isV (.tuple #[]), isV (.tuple #[]), isV (.bool false), isV (.bool false), isV (.tuple #[]), isV (.tuple #[]), isV (.tuple #[]), isV (.tuple #[]), isV (.tuple #[]), isV (.tuple #[]), isV (.tuple #[]), isV (.tuple #[]), isV (.bool false), isV (.bool true), isV (.bool true), isV (.bool true)]) [0, 1, 2, 3, 4, 5, 6, 7, 8, 9, 10, 11, 12, 13, 14, 15, 16, 17, 18, 19, 20, 21, 22, 23, 24, 25, 26] (by kernel_rfl) (by kernel_rfl) (by kernel_rfl) (below_drewM wr) ⟨isV_mono _, isV_mono _, isV_mono _, isV_mono _, isV_mono _, isV_mono _, isV_mono _, isV_mono _, isV_mono _, isV_mono _, isV_mono _, isV_mono _, isV_mono _, isV_mono _, isV_mono _, isV_mono _, isV_mono _, isV_mono _, isV_mono _, isV_mono _, isV_mono _, isV_mono _, isV_mono _, isV_mono _, isV_mono _, isV_mono _, isV_mono _, trivial⟩ ?_
        intro F hF
        simp only [putAll, List.map_cons, List.map_nil, Act.put, List.setIfInBounds_toArray, List.set_cons_succ, List.set_cons_zero] at hF
        have HFX := Lib.hid hF
        clear hF
        refine ⟨fun Q' => ⟨?_, ?_, ?_, ?_, ?_, ?_, ?_, ?_, ?_, ?_, ?_, ?_, ?_, ?_, ?_, ?_, ?_, ?_, ?_, ?_, ?_, ?_, ?_, ?_, ?_, ?_, ?_, trivial⟩, ?_⟩
        · intro u W hS hd hp
          have HS := Lib.hid hS
          clear hS
          rw [HFX.out]
          clear hd hp 
          go_wp2_with fail
          exact ⟨_, by rw [HFX.out]; simp [upd], rfl, HS.out, Below.refl _ _⟩
        · intro u W hS hd hp
          have HS := Lib.hid hS
          clear hS
          obtain ⟨d0, -⟩ := hd
          have e0 : u 0 = .bool true := d0 rfl
          rw [HFX.out]
          simp only [e0]
          clear hp d0
          go_wp2_with fail
          exact ⟨_, by rw [HFX.out]; simp [upd, e0], rfl, HS.out, Below.refl _ _⟩
        · intro u W hS hd hp
          have HS := Lib.hid hS
          clear hS
          obtain ⟨d1, -⟩ := hd
          have e1 : u 1 = .bool true := d1 rfl
          rw [HFX.out]
          simp only [e1]
          clear hp d1
          go_wp2_with fail
          exact ⟨_, by rw [HFX.out]; simp [upd, e1], rfl, HS.out, Below.refl _ _⟩
        · intro u W hS hd hp
          have HS := Lib.hid hS
          clear hS
          obtain ⟨d1, -⟩ := hd
          have e1 : u 1 = .bool true := d1 rfl
          rw [HFX.out]
          simp only [e1]
          clear hp d1
          go_wp2_with fail
          exact ⟨_, by rw [HFX.out]; simp [upd, e1], rfl, HS.out, Below.refl _ _⟩
        · intro u W hS hd hp
          have HS := Lib.hid hS
          clear hS
          obtain ⟨d3, d1, -⟩ := hd
          have e3 : u 3 = .pointer (some ⟨w.heap.size, 2, none⟩) := d3 rfl
          have e1 : u 1 = .bool true := d1 rfl
          rw [HFX.out]
          simp only [e3, e1]
          clear hp d3 d1
          obtain ⟨r0, r1, r2⟩ := (KB0.out.below HS.out KB0.out.lt).all
          go_wp2_with fail
          exact ⟨_, by rw [HFX.out]; simp [upd, e3, e1], rfl, HS.out, Below.refl _ _⟩
        · intro u W hS hd hp
          have HS := Lib.hid hS
          clear hS
          obtain ⟨d1, -⟩ := hd
          have e1 : u 1 = .bool true := d1 rfl
          rw [HFX.out]
          simp only [e1]
          clear hp d1
          go_wp2_with fail
          exact ⟨_, by rw [HFX.out]; simp [upd, e1], rfl, HS.out, Below.refl _ _⟩
        · intro u W hS hd hp
          have HS := Lib.hid hS
          clear hS
          obtain ⟨d4, d5, d1, -⟩ := hd
          have e4 : u 4 = .slice (some ⟨gc, oc, none⟩) gn dq1 := d4 rfl
          have e5 : u 5 = .int .i64 (s : Int) := d5 rfl
          have e1 : u 1 = .bool true := d1 rfl
          rw [HFX.out]
          simp only [e4, e5, e1]
          clear hp d4 d5 d1
          have jb0 := ib0
          have jb1 := ib1
          go_wp2_with fail
          exact ⟨_, by rw [HFX.out]; simp [upd, e4, e5, e1], rfl, HS.out, Below.refl _ _⟩
        · intro u W hS hd hp
          have HS := Lib.hid hS
          clear hS
          obtain ⟨d6, d1, -⟩ := hd
          have e6 : u 6 = .pointer (some ⟨gc, oc + s, none⟩) := d6 rfl
          have e1 : u 1 = .bool true := d1 rfl
          rw [HFX.out]
          simp only [e6, e1]
          clear hp d6 d1
          have r0 := (HS.out.cell (p := ⟨gc, oc + s, none⟩) (by have := PGL.out; omega)).trans PN.out
          go_wp2_with fail
          exact ⟨_, by rw [HFX.out]; simp [upd, e6, e1], rfl, HS.out, Below.refl _ _⟩
        · intro u W hS hd hp
          have HS := Lib.hid hS
          clear hS
          obtain ⟨d7, d1, -⟩ := hd
          have e7 : u 7 = .int .i64 ns := d7 rfl
          have e1 : u 1 = .bool true := d1 rfl
          rw [HFX.out]
          simp only [e7, e1]
          clear hp d7 d1
          have es : decide (0 ≤ ns) = false := E0.out
          go_wp2_with fail
          exact ⟨_, by rw [HFX.out]; simp [upd, e7, e1], rfl, HS.out, Below.refl _ _⟩
        · intro u W hS hd hp
          have HS := Lib.hid hS
          clear hS
          obtain ⟨d8, _, d1, -⟩ := hd
          have e8 : u 8 = .bool false := d8 rfl
          have e1 : u 1 = .bool true := d1 rfl
          rw [HFX.out]
          simp only [e8, e1]
          clear hp d8 d1
          go_wp2_with fail
          exact ⟨_, by rw [HFX.out]; simp [upd, e8, e1], rfl, HS.out, Below.refl _ _⟩
        · intro u W hS hd hp
          have HS := Lib.hid hS
          clear hS
          obtain ⟨d9, -⟩ := hd
          have e9 : u 9 = .bool false := d9 rfl
          rw [HFX.out]
          simp only [e9]
          clear hp d9
          go_wp2_with fail
          exact ⟨_, by rw [HFX.out]; simp [upd, e9]; rfl, rfl, HS.out, Below.refl _ _⟩
        · intro u W hS hd hp
          have HS := Lib.hid hS
          clear hS
          obtain ⟨d9, -⟩ := hd
          have e9 : u 9 = .bool false := d9 rfl
          rw [HFX.out]
          simp only [e9]
          clear hp d9
          go_wp2_with fail
          exact ⟨_, by rw [HFX.out]; simp [upd, e9]; rfl, rfl, HS.out, Below.refl _ _⟩
        · intro u W hS hd hp
          have HS := Lib.hid hS
          clear hS
          obtain ⟨d10, d11, _, d9, -⟩ := hd
          have e10 : u 10 = .tuple #[] := d10 rfl
          have e11 : u 11 = .tuple #[] := d11 rfl
          have e9 : u 9 = .bool false := d9 rfl
          rw [HFX.out]
          simp only [e10, e11, e9]
          clear hp d10 d11 d9
          go_wp2_with fail
          exact ⟨_, by rw [HFX.out]; simp [upd, e10, e11, e9]; rfl, rfl, HS.out, Below.refl _ _⟩
        · intro u W hS hd hp
          have HS := Lib.hid hS
          clear hS
          obtain ⟨d9, d12, d1, -⟩ := hd
          have e9 : u 9 = .bool false := d9 rfl
          have e12 : u 12 = .tuple #[] := d12 rfl
          have e1 : u 1 = .bool true := d1 rfl
          rw [HFX.out]
          simp only [e9, e12, e1]
          clear hp d9 d12 d1
          go_wp2_with fail
          exact ⟨_, by rw [HFX.out]; simp [upd, e9, e12, e1], rfl, HS.out, Below.refl _ _⟩
        · intro u W hS hd hp
          have HS := Lib.hid hS
          clear hS
          obtain ⟨d13, _, d1, -⟩ := hd
          have e13 : u 13 = .bool false := d13 rfl
          have e1 : u 1 = .bool true := d1 rfl
          rw [HFX.out]
          simp only [e13, e1]
          clear hp d13 d1
          go_wp2_with fail
          exact ⟨_, by rw [HFX.out]; simp [upd, e13, e1], rfl, HS.out, Below.refl _ _⟩
        · intro u W hS hd hp
          have HS := Lib.hid hS
          clear hS
          obtain ⟨d14, -⟩ := hd
          have e14 : u 14 = .bool false := d14 rfl
          rw [HFX.out]
          simp only [e14]
          clear hp d14
          go_wp2_with fail
          exact ⟨_, by rw [HFX.out]; simp [upd, e14]; rfl, rfl, HS.out, Below.refl _ _⟩
        · intro u W hS hd hp
          have HS := Lib.hid hS
          clear hS
          obtain ⟨d14, -⟩ := hd
          have e14 : u 14 = .bool false := d14 rfl
          rw [HFX.out]
          simp only [e14]
          clear hp d14
          go_wp2_with fail
          exact ⟨_, by rw [HFX.out]; simp [upd, e14]; rfl, rfl, HS.out, Below.refl _ _⟩
        · intro u W hS hd hp
          have HS := Lib.hid hS
          clear hS
          obtain ⟨d16, d14, -⟩ := hd
          have e16 : u 16 = .tuple #[] := d16 rfl
          have e14 : u 14 = .bool false := d14 rfl
          rw [HFX.out]
          simp only [e16, e14]
          clear hp d16 d14
          go_wp2_with fail
          exact ⟨_, by rw [HFX.out]; simp [upd, e16, e14]; rfl, rfl, HS.out, Below.refl _ _⟩
        · intro u W hS hd hp
          have HS := Lib.hid hS
          clear hS
          obtain ⟨d14, -⟩ := hd
          have e14 : u 14 = .bool false := d14 rfl
          rw [HFX.out]
          simp only [e14]
          clear hp d14
          go_wp2_with fail
          exact ⟨_, by rw [HFX.out]; simp [upd, e14]; rfl, rfl, HS.out, Below.refl _ _⟩
        · intro u W hS hd hp
          have HS := Lib.hid hS
          clear hS
          obtain ⟨d17, d18, d14, -⟩ := hd
          have e17 : u 17 = .tuple #[] := d17 rfl
          have e18 : u 18 = .tuple #[] := d18 rfl
          have e14 : u 14 = .bool false := d14 rfl
          rw [HFX.out]
          simp only [e17, e18, e14]
          clear hp d17 d18 d14
          go_wp2_with fail
          exact ⟨_, by rw [HFX.out]; simp [upd, e17, e18, e14]; rfl, rfl, HS.out, Below.refl _ _⟩
        · intro u W hS hd hp
          have HS := Lib.hid hS
          clear hS
          obtain ⟨d19, d14, -⟩ := hd
          have e19 : u 19 = .tuple #[] := d19 rfl
          have e14 : u 14 = .bool false := d14 rfl
          rw [HFX.out]
          simp only [e19, e14]
          clear hp d19 d14
          go_wp2_with fail
          exact ⟨_, by rw [HFX.out]; simp [upd, e19, e14]; rfl, rfl, HS.out, Below.refl _ _⟩
        · intro u W hS hd hp
          have HS := Lib.hid hS
          clear hS
          obtain ⟨d15, d20, _, d14, -⟩ := hd
          have e15 : u 15 = .tuple #[] := d15 rfl
          have e20 : u 20 = .tuple #[] := d20 rfl
          have e14 : u 14 = .bool false := d14 rfl
          rw [HFX.out]
          simp only [e15, e20, e14]
          clear hp d15 d20 d14
          go_wp2_with fail
          exact ⟨_, by rw [HFX.out]; simp [upd, e15, e20, e14]; rfl, rfl, HS.out, Below.refl _ _⟩
        · intro u W hS hd hp
          have HS := Lib.hid hS
          clear hS
          obtain ⟨d21, d14, -⟩ := hd
          have e21 : u 21 = .tuple #[] := d21 rfl
          have e14 : u 14 = .bool false := d14 rfl
          rw [HFX.out]
          simp only [e21, e14]
          clear hp d21 d14
          go_wp2_with fail
          exact ⟨_, by rw [HFX.out]; simp [upd, e21, e14]; rfl, rfl, HS.out, Below.refl _ _⟩
        · intro u W hS hd hp
          have HS := Lib.hid hS
          clear hS
          obtain ⟨d14, d22, d1, -⟩ := hd
          have e14 : u 14 = .bool false := d14 rfl
          have e22 : u 22 = .tuple #[] := d22 rfl
          have e1 : u 1 = .bool true := d1 rfl
          rw [HFX.out]
          simp only [e14, e22, e1]
          clear hp d14 d22 d1
          go_wp2_with fail
          exact ⟨_, by rw [HFX.out]; simp [upd, e14, e22, e1], rfl, HS.out, Below.refl _ _⟩
        · intro u W hS hd hp
          have HS := Lib.hid hS
          clear hS
          obtain ⟨d2, d23, d1, -⟩ := hd
          have e2 : u 2 = .bool false := d2 rfl
          have e23 : u 23 = .bool false := d23 rfl
          have e1 : u 1 = .bool true := d1 rfl
          rw [HFX.out]
          simp only [e2, e23, e1]
          clear hp d2 d23 d1
          go_wp2_with fail
          exact ⟨_, by rw [HFX.out]; simp [upd, e2, e23, e1], rfl, HS.out, Below.refl _ _⟩
        · intro u W hS hd hp
          have HS := Lib.hid hS
          clear hS
          obtain ⟨d1, d24, -⟩ := hd
          have e1 : u 1 = .bool true := d1 rfl
          have e24 : u 24 = .bool true := d24 rfl
          rw [HFX.out]
          simp only [e1, e24]
          clear hp d1 d24
          go_wp2_with fail
          exact ⟨_, by rw [HFX.out]; simp [upd, e1, e24], rfl, HS.out, Below.refl _ _⟩
        · intro u W hS hd hp
          have HS := Lib.hid hS
          clear hS
          obtain ⟨d25, -⟩ := hd
          have e25 : u 25 = .bool true := d25 rfl
          rw [HFX.out]
          simp only [e25]
          clear hp d25
          go_wp2_with fail
          exact ⟨_, by rw [HFX.out]; simp [upd, e25], rfl, HS.out, Below.refl _ _⟩
        intro u W hS hf
        have eE : u 26 = .bool true := hf 26 (by decide)
        rw [HFX.out]
        simp only [eE]
        clear eE hf HFX F
        go_wp2
        go_ret
        exact ⟨rfl, HBW.out.trans (Below.mono hS HBW.out.size)⟩
end Go.Proofs.YtknchlpcpgflkaaGreatDoor
