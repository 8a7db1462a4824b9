/- MatterMoves: the law's walk. -/
import Derived.Test.YtgfahifdmacmhaaGreatDoorZGE
namespace Go.Proofs.YtgfahifdmacmhaaGreatDoor
open Go.RowKit Go.Shelf

set_option maxRecDepth 100000 in
set_option maxHeartbeats 16000000 in
theorem moves_walk (w : World) (ht : Tbs w) (z : Mt × MtX) (h : MtIn w z) (z2 : Pc × PcX) (h2 : PcIn w z2) (z3 : List Fc × Option Addr × Nat) (h3 : DmIn w z3) (A4 : Option Addr) (q4x : Nat) (ds : List Int) (u4 : U8At w w.heap.size A4 ds) (A5 : Option Addr) (q5x : Nat) (gs : List Int) (u5 : U8At w w.heap.size A5 gs) (A6 : Option Addr) (q6x : Nat) (bl : List Bool) (u6 : BlAt w w.heap.size A6 bl) :
    Calls Tryz.prog 8 #[.agg (mtC z.1 z.2), .agg (pcC z2.1 z2.2), .agg #[.slice z3.2.1 z3.1.length z3.2.2], .slice A4 ds.length q4x, .slice A5 gs.length q5x, .slice A6 bl.length q6x] w fun e w' => e = .returned (.bool true) ∧ Below w.heap.size w w' := by
  obtain ⟨m, x⟩ := z
  obtain ⟨p, y⟩ := z2
  obtain ⟨dm, b3, e3⟩ := z3
  obtain ⟨hm, l1, l2, l3, l4, -, -⟩ := h
  obtain ⟨hp, j1, j2⟩ := h2
  obtain ⟨hd, j3⟩ := h3
  simp only at hm l1 l2 l3 l4 hp j1 j2 hd j3 ⊢
  obtain ⟨n4, hn4⟩ : ∃ n, ds.length = n := ⟨_, rfl⟩
  obtain ⟨n5, hn5⟩ : ∃ n, gs.length = n := ⟨_, rfl⟩
  obtain ⟨n6, hn6⟩ : ∃ n, bl.length = n := ⟨_, rfl⟩
  rw [hn4, hn5, hn6]
  have HM := Lib.hid hm
  have HP := Lib.hid hp
  have HD := Lib.hid hd
  have HT := Lib.hid ht
  have U4 := Lib.hid u4
  have U5 := Lib.hid u5
  have U6 := Lib.hid u6
  have N4 := Lib.hid hn4
  have N5 := Lib.hid hn5
  have N6 := Lib.hid hn6
  clear ht hm hp hd u4 u5 u6 hn4 hn5 hn6
  have hfew1 := fun W (hW : Below w.heap.size w W) => few_any W w.heap.size m x (HM.out.below hW) hW.size l1 l2 l3 l4
  have hfew2 := fun W (hW : Below w.heap.size w W) => short_any W w.heap.size p y (HP.out.below hW) hW.size j1 j2
  have hfew3 := fun W (hW : Below w.heap.size w W) => few6_any W w.heap.size dm b3 e3 (HD.out.below hW) hW.size j3 60
  have HFEW1 := Lib.hid hfew1
  have HFEW2 := Lib.hid hfew2
  have HFEW3 := Lib.hid hfew3
  clear hfew1 hfew2 hfew3 l1 l2 l3 l4 j1 j2 j3
  obtain ⟨id, o, cs, pr, st, mv, rs, ls⟩ := m
  obtain ⟨a1, c1, a2, c2, a3, c3, a4, c4, lv⟩ := x
  obtain ⟨pn, ss, ms⟩ := p
  obtain ⟨b1, e1, b2, e2⟩ := y
  show Calls Tryz.prog 8 #[.agg #[.string id, .int .i64 o, .slice a1 cs.length c1, .string pr, .int .i64 st, .slice a2 mv.length c2, .slice a3 rs.length c3, .slice a4 ls.length c4], .agg #[.string pn, .slice b1 ss.length e1, .slice b2 ms.length e2], .agg #[.slice b3 dm.length e3], .slice A4 n4 q4x, .slice A5 n5 q5x, .slice A6 n6 q6x] w _
  have hb := ((below_self_alloc w (.cells #[.string id, .int .i64 o, .slice a1 cs.length c1, .string pr, .int .i64 st, .slice a2 mv.length c2, .slice a3 rs.length c3, .slice a4 ls.length c4] 27)).alloc (by simp) (.cells #[.string pn, .slice b1 ss.length e1, .slice b2 ms.length e2] 46)).alloc (by simp; omega) (.cells #[.slice b3 dm.length e3] 52)
  have k0 := ((Blk.new w 27 #[.string id, .int .i64 o, .slice a1 cs.length c1, .string pr, .int .i64 st, .slice a2 mv.length c2, .slice a3 rs.length c3, .slice a4 ls.length c4]).alloc (.cells #[.string pn, .slice b1 ss.length e1, .slice b2 ms.length e2] 46)).alloc (.cells #[.slice b3 dm.length e3] 52)
  have k1 := (Blk.new1 w (.cells #[.string id, .int .i64 o, .slice a1 cs.length c1, .string pr, .int .i64 st, .slice a2 mv.length c2, .slice a3 rs.length c3, .slice a4 ls.length c4] 27) 46 #[.string pn, .slice b1 ss.length e1, .slice b2 ms.length e2]).alloc (.cells #[.slice b3 dm.length e3] 52)
  have k2 := Blk.new2 w (.cells #[.string id, .int .i64 o, .slice a1 cs.length c1, .string pr, .int .i64 st, .slice a2 mv.length c2, .slice a3 rs.length c3, .slice a4 ls.length c4] 27) (.cells #[.string pn, .slice b1 ss.length e1, .slice b2 ms.length e2] 46) 52 #[.slice b3 dm.length e3]
  have hc := head_any (((w.alloc (.cells #[.string id, .int .i64 o, .slice a1 cs.length c1, .string pr, .int .i64 st, .slice a2 mv.length c2, .slice a3 rs.length c3, .slice a4 ls.length c4] 27)).alloc (.cells #[.string pn, .slice b1 ss.length e1, .slice b2 ms.length e2] 46)).alloc (.cells #[.slice b3 dm.length e3] 52)) (HT.out.below hb)
  have HC := Lib.hid hc
  clear hc
  go_enter Tryz.func8, Tryz.ntmps8
  go_wp2_with fail
  refine HC.out.mono ?_
  rintro e W1 ⟨rfl, bz⟩
  have HB := Lib.hid (hb.trans (bz.mono hb.size))
  have KM := Lib.hid (k0.below bz k0.lt)
  have KP := Lib.hid (k1.below bz k1.lt)
  have KD := Lib.hid (k2.below bz k2.lt)
  clear bz k0 k1 k2 hb HC
  have hc : Calls Tryz.prog 10 #[.agg #[.string id, .int .i64 o, .slice a1 cs.length c1, .string pr, .int .i64 st, .slice a2 mv.length c2, .slice a3 rs.length c3, .slice a4 ls.length c4]] W1 _ := HFEW1.out W1 HB.out
  have HC := Lib.hid hc
  clear hc
  obtain ⟨t0, t1, -⟩ := KM.out.all
  obtain ⟨s0, s1, -⟩ := KP.out.all
  obtain ⟨u0, u1, -⟩ := KD.out.all
  go_wp2_with fail
  refine HC.out.mono ?_
  rintro e W2 ⟨qq, rfl, hq, bz⟩
  clear HC
  clear t0 t1 s0 s1 u0 u1
  have KMx := Lib.hid (KM.out.below bz KM.out.lt)
  clear KM
  have KM := KMx
  clear KMx
  have KPx := Lib.hid (KP.out.below bz KP.out.lt)
  clear KP
  have KP := KPx
  clear KPx
  have KDx := Lib.hid (KD.out.below bz KD.out.lt)
  clear KD
  have KD := KDx
  clear KDx
  have HBx := Lib.hid (HB.out.trans (bz.mono HB.out.size))
  clear HB
  have HB := HBx
  clear HBx
  clear bz HFEW1
  cases qq with
  | false =>
    go_wp2
    go_ret
    exact ⟨rfl, HB.out⟩
  | true =>
    have HS1 := Lib.hid (hq rfl)
    clear hq
    have hc : Calls Tryz.prog 18 #[.agg #[.string pn, .slice b1 ss.length e1, .slice b2 ms.length e2]] W2 _ := HFEW2.out W2 HB.out
    have HC := Lib.hid hc
    clear hc
    obtain ⟨t0, t1, -⟩ := KM.out.all
    obtain ⟨s0, s1, -⟩ := KP.out.all
    obtain ⟨u0, u1, -⟩ := KD.out.all
    go_wp2_with fail
    refine HC.out.mono ?_
    rintro e W3 ⟨qq, rfl, hq, bz⟩
    clear HC
    clear t0 t1 s0 s1 u0 u1
    have KMx := Lib.hid (KM.out.below bz KM.out.lt)
    clear KM
    have KM := KMx
    clear KMx
    have KPx := Lib.hid (KP.out.below bz KP.out.lt)
    clear KP
    have KP := KPx
    clear KPx
    have KDx := Lib.hid (KD.out.below bz KD.out.lt)
    clear KD
    have KD := KDx
    clear KDx
    have HBx := Lib.hid (HB.out.trans (bz.mono HB.out.size))
    clear HB
    have HB := HBx
    clear HBx
    clear bz HFEW2
    cases qq with
    | false =>
      go_wp2
      go_ret
      exact ⟨rfl, HB.out⟩
    | true =>
      have HS2 := Lib.hid (hq rfl)
      clear hq
      have hc : Calls Tryz.prog 20 #[.agg #[.slice b3 dm.length e3], .int .i64 60] W3 _ := HFEW3.out W3 HB.out
      have HC := Lib.hid hc
      clear hc
      obtain ⟨t0, t1, -⟩ := KM.out.all
      obtain ⟨s0, s1, -⟩ := KP.out.all
      obtain ⟨u0, u1, -⟩ := KD.out.all
      go_wp2_with fail
      refine HC.out.mono ?_
      rintro e W4 ⟨qq, rfl, hq, bz⟩
      clear HC
      clear t0 t1 s0 s1 u0 u1
      have KMx := Lib.hid (KM.out.below bz KM.out.lt)
      clear KM
      have KM := KMx
      clear KMx
      have KPx := Lib.hid (KP.out.below bz KP.out.lt)
      clear KP
      have KP := KPx
      clear KPx
      have KDx := Lib.hid (KD.out.below bz KD.out.lt)
      clear KD
      have KD := KDx
      clear KDx
      have HBx := Lib.hid (HB.out.trans (bz.mono HB.out.size))
      clear HB
      have HB := HBx
      clear HBx
      clear bz HFEW3
      cases qq with
      | false =>
        go_wp2
        go_ret
        exact ⟨rfl, HB.out⟩
      | true =>
        have HS3 := Lib.hid (hq rfl)
        clear hq
        by_cases hs4 : (60 : Int) < (n4 : Int)
        case pos =>
          have d4 : decide ((60 : Int) < (n4 : Int)) = true := decide_eq_true hs4
          go_wp2
          go_ret
          exact ⟨rfl, HB.out⟩
        case neg =>
          have d4 : decide ((60 : Int) < (n4 : Int)) = false := decide_eq_false hs4
          by_cases hs5 : (60 : Int) < (n5 : Int)
          case pos =>
            have d5 : decide ((60 : Int) < (n5 : Int)) = true := decide_eq_true hs5
            go_wp2
            go_ret
            exact ⟨rfl, HB.out⟩
          case neg =>
            have d5 : decide ((60 : Int) < (n5 : Int)) = false := decide_eq_false hs5
            obtain ⟨V, hV⟩ : ∃ V, vldB ⟨id, o, cs, pr, st, mv, rs, ls⟩ ⟨pn, ss, ms⟩ dm = V := ⟨_, rfl⟩
            have hc := valid_any W4 w.heap.size ⟨id, o, cs, pr, st, mv, rs, ls⟩ ⟨a1, c1, a2, c2, a3, c3, a4, c4, lv⟩ (HM.out.below HB.out) HB.out.size HS1.out.sml ⟨pn, ss, ms⟩ ⟨b1, e1, b2, e2⟩ (HP.out.below HB.out) HS2.out.sml dm b3 e3 (HD.out.below HB.out) (Nat.le_trans HS3.out (by decide))
            rw [hV] at hc
            replace hc : Calls Tryz.prog 25 #[.agg #[.string id, .int .i64 o, .slice a1 cs.length c1, .string pr, .int .i64 st, .slice a2 mv.length c2, .slice a3 rs.length c3, .slice a4 ls.length c4], .agg #[.string pn, .slice b1 ss.length e1, .slice b2 ms.length e2], .agg #[.slice b3 dm.length e3]] W4 _ := hc
            have HV := Lib.hid hV
            clear hV
            have HC := Lib.hid hc
            clear hc
            obtain ⟨t0, t1, -⟩ := KM.out.all
            obtain ⟨s0, s1, -⟩ := KP.out.all
            obtain ⟨u0, u1, -⟩ := KD.out.all
            go_wp2_with fail
            refine HC.out.mono ?_
            rintro e W5 ⟨rfl, bz⟩
            clear HC
            clear t0 t1 s0 s1 u0 u1
            have KMx := Lib.hid (KM.out.below bz KM.out.lt)
            clear KM
            have KM := KMx
            clear KMx
            have KPx := Lib.hid (KP.out.below bz KP.out.lt)
            clear KP
            have KP := KPx
            clear KPx
            have KDx := Lib.hid (KD.out.below bz KD.out.lt)
            clear KD
            have KD := KDx
            clear KDx
            have HBx := Lib.hid (HB.out.trans (bz.mono HB.out.size))
            clear HB
            have HB := HBx
            clear HBx
            clear bz
            cases V with
            | false =>
              go_wp2
              go_ret
              exact ⟨rfl, HB.out⟩
            | true =>
              have HA := Lib.hid ((HM.out.below HB.out).wide HB.out.size)
              have HO : Hid (Off w.heap.size ⟨id, o, cs, pr, st, mv, rs, ls⟩ ⟨a1, c1, a2, c2, a3, c3, a4, c4, lv⟩) := Lib.hid ((HM.out).off_of (Nat.le_refl _))
              have HSP := Lib.hid HS2.out.sml
              have HSD := Lib.hid HS3.out
              clear d4 d5 HM HS1 HS2 HS3 HT
              have hs4 : n4 ≤ 60 := by omega
              have hs5 : n5 ≤ 60 := by omega
              obtain ⟨t0, t1, -⟩ := KM.out.all
              obtain ⟨s0, s1, -⟩ := KP.out.all
              obtain ⟨u0, u1, -⟩ := KD.out.all
              go_wp2_with fail
              clear t0 t1 s0 s1 u0 u1
              go_loopg [14, 15] n4 (fun nn dv i wr => ∃ (k : Nat) (dy : Int) (id pr : ByteArray) (o st : Int) (cs mv : List Int) (rs : List Rt) (ls : List Lm) (a1 : Option Addr) (c1 : Nat) (a2 : Option Addr) (c2 : Nat) (a3 : Option Addr) (c3 : Nat) (a4 : Option Addr) (c4 : Nat) (lv : List LmV), k + nn = n4 ∧ dv = .int .i64 dy ∧ i = .int .i64 (k : Int) ∧ Hid (Below w.heap.size w wr) ∧ Hid (Blk wr w.heap.size 27 #[.string id, .int .i64 o, .slice a1 cs.length c1, .string pr, .int .i64 st, .slice a2 mv.length c2, .slice a3 rs.length c3, .slice a4 ls.length c4]) ∧ Hid (Blk wr (w.heap.size + 1) 46 #[.string pn, .slice b1 ss.length e1, .slice b2 ms.length e2]) ∧ Hid (Blk wr (w.heap.size + 1 + 1) 52 #[.slice b3 dm.length e3]) ∧ Hid (MtAt wr wr.heap.size ⟨id, o, cs, pr, st, mv, rs, ls⟩ ⟨a1, c1, a2, c2, a3, c3, a4, c4, lv⟩) ∧ Hid (Off w.heap.size ⟨id, o, cs, pr, st, mv, rs, ls⟩ ⟨a1, c1, a2, c2, a3, c3, a4, c4, lv⟩) ∧ Hid (vldB ⟨id, o, cs, pr, st, mv, rs, ls⟩ ⟨pn, ss, ms⟩ dm = true))
              case atStart => exact ⟨0, _, id, pr, o, st, cs, mv, rs, ls, a1, c1, a2, c2, a3, c3, a4, c4, lv, Nat.zero_add _, rfl, rfl, HB, KM, KP, KD, HA, HO, HV⟩
              case round =>
                clear HB KM KP KD HA HO HV
                obtain ⟨k, dy, id, pr, o, st, cs, mv, rs, ls, a1, c1, a2, c2, a3, c3, a4, c4, lv, hk, rfl, rfl, HB, KM, KP, KD, HA, HO, HV⟩ := hrel
                obtain ⟨gk0, hgk0⟩ : ∃ q, q = gk := ⟨_, rfl⟩
                by_cases hlt : k < n4
                case neg =>
                  have nb : ¬ (k : Int) < (n4 : Int) := by omega
                  go_wp2
                  go_ret
                  exact ⟨rfl, HB.out⟩
                case pos =>
                  obtain ⟨x4, hx4⟩ : ∃ x, ds[k]? = some x := ⟨_, List.getElem?_eq_getElem (by rw [N4.out]; exact hlt)⟩
                  obtain ⟨g4, o4, hA4, hg4, -, x40, x41⟩ := U4.out k x4 hx4
                  subst hA4
                  have C4 : ∀ W, Below w.heap.size w W → W.cell? ⟨g4, o4 + k, none⟩ = some (.int .u8 x4) := fun W hW => by
                    obtain ⟨g', o', e, _, c, _⟩ := (U4.out.below hW) k x4 hx4
                    injection e with e; injection e with e1 e2 _; subst e1 e2
                    exact c
                  clear hx4
                  have HC4 := Lib.hid C4
                  clear C4
                  obtain ⟨ho0, ho1⟩ := (isB_iff o).1 (fmB_iff.1 (vldB_iff.1 HV.out).1).2.2.1
                  have ib0 : (0 : Int) ≤ (k : Int) := by omega
                  have ib1 : (k : Int) < (n4 : Int) := by omega
                  go_upto_if 64 with fail
                  go_cut [14] (fun v wx => ∃ dy : Int, v = .int .i64 dy ∧ Hid (Below wr.heap.size wr wx))
                  case first =>
                    by_cases h9 : k < n5
                    · obtain ⟨x5, hx5⟩ : ∃ x, gs[k]? = some x := ⟨_, List.getElem?_eq_getElem (by rw [N5.out]; exact h9)⟩
                      obtain ⟨g5, o5, hA5, hg5, c5, x50, x51⟩ := (U5.out.below HB.out) k x5 hx5
                      subst hA5
                      have ib2 : (k : Int) < (n5 : Int) := by omega
                      obtain ⟨t0, t1, -⟩ := KM.out.all
                      have hr := Below.refl wr.heap.size wr
                      have HR := Lib.hid hr
                      clear hx5 hr
                      go_wp2_with fail
                      generalize hW : wr = W at *
                      go_quiet (fail)
                      subst hW
                      go_wp2
                      go_meet
                      exact ⟨_, rfl, Lib.hid (below_dN HR.out _)⟩
                    · have ib2 : ¬ (k : Int) < (n5 : Int) := by omega
                      go_wp2_with fail
                      go_meet
                      exact ⟨_, rfl, Lib.hid (Below.refl _ _)⟩
                  case rest =>
                    clear dy
                    obtain ⟨day, rfl, HBC⟩ := hcut
                    have hbc := HBC.out
                    have KMx := Lib.hid (KM.out.below hbc KM.out.lt)
                    clear KM
                    have KM := KMx
                    clear KMx
                    have KPx := Lib.hid (KP.out.below hbc KP.out.lt)
                    clear KP
                    have KP := KPx
                    clear KPx
                    have KDx := Lib.hid (KD.out.below hbc KD.out.lt)
                    clear KD
                    have KD := KDx
                    clear KDx
                    have HBx := Lib.hid (HB.out.trans (hbc.mono HB.out.size))
                    clear HB
                    have HB := HBx
                    clear HBx
                    have HAx := Lib.hid ((HA.out.below hbc).wide hbc.size)
                    clear HA
                    have HA := HAx
                    clear HAx
                    clear hbc HBC
                    clear wr
                    obtain ⟨W6, rfl⟩ : ∃ q, q = wc := ⟨wc, rfl⟩
                    obtain ⟨t0, t1, -⟩ := KM.out.all
                    go_upto_region 12 with fail
                    clear t0 t1
                    have bx := below_self_alloc W6 (.cells #[.string id, .int .i64 o, .slice a1 cs.length c1, .string pr, .int .i64 st, .slice a2 mv.length c2, .slice a3 rs.length c3, .slice a4 ls.length c4] 27)
                    have KN := Lib.hid (Blk.new W6 27 #[.string id, .int .i64 o, .slice a1 cs.length c1, .string pr, .int .i64 st, .slice a2 mv.length c2, .slice a3 rs.length c3, .slice a4 ls.length c4])
                    have hgn : w.heap.size + 1 + 1 < W6.heap.size := KD.out.lt
                    have HGN := Lib.hid hgn
                    have HO2 : Hid (Off W6.heap.size ⟨id, o, cs, pr, st, mv, rs, ls⟩ ⟨a1, c1, a2, c2, a3, c3, a4, c4, lv⟩) := Lib.hid (HA.out.off_of (Nat.le_refl _))
                    have KMx := Lib.hid (KM.out.below bx KM.out.lt)
                    clear KM
                    have KM := KMx
                    clear KMx
                    have KPx := Lib.hid (KP.out.below bx KP.out.lt)
                    clear KP
                    have KP := KPx
                    clear KPx
                    have KDx := Lib.hid (KD.out.below bx KD.out.lt)
                    clear KD
                    have KD := KDx
                    clear KDx
                    have HBx := Lib.hid (HB.out.trans (bx.mono HB.out.size))
                    clear HB
                    have HB := HBx
                    clear HBx
                    have HAx := Lib.hid ((HA.out.below bx).wide bx.size)
                    clear HA
                    have HA := HAx
                    clear HAx
                    clear bx hgn
                    generalize W6.alloc (.cells #[.string id, .int .i64 o, .slice a1 cs.length c1, .string pr, .int .i64 st, .slice a2 mv.length c2, .slice a3 rs.length c3, .slice a4 ls.length c4] 27) = W7 at *
                    generalize W6.heap.size = gn at *
                    go_cut [83] (fun v wx => ∃ b, v = .bool b ∧ W7 = wx)
                    case first =>
                      by_cases h6 : k < n6
                      · obtain ⟨x6, hx6⟩ : ∃ x, bl[k]? = some x := ⟨_, List.getElem?_eq_getElem (by rw [N6.out]; exact h6)⟩
                        obtain ⟨g6, o6, hA6, hg6, c6⟩ := (U6.out.below HB.out) k x6 hx6
                        subst hA6
                        have ib2 : (k : Int) < (n6 : Int) := by omega
                        clear hx6
                        go_wp2_with fail
                        go_meet
                        exact ⟨_, rfl, rfl⟩
                      · have ib2 : ¬ (k : Int) < (n6 : Int) := by omega
                        go_wp2_with fail
                        go_meet
                        exact ⟨_, rfl, rfl⟩
                    case rest =>
                      obtain ⟨b, rfl, HEQ⟩ := hcut
                      subst HEQ
                      go_upto_if 83 with fail
                      go_cut [17] (fun v wx => ∃ (E : Int) (zi : ByteArray) (zo : Int) (zc : List Int) (zp : ByteArray) (zs : Int) (zm : List Int) (zr : List Rt) (zl : List Lm) (p1 : Option Addr) (q1 : Nat) (p2 : Option Addr) (q2 : Nat) (p3 : Option Addr) (q3 : Nat) (p4 : Option Addr) (q4 : Nat) (v9 : List LmV), v = .int .i64 E ∧ Hid (Below w.heap.size w wx) ∧ Hid (Blk wx w.heap.size 27 #[.string id, .int .i64 o, .slice a1 cs.length c1, .string pr, .int .i64 st, .slice a2 mv.length c2, .slice a3 rs.length c3, .slice a4 ls.length c4]) ∧ Hid (Blk wx (w.heap.size + 1) 46 #[.string pn, .slice b1 ss.length e1, .slice b2 ms.length e2]) ∧ Hid (Blk wx (w.heap.size + 1 + 1) 52 #[.slice b3 dm.length e3]) ∧ Hid (Blk wx gn 27 #[.string zi, .int .i64 zo, .slice p1 zc.length q1, .string zp, .int .i64 zs, .slice p2 zm.length q2, .slice p3 zr.length q3, .slice p4 zl.length q4]) ∧ Hid (MtAt wx wx.heap.size ⟨id, o, cs, pr, st, mv, rs, ls⟩ ⟨a1, c1, a2, c2, a3, c3, a4, c4, lv⟩) ∧ Hid (MtAt wx wx.heap.size ⟨zi, zo, zc, zp, zs, zm, zr, zl⟩ ⟨p1, q1, p2, q2, p3, q3, p4, q4, v9⟩) ∧ Hid (Off w.heap.size ⟨zi, zo, zc, zp, zs, zm, zr, zl⟩ ⟨p1, q1, p2, q2, p3, q3, p4, q4, v9⟩) ∧ Hid (StepOk ⟨pn, ss, ms⟩ dm ⟨id, o, cs, pr, st, mv, rs, ls⟩ E ⟨zi, zo, zc, zp, zs, zm, zr, zl⟩))
                      case first =>
                        cases b with
                        | true =>
                          go_upto_region 13 with fail
                          go_cut [18] (fun v wx => ∃ nm : ByteArray, v = .string nm ∧ Hid (nm.size ≤ 9223372036854775807) ∧ Hid (Below W7.heap.size W7 wx))
                          case first =>
                            have c4 := HC4.out W7 HB.out
                            have hr := Below.refl W7.heap.size W7
                            have HR := Lib.hid hr
                            clear hr
                            generalize hW : W7 = W at *
                            go_quiet (fail)
                            subst hW
                            go_wp2
                            go_meet
                            refine ⟨_, rfl, Lib.hid ?_, Lib.hid (below_dN HR.out _)⟩
                            · have h1 : (⟨#[114]⟩ : ByteArray).size = 1 := rfl
                              have h2 : (⟨#[48, 49, 50, 51, 52, 53, 54, 55, 56, 57]⟩ : ByteArray).size = 10 := rfl
                              rw [ByteArray.size_append, ByteArray.size_extract, h1, h2]
                              omega
                          case rest =>
                            obtain ⟨nm, rfl, HN, HBC⟩ := hcut
                            have hbc := HBC.out
                            have KMx := Lib.hid (KM.out.below hbc KM.out.lt)
                            clear KM
                            have KM := KMx
                            clear KMx
                            have KPx := Lib.hid (KP.out.below hbc KP.out.lt)
                            clear KP
                            have KP := KPx
                            clear KPx
                            have KDx := Lib.hid (KD.out.below hbc KD.out.lt)
                            clear KD
                            have KD := KDx
                            clear KDx
                            have KNx := Lib.hid (KN.out.below hbc KN.out.lt)
                            clear KN
                            have KN := KNx
                            clear KNx
                            have HBx := Lib.hid (HB.out.trans (hbc.mono HB.out.size))
                            clear HB
                            have HB := HBx
                            clear HBx
                            have HAx := Lib.hid ((HA.out.below hbc).wide hbc.size)
                            clear HA
                            have HA := HAx
                            clear HAx
                            clear hbc HBC
                            clear W7
                            obtain ⟨W8, rfl⟩ : ∃ q, q = wc := ⟨wc, rfl⟩
                            have hc0 := grant_lit W8 ⟨pn, ss, ms⟩ dm ⟨id, o, cs, pr, st, mv, rs, ls⟩ ⟨a1, c1, a2, c2, a3, c3, a4, c4, lv⟩ HA.out HV.out nm HN.out day
                            replace hc0 : Calls Tryz.prog 17 #[.agg #[.string id, .int .i64 o, .slice a1 cs.length c1, .string pr, .int .i64 st, .slice a2 mv.length c2, .slice a3 rs.length c3, .slice a4 ls.length c4], .string nm, .int .i64 day] W8 _ := hc0
                            have HC := Lib.hid hc0
                            clear hc0
                            have KNL := KN.out.lt
                            have KML := KM.out.lt
                            obtain ⟨t0, t1, -⟩ := KM.out.all
                            go_wp2_with fail
                            refine HC.out.mono ?_
                            rintro e W9 ⟨E, zi, zo, zc, zp, zs, zm, zr, zl, p1, q1, p2, q2, p3, q3, p4, q4, v9, rfl, HZ, HOF, bz, HST, HG⟩
                            clear HC t0 t1
                            have HON := Lib.hid (HOF.out gn KNL HO2.out)
                            have HOZ := Lib.hid (HOF.out w.heap.size KML HO.out)
                            clear HOF KNL KML
                            have KMx := Lib.hid (KM.out.below bz KM.out.lt)
                            clear KM
                            have KM := KMx
                            clear KMx
                            have KPx := Lib.hid (KP.out.below bz KP.out.lt)
                            clear KP
                            have KP := KPx
                            clear KPx
                            have KDx := Lib.hid (KD.out.below bz KD.out.lt)
                            clear KD
                            have KD := KDx
                            clear KDx
                            have KNx := Lib.hid (KN.out.below bz KN.out.lt)
                            clear KN
                            have KN := KNx
                            clear KNx
                            have HBx := Lib.hid (HB.out.trans (bz.mono HB.out.size))
                            clear HB
                            have HB := HBx
                            clear HBx
                            have HAx := Lib.hid ((HA.out.below bz).wide bz.size)
                            clear HA
                            have HA := HAx
                            clear HAx
                            clear bz
                            have KNx : Hid (Blk (W9.setRow gn #[.string zi, .int .i64 zo, .slice p1 zc.length q1, .string zp, .int .i64 zs, .slice p2 zm.length q2, .slice p3 zr.length q3, .slice p4 zl.length q4]) gn 27 #[.string zi, .int .i64 zo, .slice p1 zc.length q1, .string zp, .int .i64 zs, .slice p2 zm.length q2, .slice p3 zr.length q3, .slice p4 zl.length q4]) := Lib.hid (setRow_heap W9 gn #[.string id, .int .i64 o, .slice a1 cs.length c1, .string pr, .int .i64 st, .slice a2 mv.length c2, .slice a3 rs.length c3, .slice a4 ls.length c4] #[.string zi, .int .i64 zo, .slice p1 zc.length q1, .string zp, .int .i64 zs, .slice p2 zm.length q2, .slice p3 zr.length q3, .slice p4 zl.length q4] _ _ KN.out)
                            have KMx := Lib.hid ((only_setRow W9 gn #[.string zi, .int .i64 zo, .slice p1 zc.length q1, .string zp, .int .i64 zs, .slice p2 zm.length q2, .slice p3 zr.length q3, .slice p4 zl.length q4]).blk KM.out (show w.heap.size ≠ gn by have := HGN.out; omega))
                            have KPx := Lib.hid ((only_setRow W9 gn #[.string zi, .int .i64 zo, .slice p1 zc.length q1, .string zp, .int .i64 zs, .slice p2 zm.length q2, .slice p3 zr.length q3, .slice p4 zl.length q4]).blk KP.out (show w.heap.size + 1 ≠ gn by have := HGN.out; omega))
                            have KDx := Lib.hid ((only_setRow W9 gn #[.string zi, .int .i64 zo, .slice p1 zc.length q1, .string zp, .int .i64 zs, .slice p2 zm.length q2, .slice p3 zr.length q3, .slice p4 zl.length q4]).blk KD.out (show w.heap.size + 1 + 1 ≠ gn by have := HGN.out; omega))
                            have HBx := Lib.hid (below_row HB.out (show w.heap.size ≤ gn by have := HGN.out; omega) #[.string zi, .int .i64 zo, .slice p1 zc.length q1, .string zp, .int .i64 zs, .slice p2 zm.length q2, .slice p3 zr.length q3, .slice p4 zl.length q4])
                            have HAx : Hid (MtAt (W9.setRow gn #[.string zi, .int .i64 zo, .slice p1 zc.length q1, .string zp, .int .i64 zs, .slice p2 zm.length q2, .slice p3 zr.length q3, .slice p4 zl.length q4]) (W9.setRow gn #[.string zi, .int .i64 zo, .slice p1 zc.length q1, .string zp, .int .i64 zs, .slice p2 zm.length q2, .slice p3 zr.length q3, .slice p4 zl.length q4]).heap.size ⟨id, o, cs, pr, st, mv, rs, ls⟩ ⟨a1, c1, a2, c2, a3, c3, a4, c4, lv⟩) := Lib.hid (by rw [size_setRow]; exact HA.out.off (only_setRow W9 gn #[.string zi, .int .i64 zo, .slice p1 zc.length q1, .string zp, .int .i64 zs, .slice p2 zm.length q2, .slice p3 zr.length q3, .slice p4 zl.length q4]) HO2.out)
                            have HZx : Hid (MtAt (W9.setRow gn #[.string zi, .int .i64 zo, .slice p1 zc.length q1, .string zp, .int .i64 zs, .slice p2 zm.length q2, .slice p3 zr.length q3, .slice p4 zl.length q4]) (W9.setRow gn #[.string zi, .int .i64 zo, .slice p1 zc.length q1, .string zp, .int .i64 zs, .slice p2 zm.length q2, .slice p3 zr.length q3, .slice p4 zl.length q4]).heap.size ⟨zi, zo, zc, zp, zs, zm, zr, zl⟩ ⟨p1, q1, p2, q2, p3, q3, p4, q4, v9⟩) := Lib.hid (by rw [size_setRow]; exact HZ.out.off (only_setRow W9 gn #[.string zi, .int .i64 zo, .slice p1 zc.length q1, .string zp, .int .i64 zs, .slice p2 zm.length q2, .slice p3 zr.length q3, .slice p4 zl.length q4]) HON.out)
                            have KNR := KN
                            clear KM KP KD HB HA HZ KN
                            go_upto_region 15 with (refine wp_row rfl (.tmp 16) (.tmp 104) rfl gn #[.string zi, .int .i64 zo, .slice p1 zc.length q1, .string zp, .int .i64 zs, .slice p2 zm.length q2, .slice p3 zr.length q3, .slice p4 zl.length q4] rfl rfl rfl one8 rfl KNR.out ?_)
                            have KM := KMx
                            have KP := KPx
                            have KD := KDx
                            have KN := KNx
                            have HB := HBx
                            have HA := HAx
                            have HZ := HZx
                            clear KMx KPx KDx KNx HBx HAx HZx KNR HON
                            generalize W9.setRow gn #[.string zi, .int .i64 zo, .slice p1 zc.length q1, .string zp, .int .i64 zs, .slice p2 zm.length q2, .slice p3 zr.length q3, .slice p4 zl.length q4] = W10 at *
                            by_cases hE : E = 0
                            case neg =>
                              have dE : (E == 0) = false := by simp [hE]
                              go_wp2_with fail
                              go_meet
                              exact ⟨E, zi, zo, zc, zp, zs, zm, zr, zl, p1, q1, p2, q2, p3, q3, p4, q4, v9, rfl, HB, KM, KP, KD, KN, HA, HZ, HOZ, HST⟩
                            case pos =>
                              subst hE
                              have hh := HG.out rfl
                              have hzl : zr.length ≤ 4611686018427387904 := by
                                rcases HST.out with ⟨-, -, -, -, -, -, hv, -⟩ | ⟨hn, -⟩
                                · exact Nat.le_trans (vld_sml hv).2.2.1 (by decide)
                                · exact absurd rfl hn
                              have hc0 := has_any W10 W10.heap.size ⟨zi, zo, zc, zp, zs, zm, zr, zl⟩ ⟨p1, q1, p2, q2, p3, q3, p4, q4, v9⟩ HZ.out.rs (Nat.le_refl _) hzl nm day
                              rw [show hasB (Mt.rs ⟨zi, zo, zc, zp, zs, zm, zr, zl⟩) nm day = true from hh] at hc0
                              replace hc0 : Calls Tryz.prog 16 #[.agg #[.string zi, .int .i64 zo, .slice p1 zc.length q1, .string zp, .int .i64 zs, .slice p2 zm.length q2, .slice p3 zr.length q3, .slice p4 zl.length q4], .string nm, .int .i64 day] W10 _ := hc0
                              have HC := Lib.hid hc0
                              clear hc0 hh hzl
                              obtain ⟨t0, t1, -⟩ := KN.out.all
                              go_wp2_with fail
                              refine HC.out.mono ?_
                              rintro e W11 ⟨rfl, bz⟩
                              clear HC t0 t1
                              have KMx := Lib.hid (KM.out.below bz KM.out.lt)
                              clear KM
                              have KM := KMx
                              clear KMx
                              have KPx := Lib.hid (KP.out.below bz KP.out.lt)
                              clear KP
                              have KP := KPx
                              clear KPx
                              have KDx := Lib.hid (KD.out.below bz KD.out.lt)
                              clear KD
                              have KD := KDx
                              clear KDx
                              have KNx := Lib.hid (KN.out.below bz KN.out.lt)
                              clear KN
                              have KN := KNx
                              clear KNx
                              have HBx := Lib.hid (HB.out.trans (bz.mono HB.out.size))
                              clear HB
                              have HB := HBx
                              clear HBx
                              have HAx := Lib.hid ((HA.out.below bz).wide bz.size)
                              clear HA
                              have HA := HAx
                              clear HAx
                              have HZx := Lib.hid ((HZ.out.below bz).wide bz.size)
                              clear HZ
                              have HZ := HZx
                              clear HZx
                              clear bz
                              go_wp2_with fail
                              go_meet
                              exact ⟨0, zi, zo, zc, zp, zs, zm, zr, zl, p1, q1, p2, q2, p3, q3, p4, q4, v9, rfl, HB, KM, KP, KD, KN, HA, HZ, HOZ, HST⟩
                        | false =>
                          go_upto_region 17 with fail
                          have hg1 : w.heap.size < gn := by have := HGN.out; omega
                          have hg2 : w.heap.size + 1 < gn := by have := HGN.out; omega
                          have SF : Hid (∀ V, Below gn W7 V → Blk V w.heap.size 27 #[.string id, .int .i64 o, .slice a1 cs.length c1, .string pr, .int .i64 st, .slice a2 mv.length c2, .slice a3 rs.length c3, .slice a4 ls.length c4] ∧ Blk V (w.heap.size + 1) 46 #[.string pn, .slice b1 ss.length e1, .slice b2 ms.length e2] ∧ V.cell? ⟨g4, o4 + k, none⟩ = some (.int .u8 x4)) := Lib.hid fun V hV => ⟨KM.out.below hV hg1, KP.out.below hV hg2, HC4.out V (HB.out.trans (hV.mono (Nat.le_of_lt hg1)))⟩
                          have KNL := KN.out.lt
                          have hb0 : Below gn W7 W7.drew := (below_drew0 W7).mono (Nat.le_of_lt KNL)
                          have hbd := below_drew0 W7
                          have is0 : (0 : Int) ≤ (ss.length : Int) := by omega
                          have is1 : (ss.length : Int) ≤ 1000000 := by have := HSP.out.1; simp only at this; omega
                          have hw1 : IntKind.i64.wrap ((ss.length : Int) + 1) = (ss.length : Int) + 1 := IntWalk.i64_in _ (by omega)
                          have hw2 : IntKind.i64.wrap x4 = x4 := IntWalk.i64_in _ (by omega)
                          have isn : ¬ ((ss.length : Int) + 1 = 0) := by omega
                          refine wp_region_ats (fun V => Below gn W7 V) (by kernel_rfl) (by kernel_rfl) (fun _ d _ _ _ h => by cases d <;> exact h) rfl ?_
                          have KMx := Lib.hid (KM.out.below hbd KM.out.lt)
                          clear KM
                          have KM := KMx
                          clear KMx
                          have KPx := Lib.hid (KP.out.below hbd KP.out.lt)
                          clear KP
                          have KP := KPx
                          clear KPx
                          have KDx := Lib.hid (KD.out.below hbd KD.out.lt)
                          clear KD
                          have KD := KDx
                          clear KDx
                          have KNx := Lib.hid (KN.out.below hbd KN.out.lt)
                          clear KN
                          have KN := KNx
                          clear KNx
                          have HBx := Lib.hid (HB.out.trans (hbd.mono HB.out.size))
                          clear HB
                          have HB := HBx
                          clear HBx
                          have HAx := Lib.hid ((HA.out.below hbd).wide hbd.size)
                          clear HA
                          have HA := HAx
                          clear HAx
                          have KNG : gn < W7.drew.heap.size := KN.out.lt
                          generalize W7.drew = V at *
                          clear hbd
                          refine ats_take [0, 1, 2, 3, 4, 5, 6, 7, 8, 9, 10, 11, 12] 6 rfl (by kernel_rfl) hb0 ?_
                          simp only [pick, List.drop_succ_cons, List.drop_zero, List.head?_cons, Option.toList_some, List.cons_append, List.nil_append, List.append_nil]
                          repeat (refine wpHeld_step ?_ rfl ?_ ?_; rotate_left; · (intro V hV; obtain ⟨f1, f2, f3⟩ := SF.out V hV; obtain ⟨v0, v1, -⟩ := f1.all; obtain ⟨y0, y1, -⟩ := f2.all; go_simp; with_reducible rfl))
                          refine wpHeld_nil ?_
                          clear SF
                          have hc0 := fun s => move_lit V ⟨pn, ss, ms⟩ ⟨b1, e1, b2, e2⟩ dm ⟨id, o, cs, pr, st, mv, rs, ls⟩ ⟨a1, c1, a2, c2, a3, c3, a4, c4, lv⟩ HA.out HV.out ((HP.out.below HB.out).wide HB.out.size) HSP.out s day
                          replace hc0 : ∀ s : Int, Calls Tryz.prog 19 #[.agg #[.string id, .int .i64 o, .slice a1 cs.length c1, .string pr, .int .i64 st, .slice a2 mv.length c2, .slice a3 rs.length c3, .slice a4 ls.length c4], .agg #[.string pn, .slice b1 ss.length e1, .slice b2 ms.length e2], .int .i64 s, .int .i64 day] V _ := hc0
                          have HC := Lib.hid hc0
                          clear hc0
                          have KML := KM.out.lt
                          refine ats_one 13 (by kernel_rfl) ?_
                          simp only [pick, List.drop_succ_cons, List.drop_zero, List.head?_cons, Option.toList_some, List.append_nil]
                          go_wp2_with fail
                          refine (HC.out _).mono ?_
                          rintro e W9 ⟨E, zi, zo, zc, zp, zs, zm, zr, zl, p1, q1, p2, q2, p3, q3, p4, q4, v9, rfl, HZ, HOF, bz, HST, HG⟩
                          clear HC KNL
                          have KNL := KNG
                          clear KNG
                          replace hb0 := hb0.trans (bz.mono (Nat.le_of_lt KNL))
                          have HON := Lib.hid (HOF.out gn KNL HO2.out)
                          have HOZ := Lib.hid (HOF.out w.heap.size KML HO.out)
                          clear HOF KNL KML
                          have KMx := Lib.hid (KM.out.below bz KM.out.lt)
                          clear KM
                          have KM := KMx
                          clear KMx
                          have KPx := Lib.hid (KP.out.below bz KP.out.lt)
                          clear KP
                          have KP := KPx
                          clear KPx
                          have KDx := Lib.hid (KD.out.below bz KD.out.lt)
                          clear KD
                          have KD := KDx
                          clear KDx
                          have KNx := Lib.hid (KN.out.below bz KN.out.lt)
                          clear KN
                          have KN := KNx
                          clear KNx
                          have HBx := Lib.hid (HB.out.trans (bz.mono HB.out.size))
                          clear HB
                          have HB := HBx
                          clear HBx
                          have HAx := Lib.hid ((HA.out.below bz).wide bz.size)
                          clear HA
                          have HA := HAx
                          clear HAx
                          clear bz V
                          go_wp2_with fail
                          refine ⟨hb0, ?_⟩
                          refine ats_take [14, 15] 3 rfl (by kernel_rfl) hb0 ?_
                          simp only [pick, List.drop_succ_cons, List.drop_zero, List.head?_cons, Option.toList_some, List.cons_append, List.nil_append, List.append_nil]
                          repeat (refine wpHeld_step ?_ rfl ?_ ?_; rotate_left; · (intro V hV; go_simp; with_reducible rfl))
                          refine wpHeld_nil ?_
                          have KNx : Hid (Blk (W9.setRow gn #[.string zi, .int .i64 zo, .slice p1 zc.length q1, .string zp, .int .i64 zs, .slice p2 zm.length q2, .slice p3 zr.length q3, .slice p4 zl.length q4]) gn 27 #[.string zi, .int .i64 zo, .slice p1 zc.length q1, .string zp, .int .i64 zs, .slice p2 zm.length q2, .slice p3 zr.length q3, .slice p4 zl.length q4]) := Lib.hid (setRow_heap W9 gn #[.string id, .int .i64 o, .slice a1 cs.length c1, .string pr, .int .i64 st, .slice a2 mv.length c2, .slice a3 rs.length c3, .slice a4 ls.length c4] #[.string zi, .int .i64 zo, .slice p1 zc.length q1, .string zp, .int .i64 zs, .slice p2 zm.length q2, .slice p3 zr.length q3, .slice p4 zl.length q4] _ _ KN.out)
                          have KMx := Lib.hid ((only_setRow W9 gn #[.string zi, .int .i64 zo, .slice p1 zc.length q1, .string zp, .int .i64 zs, .slice p2 zm.length q2, .slice p3 zr.length q3, .slice p4 zl.length q4]).blk KM.out (show w.heap.size ≠ gn by have := HGN.out; omega))
                          have KPx := Lib.hid ((only_setRow W9 gn #[.string zi, .int .i64 zo, .slice p1 zc.length q1, .string zp, .int .i64 zs, .slice p2 zm.length q2, .slice p3 zr.length q3, .slice p4 zl.length q4]).blk KP.out (show w.heap.size + 1 ≠ gn by have := HGN.out; omega))
                          have KDx := Lib.hid ((only_setRow W9 gn #[.string zi, .int .i64 zo, .slice p1 zc.length q1, .string zp, .int .i64 zs, .slice p2 zm.length q2, .slice p3 zr.length q3, .slice p4 zl.length q4]).blk KD.out (show w.heap.size + 1 + 1 ≠ gn by have := HGN.out; omega))
                          have HBx := Lib.hid (below_row HB.out (show w.heap.size ≤ gn by have := HGN.out; omega) #[.string zi, .int .i64 zo, .slice p1 zc.length q1, .string zp, .int .i64 zs, .slice p2 zm.length q2, .slice p3 zr.length q3, .slice p4 zl.length q4])
                          have HAx : Hid (MtAt (W9.setRow gn #[.string zi, .int .i64 zo, .slice p1 zc.length q1, .string zp, .int .i64 zs, .slice p2 zm.length q2, .slice p3 zr.length q3, .slice p4 zl.length q4]) (W9.setRow gn #[.string zi, .int .i64 zo, .slice p1 zc.length q1, .string zp, .int .i64 zs, .slice p2 zm.length q2, .slice p3 zr.length q3, .slice p4 zl.length q4]).heap.size ⟨id, o, cs, pr, st, mv, rs, ls⟩ ⟨a1, c1, a2, c2, a3, c3, a4, c4, lv⟩) := Lib.hid (by rw [size_setRow]; exact HA.out.off (only_setRow W9 gn #[.string zi, .int .i64 zo, .slice p1 zc.length q1, .string zp, .int .i64 zs, .slice p2 zm.length q2, .slice p3 zr.length q3, .slice p4 zl.length q4]) HO2.out)
                          have HZx : Hid (MtAt (W9.setRow gn #[.string zi, .int .i64 zo, .slice p1 zc.length q1, .string zp, .int .i64 zs, .slice p2 zm.length q2, .slice p3 zr.length q3, .slice p4 zl.length q4]) (W9.setRow gn #[.string zi, .int .i64 zo, .slice p1 zc.length q1, .string zp, .int .i64 zs, .slice p2 zm.length q2, .slice p3 zr.length q3, .slice p4 zl.length q4]).heap.size ⟨zi, zo, zc, zp, zs, zm, zr, zl⟩ ⟨p1, q1, p2, q2, p3, q3, p4, q4, v9⟩) := Lib.hid (by rw [size_setRow]; exact HZ.out.off (only_setRow W9 gn #[.string zi, .int .i64 zo, .slice p1 zc.length q1, .string zp, .int .i64 zs, .slice p2 zm.length q2, .slice p3 zr.length q3, .slice p4 zl.length q4]) HON.out)
                          have KNR := KN
                          clear KM KP KD HB HA HZ KN
                          have hb1 : Below gn W7 (W9.setRow gn #[.string zi, .int .i64 zo, .slice p1 zc.length q1, .string zp, .int .i64 zs, .slice p2 zm.length q2, .slice p3 zr.length q3, .slice p4 zl.length q4]) := below_row hb0 (Nat.le_refl _) #[.string zi, .int .i64 zo, .slice p1 zc.length q1, .string zp, .int .i64 zs, .slice p2 zm.length q2, .slice p3 zr.length q3, .slice p4 zl.length q4]
                          have hend : True := trivial
                          refine ats_two 16 17 (by kernel_rfl) ?_ ?_
                          · simp only [pick, List.drop_succ_cons, List.drop_zero, List.head?_cons, Option.toList_some, List.append_nil]
                            go_wp2_with fail
                            refine ⟨hb0, ?_⟩
                            refine ats_one 17 (by kernel_rfl) ?_
                            simp only [pick, List.drop_succ_cons, List.drop_zero, List.head?_cons, Option.toList_some, List.append_nil]
                            go_wp2_with (refine wp_row rfl (.tmp 16) (.tmp 130) rfl gn #[.string zi, .int .i64 zo, .slice p1 zc.length q1, .string zp, .int .i64 zs, .slice p2 zm.length q2, .slice p3 zr.length q3, .slice p4 zl.length q4] rfl rfl rfl one8 rfl KNR.out ?_)
                            refine ⟨hb1, ?_⟩
                            have KM := KMx
                            have KP := KPx
                            have KD := KDx
                            have KN := KNx
                            have HB := HBx
                            have HA := HAx
                            have HZ := HZx
                            clear KMx KPx KDx KNx HBx HAx HZx KNR HON
                            generalize W9.setRow gn #[.string zi, .int .i64 zo, .slice p1 zc.length q1, .string zp, .int .i64 zs, .slice p2 zm.length q2, .slice p3 zr.length q3, .slice p4 zl.length q4] = W10 at *
                            refine ats_one 18 (by kernel_rfl) ?_
                            simp only [pick, List.drop_succ_cons, List.drop_zero, List.head?_cons, Option.toList_some, List.append_nil]
                            go_wp2_with fail
                            refine ⟨hb1, ?_⟩
                            refine ats_end (by kernel_rfl) ?_
                            clear hb0 hb1
                            by_cases hE : E = 0
                            case neg =>
                              have dE : (E == 0) = false := by simp [hE]
                              go_wp2_with fail
                              go_meet
                              exact ⟨E, zi, zo, zc, zp, zs, zm, zr, zl, p1, q1, p2, q2, p3, q3, p4, q4, v9, rfl, HB, KM, KP, KD, KN, HA, HZ, HOZ, HST⟩
                            case pos =>
                              subst hE
                              obtain ⟨hmem, hzm, hzr⟩ := HG.out rfl
                              have hmvl : mv.length ≤ 1000000 := (vld_sml HV.out).2.1
                              have hc0 : Calls Tryz.prog 28 #[.agg #[.string id, .int .i64 o, .slice a1 cs.length c1, .string pr, .int .i64 st, .slice a2 mv.length c2, .slice a3 rs.length c3, .slice a4 ls.length c4], .agg #[.string zi, .int .i64 zo, .slice p1 zc.length q1, .string zp, .int .i64 zs, .slice p2 zm.length q2, .slice p3 zr.length q3, .slice p4 zl.length q4], .agg #[.string pn, .slice b1 ss.length e1, .slice b2 ms.length e2], .int .i64 day] W10 fun e w' => e = .returned (.bool true) ∧ Below W10.heap.size W10 w' := by
                                have e1' : zm.length = mv.length + 1 := by rw [hzm]; simp
                                have e2' : zr.length = rs.length := by rw [hzr]
                                rw [e1', e2']
                                exact moved_any W10 W10.heap.size id zi pr zp o zo st zs mv day rs.length cs.length zc.length ls.length zl.length a1 a2 a3 a4 p1 p2 p3 p4 c1 c2 c3 c4 q1 q2 q3 q4 HA.out.mv (by have := HZ.out.mv; simp only at this; rwa [hzm] at this) hmvl ⟨pn, ss, ms⟩ ⟨b1, e1, b2, e2⟩ ((HP.out.below HB.out).wide HB.out.size) HSP.out.2 hmem (Nat.le_refl _)
                              have HC := Lib.hid hc0
                              clear hc0 hmem hzm hzr hmvl
                              obtain ⟨t0, t1, -⟩ := KM.out.all
                              obtain ⟨s0, s1, -⟩ := KN.out.all
                              obtain ⟨u0, u1, -⟩ := KP.out.all
                              go_wp2_with fail
                              refine HC.out.mono ?_
                              rintro e W11 ⟨rfl, bz⟩
                              clear HC t0 t1 s0 s1 u0 u1
                              have KMx := Lib.hid (KM.out.below bz KM.out.lt)
                              clear KM
                              have KM := KMx
                              clear KMx
                              have KPx := Lib.hid (KP.out.below bz KP.out.lt)
                              clear KP
                              have KP := KPx
                              clear KPx
                              have KDx := Lib.hid (KD.out.below bz KD.out.lt)
                              clear KD
                              have KD := KDx
                              clear KDx
                              have KNx := Lib.hid (KN.out.below bz KN.out.lt)
                              clear KN
                              have KN := KNx
                              clear KNx
                              have HBx := Lib.hid (HB.out.trans (bz.mono HB.out.size))
                              clear HB
                              have HB := HBx
                              clear HBx
                              have HAx := Lib.hid ((HA.out.below bz).wide bz.size)
                              clear HA
                              have HA := HAx
                              clear HAx
                              have HZx := Lib.hid ((HZ.out.below bz).wide bz.size)
                              clear HZ
                              have HZ := HZx
                              clear HZx
                              clear bz
                              go_wp2_with fail
                              go_meet
                              exact ⟨0, zi, zo, zc, zp, zs, zm, zr, zl, p1, q1, p2, q2, p3, q3, p4, q4, v9, rfl, HB, KM, KP, KD, KN, HA, HZ, HOZ, HST⟩
                          · simp only [pick, List.drop_succ_cons, List.drop_zero, List.head?_cons, Option.toList_some, List.append_nil]
                            go_wp2_with (refine wp_row rfl (.tmp 16) (.tmp 130) rfl gn #[.string zi, .int .i64 zo, .slice p1 zc.length q1, .string zp, .int .i64 zs, .slice p2 zm.length q2, .slice p3 zr.length q3, .slice p4 zl.length q4] rfl rfl rfl one8 rfl KNR.out ?_)
                            refine ⟨hb1, ?_⟩
                            refine ats_one 16 (by kernel_rfl) ?_
                            simp only [pick, List.drop_succ_cons, List.drop_zero, List.head?_cons, Option.toList_some, List.append_nil]
                            go_wp2_with fail
                            refine ⟨hb1, ?_⟩
                            have KM := KMx
                            have KP := KPx
                            have KD := KDx
                            have KN := KNx
                            have HB := HBx
                            have HA := HAx
                            have HZ := HZx
                            clear KMx KPx KDx KNx HBx HAx HZx KNR HON
                            generalize W9.setRow gn #[.string zi, .int .i64 zo, .slice p1 zc.length q1, .string zp, .int .i64 zs, .slice p2 zm.length q2, .slice p3 zr.length q3, .slice p4 zl.length q4] = W10 at *
                            refine ats_one 18 (by kernel_rfl) ?_
                            simp only [pick, List.drop_succ_cons, List.drop_zero, List.head?_cons, Option.toList_some, List.append_nil]
                            go_wp2_with fail
                            refine ⟨hb1, ?_⟩
                            refine ats_end (by kernel_rfl) ?_
                            clear hb0 hb1
                            by_cases hE : E = 0
                            case neg =>
                              have dE : (E == 0) = false := by simp [hE]
                              go_wp2_with fail
                              go_meet
                              exact ⟨E, zi, zo, zc, zp, zs, zm, zr, zl, p1, q1, p2, q2, p3, q3, p4, q4, v9, rfl, HB, KM, KP, KD, KN, HA, HZ, HOZ, HST⟩
                            case pos =>
                              subst hE
                              obtain ⟨hmem, hzm, hzr⟩ := HG.out rfl
                              have hmvl : mv.length ≤ 1000000 := (vld_sml HV.out).2.1
                              have hc0 : Calls Tryz.prog 28 #[.agg #[.string id, .int .i64 o, .slice a1 cs.length c1, .string pr, .int .i64 st, .slice a2 mv.length c2, .slice a3 rs.length c3, .slice a4 ls.length c4], .agg #[.string zi, .int .i64 zo, .slice p1 zc.length q1, .string zp, .int .i64 zs, .slice p2 zm.length q2, .slice p3 zr.length q3, .slice p4 zl.length q4], .agg #[.string pn, .slice b1 ss.length e1, .slice b2 ms.length e2], .int .i64 day] W10 fun e w' => e = .returned (.bool true) ∧ Below W10.heap.size W10 w' := by
                                have e1' : zm.length = mv.length + 1 := by rw [hzm]; simp
                                have e2' : zr.length = rs.length := by rw [hzr]
                                rw [e1', e2']
                                exact moved_any W10 W10.heap.size id zi pr zp o zo st zs mv day rs.length cs.length zc.length ls.length zl.length a1 a2 a3 a4 p1 p2 p3 p4 c1 c2 c3 c4 q1 q2 q3 q4 HA.out.mv (by have := HZ.out.mv; simp only at this; rwa [hzm] at this) hmvl ⟨pn, ss, ms⟩ ⟨b1, e1, b2, e2⟩ ((HP.out.below HB.out).wide HB.out.size) HSP.out.2 hmem (Nat.le_refl _)
                              have HC := Lib.hid hc0
                              clear hc0 hmem hzm hzr hmvl
                              obtain ⟨t0, t1, -⟩ := KM.out.all
                              obtain ⟨s0, s1, -⟩ := KN.out.all
                              obtain ⟨u0, u1, -⟩ := KP.out.all
                              go_wp2_with fail
                              refine HC.out.mono ?_
                              rintro e W11 ⟨rfl, bz⟩
                              clear HC t0 t1 s0 s1 u0 u1
                              have KMx := Lib.hid (KM.out.below bz KM.out.lt)
                              clear KM
                              have KM := KMx
                              clear KMx
                              have KPx := Lib.hid (KP.out.below bz KP.out.lt)
                              clear KP
                              have KP := KPx
                              clear KPx
                              have KDx := Lib.hid (KD.out.below bz KD.out.lt)
                              clear KD
                              have KD := KDx
                              clear KDx
                              have KNx := Lib.hid (KN.out.below bz KN.out.lt)
                              clear KN
                              have KN := KNx
                              clear KNx
                              have HBx := Lib.hid (HB.out.trans (bz.mono HB.out.size))
                              clear HB
                              have HB := HBx
                              clear HBx
                              have HAx := Lib.hid ((HA.out.below bz).wide bz.size)
                              clear HA
                              have HA := HAx
                              clear HAx
                              have HZx := Lib.hid ((HZ.out.below bz).wide bz.size)
                              clear HZ
                              have HZ := HZx
                              clear HZx
                              clear bz
                              go_wp2_with fail
                              go_meet
                              exact ⟨0, zi, zo, zc, zp, zs, zm, zr, zl, p1, q1, p2, q2, p3, q3, p4, q4, v9, rfl, HB, KM, KP, KD, KN, HA, HZ, HOZ, HST⟩
                      case rest =>
                        clear HB KM KP KD KN HA
                        obtain ⟨E, zi, zo, zc, zp, zs, zm, zr, zl, p1, q1, p2, q2, p3, q3, p4, q4, v9, rfl, HB, KM, KP, KD, KN, HA, HZ, HOZ, HST⟩ := hcut
                        clear W7
                        obtain ⟨W10, rfl⟩ : ∃ q, q = wc := ⟨wc, rfl⟩
                        by_cases hE : E = 0
                        case neg =>
                          have dE : (E == 0) = false := by simp [hE]
                          have hz : ⟨zi, zo, zc, zp, zs, zm, zr, zl⟩ = Mt.zero := by
                            rcases HST.out with ⟨h0, -⟩ | ⟨-, hz⟩
                            · exact absurd h0 hE
                            · exact hz
                          unfold Mt.zero at hz
                          injection hz with z1 z2 z3 z4 z5 z6 z7 z8
                          subst z1 z2 z3 z4 z5 z6 z7 z8
                          clear HST HOZ
                          have KNx : Hid (Blk W10 gn 27 #[.string ⟨#[]⟩, .int .i64 0, .slice p1 0 q1, .string ⟨#[]⟩, .int .i64 0, .slice p2 0 q2, .slice p3 0 q3, .slice p4 0 q4]) := KN
                          clear KN
                          have hsz : Sml Mt.zero := ⟨by decide, by decide, by decide, by decide⟩
                          have hc0 := rsame_any W10 W10.heap.size Mt.zero Mt.zero ⟨p1, q1, p2, q2, p3, q3, p4, q4, v9⟩ xz HZ.out (mt_zero _ _) (Nat.le_refl _) hsz hsz true (by simp)
                          replace hc0 : Calls Tryz.prog 15 #[.agg #[.string ⟨#[]⟩, .int .i64 0, .slice p1 0 q1, .string ⟨#[]⟩, .int .i64 0, .slice p2 0 q2, .slice p3 0 q3, .slice p4 0 q4], .agg #[.string ⟨#[]⟩, .int .i64 0, .slice none 0 0, .string ⟨#[]⟩, .int .i64 0, .slice none 0 0, .slice none 0 0, .slice none 0 0]] W10 _ := hc0
                          have HC := Lib.hid hc0
                          clear hc0 hsz
                          obtain ⟨t0, t1, -⟩ := KNx.out.all
                          go_wp2_with fail
                          refine HC.out.mono ?_
                          rintro e W11 ⟨rfl, bz⟩
                          clear HC t0 t1
                          have KMx := Lib.hid (KM.out.below bz KM.out.lt)
                          clear KM
                          have KM := KMx
                          clear KMx
                          have KPx := Lib.hid (KP.out.below bz KP.out.lt)
                          clear KP
                          have KP := KPx
                          clear KPx
                          have KDx := Lib.hid (KD.out.below bz KD.out.lt)
                          clear KD
                          have KD := KDx
                          clear KDx
                          have HBx := Lib.hid (HB.out.trans (bz.mono HB.out.size))
                          clear HB
                          have HB := HBx
                          clear HBx
                          have HAx := Lib.hid ((HA.out.below bz).wide bz.size)
                          clear HA
                          have HA := HAx
                          clear HAx
                          clear bz
                          go_wp2
                          go_roundg (gk - 1)
                          case rel => exact ⟨k + 1, day, id, pr, o, st, cs, mv, rs, ls, a1, c1, a2, c2, a3, c3, a4, c4, lv, by omega, rfl, by go_num, HB, KM, KP, KD, HA, HO, HV⟩
                          case measure => omega
                        case pos =>
                          subst hE
                          obtain ⟨e1x, e2x, e3x, e4x, e5x, hv, hrs⟩ : zi = id ∧ zo = o ∧ zc = cs ∧ zp = pr ∧ zl = ls ∧ vldB ⟨zi, zo, zc, zp, zs, zm, zr, zl⟩ ⟨pn, ss, ms⟩ dm = true ∧ ∀ r ∈ rs, r ∈ zr := by
                            rcases HST.out with ⟨-, hz⟩ | ⟨h0, -⟩
                            · exact hz
                            · exact absurd rfl h0
                          have f1x := e1x.symm
                          have f2x := e2x.symm
                          have f3x := e3x.symm
                          have f4x := e4x.symm
                          have f5x := e5x.symm
                          clear e1x e2x e3x e4x e5x HST
                          subst f1x f2x f3x f4x f5x
                          have HVZ := Lib.hid hv
                          have HRS := Lib.hid hrs
                          clear hv hrs
                          obtain ⟨t0, t1, -⟩ := KM.out.all
                          go_upto_region 24 with fail
                          clear t0 t1
                          go_loopg [19] rs.length (fun nn i wr => ∃ j : Nat, j + nn = rs.length ∧ i = .int .i64 (j : Int) ∧ Hid (Below W10.heap.size W10 wr))
                          case atStart => exact ⟨0, Nat.zero_add _, rfl, Lib.hid (Below.refl _ _)⟩
                          case round =>
                            obtain ⟨j, hj, rfl, HW⟩ := hrel
                            by_cases hjl : j < rs.length
                            · obtain ⟨r, hr⟩ : ∃ x, rs[j]? = some x := ⟨_, List.getElem?_eq_getElem hjl⟩
                              have hA2 := fun V (hV : Below W10.heap.size W10 V) => (HA.out.rs.below hV) j r hr
                              obtain ⟨ga, oa, hAe, hga, -, -⟩ := HA.out.rs j r hr
                              have hA3 : a3 = some ⟨ga, oa, none⟩ := hAe
                              have SF : Hid (∀ V, Below W10.heap.size W10 V → Blk V gn 27 #[.string id, .int .i64 o, .slice p1 cs.length q1, .string pr, .int .i64 zs, .slice p2 zm.length q2, .slice p3 zr.length q3, .slice p4 ls.length q4] ∧ Blk V w.heap.size 27 #[.string id, .int .i64 o, .slice a1 cs.length c1, .string pr, .int .i64 st, .slice a2 mv.length c2, .slice a3 rs.length c3, .slice a4 ls.length c4] ∧ V.cell? ⟨ga, oa + j * 2, none⟩ = some (.string r.1) ∧ V.cell? ⟨ga, oa + j * 2 + 1, none⟩ = some (.int .i64 r.2)) := Lib.hid fun V hV => by
                                obtain ⟨g', o', e, _, c0, c1⟩ := hA2 V hV
                                have e' : some (⟨ga, oa, none⟩ : Addr) = some ⟨g', o', none⟩ := hAe.symm.trans e
                                injection e' with e'; injection e' with e1' e2' _; subst e1' e2'
                                exact ⟨KN.out.below hV KN.out.lt, KM.out.below hV KM.out.lt, c0, c1⟩
                              have hin : hasB zr r.1 r.2 = true := has_self (HRS.out r (List.mem_of_getElem? hr))
                              have HIN := Lib.hid hin
                              have hzl : zr.length ≤ 4611686018427387904 := Nat.le_trans (vld_sml HVZ.out).2.2.1 (by decide)
                              have HZL := Lib.hid hzl
                              have hrl : rs.length ≤ 1000000 := (vld_sml HV.out).2.2.1
                              have jb0 : (0 : Int) ≤ (j : Int) := by omega
                              have jb1 : (j : Int) < (rs.length : Int) := by omega
                              obtain ⟨r1, r2⟩ := r
                              clear hr hA2 hAe hin hzl
                              subst hA3
                              have CC : Hid (∀ W, Below W10.heap.size W10 W → Calls Tryz.prog 16 #[.agg #[.string id, .int .i64 o, .slice p1 cs.length q1, .string pr, .int .i64 zs, .slice p2 zm.length q2, .slice p3 zr.length q3, .slice p4 ls.length q4], .string r1, .int .i64 r2] W fun e w' => e = .returned (.bool true) ∧ Below W.heap.size W w') := Lib.hid fun W hW => by
                                have h := has_any W W.heap.size ⟨id, o, cs, pr, zs, zm, zr, ls⟩ ⟨p1, q1, p2, q2, p3, q3, p4, q4, v9⟩ ((HZ.out.rs.below hW).wide hW.size) (Nat.le_refl _) HZL.out r1 r2
                                rw [show hasB (Mt.rs ⟨id, o, cs, pr, zs, zm, zr, ls⟩) r1 r2 = true from HIN.out] at h
                                exact h
                              obtain ⟨f1, f2, f3, f4⟩ := SF.out wr HW.out
                              obtain ⟨t0, t1, -⟩ := f2.all
                              go_upto_region 26 with fail
                              clear f1 f2 f3 f4 t0 t1
                              refine wp_region_hold (fun V => Below W10.heap.size W10 V) [0, 1, 2, 3, 4, 5, 6, 7, 8, 9, 10, 11, 12] [13] [14] (by kernel_rfl) (by kernel_rfl) (fun _ d _ _ _ h => by cases d <;> exact h) HW.out.drew ?_
                              simp only [pick, List.drop_succ_cons, List.drop_zero, List.head?_cons, Option.toList_some, List.cons_append, List.nil_append]
                              repeat (refine wpHeld_step ?_ rfl ?_ ?_; rotate_left; · (intro V hV; obtain ⟨f1, f2, f3, f4⟩ := SF.out V hV; obtain ⟨v0, v1, -⟩ := f1.all; obtain ⟨y0, y1, -⟩ := f2.all; go_simp; with_reducible rfl))
                              refine wpHeld_nil ?_
                              simp only [wpEarly]
                              have HWD := Lib.hid HW.out.drew
                              clear HW SF
                              generalize wr.drew = Wd at *
                              have HC := Lib.hid (CC.out Wd HWD.out)
                              clear CC
                              go_wp2_with fail
                              refine HC.out.mono ?_
                              rintro e We ⟨rfl, x1⟩
                              have HWE := Lib.hid (HWD.out.trans (x1.mono HWD.out.size))
                              clear x1
                              go_wp2_with fail
                              refine ⟨HWE.out, ?_⟩
                              go_wp2
                              go_roundg (gk - 1)
                              case rel => exact ⟨j + 1, by omega, by go_num, HWE⟩
                              case measure => omega
                            · have jb1 : ¬ (j : Int) < (rs.length : Int) := by omega
                              have hw0 := HW.out
                              have KMo := KM
                              obtain ⟨f0, f1, -⟩ := (KMo.out.below hw0 KMo.out.lt).all
                              clear HRS
                              have KMx := Lib.hid (KM.out.below hw0 KM.out.lt)
                              clear KM
                              have KM := KMx
                              clear KMx
                              have KPx := Lib.hid (KP.out.below hw0 KP.out.lt)
                              clear KP
                              have KP := KPx
                              clear KPx
                              have KDx := Lib.hid (KD.out.below hw0 KD.out.lt)
                              clear KD
                              have KD := KDx
                              clear KDx
                              have KNx := Lib.hid (KN.out.below hw0 KN.out.lt)
                              clear KN
                              have KN := KNx
                              clear KNx
                              have HBx := Lib.hid (HB.out.trans (hw0.mono HB.out.size))
                              clear HB
                              have HB := HBx
                              clear HBx
                              have HAx := Lib.hid ((HA.out.below hw0).wide hw0.size)
                              clear HA
                              have HA := HAx
                              clear HAx
                              have HZx := Lib.hid ((HZ.out.below hw0).wide hw0.size)
                              clear HZ
                              have HZ := HZx
                              clear HZx
                              clear hw0 HW KMo
                              obtain ⟨v0, v1, -⟩ := KN.out.all
                              go_upto_region 29 with fail
                              clear f0 f1 v0 v1
                              have bx := below_self_alloc wr (.cells #[.string id, .int .i64 o, .slice p1 cs.length q1, .string pr, .int .i64 zs, .slice p2 zm.length q2, .slice p3 zr.length q3, .slice p4 ls.length q4] 27)
                              have KB := Lib.hid (Blk.new wr 27 #[.string id, .int .i64 o, .slice p1 cs.length q1, .string pr, .int .i64 zs, .slice p2 zm.length q2, .slice p3 zr.length q3, .slice p4 ls.length q4])
                              have hgb : gn < wr.heap.size := KN.out.lt
                              have HGB := Lib.hid hgb
                              have HGG := Lib.hid bx
                              have KMx := Lib.hid (KM.out.below bx KM.out.lt)
                              clear KM
                              have KM := KMx
                              clear KMx
                              have KPx := Lib.hid (KP.out.below bx KP.out.lt)
                              clear KP
                              have KP := KPx
                              clear KPx
                              have KDx := Lib.hid (KD.out.below bx KD.out.lt)
                              clear KD
                              have KD := KDx
                              clear KDx
                              have KNx := Lib.hid (KN.out.below bx KN.out.lt)
                              clear KN
                              have KN := KNx
                              clear KNx
                              have HBx := Lib.hid (HB.out.trans (bx.mono HB.out.size))
                              clear HB
                              have HB := HBx
                              clear HBx
                              have HGL : Hid (wr.heap.size ≤ (wr.alloc (.cells #[.string id, .int .i64 o, .slice p1 cs.length q1, .string pr, .int .i64 zs, .slice p2 zm.length q2, .slice p3 zr.length q3, .slice p4 ls.length q4] 27)).heap.size) := Lib.hid bx.size
                              clear bx hgb
                              generalize wr.alloc (.cells #[.string id, .int .i64 o, .slice p1 cs.length q1, .string pr, .int .i64 zs, .slice p2 zm.length q2, .slice p3 zr.length q3, .slice p4 ls.length q4] 27) = V0 at *
                              generalize wr.heap.size = gb at *
                              obtain ⟨t0, t1, -⟩ := KM.out.all
                              obtain ⟨u0, u1, -⟩ := KB.out.all
                              go_upto_region 30 with fail
                              clear t0 t1 u0 u1
                              have KBx : Hid (Blk (V0.setCell ⟨gb, 4, none⟩ (.int .i64 st)) gb 27 #[.string id, .int .i64 o, .slice p1 cs.length q1, .string pr, .int .i64 st, .slice p2 zm.length q2, .slice p3 zr.length q3, .slice p4 ls.length q4]) := Lib.hid (by simpa using KB.out.set_ 4 (.int .i64 st))
                              have KMx := Lib.hid (KM.out.far (p := ⟨gb, 4, none⟩) (show w.heap.size ≠ gb by have := HGB.out; have := HGN.out; omega) (.int .i64 st))
                              have KPx := Lib.hid (KP.out.far (p := ⟨gb, 4, none⟩) (show w.heap.size + 1 ≠ gb by have := HGB.out; have := HGN.out; omega) (.int .i64 st))
                              have KDx := Lib.hid (KD.out.far (p := ⟨gb, 4, none⟩) (show w.heap.size + 1 + 1 ≠ gb by have := HGB.out; have := HGN.out; omega) (.int .i64 st))
                              have KNx := Lib.hid (KN.out.far (p := ⟨gb, 4, none⟩) (show gn ≠ gb by have := HGB.out; have := HGN.out; omega) (.int .i64 st))
                              have HBx := Lib.hid (HB.out.setCell (p := ⟨gb, 4, none⟩) (show w.heap.size ≤ gb by have := HGB.out; have := HGN.out; omega) (.int .i64 st))
                              have HGGx := Lib.hid (HGG.out.setCell (p := ⟨gb, 4, none⟩) (Nat.le_refl gb) (.int .i64 st))
                              clear KB KM KP KD KN HB HGG
                              have KB := KBx
                              have KM := KMx
                              have KP := KPx
                              have KD := KDx
                              have KN := KNx
                              have HB := HBx
                              have HGG := HGGx
                              clear KBx KMx KPx KDx KNx HBx HGGx
                              generalize V0.setCell ⟨gb, 4, none⟩ (.int .i64 st) = V1 at *
                              obtain ⟨t0, t1, -⟩ := KM.out.all
                              obtain ⟨u0, u1, -⟩ := KB.out.all
                              go_upto_region 31 with fail
                              clear t0 t1 u0 u1
                              have KBx : Hid (Blk (V1.setCell ⟨gb, 5, none⟩ (.slice a2 mv.length c2)) gb 27 #[.string id, .int .i64 o, .slice p1 cs.length q1, .string pr, .int .i64 st, .slice a2 mv.length c2, .slice p3 zr.length q3, .slice p4 ls.length q4]) := Lib.hid (by simpa using KB.out.set_ 5 (.slice a2 mv.length c2))
                              have KMx := Lib.hid (KM.out.far (p := ⟨gb, 5, none⟩) (show w.heap.size ≠ gb by have := HGB.out; have := HGN.out; omega) (.slice a2 mv.length c2))
                              have KPx := Lib.hid (KP.out.far (p := ⟨gb, 5, none⟩) (show w.heap.size + 1 ≠ gb by have := HGB.out; have := HGN.out; omega) (.slice a2 mv.length c2))
                              have KDx := Lib.hid (KD.out.far (p := ⟨gb, 5, none⟩) (show w.heap.size + 1 + 1 ≠ gb by have := HGB.out; have := HGN.out; omega) (.slice a2 mv.length c2))
                              have KNx := Lib.hid (KN.out.far (p := ⟨gb, 5, none⟩) (show gn ≠ gb by have := HGB.out; have := HGN.out; omega) (.slice a2 mv.length c2))
                              have HBx := Lib.hid (HB.out.setCell (p := ⟨gb, 5, none⟩) (show w.heap.size ≤ gb by have := HGB.out; have := HGN.out; omega) (.slice a2 mv.length c2))
                              have HGGx := Lib.hid (HGG.out.setCell (p := ⟨gb, 5, none⟩) (Nat.le_refl gb) (.slice a2 mv.length c2))
                              clear KB KM KP KD KN HB HGG
                              have KB := KBx
                              have KM := KMx
                              have KP := KPx
                              have KD := KDx
                              have KN := KNx
                              have HB := HBx
                              have HGG := HGGx
                              clear KBx KMx KPx KDx KNx HBx HGGx
                              generalize V1.setCell ⟨gb, 5, none⟩ (.slice a2 mv.length c2) = V2 at *
                              obtain ⟨t0, t1, -⟩ := KM.out.all
                              obtain ⟨u0, u1, -⟩ := KB.out.all
                              go_upto_region 32 with fail
                              clear t0 t1 u0 u1
                              have KBx : Hid (Blk (V2.setCell ⟨gb, 6, none⟩ (.slice a3 rs.length c3)) gb 27 #[.string id, .int .i64 o, .slice p1 cs.length q1, .string pr, .int .i64 st, .slice a2 mv.length c2, .slice a3 rs.length c3, .slice p4 ls.length q4]) := Lib.hid (by simpa using KB.out.set_ 6 (.slice a3 rs.length c3))
                              have KMx := Lib.hid (KM.out.far (p := ⟨gb, 6, none⟩) (show w.heap.size ≠ gb by have := HGB.out; have := HGN.out; omega) (.slice a3 rs.length c3))
                              have KPx := Lib.hid (KP.out.far (p := ⟨gb, 6, none⟩) (show w.heap.size + 1 ≠ gb by have := HGB.out; have := HGN.out; omega) (.slice a3 rs.length c3))
                              have KDx := Lib.hid (KD.out.far (p := ⟨gb, 6, none⟩) (show w.heap.size + 1 + 1 ≠ gb by have := HGB.out; have := HGN.out; omega) (.slice a3 rs.length c3))
                              have KNx := Lib.hid (KN.out.far (p := ⟨gb, 6, none⟩) (show gn ≠ gb by have := HGB.out; have := HGN.out; omega) (.slice a3 rs.length c3))
                              have HBx := Lib.hid (HB.out.setCell (p := ⟨gb, 6, none⟩) (show w.heap.size ≤ gb by have := HGB.out; have := HGN.out; omega) (.slice a3 rs.length c3))
                              have HGGx := Lib.hid (HGG.out.setCell (p := ⟨gb, 6, none⟩) (Nat.le_refl gb) (.slice a3 rs.length c3))
                              clear KB KM KP KD KN HB HGG
                              have KB := KBx
                              have KM := KMx
                              have KP := KPx
                              have KD := KDx
                              have KN := KNx
                              have HB := HBx
                              have HGG := HGGx
                              clear KBx KMx KPx KDx KNx HBx HGGx
                              generalize V2.setCell ⟨gb, 6, none⟩ (.slice a3 rs.length c3) = V3 at *
                              have hwg : w.heap.size ≤ gb := by have := HGB.out; have := HGN.out; omega
                              have hc0 := valid_any V3 gb ⟨id, o, cs, pr, zs, zm, zr, ls⟩ ⟨p1, q1, p2, q2, p3, q3, p4, q4, v9⟩ (HZ.out.below HGG.out) (Nat.le_of_lt KB.out.lt) (vld_sml HVZ.out) ⟨pn, ss, ms⟩ ⟨b1, e1, b2, e2⟩ ((HP.out.below HB.out).wide hwg) HSP.out dm b3 e3 ((HD.out.below HB.out).wide hwg) (Nat.le_trans HSD.out (by decide))
                              rw [HVZ.out] at hc0
                              replace hc0 : Calls Tryz.prog 25 #[.agg #[.string id, .int .i64 o, .slice p1 cs.length q1, .string pr, .int .i64 zs, .slice p2 zm.length q2, .slice p3 zr.length q3, .slice p4 ls.length q4], .agg #[.string pn, .slice b1 ss.length e1, .slice b2 ms.length e2], .agg #[.slice b3 dm.length e3]] V3 _ := hc0
                              have HC := Lib.hid hc0
                              clear hc0
                              obtain ⟨t0, t1, -⟩ := KN.out.all
                              obtain ⟨s0, s1, -⟩ := KP.out.all
                              obtain ⟨u0, u1, -⟩ := KD.out.all
                              go_wp2_with fail
                              refine HC.out.mono ?_
                              rintro e V4 ⟨rfl, bz⟩
                              clear HC t0 t1 s0 s1 u0 u1
                              have HGGx := Lib.hid (HGG.out.trans (bz.mono (Nat.le_of_lt KB.out.lt)))
                              clear HGG
                              have HGG := HGGx
                              clear HGGx
                              have KMx := Lib.hid (KM.out.below bz KM.out.lt)
                              clear KM
                              have KM := KMx
                              clear KMx
                              have KPx := Lib.hid (KP.out.below bz KP.out.lt)
                              clear KP
                              have KP := KPx
                              clear KPx
                              have KDx := Lib.hid (KD.out.below bz KD.out.lt)
                              clear KD
                              have KD := KDx
                              clear KDx
                              have KNx := Lib.hid (KN.out.below bz KN.out.lt)
                              clear KN
                              have KN := KNx
                              clear KNx
                              have KBx := Lib.hid (KB.out.below bz KB.out.lt)
                              clear KB
                              have KB := KBx
                              clear KBx
                              have HBx := Lib.hid (HB.out.trans (bz.mono HB.out.size))
                              clear HB
                              have HB := HBx
                              clear HBx
                              clear bz
                              have hbare : MtAt V4 gb ⟨id, o, cs, pr, st, mv, rs, ls⟩ ⟨p1, q1, a2, c2, a3, c3, p4, q4, v9⟩ := by
                                have hz := HZ.out.below HGG.out
                                have ha := HA.out.below HGG.out
                                exact ⟨hz.cs, ha.mv, ha.rs, hz.ls, hz.lv, ha.id, ha.pr, ha.rn⟩
                              have hc0 := rsame_any V4 gb ⟨id, o, cs, pr, st, mv, rs, ls⟩ ⟨id, o, cs, pr, st, mv, rs, ls⟩ ⟨p1, q1, a2, c2, a3, c3, p4, q4, v9⟩ ⟨a1, c1, a2, c2, a3, c3, a4, c4, lv⟩ hbare (HA.out.below HGG.out) (Nat.le_of_lt KB.out.lt) (vld_sml HV.out) (vld_sml HV.out) true (by simp)
                              replace hc0 : Calls Tryz.prog 15 #[.agg #[.string id, .int .i64 o, .slice p1 cs.length q1, .string pr, .int .i64 st, .slice a2 mv.length c2, .slice a3 rs.length c3, .slice p4 ls.length q4], .agg #[.string id, .int .i64 o, .slice a1 cs.length c1, .string pr, .int .i64 st, .slice a2 mv.length c2, .slice a3 rs.length c3, .slice a4 ls.length c4]] V4 _ := hc0
                              have HC := Lib.hid hc0
                              clear hc0 hbare
                              obtain ⟨t0, t1, -⟩ := KM.out.all
                              obtain ⟨s0, s1, -⟩ := KB.out.all
                              go_wp2_with fail
                              refine HC.out.mono ?_
                              rintro e V5 ⟨rfl, bz⟩
                              clear HC t0 t1 s0 s1
                              have HGGx := Lib.hid (HGG.out.trans (bz.mono (Nat.le_of_lt KB.out.lt)))
                              clear HGG
                              have HGG := HGGx
                              clear HGGx
                              have KMx := Lib.hid (KM.out.below bz KM.out.lt)
                              clear KM
                              have KM := KMx
                              clear KMx
                              have KPx := Lib.hid (KP.out.below bz KP.out.lt)
                              clear KP
                              have KP := KPx
                              clear KPx
                              have KDx := Lib.hid (KD.out.below bz KD.out.lt)
                              clear KD
                              have KD := KDx
                              clear KDx
                              have KNx := Lib.hid (KN.out.below bz KN.out.lt)
                              clear KN
                              have KN := KNx
                              clear KNx
                              have KBx := Lib.hid (KB.out.below bz KB.out.lt)
                              clear KB
                              have KB := KBx
                              clear KBx
                              have HBx := Lib.hid (HB.out.trans (bz.mono HB.out.size))
                              clear HB
                              have HB := HBx
                              clear HBx
                              clear bz
                              have KMx : Hid (Blk (V5.setRow w.heap.size #[.string id, .int .i64 o, .slice p1 cs.length q1, .string pr, .int .i64 zs, .slice p2 zm.length q2, .slice p3 zr.length q3, .slice p4 ls.length q4]) w.heap.size 27 #[.string id, .int .i64 o, .slice p1 cs.length q1, .string pr, .int .i64 zs, .slice p2 zm.length q2, .slice p3 zr.length q3, .slice p4 ls.length q4]) := Lib.hid (setRow_heap V5 w.heap.size #[.string id, .int .i64 o, .slice a1 cs.length c1, .string pr, .int .i64 st, .slice a2 mv.length c2, .slice a3 rs.length c3, .slice a4 ls.length c4] #[.string id, .int .i64 o, .slice p1 cs.length q1, .string pr, .int .i64 zs, .slice p2 zm.length q2, .slice p3 zr.length q3, .slice p4 ls.length q4] _ _ KM.out)
                              have KPx := Lib.hid ((only_setRow V5 w.heap.size #[.string id, .int .i64 o, .slice p1 cs.length q1, .string pr, .int .i64 zs, .slice p2 zm.length q2, .slice p3 zr.length q3, .slice p4 ls.length q4]).blk KP.out (show w.heap.size + 1 ≠ w.heap.size by omega))
                              have KDx := Lib.hid ((only_setRow V5 w.heap.size #[.string id, .int .i64 o, .slice p1 cs.length q1, .string pr, .int .i64 zs, .slice p2 zm.length q2, .slice p3 zr.length q3, .slice p4 ls.length q4]).blk KD.out (show w.heap.size + 1 + 1 ≠ w.heap.size by omega))
                              have HBx := Lib.hid (below_row HB.out (Nat.le_refl w.heap.size) #[.string id, .int .i64 o, .slice p1 cs.length q1, .string pr, .int .i64 zs, .slice p2 zm.length q2, .slice p3 zr.length q3, .slice p4 ls.length q4])
                              have HAx : Hid (MtAt (V5.setRow w.heap.size #[.string id, .int .i64 o, .slice p1 cs.length q1, .string pr, .int .i64 zs, .slice p2 zm.length q2, .slice p3 zr.length q3, .slice p4 ls.length q4]) (V5.setRow w.heap.size #[.string id, .int .i64 o, .slice p1 cs.length q1, .string pr, .int .i64 zs, .slice p2 zm.length q2, .slice p3 zr.length q3, .slice p4 ls.length q4]).heap.size ⟨id, o, cs, pr, zs, zm, zr, ls⟩ ⟨p1, q1, p2, q2, p3, q3, p4, q4, v9⟩) := Lib.hid (by rw [size_setRow]; exact ((HZ.out.below HGG.out).wide (Nat.le_of_lt KB.out.lt)).off (only_setRow V5 w.heap.size #[.string id, .int .i64 o, .slice p1 cs.length q1, .string pr, .int .i64 zs, .slice p2 zm.length q2, .slice p3 zr.length q3, .slice p4 ls.length q4]) HOZ.out)
                              obtain ⟨t0, t1, -⟩ := KN.out.all
                              go_upto_region 7 with (refine wp_row rfl (.tmp 6) (.tmp 191) rfl w.heap.size #[.string id, .int .i64 o, .slice p1 cs.length q1, .string pr, .int .i64 zs, .slice p2 zm.length q2, .slice p3 zr.length q3, .slice p4 ls.length q4] rfl rfl rfl one8 rfl KM.out ?_)
                              clear t0 t1 HGG KB KM KP KD KN HB HA HZ
                              generalize V5.setRow w.heap.size #[.string id, .int .i64 o, .slice p1 cs.length q1, .string pr, .int .i64 zs, .slice p2 zm.length q2, .slice p3 zr.length q3, .slice p4 ls.length q4] = V6 at *
                              go_wp2
                              go_roundg (gk0 - 1)
                              case rel => exact ⟨k + 1, day, id, pr, o, zs, cs, zm, zr, ls, p1, q1, p2, q2, p3, q3, p4, q4, v9, by omega, rfl, by go_num, HBx, KMx, KPx, KDx, HAx, HOZ, HVZ⟩
                              case measure => omega
end Go.Proofs.YtgfahifdmacmhaaGreatDoor
