/- The reference's Same, of two matters. The reference's Same, of two migrations. MigrateNothing. -/
import Derived.Test.YtknchlpcpgflkaaGreatDoorLQA
import Derived.Test.YtknchlpcpgflkaaGreatDoorLPlan
import Derived.Deep.LoopGhost
import Derived.Test.YtknchlpcpgflkaaGreatDoorLGBM
import Derived.ChangeKeysEq
import Derived.Test.YtknchlpcpgflkaaGreatDoorLNd
import Derived.Test.YtknchlpcpgflkaaGreatDoorLGBT
import Derived.Test.YtknchlpcpgflkaaGreatDoorLWv
import Derived.Test.YtknchlpcpgflkaaGreatDoorLGBW
namespace Go.Proofs.YtknchlpcpgflkaaGreatDoor
open Go.RowKit Go.Shelf

set_option maxHeartbeats 8000000 in
set_option maxRecDepth 100000 in
theorem rsame_any (w : World) (B : Nat) (m n : Mt) (x y : MtX) (hm : MtAt w B m x) (hn : MtAt w B n y) (hB : B ≤ w.heap.size) (hs : Sml m) (hs2 : Sml n) (q : Bool) (hq : q = true ↔ m = n) :
    Calls Tryz.prog 27 #[.agg (mtC m x), .agg (mtC n y)] w fun e w' => e = .returned (.bool q) ∧ Below w.heap.size w w' := by
  have HM := Lib.hid hm
  have HN := Lib.hid hn
  have HS := Lib.hid hs
  have HS2 := Lib.hid hs2
  obtain ⟨id, o, cs, pr, st, mv, rs, ls⟩ := m
  obtain ⟨id2, o2, cs2, pr2, st2, mv2, rs2, ls2⟩ := n
  obtain ⟨a1, c1, a2, c2, a3, c3, a4, c4, lv⟩ := x
  obtain ⟨b1, e1, b2, e2, b3, e3, b4, e4, lv2⟩ := y
  have hno : ¬ ((⟨id, o, cs, pr, st, mv, rs, ls⟩ : Mt) = ⟨id2, o2, cs2, pr2, st2, mv2, rs2, ls2⟩) → q = false := fun h => by cases q with | false => rfl | true => exact absurd (hq.1 rfl) h
  have HNO := Lib.hid hno
  have HQ := Lib.hid hq
  have hll := hm.len
  have hll2 := hn.len
  simp only at hll hll2
  obtain ⟨nc, h1⟩ : ∃ k, cs.length = k := ⟨_, rfl⟩
  obtain ⟨nm, h2⟩ : ∃ k, mv.length = k := ⟨_, rfl⟩
  obtain ⟨nr, h3⟩ : ∃ k, rs.length = k := ⟨_, rfl⟩
  obtain ⟨nl, h4⟩ : ∃ k, ls.length = k := ⟨_, rfl⟩
  obtain ⟨nc2, g1⟩ : ∃ k, cs2.length = k := ⟨_, rfl⟩
  obtain ⟨nm2, g2⟩ : ∃ k, mv2.length = k := ⟨_, rfl⟩
  obtain ⟨nr2, g3⟩ : ∃ k, rs2.length = k := ⟨_, rfl⟩
  obtain ⟨nl2, g4⟩ : ∃ k, ls2.length = k := ⟨_, rfl⟩
  obtain ⟨z1, z2, z3, z4⟩ := hs
  obtain ⟨y1, y2, y3, y4⟩ := hs2
  simp only at z1 z2 z3 z4 y1 y2 y3 y4
  rw [h1] at z1
  rw [h2] at z2
  rw [h3] at z3
  rw [h4] at z4
  rw [g1] at y1
  rw [g2] at y2
  rw [g3] at y3
  rw [g4] at y4
  have hgo : Calls Tryz.prog 27 #[.agg #[.string id, .int .i64 o, .slice a1 nc c1, .string pr, .int .i64 st, .slice a2 nm c2, .slice a3 nr c3, .slice a4 nl c4], .agg #[.string id2, .int .i64 o2, .slice b1 nc2 e1, .string pr2, .int .i64 st2, .slice b2 nm2 e2, .slice b3 nr2 e3, .slice b4 nl2 e4]] w fun e w' => e = .returned (.bool q) ∧ Below w.heap.size w w' := by
    have HV1 := Lib.hid h1
    have HV2 := Lib.hid h2
    have HV3 := Lib.hid h3
    have HV4 := Lib.hid h4
    have HU1 := Lib.hid g1
    have HU2 := Lib.hid g2
    have HU3 := Lib.hid g3
    have HU4 := Lib.hid g4
    have HLL := Lib.hid (hll.trans h4)
    have HLL2 := Lib.hid (hll2.trans g4)
    have HBB := Lib.hid hB
    clear hm hn hq hno h1 h2 h3 h4 g1 g2 g3 g4 hll hll2 HS HS2 hB
    by_cases q1 : id = id2
    case neg =>
      obtain rfl : false = q := (HNO.out fun e => q1 (by injection e)).symm
      have d : (id.toList == id2.toList) = false := by
        rw [beq_eq_false_iff_ne]
        intro e
        rw [Lib.toList_data, Lib.toList_data] at e
        exact q1 (ByteArray.ext (Array.toList_inj.1 e))
      clear HM HN HQ HNO
      have hb := (below_self_alloc w (.cells #[.string id, .int .i64 o, .slice a1 nc c1, .string pr, .int .i64 st, .slice a2 nm c2, .slice a3 nr c3, .slice a4 nl c4] 27)).alloc (by simp) (.cells #[.string id2, .int .i64 o2, .slice b1 nc2 e1, .string pr2, .int .i64 st2, .slice b2 nm2 e2, .slice b3 nr2 e3, .slice b4 nl2 e4] 27)
      have k0 := (Blk.new w 27 #[.string id, .int .i64 o, .slice a1 nc c1, .string pr, .int .i64 st, .slice a2 nm c2, .slice a3 nr c3, .slice a4 nl c4]).alloc (.cells #[.string id2, .int .i64 o2, .slice b1 nc2 e1, .string pr2, .int .i64 st2, .slice b2 nm2 e2, .slice b3 nr2 e3, .slice b4 nl2 e4] 27)
      have k1 := Blk.new1 w (.cells #[.string id, .int .i64 o, .slice a1 nc c1, .string pr, .int .i64 st, .slice a2 nm c2, .slice a3 nr c3, .slice a4 nl c4] 27) 27 #[.string id2, .int .i64 o2, .slice b1 nc2 e1, .string pr2, .int .i64 st2, .slice b2 nm2 e2, .slice b3 nr2 e3, .slice b4 nl2 e4]
      obtain ⟨t0, t1, -⟩ := k0.all
      obtain ⟨s0, s1, -⟩ := k1.all
      go_enter Tryz.func27, Tryz.ntmps27
      go_wp2
      go_ret
      exact ⟨rfl, hb⟩
    case pos =>
      subst q1
      by_cases q2 : o = o2
      case neg =>
        obtain rfl : false = q := (HNO.out fun e => q2 (by injection e)).symm
        have d : (o == o2) = false := by simp [q2]
        clear HM HN HQ HNO
        have hb := (below_self_alloc w (.cells #[.string id, .int .i64 o, .slice a1 nc c1, .string pr, .int .i64 st, .slice a2 nm c2, .slice a3 nr c3, .slice a4 nl c4] 27)).alloc (by simp) (.cells #[.string id, .int .i64 o2, .slice b1 nc2 e1, .string pr2, .int .i64 st2, .slice b2 nm2 e2, .slice b3 nr2 e3, .slice b4 nl2 e4] 27)
        have k0 := (Blk.new w 27 #[.string id, .int .i64 o, .slice a1 nc c1, .string pr, .int .i64 st, .slice a2 nm c2, .slice a3 nr c3, .slice a4 nl c4]).alloc (.cells #[.string id, .int .i64 o2, .slice b1 nc2 e1, .string pr2, .int .i64 st2, .slice b2 nm2 e2, .slice b3 nr2 e3, .slice b4 nl2 e4] 27)
        have k1 := Blk.new1 w (.cells #[.string id, .int .i64 o, .slice a1 nc c1, .string pr, .int .i64 st, .slice a2 nm c2, .slice a3 nr c3, .slice a4 nl c4] 27) 27 #[.string id, .int .i64 o2, .slice b1 nc2 e1, .string pr2, .int .i64 st2, .slice b2 nm2 e2, .slice b3 nr2 e3, .slice b4 nl2 e4]
        obtain ⟨t0, t1, -⟩ := k0.all
        obtain ⟨s0, s1, -⟩ := k1.all
        go_enter Tryz.func27, Tryz.ntmps27
        go_wp2
        go_ret
        exact ⟨rfl, hb⟩
      case pos =>
        subst q2
        by_cases q3 : pr = pr2
        case neg =>
          obtain rfl : false = q := (HNO.out fun e => q3 (by injection e)).symm
          have d : (pr.toList == pr2.toList) = false := by
            rw [beq_eq_false_iff_ne]
            intro e
            rw [Lib.toList_data, Lib.toList_data] at e
            exact q3 (ByteArray.ext (Array.toList_inj.1 e))
          clear HM HN HQ HNO
          have hb := (below_self_alloc w (.cells #[.string id, .int .i64 o, .slice a1 nc c1, .string pr, .int .i64 st, .slice a2 nm c2, .slice a3 nr c3, .slice a4 nl c4] 27)).alloc (by simp) (.cells #[.string id, .int .i64 o, .slice b1 nc2 e1, .string pr2, .int .i64 st2, .slice b2 nm2 e2, .slice b3 nr2 e3, .slice b4 nl2 e4] 27)
          have k0 := (Blk.new w 27 #[.string id, .int .i64 o, .slice a1 nc c1, .string pr, .int .i64 st, .slice a2 nm c2, .slice a3 nr c3, .slice a4 nl c4]).alloc (.cells #[.string id, .int .i64 o, .slice b1 nc2 e1, .string pr2, .int .i64 st2, .slice b2 nm2 e2, .slice b3 nr2 e3, .slice b4 nl2 e4] 27)
          have k1 := Blk.new1 w (.cells #[.string id, .int .i64 o, .slice a1 nc c1, .string pr, .int .i64 st, .slice a2 nm c2, .slice a3 nr c3, .slice a4 nl c4] 27) 27 #[.string id, .int .i64 o, .slice b1 nc2 e1, .string pr2, .int .i64 st2, .slice b2 nm2 e2, .slice b3 nr2 e3, .slice b4 nl2 e4]
          obtain ⟨t0, t1, -⟩ := k0.all
          obtain ⟨s0, s1, -⟩ := k1.all
          go_enter Tryz.func27, Tryz.ntmps27
          go_wp2
          go_ret
          exact ⟨rfl, hb⟩
        case pos =>
          subst q3
          by_cases q4 : st = st2
          case neg =>
            obtain rfl : false = q := (HNO.out fun e => q4 (by injection e)).symm
            have d : (st == st2) = false := by simp [q4]
            clear HM HN HQ HNO
            have hb := (below_self_alloc w (.cells #[.string id, .int .i64 o, .slice a1 nc c1, .string pr, .int .i64 st, .slice a2 nm c2, .slice a3 nr c3, .slice a4 nl c4] 27)).alloc (by simp) (.cells #[.string id, .int .i64 o, .slice b1 nc2 e1, .string pr, .int .i64 st2, .slice b2 nm2 e2, .slice b3 nr2 e3, .slice b4 nl2 e4] 27)
            have k0 := (Blk.new w 27 #[.string id, .int .i64 o, .slice a1 nc c1, .string pr, .int .i64 st, .slice a2 nm c2, .slice a3 nr c3, .slice a4 nl c4]).alloc (.cells #[.string id, .int .i64 o, .slice b1 nc2 e1, .string pr, .int .i64 st2, .slice b2 nm2 e2, .slice b3 nr2 e3, .slice b4 nl2 e4] 27)
            have k1 := Blk.new1 w (.cells #[.string id, .int .i64 o, .slice a1 nc c1, .string pr, .int .i64 st, .slice a2 nm c2, .slice a3 nr c3, .slice a4 nl c4] 27) 27 #[.string id, .int .i64 o, .slice b1 nc2 e1, .string pr, .int .i64 st2, .slice b2 nm2 e2, .slice b3 nr2 e3, .slice b4 nl2 e4]
            obtain ⟨t0, t1, -⟩ := k0.all
            obtain ⟨s0, s1, -⟩ := k1.all
            go_enter Tryz.func27, Tryz.ntmps27
            go_wp2
            go_ret
            exact ⟨rfl, hb⟩
          case pos =>
            subst q4
            by_cases q5 : cs = cs2
            case neg =>
              obtain rfl : false = q := (HNO.out fun e => q5 (by injection e)).symm
              have hb := (below_self_alloc w (.cells #[.string id, .int .i64 o, .slice a1 nc c1, .string pr, .int .i64 st, .slice a2 nm c2, .slice a3 nr c3, .slice a4 nl c4] 27)).alloc (by simp) (.cells #[.string id, .int .i64 o, .slice b1 nc2 e1, .string pr, .int .i64 st, .slice b2 nm2 e2, .slice b3 nr2 e3, .slice b4 nl2 e4] 27)
              have k0 := (Blk.new w 27 #[.string id, .int .i64 o, .slice a1 nc c1, .string pr, .int .i64 st, .slice a2 nm c2, .slice a3 nr c3, .slice a4 nl c4]).alloc (.cells #[.string id, .int .i64 o, .slice b1 nc2 e1, .string pr, .int .i64 st, .slice b2 nm2 e2, .slice b3 nr2 e3, .slice b4 nl2 e4] 27)
              have k1 := Blk.new1 w (.cells #[.string id, .int .i64 o, .slice a1 nc c1, .string pr, .int .i64 st, .slice a2 nm c2, .slice a3 nr c3, .slice a4 nl c4] 27) 27 #[.string id, .int .i64 o, .slice b1 nc2 e1, .string pr, .int .i64 st, .slice b2 nm2 e2, .slice b3 nr2 e3, .slice b4 nl2 e4]
              obtain ⟨t0, t1, -⟩ := k0.all
              obtain ⟨s0, s1, -⟩ := k1.all
              have r1 := fun (Q : Bool) (hQ : Q = true ↔ cs = cs2) W (hW : Below w.heap.size w W) => rints_any W W.heap.size a1 b1 cs cs2 c1 e1 ((HM.out.cs.below (hW.mono HBB.out)).wide (Nat.le_trans HBB.out hW.size)) ((HN.out.cs.below (hW.mono HBB.out)).wide (Nat.le_trans HBB.out hW.size)) (by rw [HV1.out]; omega) (by rw [HU1.out]; omega) Q hQ
              have r2 := fun (Q : Bool) (hQ : Q = true ↔ mv = mv2) W (hW : Below w.heap.size w W) => rints_any W W.heap.size a2 b2 mv mv2 c2 e2 ((HM.out.mv.below (hW.mono HBB.out)).wide (Nat.le_trans HBB.out hW.size)) ((HN.out.mv.below (hW.mono HBB.out)).wide (Nat.le_trans HBB.out hW.size)) (by rw [HV2.out]; omega) (by rw [HU2.out]; omega) Q hQ
              rw [HV1.out, HU1.out] at r1
              rw [HV2.out, HU2.out] at r2
              have R1 := Lib.hid r1
              have R2 := Lib.hid r2
              clear r1 r2
              go_enter Tryz.func27, Tryz.ntmps27
              go_upto_region 1 with fail
              generalize (w.alloc (.cells #[.string id, .int .i64 o, .slice a1 nc c1, .string pr, .int .i64 st, .slice a2 nm c2, .slice a3 nr c3, .slice a4 nl c4] 27)).alloc (.cells #[.string id, .int .i64 o, .slice b1 nc2 e1, .string pr, .int .i64 st, .slice b2 nm2 e2, .slice b3 nr2 e3, .slice b4 nl2 e4] 27) = W0 at *
              have HB0 := Lib.hid hb
              have hc := R1.out false (by simp [q5]) W0 hb
              have HC := Lib.hid hc
              clear hc
              go_wp2_with fail
              refine HC.out.mono ?_
              rintro e W1 ⟨rfl, x1⟩
              have hb1 := HB0.out.trans (x1.mono HB0.out.size)
              have m0 := k0.below x1 k0.lt
              have m1 := k1.below x1 k1.lt
              clear x1 t0 t1 s0 s1 k0 k1 HC HB0 hb
              obtain ⟨t0, t1, -⟩ := m0.all
              obtain ⟨s0, s1, -⟩ := m1.all
              go_wp2
              go_ret
              exact ⟨rfl, hb1⟩
            case pos =>
              by_cases q6 : mv = mv2
              case neg =>
                obtain rfl : false = q := (HNO.out fun e => q6 (by injection e)).symm
                have hb := (below_self_alloc w (.cells #[.string id, .int .i64 o, .slice a1 nc c1, .string pr, .int .i64 st, .slice a2 nm c2, .slice a3 nr c3, .slice a4 nl c4] 27)).alloc (by simp) (.cells #[.string id, .int .i64 o, .slice b1 nc2 e1, .string pr, .int .i64 st, .slice b2 nm2 e2, .slice b3 nr2 e3, .slice b4 nl2 e4] 27)
                have k0 := (Blk.new w 27 #[.string id, .int .i64 o, .slice a1 nc c1, .string pr, .int .i64 st, .slice a2 nm c2, .slice a3 nr c3, .slice a4 nl c4]).alloc (.cells #[.string id, .int .i64 o, .slice b1 nc2 e1, .string pr, .int .i64 st, .slice b2 nm2 e2, .slice b3 nr2 e3, .slice b4 nl2 e4] 27)
                have k1 := Blk.new1 w (.cells #[.string id, .int .i64 o, .slice a1 nc c1, .string pr, .int .i64 st, .slice a2 nm c2, .slice a3 nr c3, .slice a4 nl c4] 27) 27 #[.string id, .int .i64 o, .slice b1 nc2 e1, .string pr, .int .i64 st, .slice b2 nm2 e2, .slice b3 nr2 e3, .slice b4 nl2 e4]
                obtain ⟨t0, t1, -⟩ := k0.all
                obtain ⟨s0, s1, -⟩ := k1.all
                have r1 := fun (Q : Bool) (hQ : Q = true ↔ cs = cs2) W (hW : Below w.heap.size w W) => rints_any W W.heap.size a1 b1 cs cs2 c1 e1 ((HM.out.cs.below (hW.mono HBB.out)).wide (Nat.le_trans HBB.out hW.size)) ((HN.out.cs.below (hW.mono HBB.out)).wide (Nat.le_trans HBB.out hW.size)) (by rw [HV1.out]; omega) (by rw [HU1.out]; omega) Q hQ
                have r2 := fun (Q : Bool) (hQ : Q = true ↔ mv = mv2) W (hW : Below w.heap.size w W) => rints_any W W.heap.size a2 b2 mv mv2 c2 e2 ((HM.out.mv.below (hW.mono HBB.out)).wide (Nat.le_trans HBB.out hW.size)) ((HN.out.mv.below (hW.mono HBB.out)).wide (Nat.le_trans HBB.out hW.size)) (by rw [HV2.out]; omega) (by rw [HU2.out]; omega) Q hQ
                rw [HV1.out, HU1.out] at r1
                rw [HV2.out, HU2.out] at r2
                have R1 := Lib.hid r1
                have R2 := Lib.hid r2
                clear r1 r2
                go_enter Tryz.func27, Tryz.ntmps27
                go_upto_region 1 with fail
                generalize (w.alloc (.cells #[.string id, .int .i64 o, .slice a1 nc c1, .string pr, .int .i64 st, .slice a2 nm c2, .slice a3 nr c3, .slice a4 nl c4] 27)).alloc (.cells #[.string id, .int .i64 o, .slice b1 nc2 e1, .string pr, .int .i64 st, .slice b2 nm2 e2, .slice b3 nr2 e3, .slice b4 nl2 e4] 27) = W0 at *
                have HB0 := Lib.hid hb
                have hc := R1.out true (by simp [q5]) W0 hb
                have HC := Lib.hid hc
                clear hc
                go_wp2_with fail
                refine HC.out.mono ?_
                rintro e W1 ⟨rfl, x1⟩
                have hb1 := HB0.out.trans (x1.mono HB0.out.size)
                have m0 := k0.below x1 k0.lt
                have m1 := k1.below x1 k1.lt
                clear x1 t0 t1 s0 s1 k0 k1 HC HB0 hb
                obtain ⟨t0, t1, -⟩ := m0.all
                obtain ⟨s0, s1, -⟩ := m1.all
                have hc := R2.out false (by simp [q6]) W1 hb1
                have HC := Lib.hid hc
                clear hc
                go_wp2_with fail
                refine HC.out.mono ?_
                rintro e W2 ⟨rfl, x1⟩
                have hb2 := hb1.trans (x1.mono hb1.size)
                have n0 := m0.below x1 m0.lt
                have n1 := m1.below x1 m1.lt
                clear x1 t0 t1 s0 s1 m0 m1 HC hb1
                obtain ⟨t0, t1, -⟩ := n0.all
                obtain ⟨s0, s1, -⟩ := n1.all
                go_wp2
                go_ret
                exact ⟨rfl, hb2⟩
              case pos =>
                by_cases q7 : nr = nr2
                case neg =>
                  obtain rfl : false = q := (HNO.out fun e => q7 (by have e2 : rs = rs2 := (by injection e); rw [← HV3.out, ← HU3.out, e2])).symm
                  have dn : ((nr : Int) == (nr2 : Int)) = false := by simp; omega
                  have dn2 : ¬ (nr : Int) = (nr2 : Int) := by omega
                  have hb := (below_self_alloc w (.cells #[.string id, .int .i64 o, .slice a1 nc c1, .string pr, .int .i64 st, .slice a2 nm c2, .slice a3 nr c3, .slice a4 nl c4] 27)).alloc (by simp) (.cells #[.string id, .int .i64 o, .slice b1 nc2 e1, .string pr, .int .i64 st, .slice b2 nm2 e2, .slice b3 nr2 e3, .slice b4 nl2 e4] 27)
                  have k0 := (Blk.new w 27 #[.string id, .int .i64 o, .slice a1 nc c1, .string pr, .int .i64 st, .slice a2 nm c2, .slice a3 nr c3, .slice a4 nl c4]).alloc (.cells #[.string id, .int .i64 o, .slice b1 nc2 e1, .string pr, .int .i64 st, .slice b2 nm2 e2, .slice b3 nr2 e3, .slice b4 nl2 e4] 27)
                  have k1 := Blk.new1 w (.cells #[.string id, .int .i64 o, .slice a1 nc c1, .string pr, .int .i64 st, .slice a2 nm c2, .slice a3 nr c3, .slice a4 nl c4] 27) 27 #[.string id, .int .i64 o, .slice b1 nc2 e1, .string pr, .int .i64 st, .slice b2 nm2 e2, .slice b3 nr2 e3, .slice b4 nl2 e4]
                  obtain ⟨t0, t1, -⟩ := k0.all
                  obtain ⟨s0, s1, -⟩ := k1.all
                  have r1 := fun (Q : Bool) (hQ : Q = true ↔ cs = cs2) W (hW : Below w.heap.size w W) => rints_any W W.heap.size a1 b1 cs cs2 c1 e1 ((HM.out.cs.below (hW.mono HBB.out)).wide (Nat.le_trans HBB.out hW.size)) ((HN.out.cs.below (hW.mono HBB.out)).wide (Nat.le_trans HBB.out hW.size)) (by rw [HV1.out]; omega) (by rw [HU1.out]; omega) Q hQ
                  have r2 := fun (Q : Bool) (hQ : Q = true ↔ mv = mv2) W (hW : Below w.heap.size w W) => rints_any W W.heap.size a2 b2 mv mv2 c2 e2 ((HM.out.mv.below (hW.mono HBB.out)).wide (Nat.le_trans HBB.out hW.size)) ((HN.out.mv.below (hW.mono HBB.out)).wide (Nat.le_trans HBB.out hW.size)) (by rw [HV2.out]; omega) (by rw [HU2.out]; omega) Q hQ
                  rw [HV1.out, HU1.out] at r1
                  rw [HV2.out, HU2.out] at r2
                  have R1 := Lib.hid r1
                  have R2 := Lib.hid r2
                  clear r1 r2
                  go_enter Tryz.func27, Tryz.ntmps27
                  go_upto_region 1 with fail
                  generalize (w.alloc (.cells #[.string id, .int .i64 o, .slice a1 nc c1, .string pr, .int .i64 st, .slice a2 nm c2, .slice a3 nr c3, .slice a4 nl c4] 27)).alloc (.cells #[.string id, .int .i64 o, .slice b1 nc2 e1, .string pr, .int .i64 st, .slice b2 nm2 e2, .slice b3 nr2 e3, .slice b4 nl2 e4] 27) = W0 at *
                  have HB0 := Lib.hid hb
                  have hc := R1.out true (by simp [q5]) W0 hb
                  have HC := Lib.hid hc
                  clear hc
                  go_wp2_with fail
                  refine HC.out.mono ?_
                  rintro e W1 ⟨rfl, x1⟩
                  have hb1 := HB0.out.trans (x1.mono HB0.out.size)
                  have m0 := k0.below x1 k0.lt
                  have m1 := k1.below x1 k1.lt
                  clear x1 t0 t1 s0 s1 k0 k1 HC HB0 hb
                  obtain ⟨t0, t1, -⟩ := m0.all
                  obtain ⟨s0, s1, -⟩ := m1.all
                  have hc := R2.out true (by simp [q6]) W1 hb1
                  have HC := Lib.hid hc
                  clear hc
                  go_wp2_with fail
                  refine HC.out.mono ?_
                  rintro e W2 ⟨rfl, x1⟩
                  have hb2 := hb1.trans (x1.mono hb1.size)
                  have n0 := m0.below x1 m0.lt
                  have n1 := m1.below x1 m1.lt
                  clear x1 t0 t1 s0 s1 m0 m1 HC hb1
                  obtain ⟨t0, t1, -⟩ := n0.all
                  obtain ⟨s0, s1, -⟩ := n1.all
                  go_wp2
                  go_ret
                  exact ⟨rfl, hb2⟩
                case pos =>
                  subst q7
                  by_cases q8 : nl = nl2
                  case neg =>
                    obtain rfl : false = q := (HNO.out fun e => q8 (by have e2 : ls = ls2 := (by injection e); rw [← HV4.out, ← HU4.out, e2])).symm
                    have dn : ((nl : Int) == (nl2 : Int)) = false := by simp; omega
                    have dn2 : ¬ (nl : Int) = (nl2 : Int) := by omega
                    have hb := (below_self_alloc w (.cells #[.string id, .int .i64 o, .slice a1 nc c1, .string pr, .int .i64 st, .slice a2 nm c2, .slice a3 nr c3, .slice a4 nl c4] 27)).alloc (by simp) (.cells #[.string id, .int .i64 o, .slice b1 nc2 e1, .string pr, .int .i64 st, .slice b2 nm2 e2, .slice b3 nr e3, .slice b4 nl2 e4] 27)
                    have k0 := (Blk.new w 27 #[.string id, .int .i64 o, .slice a1 nc c1, .string pr, .int .i64 st, .slice a2 nm c2, .slice a3 nr c3, .slice a4 nl c4]).alloc (.cells #[.string id, .int .i64 o, .slice b1 nc2 e1, .string pr, .int .i64 st, .slice b2 nm2 e2, .slice b3 nr e3, .slice b4 nl2 e4] 27)
                    have k1 := Blk.new1 w (.cells #[.string id, .int .i64 o, .slice a1 nc c1, .string pr, .int .i64 st, .slice a2 nm c2, .slice a3 nr c3, .slice a4 nl c4] 27) 27 #[.string id, .int .i64 o, .slice b1 nc2 e1, .string pr, .int .i64 st, .slice b2 nm2 e2, .slice b3 nr e3, .slice b4 nl2 e4]
                    obtain ⟨t0, t1, -⟩ := k0.all
                    obtain ⟨s0, s1, -⟩ := k1.all
                    have r1 := fun (Q : Bool) (hQ : Q = true ↔ cs = cs2) W (hW : Below w.heap.size w W) => rints_any W W.heap.size a1 b1 cs cs2 c1 e1 ((HM.out.cs.below (hW.mono HBB.out)).wide (Nat.le_trans HBB.out hW.size)) ((HN.out.cs.below (hW.mono HBB.out)).wide (Nat.le_trans HBB.out hW.size)) (by rw [HV1.out]; omega) (by rw [HU1.out]; omega) Q hQ
                    have r2 := fun (Q : Bool) (hQ : Q = true ↔ mv = mv2) W (hW : Below w.heap.size w W) => rints_any W W.heap.size a2 b2 mv mv2 c2 e2 ((HM.out.mv.below (hW.mono HBB.out)).wide (Nat.le_trans HBB.out hW.size)) ((HN.out.mv.below (hW.mono HBB.out)).wide (Nat.le_trans HBB.out hW.size)) (by rw [HV2.out]; omega) (by rw [HU2.out]; omega) Q hQ
                    rw [HV1.out, HU1.out] at r1
                    rw [HV2.out, HU2.out] at r2
                    have R1 := Lib.hid r1
                    have R2 := Lib.hid r2
                    clear r1 r2
                    go_enter Tryz.func27, Tryz.ntmps27
                    go_upto_region 1 with fail
                    generalize (w.alloc (.cells #[.string id, .int .i64 o, .slice a1 nc c1, .string pr, .int .i64 st, .slice a2 nm c2, .slice a3 nr c3, .slice a4 nl c4] 27)).alloc (.cells #[.string id, .int .i64 o, .slice b1 nc2 e1, .string pr, .int .i64 st, .slice b2 nm2 e2, .slice b3 nr e3, .slice b4 nl2 e4] 27) = W0 at *
                    have HB0 := Lib.hid hb
                    have hc := R1.out true (by simp [q5]) W0 hb
                    have HC := Lib.hid hc
                    clear hc
                    go_wp2_with fail
                    refine HC.out.mono ?_
                    rintro e W1 ⟨rfl, x1⟩
                    have hb1 := HB0.out.trans (x1.mono HB0.out.size)
                    have m0 := k0.below x1 k0.lt
                    have m1 := k1.below x1 k1.lt
                    clear x1 t0 t1 s0 s1 k0 k1 HC HB0 hb
                    obtain ⟨t0, t1, -⟩ := m0.all
                    obtain ⟨s0, s1, -⟩ := m1.all
                    have hc := R2.out true (by simp [q6]) W1 hb1
                    have HC := Lib.hid hc
                    clear hc
                    go_wp2_with fail
                    refine HC.out.mono ?_
                    rintro e W2 ⟨rfl, x1⟩
                    have hb2 := hb1.trans (x1.mono hb1.size)
                    have n0 := m0.below x1 m0.lt
                    have n1 := m1.below x1 m1.lt
                    clear x1 t0 t1 s0 s1 m0 m1 HC hb1
                    obtain ⟨t0, t1, -⟩ := n0.all
                    obtain ⟨s0, s1, -⟩ := n1.all
                    go_wp2
                    go_ret
                    exact ⟨rfl, hb2⟩
                  case pos =>
                    subst q8
                    have hb := (below_self_alloc w (.cells #[.string id, .int .i64 o, .slice a1 nc c1, .string pr, .int .i64 st, .slice a2 nm c2, .slice a3 nr c3, .slice a4 nl c4] 27)).alloc (by simp) (.cells #[.string id, .int .i64 o, .slice b1 nc2 e1, .string pr, .int .i64 st, .slice b2 nm2 e2, .slice b3 nr e3, .slice b4 nl e4] 27)
                    have k0 := (Blk.new w 27 #[.string id, .int .i64 o, .slice a1 nc c1, .string pr, .int .i64 st, .slice a2 nm c2, .slice a3 nr c3, .slice a4 nl c4]).alloc (.cells #[.string id, .int .i64 o, .slice b1 nc2 e1, .string pr, .int .i64 st, .slice b2 nm2 e2, .slice b3 nr e3, .slice b4 nl e4] 27)
                    have k1 := Blk.new1 w (.cells #[.string id, .int .i64 o, .slice a1 nc c1, .string pr, .int .i64 st, .slice a2 nm c2, .slice a3 nr c3, .slice a4 nl c4] 27) 27 #[.string id, .int .i64 o, .slice b1 nc2 e1, .string pr, .int .i64 st, .slice b2 nm2 e2, .slice b3 nr e3, .slice b4 nl e4]
                    obtain ⟨t0, t1, -⟩ := k0.all
                    obtain ⟨s0, s1, -⟩ := k1.all
                    have r1 := fun (Q : Bool) (hQ : Q = true ↔ cs = cs2) W (hW : Below w.heap.size w W) => rints_any W W.heap.size a1 b1 cs cs2 c1 e1 ((HM.out.cs.below (hW.mono HBB.out)).wide (Nat.le_trans HBB.out hW.size)) ((HN.out.cs.below (hW.mono HBB.out)).wide (Nat.le_trans HBB.out hW.size)) (by rw [HV1.out]; omega) (by rw [HU1.out]; omega) Q hQ
                    have r2 := fun (Q : Bool) (hQ : Q = true ↔ mv = mv2) W (hW : Below w.heap.size w W) => rints_any W W.heap.size a2 b2 mv mv2 c2 e2 ((HM.out.mv.below (hW.mono HBB.out)).wide (Nat.le_trans HBB.out hW.size)) ((HN.out.mv.below (hW.mono HBB.out)).wide (Nat.le_trans HBB.out hW.size)) (by rw [HV2.out]; omega) (by rw [HU2.out]; omega) Q hQ
                    rw [HV1.out, HU1.out] at r1
                    rw [HV2.out, HU2.out] at r2
                    have R1 := Lib.hid r1
                    have R2 := Lib.hid r2
                    clear r1 r2
                    go_enter Tryz.func27, Tryz.ntmps27
                    go_upto_region 1 with fail
                    generalize (w.alloc (.cells #[.string id, .int .i64 o, .slice a1 nc c1, .string pr, .int .i64 st, .slice a2 nm c2, .slice a3 nr c3, .slice a4 nl c4] 27)).alloc (.cells #[.string id, .int .i64 o, .slice b1 nc2 e1, .string pr, .int .i64 st, .slice b2 nm2 e2, .slice b3 nr e3, .slice b4 nl e4] 27) = W0 at *
                    have HB0 := Lib.hid hb
                    have hc := R1.out true (by simp [q5]) W0 hb
                    have HC := Lib.hid hc
                    clear hc
                    go_wp2_with fail
                    refine HC.out.mono ?_
                    rintro e W1 ⟨rfl, x1⟩
                    have hb1 := HB0.out.trans (x1.mono HB0.out.size)
                    have m0 := k0.below x1 k0.lt
                    have m1 := k1.below x1 k1.lt
                    clear x1 t0 t1 s0 s1 k0 k1 HC HB0 hb
                    obtain ⟨t0, t1, -⟩ := m0.all
                    obtain ⟨s0, s1, -⟩ := m1.all
                    have hc := R2.out true (by simp [q6]) W1 hb1
                    have HC := Lib.hid hc
                    clear hc
                    go_wp2_with fail
                    refine HC.out.mono ?_
                    rintro e W2 ⟨rfl, x1⟩
                    have hb2 := hb1.trans (x1.mono hb1.size)
                    have n0 := m0.below x1 m0.lt
                    have n1 := m1.below x1 m1.lt
                    clear x1 t0 t1 s0 s1 m0 m1 HC hb1
                    obtain ⟨t0, t1, -⟩ := n0.all
                    obtain ⟨s0, s1, -⟩ := n1.all
                    go_wp2_with fail
                    have hrs : RtsAt W2 W2.heap.size a3 rs := (HM.out.rs.below (hb2.mono HBB.out)).wide (Nat.le_trans HBB.out hb2.size)
                    have hrs2 : RtsAt W2 W2.heap.size b3 rs2 := (HN.out.rs.below (hb2.mono HBB.out)).wide (Nat.le_trans HBB.out hb2.size)
                    have HR := Lib.hid hrs
                    have HR2 := Lib.hid hrs2
                    have N0 := Lib.hid n0
                    have N1 := Lib.hid n1
                    have HB2 := Lib.hid hb2
                    clear t0 t1 s0 s1 n0 n1 hb2 hrs hrs2
                    go_loopw [5] (fun i wr => ∃ k : Nat, k ≤ nr ∧ i = .int .i64 (k : Int) ∧ Hid (rs.take k = rs2.take k) ∧ ∃ j, wr = W2.drewN j) (fun i _ => nr - (intOf i).toNat)
                    case atStart => exact ⟨0, Nat.zero_le _, rfl, Lib.hid rfl, 0, rfl⟩
                    case round =>
                      obtain ⟨k, hk, rfl, HT, j, rfl⟩ := hrel
                      have k0 := N0.out.drewN j
                      have k1 := N1.out.drewN j
                      obtain ⟨t0, t1, -⟩ := k0.all
                      obtain ⟨s0, s1, -⟩ := k1.all
                      by_cases hlt : k < nr
                      · obtain ⟨x, hx⟩ : ∃ x, rs[k]? = some x := ⟨_, List.getElem?_eq_getElem (by rw [HV3.out]; exact hlt)⟩
                        obtain ⟨y, hy⟩ : ∃ y, rs2[k]? = some y := ⟨_, List.getElem?_eq_getElem (by rw [HU3.out]; exact hlt)⟩
                        obtain ⟨ga, oa, hA, hga, p0, p1⟩ := HR.out k x hx
                        obtain ⟨gb, ob, hA', hgb, r0, r1⟩ := HR2.out k y hy
                        subst hA hA'
                        have HX := Lib.hid hx
                        have HY := Lib.hid hy
                        clear hx hy
                        obtain ⟨x1, x2⟩ := x
                        obtain ⟨y1, y2⟩ := y
                        have p0' : (W2.drewN j).cell? ⟨ga, oa + k * 2, none⟩ = some (.string x1) := p0
                        have p1' : (W2.drewN j).cell? ⟨ga, oa + k * 2 + 1, none⟩ = some (.int .i64 x2) := p1
                        have r0' : (W2.drewN j).cell? ⟨gb, ob + k * 2, none⟩ = some (.string y1) := r0
                        have r1' : (W2.drewN j).cell? ⟨gb, ob + k * 2 + 1, none⟩ = some (.int .i64 y2) := r1
                        have ib0 : (0 : Int) ≤ (k : Int) := by omega
                        have ib1 : (k : Int) < (nr : Int) := by omega
                        clear p0 p1 r0 r1
                        have hne : ¬ (x1 = y1 ∧ x2 = y2) → q = false := fun h => HNO.out fun e => h (by
                          have e2 : rs = rs2 := (by injection e)
                          have h1 := HX.out
                          rw [e2, HY.out] at h1
                          injection h1 with h1
                          injection h1 with h1 h2
                          exact ⟨h1.symm, h2.symm⟩)
                        by_cases hx1 : x1 = y1
                        · subst hx1
                          by_cases hx2 : x2 = y2
                          · subst hx2
                            have HST := Lib.hid (take_eq_snoc HT.out HX.out HY.out)
                            clear hne
                            go_wp2_with fail
                            generalize hW : W2.drewN j = W at *
                            go_quiet (fail)
                            subst hW
                            go_wp2
                            go_roundw
                            case rel => exact ⟨k + 1, by omega, by go_num, HST, j + nq, rfl⟩
                            case measure => simp [intOf]; omega
                          · obtain rfl : q = false := hne fun h => hx2 h.2
                            have d2 : (x2 == y2) = false := by simp [hx2]
                            clear hne
                            go_wp2_with fail
                            generalize hW : W2.drewN j = W at *
                            go_quiet (fail)
                            subst hW
                            go_wp2
                            go_ret
                            exact ⟨rfl, below_dN (below_dN HB2.out j) nq⟩
                        · obtain rfl : q = false := hne fun h => hx1 h.1
                          have d2 : (x1.toList == y1.toList) = false := by
                            rw [beq_eq_false_iff_ne]
                            intro e
                            rw [Lib.toList_data, Lib.toList_data] at e
                            exact hx1 (ByteArray.ext (Array.toList_inj.1 e))
                          clear hne
                          go_wp2_with fail
                          generalize hW : W2.drewN j = W at *
                          go_quiet (fail)
                          subst hW
                          go_wp2
                          go_ret
                          exact ⟨rfl, below_dN (below_dN HB2.out j) nq⟩
                      · obtain rfl : nr = k := by omega
                        have hrr : rs = rs2 := by
                          have := HT.out
                          rwa [List.take_of_length_le (by rw [HV3.out]; exact Nat.le_refl _), List.take_of_length_le (by rw [HU3.out]; exact Nat.le_refl _)] at this
                        have HRR := Lib.hid hrr
                        clear hrr
                        go_wp2_with fail
                        have hb3 := below_dN HB2.out j
                        have k0 := N0.out.drewN j
                        have k1 := N1.out.drewN j
                        clear t0 t1 s0 s1
                        generalize W2.drewN j = W3 at *
                        have K0 := Lib.hid k0
                        have K1 := Lib.hid k1
                        have HB3 := Lib.hid hb3
                        clear k0 k1 hb3
                        go_loopg [6] nl (fun nn i wr => ∃ k : Nat, k + nn = nl ∧ i = .int .i64 (k : Int) ∧ Hid (ls.take k = ls2.take k) ∧ Hid (Below w.heap.size w wr) ∧ Hid (Blk wr w.heap.size 27 #[.string id, .int .i64 o, .slice a1 nc c1, .string pr, .int .i64 st, .slice a2 nm c2, .slice a3 nr c3, .slice a4 nl c4]) ∧ Hid (Blk wr (w.heap.size + 1) 27 #[.string id, .int .i64 o, .slice b1 nc2 e1, .string pr, .int .i64 st, .slice b2 nm2 e2, .slice b3 nr e3, .slice b4 nl e4]))
                        case atStart => exact ⟨0, Nat.zero_add _, rfl, Lib.hid rfl, HB3, K0, K1⟩
                        case round =>
                          clear HB3 K0 K1 HT HR HR2
                          obtain ⟨k, hk, rfl, HT, HB3, K0, K1⟩ := hrel
                          obtain ⟨t0, t1, -⟩ := K0.out.all
                          obtain ⟨s0, s1, -⟩ := K1.out.all
                          by_cases hlt : k < nl
                          · obtain ⟨x, hx⟩ : ∃ x, lv[k]? = some x := ⟨_, List.getElem?_eq_getElem (by rw [HLL.out]; exact hlt)⟩
                            obtain ⟨y, hy⟩ : ∃ y, lv2[k]? = some y := ⟨_, List.getElem?_eq_getElem (by rw [HLL2.out]; exact hlt)⟩
                            have hxl : ls[k]? = some x.1 := by have e := HM.out.lv; simp only at e; rw [← e, List.getElem?_map, hx]; rfl
                            have hyl : ls2[k]? = some y.1 := by have e := HN.out.lv; simp only at e; rw [← e, List.getElem?_map, hy]; rfl
                            have HLS : Hid (LmsAt wr wr.heap.size a4 lv) := Lib.hid ((HM.out.ls.below (HB3.out.mono HBB.out)).wide (Nat.le_trans HBB.out HB3.out.size))
                            have HLS2 : Hid (LmsAt wr wr.heap.size b4 lv2) := Lib.hid ((HN.out.ls.below (HB3.out.mono HBB.out)).wide (Nat.le_trans HBB.out HB3.out.size))
                            obtain ⟨ga, oa, hA, hga, u0, u1, u2, u3, u4, hLa⟩ := HLS.out k x hx
                            obtain ⟨gb, ob, hA', hgb, v0, v1, v2, v3, v4, hLb⟩ := HLS2.out k y hy
                            subst hA hA'
                            obtain ⟨⟨i1, n1, w1, f1, S1⟩, A1, C1⟩ := x
                            obtain ⟨⟨i2, n2, w2, f2, S2⟩, A2, C2⟩ := y
                            have ib0 : (0 : Int) ≤ (k : Int) := by omega
                            have ib1 : (k : Int) < (nl : Int) := by omega
                            simp only at u0 u1 u2 u3 u4 v0 v1 v2 v3 v4 hLa hLb hxl hyl
                            have HXL := Lib.hid hxl
                            have HYL := Lib.hid hyl
                            have HLA := Lib.hid hLa
                            have HLB := Lib.hid hLb
                            clear hx hy hxl hyl hLa hLb
                            have cc : ∀ (Q : Bool), (Q = true ↔ (⟨i1, n1, w1, f1, S1⟩ : Lm) = ⟨i2, n2, w2, f2, S2⟩) → ∀ W, Below wr.heap.size wr W → Calls Tryz.prog 13 #[.agg #[.string i1, .int .i64 n1, .int .i64 w1, .int .i64 f1, .slice A1 S1.length C1], .agg #[.string i2, .int .i64 n2, .int .i64 w2, .int .i64 f2, .slice A2 S2.length C2]] W fun e w' => e = .returned (.bool Q) ∧ Below W.heap.size W w' := fun Q hQ W hW => rsameL_any W wr.heap.size ⟨i1, n1, w1, f1, S1⟩ ⟨i2, n2, w2, f2, S2⟩ A1 A2 C1 C2 (HLA.out.below hW) (HLB.out.below hW) hW.size Q hQ
                            have CCH := Lib.hid cc
                            clear cc
                            go_upto_region 11 with fail
                            refine wp_region_hold (fun V => Below wr.heap.size wr V) [0, 1, 2, 3, 4, 5, 6, 7, 8, 9] [10] [11] (by kernel_rfl) (by kernel_rfl) (fun _ d _ _ _ h => by cases d <;> exact h) (Below.refl _ wr).drew ?_
                            simp only [pick, List.drop_succ_cons, List.drop_zero, List.head?_cons, Option.toList_some, List.cons_append, List.nil_append]
                            repeat (refine wpHeld_step ?_ rfl ?_ ?_; rotate_left; · (intro V hV; obtain ⟨t0, t1, -⟩ := (K0.out.below hV K0.out.lt).all; obtain ⟨s0, s1, -⟩ := (K1.out.below hV K1.out.lt).all; have u0 := (hV.cell (p := ⟨ga, oa + k * 5, none⟩) hga).trans u0; have u1 := (hV.cell (p := ⟨ga, oa + k * 5 + 1, none⟩) hga).trans u1; have u2 := (hV.cell (p := ⟨ga, oa + k * 5 + 2, none⟩) hga).trans u2; have u3 := (hV.cell (p := ⟨ga, oa + k * 5 + 3, none⟩) hga).trans u3; have u4 := (hV.cell (p := ⟨ga, oa + k * 5 + 4, none⟩) hga).trans u4; have v0 := (hV.cell (p := ⟨gb, ob + k * 5, none⟩) hgb).trans v0; have v1 := (hV.cell (p := ⟨gb, ob + k * 5 + 1, none⟩) hgb).trans v1; have v2 := (hV.cell (p := ⟨gb, ob + k * 5 + 2, none⟩) hgb).trans v2; have v3 := (hV.cell (p := ⟨gb, ob + k * 5 + 3, none⟩) hgb).trans v3; have v4 := (hV.cell (p := ⟨gb, ob + k * 5 + 4, none⟩) hgb).trans v4; go_simp; with_reducible rfl))
                            refine wpHeld_nil ?_
                            simp only [wpEarly]
                            clear t0 t1 s0 s1 u0 u1 u2 u3 u4 v0 v1 v2 v3 v4
                            have hwd := (Below.refl wr.heap.size wr).drew
                            have HWD := Lib.hid hwd
                            clear hwd
                            generalize wr.drew = Wd at *
                            by_cases hxy : (⟨i1, n1, w1, f1, S1⟩ : Lm) = ⟨i2, n2, w2, f2, S2⟩
                            · have hst : ls.take (k + 1) = ls2.take (k + 1) := take_eq_snoc HT.out HXL.out (by rw [hxy]; exact HYL.out)
                              have HST := Lib.hid hst
                              have hc := CCH.out true (by simp [hxy]) Wd HWD.out
                              have HC := Lib.hid hc
                              clear hc hst hxy
                              go_wp2_with fail
                              refine HC.out.mono ?_
                              rintro e We ⟨rfl, x1⟩
                              have hwe := HWD.out.trans (x1.mono HWD.out.size)
                              have HWE := Lib.hid hwe
                              clear x1 hwe
                              go_wp2_with fail
                              refine ⟨HWE.out, ?_⟩
                              have HB4 := Lib.hid (HB3.out.trans (HWE.out.mono HB3.out.size))
                              have K0b := Lib.hid (K0.out.below HWE.out K0.out.lt)
                              have K1b := Lib.hid (K1.out.below HWE.out K1.out.lt)
                              go_wp2
                              go_roundg (gk - 1)
                              case rel => exact ⟨k + 1, by omega, by go_num, HST, HB4, K0b, K1b⟩
                              case measure => omega
                            · obtain rfl : q = false := HNO.out fun e => hxy (by
                                have e2 : ls = ls2 := (by injection e)
                                have h1 := HXL.out
                                rw [e2, HYL.out] at h1
                                injection h1 with h1
                                exact h1.symm)
                              have hc := CCH.out false (by simp only [Bool.false_eq_true, false_iff]; exact hxy) Wd HWD.out
                              have HC := Lib.hid hc
                              clear hc hxy
                              go_wp2_with fail
                              refine HC.out.mono ?_
                              rintro e We ⟨rfl, x1⟩
                              have hwe := HWD.out.trans (x1.mono HWD.out.size)
                              have HWE := Lib.hid hwe
                              clear x1 hwe
                              go_wp2_with fail
                              refine ⟨HWE.out, ?_⟩
                              have HB4 := Lib.hid (HB3.out.trans (HWE.out.mono HB3.out.size))
                              go_wp2
                              go_ret
                              exact ⟨rfl, HB4.out⟩
                          · obtain rfl : nl = k := by omega
                            have hyes : true = q := (HQ.out.2 (by
                              have := HT.out
                              rw [List.take_of_length_le (by rw [HV4.out]; exact Nat.le_refl _), List.take_of_length_le (by rw [HU4.out]; exact Nat.le_refl _)] at this
                              rw [q5, q6, HRR.out, this])).symm
                            subst hyes
                            go_wp2
                            go_ret
                            exact ⟨rfl, HB3.out⟩
  have ec : mtC ⟨id, o, cs, pr, st, mv, rs, ls⟩ ⟨a1, c1, a2, c2, a3, c3, a4, c4, lv⟩ = #[.string id, .int .i64 o, .slice a1 nc c1, .string pr, .int .i64 st, .slice a2 nm c2, .slice a3 nr c3, .slice a4 nl c4] := by simp [mtC, h1, h2, h3, h4]
  have ed : mtC ⟨id2, o2, cs2, pr2, st2, mv2, rs2, ls2⟩ ⟨b1, e1, b2, e2, b3, e3, b4, e4, lv2⟩ = #[.string id2, .int .i64 o2, .slice b1 nc2 e1, .string pr2, .int .i64 st2, .slice b2 nm2 e2, .slice b3 nr2 e3, .slice b4 nl2 e4] := by simp [mtC, g1, g2, g3, g4]
  rw [ec, ed]
  exact hgo
end Go.Proofs.YtknchlpcpgflkaaGreatDoor

namespace Go.Proofs.YtknchlpcpgflkaaGreatDoor
open Go.RowKit Go.Shelf

set_option maxRecDepth 100000 in
/-- Two pairs of texts compared. -/
theorem eq_pair (a b c d : ByteArray) (q r v : Bool) (hq : (a.toList == c.toList) = q) (hr : (b.toList == d.toList) = r) (hv : (q && r) = v) (W : World) :
    (Op.equalIn 10000 75 (.agg #[.string a, .string b]) (.agg #[.string c, .string d])).run Tryz.prog W = .ok v W := by
  subst hv
  obtain ⟨i0, hi0, hz0, hz1, hz2⟩ := info_parts Tryz.infoStr
  have hc : Tryz.prog.cellsOf 9 = 1 := by kernel_rfl
  have hu : Tryz.prog.underlying 75 = some (.array 2 9) := by kernel_rfl
  have hs : Tryz.prog.underlying 9 = some .string := by kernel_rfl
  have h1 := fun d x y => run_equalIn_string (P := Tryz.prog) (w := W) d 9 x y hs
  have h2 : ∀ x y, (Op.equalIn 9999 9 (.string x) (.string y)).run Tryz.prog W = .ok (x.toList == y.toList) W := h1 9998
  have hp : ∀ (cs : Array Value) (i : Nat) (v : ByteArray), cs[i]? = some (.string v) → (part 9 cs i).run Tryz.prog W = .ok (.string v) W := by
    intro cs i v h
    exact run_part_plain (P := Tryz.prog) (w := W) (by kernel_rfl) h
  have ha := run_equalIn_array (P := Tryz.prog) W 9999 #[.string a, .string b] #[.string c, .string d] hu hi0
  rw [hc] at ha
  refine ha.trans ?_
  simp only [List.range, List.range.loop, Op.eqItems, Sem.run_bind, Nat.zero_mul, Nat.one_mul, hp #[.string a, .string b] 0 a rfl, hp #[.string c, .string d] 0 c rfl, Result.andThen_ok, h2, hq]
  cases q <;> cases r <;> simp [hp #[.string a, .string b] 1 b rfl, hp #[.string c, .string d] 1 d rfl, h2, hr]
set_option maxHeartbeats 8000000 in
set_option maxRecDepth 100000 in
theorem rsameG_any (w : World) (B : Nat) (m n : Mg) (x y : MgX) (hm : MgAt w B m x) (hn : MgAt w B n y) (hB : B ≤ w.heap.size) (hs : SmlG m) (hs2 : SmlG n) (q : Bool) (hq : q = true ↔ m = n) :
    Calls Tryz.prog 28 #[.agg (mgC m x), .agg (mgC n y)] w fun e w' => e = .returned (.bool q) ∧ Below w.heap.size w w' := by
  have HM := Lib.hid hm
  have HN := Lib.hid hn
  obtain ⟨fr, tn, cs, rs, ls⟩ := m
  obtain ⟨fr2, tn2, cs2, rs2, ls2⟩ := n
  obtain ⟨a1, c1, a2, c3, a3, c4, lv⟩ := x
  obtain ⟨b1, e1, b2, e3, b3, e4, lv2⟩ := y
  have hno : ¬ ((⟨fr, tn, cs, rs, ls⟩ : Mg) = ⟨fr2, tn2, cs2, rs2, ls2⟩) → q = false := fun h => by cases q with | false => rfl | true => exact absurd (hq.1 rfl) h
  have HNO := Lib.hid hno
  have HQ := Lib.hid hq
  have hll : lv.length = ls.length := by have := congrArg List.length hm.tv; simp only [List.length_map] at this; exact this
  have hll2 : lv2.length = ls2.length := by have := congrArg List.length hn.tv; simp only [List.length_map] at this; exact this
  obtain ⟨nc, h1⟩ : ∃ k, cs.length = k := ⟨_, rfl⟩
  obtain ⟨nr, h3⟩ : ∃ k, rs.length = k := ⟨_, rfl⟩
  obtain ⟨nl, h4⟩ : ∃ k, ls.length = k := ⟨_, rfl⟩
  obtain ⟨nc2, g1⟩ : ∃ k, cs2.length = k := ⟨_, rfl⟩
  obtain ⟨nr2, g3⟩ : ∃ k, rs2.length = k := ⟨_, rfl⟩
  obtain ⟨nl2, g4⟩ : ∃ k, ls2.length = k := ⟨_, rfl⟩
  obtain ⟨z1, z3, z4⟩ := hs
  obtain ⟨y1, y3, y4⟩ := hs2
  simp only at z1 z3 z4 y1 y3 y4
  rw [h1] at z1
  rw [h3] at z3
  rw [h4] at z4
  rw [g1] at y1
  rw [g3] at y3
  rw [g4] at y4
  have hgo : Calls Tryz.prog 28 #[.agg #[.string fr, .string tn, .slice a1 nc c1, .slice a2 nr c3, .slice a3 nl c4], .agg #[.string fr2, .string tn2, .slice b1 nc2 e1, .slice b2 nr2 e3, .slice b3 nl2 e4]] w fun e w' => e = .returned (.bool q) ∧ Below w.heap.size w w' := by
    have HV1 := Lib.hid h1
    have HV3 := Lib.hid h3
    have HV4 := Lib.hid h4
    have HU1 := Lib.hid g1
    have HU3 := Lib.hid g3
    have HU4 := Lib.hid g4
    have HLL := Lib.hid (hll.trans h4)
    have HLL2 := Lib.hid (hll2.trans g4)
    have HBB := Lib.hid hB
    clear hm hn hq hno h1 h3 h4 g1 g3 g4 hll hll2 hB
    by_cases q1 : fr = fr2
    case neg =>
      obtain rfl : false = q := (HNO.out fun e => q1 (by injection e)).symm
      have d : (fr.toList == fr2.toList) = false := by
        rw [beq_eq_false_iff_ne]
        intro e
        rw [Lib.toList_data, Lib.toList_data] at e
        exact q1 (ByteArray.ext (Array.toList_inj.1 e))
      clear HM HN HQ HNO
      have hb := (below_self_alloc w (.cells #[.string fr, .string tn, .slice a1 nc c1, .slice a2 nr c3, .slice a3 nl c4] 30)).alloc (by simp) (.cells #[.string fr2, .string tn2, .slice b1 nc2 e1, .slice b2 nr2 e3, .slice b3 nl2 e4] 30)
      have k0 := (Blk.new w 30 #[.string fr, .string tn, .slice a1 nc c1, .slice a2 nr c3, .slice a3 nl c4]).alloc (.cells #[.string fr2, .string tn2, .slice b1 nc2 e1, .slice b2 nr2 e3, .slice b3 nl2 e4] 30)
      have k1 := Blk.new1 w (.cells #[.string fr, .string tn, .slice a1 nc c1, .slice a2 nr c3, .slice a3 nl c4] 30) 30 #[.string fr2, .string tn2, .slice b1 nc2 e1, .slice b2 nr2 e3, .slice b3 nl2 e4]
      obtain ⟨t0, t1, -⟩ := k0.all
      obtain ⟨s0, s1, -⟩ := k1.all
      go_enter Tryz.func28, Tryz.ntmps28
      go_wp2
      go_ret
      exact ⟨rfl, hb⟩
    case pos =>
      subst q1
      by_cases q3 : tn = tn2
      case neg =>
        obtain rfl : false = q := (HNO.out fun e => q3 (by injection e)).symm
        have d : (tn.toList == tn2.toList) = false := by
          rw [beq_eq_false_iff_ne]
          intro e
          rw [Lib.toList_data, Lib.toList_data] at e
          exact q3 (ByteArray.ext (Array.toList_inj.1 e))
        clear HM HN HQ HNO
        have hb := (below_self_alloc w (.cells #[.string fr, .string tn, .slice a1 nc c1, .slice a2 nr c3, .slice a3 nl c4] 30)).alloc (by simp) (.cells #[.string fr, .string tn2, .slice b1 nc2 e1, .slice b2 nr2 e3, .slice b3 nl2 e4] 30)
        have k0 := (Blk.new w 30 #[.string fr, .string tn, .slice a1 nc c1, .slice a2 nr c3, .slice a3 nl c4]).alloc (.cells #[.string fr, .string tn2, .slice b1 nc2 e1, .slice b2 nr2 e3, .slice b3 nl2 e4] 30)
        have k1 := Blk.new1 w (.cells #[.string fr, .string tn, .slice a1 nc c1, .slice a2 nr c3, .slice a3 nl c4] 30) 30 #[.string fr, .string tn2, .slice b1 nc2 e1, .slice b2 nr2 e3, .slice b3 nl2 e4]
        obtain ⟨t0, t1, -⟩ := k0.all
        obtain ⟨s0, s1, -⟩ := k1.all
        go_enter Tryz.func28, Tryz.ntmps28
        go_wp2
        go_ret
        exact ⟨rfl, hb⟩
      case pos =>
        subst q3
        by_cases q5 : nc = nc2
        case neg =>
          obtain rfl : false = q := (HNO.out fun e => q5 (by have e2 : cs = cs2 := (by injection e); rw [← HV1.out, ← HU1.out, e2])).symm
          have dn : ((nc : Int) == (nc2 : Int)) = false := by simp; omega
          have dn2 : ¬ (nc : Int) = (nc2 : Int) := by omega
          clear HM HN HQ HNO
          have hb := (below_self_alloc w (.cells #[.string fr, .string tn, .slice a1 nc c1, .slice a2 nr c3, .slice a3 nl c4] 30)).alloc (by simp) (.cells #[.string fr, .string tn, .slice b1 nc2 e1, .slice b2 nr2 e3, .slice b3 nl2 e4] 30)
          have k0 := (Blk.new w 30 #[.string fr, .string tn, .slice a1 nc c1, .slice a2 nr c3, .slice a3 nl c4]).alloc (.cells #[.string fr, .string tn, .slice b1 nc2 e1, .slice b2 nr2 e3, .slice b3 nl2 e4] 30)
          have k1 := Blk.new1 w (.cells #[.string fr, .string tn, .slice a1 nc c1, .slice a2 nr c3, .slice a3 nl c4] 30) 30 #[.string fr, .string tn, .slice b1 nc2 e1, .slice b2 nr2 e3, .slice b3 nl2 e4]
          obtain ⟨t0, t1, -⟩ := k0.all
          obtain ⟨s0, s1, -⟩ := k1.all
          go_enter Tryz.func28, Tryz.ntmps28
          go_wp2
          go_ret
          exact ⟨rfl, hb⟩
        case pos =>
          subst q5
          by_cases q7 : nr = nr2
          case neg =>
            obtain rfl : false = q := (HNO.out fun e => q7 (by have e2 : rs = rs2 := (by injection e); rw [← HV3.out, ← HU3.out, e2])).symm
            have dn : ((nr : Int) == (nr2 : Int)) = false := by simp; omega
            have dn2 : ¬ (nr : Int) = (nr2 : Int) := by omega
            clear HM HN HQ HNO
            have hb := (below_self_alloc w (.cells #[.string fr, .string tn, .slice a1 nc c1, .slice a2 nr c3, .slice a3 nl c4] 30)).alloc (by simp) (.cells #[.string fr, .string tn, .slice b1 nc e1, .slice b2 nr2 e3, .slice b3 nl2 e4] 30)
            have k0 := (Blk.new w 30 #[.string fr, .string tn, .slice a1 nc c1, .slice a2 nr c3, .slice a3 nl c4]).alloc (.cells #[.string fr, .string tn, .slice b1 nc e1, .slice b2 nr2 e3, .slice b3 nl2 e4] 30)
            have k1 := Blk.new1 w (.cells #[.string fr, .string tn, .slice a1 nc c1, .slice a2 nr c3, .slice a3 nl c4] 30) 30 #[.string fr, .string tn, .slice b1 nc e1, .slice b2 nr2 e3, .slice b3 nl2 e4]
            obtain ⟨t0, t1, -⟩ := k0.all
            obtain ⟨s0, s1, -⟩ := k1.all
            go_enter Tryz.func28, Tryz.ntmps28
            go_wp2
            go_ret
            exact ⟨rfl, hb⟩
          case pos =>
            subst q7
            by_cases q8 : nl = nl2
            case neg =>
              obtain rfl : false = q := (HNO.out fun e => q8 (by have e2 : ls = ls2 := (by injection e); rw [← HV4.out, ← HU4.out, e2])).symm
              have dn : ((nl : Int) == (nl2 : Int)) = false := by simp; omega
              have dn2 : ¬ (nl : Int) = (nl2 : Int) := by omega
              clear HM HN HQ HNO
              have hb := (below_self_alloc w (.cells #[.string fr, .string tn, .slice a1 nc c1, .slice a2 nr c3, .slice a3 nl c4] 30)).alloc (by simp) (.cells #[.string fr, .string tn, .slice b1 nc e1, .slice b2 nr e3, .slice b3 nl2 e4] 30)
              have k0 := (Blk.new w 30 #[.string fr, .string tn, .slice a1 nc c1, .slice a2 nr c3, .slice a3 nl c4]).alloc (.cells #[.string fr, .string tn, .slice b1 nc e1, .slice b2 nr e3, .slice b3 nl2 e4] 30)
              have k1 := Blk.new1 w (.cells #[.string fr, .string tn, .slice a1 nc c1, .slice a2 nr c3, .slice a3 nl c4] 30) 30 #[.string fr, .string tn, .slice b1 nc e1, .slice b2 nr e3, .slice b3 nl2 e4]
              obtain ⟨t0, t1, -⟩ := k0.all
              obtain ⟨s0, s1, -⟩ := k1.all
              go_enter Tryz.func28, Tryz.ntmps28
              go_wp2
              go_ret
              exact ⟨rfl, hb⟩
            case pos =>
              subst q8
              have hb := (below_self_alloc w (.cells #[.string fr, .string tn, .slice a1 nc c1, .slice a2 nr c3, .slice a3 nl c4] 30)).alloc (by simp) (.cells #[.string fr, .string tn, .slice b1 nc e1, .slice b2 nr e3, .slice b3 nl e4] 30)
              have k0 := (Blk.new w 30 #[.string fr, .string tn, .slice a1 nc c1, .slice a2 nr c3, .slice a3 nl c4]).alloc (.cells #[.string fr, .string tn, .slice b1 nc e1, .slice b2 nr e3, .slice b3 nl e4] 30)
              have k1 := Blk.new1 w (.cells #[.string fr, .string tn, .slice a1 nc c1, .slice a2 nr c3, .slice a3 nl c4] 30) 30 #[.string fr, .string tn, .slice b1 nc e1, .slice b2 nr e3, .slice b3 nl e4]
              obtain ⟨t0, t1, -⟩ := k0.all
              obtain ⟨s0, s1, -⟩ := k1.all
              go_enter Tryz.func28, Tryz.ntmps28
              go_upto_region 3 with fail
              generalize (w.alloc (.cells #[.string fr, .string tn, .slice a1 nc c1, .slice a2 nr c3, .slice a3 nl c4] 30)).alloc (.cells #[.string fr, .string tn, .slice b1 nc e1, .slice b2 nr e3, .slice b3 nl e4] 30) = W2 at *
              have hst0 : IntsAt W2 W2.heap.size a1 cs := (HM.out.st.below (hb.mono HBB.out)).wide (Nat.le_trans HBB.out hb.size)
              have hst1 : IntsAt W2 W2.heap.size b1 cs2 := (HN.out.st.below (hb.mono HBB.out)).wide (Nat.le_trans HBB.out hb.size)
              have HI := Lib.hid hst0
              have HI2 := Lib.hid hst1
              have hrs : PrsAt W2 W2.heap.size a2 rs := (HM.out.rs.below (hb.mono HBB.out)).wide (Nat.le_trans HBB.out hb.size)
              have hrs2 : PrsAt W2 W2.heap.size b2 rs2 := (HN.out.rs.below (hb.mono HBB.out)).wide (Nat.le_trans HBB.out hb.size)
              have HR := Lib.hid hrs
              have HR2 := Lib.hid hrs2
              have N0 := Lib.hid k0
              have N1 := Lib.hid k1
              have HB2 := Lib.hid hb
              clear t0 t1 s0 s1 k0 k1 hb hrs hrs2 hst0 hst1
              go_wp2_with fail
              go_loopw [5] (fun i wr => ∃ k : Nat, k ≤ nc ∧ i = .int .i64 (k : Int) ∧ Hid (cs.take k = cs2.take k) ∧ ∃ j, wr = W2.drewN j) (fun i _ => nc - (intOf i).toNat)
              case atStart => exact ⟨0, Nat.zero_le _, rfl, Lib.hid rfl, 0, rfl⟩
              case round =>
                obtain ⟨k, hk, rfl, HT, j, rfl⟩ := hrel
                have k0 := N0.out.drewN j
                have k1 := N1.out.drewN j
                obtain ⟨t0, t1, -⟩ := k0.all
                obtain ⟨s0, s1, -⟩ := k1.all
                by_cases hlt : k < nc
                · obtain ⟨x, hx⟩ : ∃ x, cs[k]? = some x := ⟨_, List.getElem?_eq_getElem (by rw [HV1.out]; exact hlt)⟩
                  obtain ⟨y, hy⟩ : ∃ y, cs2[k]? = some y := ⟨_, List.getElem?_eq_getElem (by rw [HU1.out]; exact hlt)⟩
                  obtain ⟨ga, oa, hA, hga, p0⟩ := HI.out k x hx
                  obtain ⟨gb, ob, hA', hgb, r0⟩ := HI2.out k y hy
                  subst hA hA'
                  have HX := Lib.hid hx
                  have HY := Lib.hid hy
                  clear hx hy
                  have p0' : (W2.drewN j).cell? ⟨ga, oa + k, none⟩ = some (.int .i64 x) := p0
                  have r0' : (W2.drewN j).cell? ⟨gb, ob + k, none⟩ = some (.int .i64 y) := r0
                  have ib0 : (0 : Int) ≤ (k : Int) := by omega
                  have ib1 : (k : Int) < (nc : Int) := by omega
                  clear p0 r0
                  have hne : ¬ x = y → q = false := fun h => HNO.out fun e => h (by
                    have e2 : cs = cs2 := (by injection e)
                    have h1 := HX.out
                    rw [e2, HY.out] at h1
                    injection h1 with h1
                    exact h1.symm)
                  by_cases hxy : x = y
                  · subst hxy
                    have HST := Lib.hid (take_eq_snoc HT.out HX.out HY.out)
                    clear hne
                    go_wp2_with fail
                    generalize hW : W2.drewN j = W at *
                    go_quiet (fail)
                    subst hW
                    go_wp2
                    go_roundw
                    case rel => exact ⟨k + 1, by omega, by go_num, HST, j + nq, rfl⟩
                    case measure => simp [intOf]; omega
                  · obtain rfl : q = false := hne hxy
                    have d2 : (x == y) = false := by simp [hxy]
                    clear hne
                    go_wp2_with fail
                    generalize hW : W2.drewN j = W at *
                    go_quiet (fail)
                    subst hW
                    go_wp2
                    go_ret
                    exact ⟨rfl, below_dN (below_dN HB2.out j) nq⟩
                · obtain rfl : nc = k := by omega
                  have hcc : cs = cs2 := by
                    have := HT.out
                    rwa [List.take_of_length_le (by rw [HV1.out]; exact Nat.le_refl _), List.take_of_length_le (by rw [HU1.out]; exact Nat.le_refl _)] at this
                  have HCC := Lib.hid hcc
                  clear hcc
                  go_wp2_with fail
                  clear t0 t1 s0 s1 k0 k1
                  go_loopw [6] (fun i wr => ∃ k : Nat, k ≤ nr ∧ i = .int .i64 (k : Int) ∧ Hid (rs.take k = rs2.take k) ∧ ∃ j, wr = W2.drewN j) (fun i _ => nr - (intOf i).toNat)
                  case atStart => exact ⟨0, Nat.zero_le _, rfl, Lib.hid rfl, j, rfl⟩
                  case round =>
                    clear HT
                    obtain ⟨k, hk, rfl, HT, j, rfl⟩ := hrel
                    have k0 := N0.out.drewN j
                    have k1 := N1.out.drewN j
                    obtain ⟨t0, t1, -⟩ := k0.all
                    obtain ⟨s0, s1, -⟩ := k1.all
                    by_cases hlt : k < nr
                    · obtain ⟨x, hx⟩ : ∃ x, rs[k]? = some x := ⟨_, List.getElem?_eq_getElem (by rw [HV3.out]; exact hlt)⟩
                      obtain ⟨y, hy⟩ : ∃ y, rs2[k]? = some y := ⟨_, List.getElem?_eq_getElem (by rw [HU3.out]; exact hlt)⟩
                      obtain ⟨ga, oa, hA, hga, p0, p1⟩ := HR.out k x hx
                      obtain ⟨gb, ob, hA', hgb, r0, r1⟩ := HR2.out k y hy
                      subst hA hA'
                      have HX := Lib.hid hx
                      have HY := Lib.hid hy
                      clear hx hy
                      obtain ⟨x1, x2⟩ := x
                      obtain ⟨y1', y2⟩ := y
                      have p0' : (W2.drewN j).cell? ⟨ga, oa + k * 2, none⟩ = some (.string x1) := p0
                      have p1' : (W2.drewN j).cell? ⟨ga, oa + k * 2 + 1, none⟩ = some (.string x2) := p1
                      have r0' : (W2.drewN j).cell? ⟨gb, ob + k * 2, none⟩ = some (.string y1') := r0
                      have r1' : (W2.drewN j).cell? ⟨gb, ob + k * 2 + 1, none⟩ = some (.string y2) := r1
                      have ib0 : (0 : Int) ≤ (k : Int) := by omega
                      have ib1 : (k : Int) < (nr : Int) := by omega
                      clear p0 p1 r0 r1
                      have hne : ¬ (x1 = y1' ∧ x2 = y2) → q = false := fun h => HNO.out fun e => h (by
                        have e2 : rs = rs2 := (by injection e)
                        have h1 := HX.out
                        rw [e2, HY.out] at h1
                        injection h1 with h1
                        injection h1 with h1 h2
                        exact ⟨h1.symm, h2.symm⟩)
                      by_cases hx1 : x1 = y1'
                      · subst hx1
                        by_cases hx2 : x2 = y2
                        · subst hx2
                          have HST := Lib.hid (take_eq_snoc HT.out HX.out HY.out)
                          have ep := eq_pair x1 x2 x1 x2 true true true (by simp) (by simp) rfl
                          clear hne
                          go_wp2_with fail
                          generalize hW : W2.drewN j = W at *
                          go_quiet (fail)
                          subst hW
                          go_wp2
                          go_roundw
                          case rel => exact ⟨k + 1, by omega, by go_num, HST, j + nq, rfl⟩
                          case measure => simp [intOf]; omega
                        · obtain rfl : q = false := hne fun h => hx2 h.2
                          have ep := eq_pair x1 x2 x1 y2 true false false (by simp) (str_no hx2) rfl
                          clear hne
                          go_wp2_with fail
                          generalize hW : W2.drewN j = W at *
                          go_quiet (fail)
                          subst hW
                          go_wp2
                          go_ret
                          exact ⟨rfl, below_dN (below_dN HB2.out j) nq⟩
                      · obtain rfl : q = false := hne fun h => hx1 h.1
                        obtain ⟨rq, hrq⟩ : ∃ r, (x2.toList == y2.toList) = r := ⟨_, rfl⟩
                        have ep := eq_pair x1 x2 y1' y2 false rq false (str_no hx1) hrq (Bool.false_and rq)
                        clear hrq
                        clear hne
                        go_wp2_with fail
                        generalize hW : W2.drewN j = W at *
                        go_quiet (fail)
                        subst hW
                        go_wp2
                        go_ret
                        exact ⟨rfl, below_dN (below_dN HB2.out j) nq⟩
                    · obtain rfl : nr = k := by omega
                      have hrr : rs = rs2 := by
                        have := HT.out
                        rwa [List.take_of_length_le (by rw [HV3.out]; exact Nat.le_refl _), List.take_of_length_le (by rw [HU3.out]; exact Nat.le_refl _)] at this
                      have HRR := Lib.hid hrr
                      clear hrr
                      go_wp2_with fail
                      have hb3 := below_dN HB2.out j
                      have k0 := N0.out.drewN j
                      have k1 := N1.out.drewN j
                      clear t0 t1 s0 s1
                      generalize W2.drewN j = W3 at *
                      have K0 := Lib.hid k0
                      have K1 := Lib.hid k1
                      have HB3 := Lib.hid hb3
                      clear k0 k1 hb3
                      go_loopg [7] nl (fun nn i wr => ∃ k : Nat, k + nn = nl ∧ i = .int .i64 (k : Int) ∧ Hid (ls.take k = ls2.take k) ∧ Hid (Below w.heap.size w wr) ∧ Hid (Blk wr w.heap.size 30 #[.string fr, .string tn, .slice a1 nc c1, .slice a2 nr c3, .slice a3 nl c4]) ∧ Hid (Blk wr (w.heap.size + 1) 30 #[.string fr, .string tn, .slice b1 nc e1, .slice b2 nr e3, .slice b3 nl e4]))
                      case atStart => exact ⟨0, Nat.zero_add _, rfl, Lib.hid rfl, HB3, K0, K1⟩
                      case round =>
                        clear HB3 K0 K1 HT HR HR2
                        obtain ⟨k, hk, rfl, HT, HB3, K0, K1⟩ := hrel
                        obtain ⟨t0, t1, -⟩ := K0.out.all
                        obtain ⟨s0, s1, -⟩ := K1.out.all
                        by_cases hlt : k < nl
                        · obtain ⟨x, hx⟩ : ∃ x, lv[k]? = some x := ⟨_, List.getElem?_eq_getElem (by rw [HLL.out]; exact hlt)⟩
                          obtain ⟨y, hy⟩ : ∃ y, lv2[k]? = some y := ⟨_, List.getElem?_eq_getElem (by rw [HLL2.out]; exact hlt)⟩
                          have hxl : ls[k]? = some x.1 := by have e := HM.out.tv; simp only at e; rw [← e, List.getElem?_map, hx]; rfl
                          have hyl : ls2[k]? = some y.1 := by have e := HN.out.tv; simp only at e; rw [← e, List.getElem?_map, hy]; rfl
                          have HLS : Hid (LmsAt wr wr.heap.size a3 lv) := Lib.hid ((HM.out.ts.below (HB3.out.mono HBB.out)).wide (Nat.le_trans HBB.out HB3.out.size))
                          have HLS2 : Hid (LmsAt wr wr.heap.size b3 lv2) := Lib.hid ((HN.out.ts.below (HB3.out.mono HBB.out)).wide (Nat.le_trans HBB.out HB3.out.size))
                          obtain ⟨ga, oa, hA, hga, u0, u1, u2, u3, u4, hLa⟩ := HLS.out k x hx
                          obtain ⟨gb, ob, hA', hgb, v0, v1, v2, v3, v4, hLb⟩ := HLS2.out k y hy
                          subst hA hA'
                          obtain ⟨⟨i1, n1, w1, f1, S1⟩, A1, C1⟩ := x
                          obtain ⟨⟨i2, n2, w2, f2, S2⟩, A2, C2⟩ := y
                          have ib0 : (0 : Int) ≤ (k : Int) := by omega
                          have ib1 : (k : Int) < (nl : Int) := by omega
                          simp only at u0 u1 u2 u3 u4 v0 v1 v2 v3 v4 hLa hLb hxl hyl
                          have HXL := Lib.hid hxl
                          have HYL := Lib.hid hyl
                          have HLA := Lib.hid hLa
                          have HLB := Lib.hid hLb
                          clear hx hy hxl hyl hLa hLb
                          have cc : ∀ (Q : Bool), (Q = true ↔ (⟨i1, n1, w1, f1, S1⟩ : Lm) = ⟨i2, n2, w2, f2, S2⟩) → ∀ W, Below wr.heap.size wr W → Calls Tryz.prog 13 #[.agg #[.string i1, .int .i64 n1, .int .i64 w1, .int .i64 f1, .slice A1 S1.length C1], .agg #[.string i2, .int .i64 n2, .int .i64 w2, .int .i64 f2, .slice A2 S2.length C2]] W fun e w' => e = .returned (.bool Q) ∧ Below W.heap.size W w' := fun Q hQ W hW => rsameL_any W wr.heap.size ⟨i1, n1, w1, f1, S1⟩ ⟨i2, n2, w2, f2, S2⟩ A1 A2 C1 C2 (HLA.out.below hW) (HLB.out.below hW) hW.size Q hQ
                          have CCH := Lib.hid cc
                          clear cc
                          go_upto_region 17 with fail
                          refine wp_region_hold (fun V => Below wr.heap.size wr V) [0, 1, 2, 3, 4, 5, 6, 7, 8, 9] [10] [11] (by kernel_rfl) (by kernel_rfl) (fun _ d _ _ _ h => by cases d <;> exact h) (Below.refl _ wr).drew ?_
                          simp only [pick, List.drop_succ_cons, List.drop_zero, List.head?_cons, Option.toList_some, List.cons_append, List.nil_append]
                          repeat (refine wpHeld_step ?_ rfl ?_ ?_; rotate_left; · (intro V hV; obtain ⟨t0, t1, -⟩ := (K0.out.below hV K0.out.lt).all; obtain ⟨s0, s1, -⟩ := (K1.out.below hV K1.out.lt).all; have u0 := (hV.cell (p := ⟨ga, oa + k * 5, none⟩) hga).trans u0; have u1 := (hV.cell (p := ⟨ga, oa + k * 5 + 1, none⟩) hga).trans u1; have u2 := (hV.cell (p := ⟨ga, oa + k * 5 + 2, none⟩) hga).trans u2; have u3 := (hV.cell (p := ⟨ga, oa + k * 5 + 3, none⟩) hga).trans u3; have u4 := (hV.cell (p := ⟨ga, oa + k * 5 + 4, none⟩) hga).trans u4; have v0 := (hV.cell (p := ⟨gb, ob + k * 5, none⟩) hgb).trans v0; have v1 := (hV.cell (p := ⟨gb, ob + k * 5 + 1, none⟩) hgb).trans v1; have v2 := (hV.cell (p := ⟨gb, ob + k * 5 + 2, none⟩) hgb).trans v2; have v3 := (hV.cell (p := ⟨gb, ob + k * 5 + 3, none⟩) hgb).trans v3; have v4 := (hV.cell (p := ⟨gb, ob + k * 5 + 4, none⟩) hgb).trans v4; go_simp; with_reducible rfl))
                          refine wpHeld_nil ?_
                          simp only [wpEarly]
                          clear t0 t1 s0 s1 u0 u1 u2 u3 u4 v0 v1 v2 v3 v4
                          have hwd := (Below.refl wr.heap.size wr).drew
                          have HWD := Lib.hid hwd
                          clear hwd
                          generalize wr.drew = Wd at *
                          by_cases hxy : (⟨i1, n1, w1, f1, S1⟩ : Lm) = ⟨i2, n2, w2, f2, S2⟩
                          · have hst : ls.take (k + 1) = ls2.take (k + 1) := take_eq_snoc HT.out HXL.out (by rw [hxy]; exact HYL.out)
                            have HST := Lib.hid hst
                            have hc := CCH.out true (by simp [hxy]) Wd HWD.out
                            have HC := Lib.hid hc
                            clear hc hst hxy
                            go_wp2_with fail
                            refine HC.out.mono ?_
                            rintro e We ⟨rfl, x1⟩
                            have hwe := HWD.out.trans (x1.mono HWD.out.size)
                            have HWE := Lib.hid hwe
                            clear x1 hwe
                            go_wp2_with fail
                            refine ⟨HWE.out, ?_⟩
                            have HB4 := Lib.hid (HB3.out.trans (HWE.out.mono HB3.out.size))
                            have K0b := Lib.hid (K0.out.below HWE.out K0.out.lt)
                            have K1b := Lib.hid (K1.out.below HWE.out K1.out.lt)
                            go_wp2
                            go_roundg (gk - 1)
                            case rel => exact ⟨k + 1, by omega, by go_num, HST, HB4, K0b, K1b⟩
                            case measure => omega
                          · obtain rfl : q = false := HNO.out fun e => hxy (by
                              have e2 : ls = ls2 := (by injection e)
                              have h1 := HXL.out
                              rw [e2, HYL.out] at h1
                              injection h1 with h1
                              exact h1.symm)
                            have hc := CCH.out false (by simp only [Bool.false_eq_true, false_iff]; exact hxy) Wd HWD.out
                            have HC := Lib.hid hc
                            clear hc hxy
                            go_wp2_with fail
                            refine HC.out.mono ?_
                            rintro e We ⟨rfl, x1⟩
                            have hwe := HWD.out.trans (x1.mono HWD.out.size)
                            have HWE := Lib.hid hwe
                            clear x1 hwe
                            go_wp2_with fail
                            refine ⟨HWE.out, ?_⟩
                            have HB4 := Lib.hid (HB3.out.trans (HWE.out.mono HB3.out.size))
                            go_wp2
                            go_ret
                            exact ⟨rfl, HB4.out⟩
                        · obtain rfl : nl = k := by omega
                          have hyes : true = q := (HQ.out.2 (by
                            have := HT.out
                            rw [List.take_of_length_le (by rw [HV4.out]; exact Nat.le_refl _), List.take_of_length_le (by rw [HU4.out]; exact Nat.le_refl _)] at this
                            rw [HCC.out, HRR.out, this])).symm
                          subst hyes
                          go_wp2
                          go_ret
                          exact ⟨rfl, HB3.out⟩
  have ec : mgC ⟨fr, tn, cs, rs, ls⟩ ⟨a1, c1, a2, c3, a3, c4, lv⟩ = #[.string fr, .string tn, .slice a1 nc c1, .slice a2 nr c3, .slice a3 nl c4] := by unfold mgC; simp only [h1, h3, h4]
  have ed : mgC ⟨fr2, tn2, cs2, rs2, ls2⟩ ⟨b1, e1, b2, e3, b3, e4, lv2⟩ = #[.string fr2, .string tn2, .slice b1 nc2 e1, .slice b2 nr2 e3, .slice b3 nl2 e4] := by unfold mgC; simp only [g1, g3, g4]
  rw [ec, ed]
  exact hgo
end Go.Proofs.YtknchlpcpgflkaaGreatDoor

namespace Go.Proofs.YtknchlpcpgflkaaGreatDoor
open Go.RowKit Go.Shelf

def rngI (k : Nat) : List Int := (List.range k).map fun i : Nat => (i : Int)
theorem rngI_len (k : Nat) : (rngI k).length = k := by unfold rngI; rw [List.length_map, List.length_range]
theorem rngI_next (k : Nat) : rngI (k + 1) = rngI k ++ [(k : Int)] := by unfold rngI; rw [List.range_succ, List.map_append]; rfl
/-- What lies in memory while the law builds its migration. -/
structure NoS (w W : World) (Cm Cg Cp : Array Value) (bo : Nat) (C : Array Value) (v : Value) (k : Nat) : Prop where
  hb : Below w.heap.size w W
  k0 : Blk W w.heap.size 27 Cm
  k1 : Blk W (w.heap.size + 1) 30 Cg
  k2 : Blk W (w.heap.size + 1 + 1) 34 Cp
  ko : Blk W bo 30 C
  os : W.ownsRow w.heap.size 3 1 v k (intCells (rngI k))
  lo : w.heap.size + 1 + 1 < bo
section
variable {w W W' : World} {Cm Cg Cp C : Array Value} {bo k : Nat} {v : Value}
theorem NoS.below (h : NoS w W Cm Cg Cp bo C v k) (hb : Below W.heap.size W W') : NoS w W' Cm Cg Cp bo C v k :=
  ⟨h.hb.trans (hb.mono h.hb.size), h.k0.below hb h.k0.lt, h.k1.below hb h.k1.lt, h.k2.below hb h.k2.lt, h.ko.below hb h.ko.lt, (Only.of_below hb (fun _ => False)).owns h.os (fun _ _ f => f), h.lo⟩
theorem NoS.row {v' : Value} {k' : Nat} (h : NoS w W Cm Cg Cp bo C v k) (o : W'.ownsRow w.heap.size 3 1 v' k' (intCells (rngI k'))) (hg : W.grownBy W' v.ownBlock) : NoS w W' Cm Cg Cp bo C v' k' := by
  have hO := Only.of_grown hg
  exact ⟨h.hb.trans (hO.below h.hb.size (fun i hi => (h.os.lt i hi).1)), hO.blk h.k0 (own_blk_ne h.os h.k0 (by decide)), hO.blk h.k1 (own_blk_ne h.os h.k1 (by decide)), hO.blk h.k2 (own_blk_ne h.os h.k2 (by decide)), hO.blk h.ko (own_blk_ne h.os h.ko (by decide)), o, h.lo⟩
theorem NoS.set (h : NoS w W Cm Cg Cp bo C v k) (i : Nat) (x : Value) : NoS w (W.setCell ⟨bo, i, none⟩ x) Cm Cg Cp bo (C.setIfInBounds i x) v k := by
  have hlo := h.lo
  have ho : Only (fun j => j = bo) W (W.setCell ⟨bo, i, none⟩ x) := only_set3
  exact ⟨h.hb.setCell (p := ⟨bo, i, none⟩) (show w.heap.size ≤ bo by omega) x, ho.blk h.k0 (by omega), ho.blk h.k1 (by omega), ho.blk h.k2 (by omega), h.ko.set_ i x, ho.owns h.os (fun b hb f => own_blk_ne h.os h.ko (by decide) (by rw [hb, f])), h.lo⟩
end
set_option maxRecDepth 100000 in
set_option maxHeartbeats 16000000 in
theorem nothing_walk (w : World) (ht : Tbs w) (z1 : Mt × MtX) (h1 : MtIn w z1) (z2 : Mg × MgX) (h2 : MgIn w z2) (z3 : Pc × PcX) (h3 : PcIn w z3) (day : Int) (_wd : (Lit.int .i64 day).wf = true) :
    Calls Tryz.prog 9 #[.agg (mtC z1.1 z1.2), .agg (mgC z2.1 z2.2), .agg (pcC z3.1 z3.2), .int .i64 day] w fun e w' => e = .returned (.bool true) ∧ Below w.heap.size w w' := by
  obtain ⟨m, x⟩ := z1
  obtain ⟨g, z⟩ := z2
  obtain ⟨p, y⟩ := z3
  obtain ⟨hm, zm⟩ := h1
  obtain ⟨hg, zg⟩ := h2
  obtain ⟨hp, zp⟩ := h3
  simp only at hm zm hg zg hp zp ⊢
  have hfew := fun W (hW : Below w.heap.size w W) => lfew_any W w.heap.size hW.size m x (hm.below hW) ⟨zm.1, zm.2.1, zm.2.2.1, zm.2.2.2.1⟩ g z (hg.below hW) zg p y (hp.below hW) zp p y (hp.below hW) zp none 0 0 (by omega)
  have hhd := fun W (hW : Below w.heap.size w W) => head_any W (ht.below hW)
  have hpp := fun W (hW : Below w.heap.size w W) (sp : SmlP p) => proper_p W w.heap.size p y (hp.below hW) hW.size sp
  have hap := fun W (hW : Below w.heap.size w W) xs (hs : MgAt W W.heap.size (sameG p) xs) (sm : Sml m) (sg : SmlG (sameG p)) (sp : SmlP p) => gapply_any W (ht.below hW) W.heap.size m x ((hm.below hW).wide hW.size) (Nat.le_refl _) sm (sameG p) xs hs sg p y ((hp.below hW).wide hW.size) sp p y ((hp.below hW).wide hW.size) sp day none [] 0 (fun i v hi => by simp at hi) (by simp) (fun v hv => by cases hv)
  have hth := fun W (hW : Below w.heap.size w W) xs (hs : MgAt W W.heap.size (sameG p) xs) (sg : SmlG (sameG p)) (sh : SmlG g) => gthen_any W (ht.below hW) W.heap.size (sameG p) xs hs (Nat.le_refl _) sg g z ((hg.below hW).wide hW.size) sh
  have FM : Hid (FewL m g p p 0 → Sml m ∧ SmlG g ∧ SmlP p) := Lib.hid (fun h => ⟨h.1.sml, h.2.1.sml, h.2.2.1.sml⟩)
  have hsa := same_apply (m := m) (p := p) (day := day) (l := [])
  have hst : thenE (sameG p) g = 0 → g.st.length = p.ss.length → thenM (sameG p) g = g := fun he hl => (show thenM (sameG p) g = thenG (sameG p) g from if_pos he).trans (same_then he hl)
  have hsg : SmlP p → SmlG (sameG p) := fun h => ⟨by show (rngI p.ss.length).length ≤ _; rw [rngI_len]; exact h.1, Nat.zero_le _, Nat.zero_le _⟩
  have hmg : ∀ (W : World) A c, Below w.heap.size w W → W.ownsRow w.heap.size 3 1 (.slice A p.ss.length c) p.ss.length (intCells (rngI p.ss.length)) → MgAt W W.heap.size (sameG p) ⟨A, c, none, 0, none, 0, []⟩ := fun W A c _ ho => ⟨IntsAt.of_row (rngI_len _) ho, PrsAt.nil _ _ _, LmsAt.nil _ _ _, rfl, hp.nm, hp.nm, fun r hr => by cases hr⟩
  obtain ⟨E, hE⟩ : ∃ E, applyE m (sameG p) p p day [] = E := ⟨_, rfl⟩
  obtain ⟨D, hD⟩ : ∃ a, applyM m (sameG p) p p day [] = a := ⟨_, rfl⟩
  obtain ⟨TE, hTE⟩ : ∃ E, thenE (sameG p) g = E := ⟨_, rfl⟩
  obtain ⟨X, hX⟩ : ∃ E, thenM (sameG p) g = E := ⟨_, rfl⟩
  unfold ThenPost at hth
  rw [hE, hD] at hap hsa
  rw [hTE, hX] at hth hst
  have hsD : Sml m → Sml D := fun h => hD ▸ apply_sml h
  have hsX : SmlG (sameG p) → SmlG X := fun h => hX ▸ then_sml h
  obtain ⟨PF, hPF⟩ : ∃ P, FewL m g p p 0 = P := ⟨_, rfl⟩
  rw [hPF] at hfew FM
  have eS : ∀ A c, mgC (sameG p) ⟨A, c, none, 0, none, 0, []⟩ = #[.string p.name, .string p.name, .slice A p.ss.length c, .slice none 0 0, .slice none 0 0] := fun A c => by
    unfold mgC
    show #[Value.string p.name, .string p.name, .slice A (rngI p.ss.length).length c, .slice none 0 0, .slice none 0 0] = _
    rw [rngI_len]
  have HM := Lib.hid hm
  have HG := Lib.hid hg
  clear hPF hE hD hTE hX hm hg hp zm zg zp
  obtain ⟨id, o, cs, pr, st, mv, rs, ls⟩ := m
  obtain ⟨a1, c1, a2, c2, a3, c3, a4, c4, lv⟩ := x
  obtain ⟨fr, tn, gst, grs, gts⟩ := g
  obtain ⟨b1, dq1, b2, dq2, b3, dq3, tv⟩ := z
  obtain ⟨pn, pss, pms⟩ := p
  obtain ⟨ez1, f1, ez2, f2⟩ := y
  obtain ⟨cl, e_cl⟩ : ∃ k, cs.length = k := ⟨_, rfl⟩
  obtain ⟨k2, e_k2⟩ : ∃ k, mv.length = k := ⟨_, rfl⟩
  obtain ⟨N, e_N⟩ : ∃ k, rs.length = k := ⟨_, rfl⟩
  obtain ⟨K, e_K⟩ : ∃ k, ls.length = k := ⟨_, rfl⟩
  obtain ⟨gn, e_gn⟩ : ∃ k, gst.length = k := ⟨_, rfl⟩
  obtain ⟨grl, e_grl⟩ : ∃ k, grs.length = k := ⟨_, rfl⟩
  obtain ⟨J, e_J⟩ : ∃ k, gts.length = k := ⟨_, rfl⟩
  obtain ⟨pl, e_pl⟩ : ∃ k, pss.length = k := ⟨_, rfl⟩
  obtain ⟨pml, e_pml⟩ : ∃ k, pms.length = k := ⟨_, rfl⟩
  have eM : mtC ⟨id, o, cs, pr, st, mv, rs, ls⟩ ⟨a1, c1, a2, c2, a3, c3, a4, c4, lv⟩ = #[.string id, .int .i64 o, .slice a1 cl c1, .string pr, .int .i64 st, .slice a2 k2 c2, .slice a3 N c3, .slice a4 K c4] := by unfold mtC; simp only [e_cl, e_k2, e_N, e_K]
  have eG : mgC ⟨fr, tn, gst, grs, gts⟩ ⟨b1, dq1, b2, dq2, b3, dq3, tv⟩ = #[.string fr, .string tn, .slice b1 gn dq1, .slice b2 grl dq2, .slice b3 J dq3] := by unfold mgC; simp only [e_gn, e_grl, e_J]
  have eP : pcC ⟨pn, pss, pms⟩ ⟨ez1, f1, ez2, f2⟩ = #[.string pn, .slice ez1 pl f1, .slice ez2 pml f2] := by unfold pcC; simp only [e_pl, e_pml]
  simp only at hmg eS hst
  rw [e_pl] at hmg eS
  rw [e_gn, e_pl] at hst
  rw [eM, eG, eP] at hfew
  rw [eP] at hpp
  rw [eM, eP] at hap
  rw [eG] at hth
  rw [eM, eG, eP]
  have FEW := Lib.hid hfew
  have HHD := Lib.hid hhd
  have HPP := Lib.hid hpp
  have HAP := Lib.hid hap
  have HTH := Lib.hid hth
  have HSA := Lib.hid hsa
  have HST := Lib.hid hst
  have HSG := Lib.hid hsg
  have HSD := Lib.hid hsD
  have HSX := Lib.hid hsX
  have HMG := Lib.hid hmg
  have ES := Lib.hid eS
  have EM := Lib.hid eM
  have EG := Lib.hid eG
  have EPL := Lib.hid e_pl
  clear ht eM eG eP hfew hhd hpp hap hth hsa hst hsg hsD hsX hmg eS e_cl e_k2 e_N e_K e_gn e_grl e_J e_pl e_pml
  have hb := ((below_self_alloc w (.cells #[.string id, .int .i64 o, .slice a1 cl c1, .string pr, .int .i64 st, .slice a2 k2 c2, .slice a3 N c3, .slice a4 K c4] 27)).alloc (by simp) (.cells #[.string fr, .string tn, .slice b1 gn dq1, .slice b2 grl dq2, .slice b3 J dq3] 30)).alloc (by simp; omega) (.cells #[.string pn, .slice ez1 pl f1, .slice ez2 pml f2] 34)
  have kb0 := ((Blk.new w 27 #[.string id, .int .i64 o, .slice a1 cl c1, .string pr, .int .i64 st, .slice a2 k2 c2, .slice a3 N c3, .slice a4 K c4]).alloc (.cells #[.string fr, .string tn, .slice b1 gn dq1, .slice b2 grl dq2, .slice b3 J dq3] 30)).alloc (.cells #[.string pn, .slice ez1 pl f1, .slice ez2 pml f2] 34)
  have kb1 := (Blk.new (w.alloc (.cells #[.string id, .int .i64 o, .slice a1 cl c1, .string pr, .int .i64 st, .slice a2 k2 c2, .slice a3 N c3, .slice a4 K c4] 27)) 30 #[.string fr, .string tn, .slice b1 gn dq1, .slice b2 grl dq2, .slice b3 J dq3]).alloc (.cells #[.string pn, .slice ez1 pl f1, .slice ez2 pml f2] 34)
  rw [show ((w.alloc (.cells #[.string id, .int .i64 o, .slice a1 cl c1, .string pr, .int .i64 st, .slice a2 k2 c2, .slice a3 N c3, .slice a4 K c4] 27))).heap.size = w.heap.size + 1 from by simp] at kb1
  have kb2 := Blk.new ((w.alloc (.cells #[.string id, .int .i64 o, .slice a1 cl c1, .string pr, .int .i64 st, .slice a2 k2 c2, .slice a3 N c3, .slice a4 K c4] 27)).alloc (.cells #[.string fr, .string tn, .slice b1 gn dq1, .slice b2 grl dq2, .slice b3 J dq3] 30)) 34 #[.string pn, .slice ez1 pl f1, .slice ez2 pml f2]
  rw [show (((w.alloc (.cells #[.string id, .int .i64 o, .slice a1 cl c1, .string pr, .int .i64 st, .slice a2 k2 c2, .slice a3 N c3, .slice a4 K c4] 27)).alloc (.cells #[.string fr, .string tn, .slice b1 gn dq1, .slice b2 grl dq2, .slice b3 J dq3] 30))).heap.size = w.heap.size + 1 + 1 from by simp] at kb2
  have KB0 := Lib.hid kb0
  have KB1 := Lib.hid kb1
  have KB2 := Lib.hid kb2
  have HB := Lib.hid hb
  clear hb kb0 kb1 kb2
  go_enter Tryz.func9, Tryz.ntmps9
  go_upto_region 1 with fail
  generalize (((w.alloc (.cells #[.string id, .int .i64 o, .slice a1 cl c1, .string pr, .int .i64 st, .slice a2 k2 c2, .slice a3 N c3, .slice a4 K c4] 27)).alloc (.cells #[.string fr, .string tn, .slice b1 gn dq1, .slice b2 grl dq2, .slice b3 J dq3] 30)).alloc (.cells #[.string pn, .slice ez1 pl f1, .slice ez2 pml f2] 34)) = W0 at *
  go_wp2_with fail
  refine (HHD.out W0 HB.out).mono ?_
  rintro e W1 ⟨rfl, bb⟩
  replace HB := Lib.hid (HB.out.trans (bb.mono HB.out.size))
  replace KB0 := Lib.hid (KB0.out.below bb KB0.out.lt)
  replace KB1 := Lib.hid (KB1.out.below bb KB1.out.lt)
  replace KB2 := Lib.hid (KB2.out.below bb KB2.out.lt)
  clear bb
  obtain ⟨t00, t01, t02⟩ := KB0.out.all
  obtain ⟨t10, t11, t12⟩ := KB1.out.all
  obtain ⟨t20, t21, t22⟩ := KB2.out.all
  go_wp2_with fail
  refine (FEW.out W1 HB.out).mono ?_
  rintro e W2 ⟨qf, rfl, hqf, bb⟩
  clear t00 t01 t02 t10 t11 t12 t20 t21 t22
  replace HB := Lib.hid (HB.out.trans (bb.mono HB.out.size))
  replace KB0 := Lib.hid (KB0.out.below bb KB0.out.lt)
  replace KB1 := Lib.hid (KB1.out.below bb KB1.out.lt)
  replace KB2 := Lib.hid (KB2.out.below bb KB2.out.lt)
  clear bb
  obtain ⟨t00, t01, t02⟩ := KB0.out.all
  obtain ⟨t10, t11, t12⟩ := KB1.out.all
  obtain ⟨t20, t21, t22⟩ := KB2.out.all
  cases qf with
  | false =>
    go_wp2
    go_ret
    exact ⟨rfl, HB.out⟩
  | true =>
  obtain ⟨sm, sg, sp⟩ := FM.out (hqf rfl)
  have SM := Lib.hid sm
  have SG := Lib.hid sg
  have SP := Lib.hid sp
  have SS := Lib.hid (HSG.out sp)
  have hpl6 : pl ≤ 1000000 := by have := sp.1; simp only at this; rw [EPL.out] at this; exact this
  clear sm sg sp hqf
  go_wp2_with fail
  refine (HPP.out W2 HB.out SP.out).mono ?_
  rintro e W3 ⟨rfl, bb⟩
  clear t00 t01 t02 t10 t11 t12 t20 t21 t22
  replace HB := Lib.hid (HB.out.trans (bb.mono HB.out.size))
  replace KB0 := Lib.hid (KB0.out.below bb KB0.out.lt)
  replace KB1 := Lib.hid (KB1.out.below bb KB1.out.lt)
  replace KB2 := Lib.hid (KB2.out.below bb KB2.out.lt)
  clear bb
  obtain ⟨t00, t01, t02⟩ := KB0.out.all
  obtain ⟨t10, t11, t12⟩ := KB1.out.all
  obtain ⟨t20, t21, t22⟩ := KB2.out.all
  obtain ⟨pq, hpq⟩ : ∃ r, pcB ⟨pn, pss, pms⟩ = r := ⟨_, rfl⟩
  rw [hpq]
  clear hpq
  cases pq with
  | false =>
    go_wp2
    go_ret
    exact ⟨rfl, HB.out⟩
  | true =>
  go_upto_region 5 with fail
  have ko := Blk.new W3 30 #[.string pn, .string pn, .slice none 0 0, .slice none 0 0, .slice none 0 0]
  have bb := below_self_alloc W3 (.cells #[.string pn, .string pn, .slice none 0 0, .slice none 0 0, .slice none 0 0] 30)
  have hlo := KB2.out.lt
  clear t00 t01 t02 t10 t11 t12 t20 t21 t22
  replace HB := Lib.hid (HB.out.trans (bb.mono HB.out.size))
  replace KB0 := Lib.hid (KB0.out.below bb KB0.out.lt)
  replace KB1 := Lib.hid (KB1.out.below bb KB1.out.lt)
  replace KB2 := Lib.hid (KB2.out.below bb KB2.out.lt)
  have NS : Hid (NoS w (W3.alloc (.cells #[.string pn, .string pn, .slice none 0 0, .slice none 0 0, .slice none 0 0] 30)) #[.string id, .int .i64 o, .slice a1 cl c1, .string pr, .int .i64 st, .slice a2 k2 c2, .slice a3 N c3, .slice a4 K c4] #[.string fr, .string tn, .slice b1 gn dq1, .slice b2 grl dq2, .slice b3 J dq3] #[.string pn, .slice ez1 pl f1, .slice ez2 pml f2] W3.heap.size #[.string pn, .string pn, .slice none 0 0, .slice none 0 0, .slice none 0 0] (.slice none 0 0) 0) := Lib.hid ⟨HB.out, KB0.out, KB1.out, KB2.out, ko, World.ownsRow_nil _ _ _ _, hlo⟩
  clear bb ko hlo HB KB0 KB1 KB2
  generalize W3.alloc (.cells #[.string pn, .string pn, .slice none 0 0, .slice none 0 0, .slice none 0 0] 30) = W4 at *
  generalize W3.heap.size = bo at *
  obtain ⟨i0, hi0, hz0, hz1, hz2⟩ := info_parts Tryz.infoInt
  go_wp2_with fail
  go_loopg [11] pl (fun n i wr => ∃ (k : Nat) (A : Option Addr) (c : Nat), k + n = pl ∧ i = .int .i64 (k : Int) ∧ Hid (NoS w wr #[.string id, .int .i64 o, .slice a1 cl c1, .string pr, .int .i64 st, .slice a2 k2 c2, .slice a3 N c3, .slice a4 K c4] #[.string fr, .string tn, .slice b1 gn dq1, .slice b2 grl dq2, .slice b3 J dq3] #[.string pn, .slice ez1 pl f1, .slice ez2 pml f2] bo #[.string pn, .string pn, .slice A k c, .slice none 0 0, .slice none 0 0] (.slice A k c) k))
  case atStart => exact ⟨0, none, 0, Nat.zero_add _, rfl, NS⟩
  case round =>
    clear NS
    obtain ⟨k, A, c, hk, rfl, NS⟩ := hrel
    obtain ⟨t00, t01, t02⟩ := NS.out.k0.all
    obtain ⟨t10, t11, t12⟩ := NS.out.k1.all
    obtain ⟨t20, t21, t22⟩ := NS.out.k2.all
    obtain ⟨t30, t31, t32⟩ := NS.out.ko.all
    by_cases hlt : k < pl
    · obtain ⟨mm, rfl⟩ : ∃ m, gk = m + 1 := ⟨gk - 1, by omega⟩
      have kn := Blk.new wr 3 #[.int .i64 (k : Int)]
      have NS3 := Lib.hid (NS.out.below (below_self_alloc wr (.cells #[.int .i64 (k : Int)] 3)))
      have own3 := NS3.out.os
      have hba := NS3.out.hb.size
      have hrl := rngI_len k
      clear NS
      go_upto_region 7 with (at_builtin; refine wpList_append_lies _ rfl _ _ 22 rfl w.heap.size 3 i0 _ 1 8 Tryz.underlying22 hi0 hz0 hz1 hz2 rfl (by omega) (.slice A k c) k _ rfl own3 ⟨wr.heap.size, 0, none⟩ 1 1 [.int .i64 (k : Int)] rfl rfl (World.news_of_block kn) (intCells_one [(k : Int)]) (by omega) (by unfold maxLen; omega) (by omega) hba _ rfl ?_; intro gz cz Y own4 gr4 l4 z4; have ns4 := NS3.out.row (k' := k + 1) (by rw [rngI_next, intCells_app]; exact own4) gr4; have NS4 := Lib.hid ns4; obtain ⟨y0, y1', y2'⟩ := ns4.ko.all; clear ns4 own4 gr4 l4 own3 kn)
      have NS5 := Lib.hid (NS4.out.set 2 (.slice (some ⟨gz, 0, none⟩) (k + 1) cz))
      clear NS3 NS4 hba hrl y0 y1' y2'
      go_wp2
      go_roundg mm
      case rel => exact ⟨k + 1, some ⟨gz, 0, none⟩, cz, by omega, by go_num, NS5⟩
      case measure => omega
    · obtain rfl : gk = 0 := by omega
      obtain rfl : k = pl := by omega
      have nb : ¬ (k : Int) < (k : Int) := by omega
      clear hi0 hz0 hz1 hz2 i0 hk hlt
      have hmg := HMG.out wr A c NS.out.hb NS.out.os
      have hc := HAP.out wr NS.out.hb _ hmg SM.out SS.out SP.out
      rw [ES.out] at hc
      have HC := Lib.hid hc
      clear hc hmg
      go_wp2_with fail
      refine HC.out.mono ?_
      rintro e W5 ⟨⟨x1, y1, x2, y2, x3, y3, x4, y4, xlv⟩, he, hat, bb⟩
      obtain ⟨xid, xo, xcs, xpr, xst, xmv, xrs, xls⟩ := D
      obtain ⟨xcl, e1⟩ : ∃ k, xcs.length = k := ⟨_, rfl⟩
      obtain ⟨xk, e2⟩ : ∃ k, xmv.length = k := ⟨_, rfl⟩
      obtain ⟨xN, e3⟩ : ∃ k, xrs.length = k := ⟨_, rfl⟩
      obtain ⟨xK, e4⟩ : ∃ k, xls.length = k := ⟨_, rfl⟩
      have eA : mtC ⟨xid, xo, xcs, xpr, xst, xmv, xrs, xls⟩ ⟨x1, y1, x2, y2, x3, y3, x4, y4, xlv⟩ = #[.string xid, .int .i64 xo, .slice x1 xcl y1, .string xpr, .int .i64 xst, .slice x2 xk y2, .slice x3 xN y3, .slice x4 xK y4] := by unfold mtC; simp only [e1, e2, e3, e4]
      rw [eA] at he
      subst he
      have HAT := Lib.hid hat
      have EA := Lib.hid eA
      clear eA hat e1 e2 e3 e4 HC nb t00 t01 t02 t10 t11 t12 t20 t21 t22 t30 t31 t32
      replace NS := Lib.hid (NS.out.below bb)
      clear bb
      go_upto_region 10 with fail
      have kx := Blk.new W5 27 #[.string xid, .int .i64 xo, .slice x1 xcl y1, .string xpr, .int .i64 xst, .slice x2 xk y2, .slice x3 xN y3, .slice x4 xK y4]
      have bb := below_self_alloc W5 (.cells #[.string xid, .int .i64 xo, .slice x1 xcl y1, .string xpr, .int .i64 xst, .slice x2 xk y2, .slice x3 xN y3, .slice x4 xK y4] 27)
      replace NS := Lib.hid (NS.out.below bb)
      replace HAT := Lib.hid (HAT.out.below bb)
      have BA := Lib.hid bb.size
      have KX := Lib.hid kx
      clear bb kx
      generalize W5.alloc (.cells #[.string xid, .int .i64 xo, .slice x1 xcl y1, .string xpr, .int .i64 xst, .slice x2 xk y2, .slice x3 xN y3, .slice x4 xK y4] 27) = W6 at *
      generalize W5.heap.size = ba at *
      obtain ⟨t00, t01, t02⟩ := NS.out.k0.all
      obtain ⟨t10, t11, t12⟩ := NS.out.k1.all
      obtain ⟨t20, t21, t22⟩ := NS.out.k2.all
      obtain ⟨t30, t31, t32⟩ := NS.out.ko.all
      obtain ⟨x00, x01, x02⟩ := KX.out.all
      rcases HSA.out with ⟨h0, hd⟩ | h0 | h0
      · subst h0
        have hsm := rsame_any W6 W6.heap.size _ _ _ _ (HAT.out.wide BA.out) ((HM.out.below NS.out.hb).wide NS.out.hb.size) (Nat.le_refl _) (HSD.out SM.out) SM.out true ⟨fun _ => hd, fun _ => rfl⟩
        rw [EA.out, EM.out] at hsm
        have HSM := Lib.hid hsm
        clear hd hsm
        go_wp2_with fail
        refine HSM.out.mono ?_
        rintro e W7 ⟨rfl, bb⟩
        clear HSM x00 x01 x02
        clear t00 t01 t02 t10 t11 t12 t20 t21 t22 t30 t31 t32
        replace NS := Lib.hid (NS.out.below bb)
        clear bb
        go_upto_region 12 with fail
        have hmg := HMG.out W7 A c NS.out.hb NS.out.os
        have hc := HTH.out W7 NS.out.hb _ hmg SS.out SG.out
        rw [ES.out] at hc
        have HC := Lib.hid hc
        clear hc hmg
        obtain ⟨t00, t01, t02⟩ := NS.out.k0.all
        obtain ⟨t10, t11, t12⟩ := NS.out.k1.all
        obtain ⟨t20, t21, t22⟩ := NS.out.k2.all
        obtain ⟨t30, t31, t32⟩ := NS.out.ko.all
        go_wp2_with fail
        refine HC.out.mono ?_
        rintro e W8 ⟨⟨v1, vq1, v2, vq2, v3, vq3, vtv⟩, he, hat, bb⟩
        obtain ⟨xfr, xtn, vst, vrs, vts⟩ := X
        obtain ⟨vn, e1⟩ : ∃ k, vst.length = k := ⟨_, rfl⟩
        obtain ⟨vrl, e2⟩ : ∃ k, vrs.length = k := ⟨_, rfl⟩
        obtain ⟨vJ, e3⟩ : ∃ k, vts.length = k := ⟨_, rfl⟩
        have eX : mgC ⟨xfr, xtn, vst, vrs, vts⟩ ⟨v1, vq1, v2, vq2, v3, vq3, vtv⟩ = #[.string xfr, .string xtn, .slice v1 vn vq1, .slice v2 vrl vq2, .slice v3 vJ vq3] := by unfold mgC; simp only [e1, e2, e3]
        rw [eX] at he
        subst he
        have HX := Lib.hid hat
        have EX := Lib.hid eX
        clear eX hat e1 e2 e3 HC
        clear t00 t01 t02 t10 t11 t12 t20 t21 t22 t30 t31 t32
        replace NS := Lib.hid (NS.out.below bb)
        clear bb
        go_upto_region 13 with fail
        have kx := Blk.new W8 30 #[.string xfr, .string xtn, .slice v1 vn vq1, .slice v2 vrl vq2, .slice v3 vJ vq3]
        have bb := below_self_alloc W8 (.cells #[.string xfr, .string xtn, .slice v1 vn vq1, .slice v2 vrl vq2, .slice v3 vJ vq3] 30)
        replace NS := Lib.hid (NS.out.below bb)
        replace HX := Lib.hid (HX.out.below bb)
        have BX := Lib.hid bb.size
        have KY := Lib.hid kx
        clear bb kx
        generalize W8.alloc (.cells #[.string xfr, .string xtn, .slice v1 vn vq1, .slice v2 vrl vq2, .slice v3 vJ vq3] 30) = W9 at *
        generalize W8.heap.size = bx at *
        obtain ⟨t00, t01, t02⟩ := NS.out.k0.all
        obtain ⟨t10, t11, t12⟩ := NS.out.k1.all
        obtain ⟨t20, t21, t22⟩ := NS.out.k2.all
        obtain ⟨t30, t31, t32⟩ := NS.out.ko.all
        obtain ⟨u00, u01, u02⟩ := KY.out.all
        by_cases hTE : TE = 0
        case neg =>
          go_wp2
          go_ret
          exact ⟨rfl, NS.out.hb⟩
        subst hTE
        by_cases hgp : gn = k
        case neg =>
          have g1 : ((gn : Int) != (k : Int)) = true := by simp; omega
          have g2 : ¬ (gn : Int) = (k : Int) := by omega
          go_wp2
          go_ret
          exact ⟨rfl, NS.out.hb⟩
        subst hgp
        have hsm := rsameG_any W9 W9.heap.size _ _ _ _ (HX.out.wide BX.out) ((HG.out.below NS.out.hb).wide NS.out.hb.size) (Nat.le_refl _) (HSX.out SS.out) SG.out true ⟨fun _ => HST.out rfl rfl, fun _ => rfl⟩
        rw [EX.out, EG.out] at hsm
        have HSM := Lib.hid hsm
        clear hsm
        go_wp2_with fail
        refine HSM.out.mono ?_
        rintro e W10 ⟨rfl, bb⟩
        go_wp2
        go_ret
        exact ⟨rfl, NS.out.hb.trans (bb.mono NS.out.hb.size)⟩
      · subst h0
        go_upto_region 12 with fail
        clear x00 x01 x02
        clear t00 t01 t02 t10 t11 t12 t20 t21 t22 t30 t31 t32
        obtain ⟨W7, rfl⟩ : ∃ q, q = W6 := ⟨W6, rfl⟩
        have hmg := HMG.out W7 A c NS.out.hb NS.out.os
        have hc := HTH.out W7 NS.out.hb _ hmg SS.out SG.out
        rw [ES.out] at hc
        have HC := Lib.hid hc
        clear hc hmg
        obtain ⟨t00, t01, t02⟩ := NS.out.k0.all
        obtain ⟨t10, t11, t12⟩ := NS.out.k1.all
        obtain ⟨t20, t21, t22⟩ := NS.out.k2.all
        obtain ⟨t30, t31, t32⟩ := NS.out.ko.all
        go_wp2_with fail
        refine HC.out.mono ?_
        rintro e W8 ⟨⟨v1, vq1, v2, vq2, v3, vq3, vtv⟩, he, hat, bb⟩
        obtain ⟨xfr, xtn, vst, vrs, vts⟩ := X
        obtain ⟨vn, e1⟩ : ∃ k, vst.length = k := ⟨_, rfl⟩
        obtain ⟨vrl, e2⟩ : ∃ k, vrs.length = k := ⟨_, rfl⟩
        obtain ⟨vJ, e3⟩ : ∃ k, vts.length = k := ⟨_, rfl⟩
        have eX : mgC ⟨xfr, xtn, vst, vrs, vts⟩ ⟨v1, vq1, v2, vq2, v3, vq3, vtv⟩ = #[.string xfr, .string xtn, .slice v1 vn vq1, .slice v2 vrl vq2, .slice v3 vJ vq3] := by unfold mgC; simp only [e1, e2, e3]
        rw [eX] at he
        subst he
        have HX := Lib.hid hat
        have EX := Lib.hid eX
        clear eX hat e1 e2 e3 HC
        clear t00 t01 t02 t10 t11 t12 t20 t21 t22 t30 t31 t32
        replace NS := Lib.hid (NS.out.below bb)
        clear bb
        go_upto_region 13 with fail
        have kx := Blk.new W8 30 #[.string xfr, .string xtn, .slice v1 vn vq1, .slice v2 vrl vq2, .slice v3 vJ vq3]
        have bb := below_self_alloc W8 (.cells #[.string xfr, .string xtn, .slice v1 vn vq1, .slice v2 vrl vq2, .slice v3 vJ vq3] 30)
        replace NS := Lib.hid (NS.out.below bb)
        replace HX := Lib.hid (HX.out.below bb)
        have BX := Lib.hid bb.size
        have KY := Lib.hid kx
        clear bb kx
        generalize W8.alloc (.cells #[.string xfr, .string xtn, .slice v1 vn vq1, .slice v2 vrl vq2, .slice v3 vJ vq3] 30) = W9 at *
        generalize W8.heap.size = bx at *
        obtain ⟨t00, t01, t02⟩ := NS.out.k0.all
        obtain ⟨t10, t11, t12⟩ := NS.out.k1.all
        obtain ⟨t20, t21, t22⟩ := NS.out.k2.all
        obtain ⟨t30, t31, t32⟩ := NS.out.ko.all
        obtain ⟨u00, u01, u02⟩ := KY.out.all
        by_cases hTE : TE = 0
        case neg =>
          go_wp2
          go_ret
          exact ⟨rfl, NS.out.hb⟩
        subst hTE
        by_cases hgp : gn = k
        case neg =>
          have g1 : ((gn : Int) != (k : Int)) = true := by simp; omega
          have g2 : ¬ (gn : Int) = (k : Int) := by omega
          go_wp2
          go_ret
          exact ⟨rfl, NS.out.hb⟩
        subst hgp
        have hsm := rsameG_any W9 W9.heap.size _ _ _ _ (HX.out.wide BX.out) ((HG.out.below NS.out.hb).wide NS.out.hb.size) (Nat.le_refl _) (HSX.out SS.out) SG.out true ⟨fun _ => HST.out rfl rfl, fun _ => rfl⟩
        rw [EX.out, EG.out] at hsm
        have HSM := Lib.hid hsm
        clear hsm
        go_wp2_with fail
        refine HSM.out.mono ?_
        rintro e W10 ⟨rfl, bb⟩
        go_wp2
        go_ret
        exact ⟨rfl, NS.out.hb.trans (bb.mono NS.out.hb.size)⟩
      · subst h0
        go_upto_region 12 with fail
        clear x00 x01 x02
        clear t00 t01 t02 t10 t11 t12 t20 t21 t22 t30 t31 t32
        obtain ⟨W7, rfl⟩ : ∃ q, q = W6 := ⟨W6, rfl⟩
        have hmg := HMG.out W7 A c NS.out.hb NS.out.os
        have hc := HTH.out W7 NS.out.hb _ hmg SS.out SG.out
        rw [ES.out] at hc
        have HC := Lib.hid hc
        clear hc hmg
        obtain ⟨t00, t01, t02⟩ := NS.out.k0.all
        obtain ⟨t10, t11, t12⟩ := NS.out.k1.all
        obtain ⟨t20, t21, t22⟩ := NS.out.k2.all
        obtain ⟨t30, t31, t32⟩ := NS.out.ko.all
        go_wp2_with fail
        refine HC.out.mono ?_
        rintro e W8 ⟨⟨v1, vq1, v2, vq2, v3, vq3, vtv⟩, he, hat, bb⟩
        obtain ⟨xfr, xtn, vst, vrs, vts⟩ := X
        obtain ⟨vn, e1⟩ : ∃ k, vst.length = k := ⟨_, rfl⟩
        obtain ⟨vrl, e2⟩ : ∃ k, vrs.length = k := ⟨_, rfl⟩
        obtain ⟨vJ, e3⟩ : ∃ k, vts.length = k := ⟨_, rfl⟩
        have eX : mgC ⟨xfr, xtn, vst, vrs, vts⟩ ⟨v1, vq1, v2, vq2, v3, vq3, vtv⟩ = #[.string xfr, .string xtn, .slice v1 vn vq1, .slice v2 vrl vq2, .slice v3 vJ vq3] := by unfold mgC; simp only [e1, e2, e3]
        rw [eX] at he
        subst he
        have HX := Lib.hid hat
        have EX := Lib.hid eX
        clear eX hat e1 e2 e3 HC
        clear t00 t01 t02 t10 t11 t12 t20 t21 t22 t30 t31 t32
        replace NS := Lib.hid (NS.out.below bb)
        clear bb
        go_upto_region 13 with fail
        have kx := Blk.new W8 30 #[.string xfr, .string xtn, .slice v1 vn vq1, .slice v2 vrl vq2, .slice v3 vJ vq3]
        have bb := below_self_alloc W8 (.cells #[.string xfr, .string xtn, .slice v1 vn vq1, .slice v2 vrl vq2, .slice v3 vJ vq3] 30)
        replace NS := Lib.hid (NS.out.below bb)
        replace HX := Lib.hid (HX.out.below bb)
        have BX := Lib.hid bb.size
        have KY := Lib.hid kx
        clear bb kx
        generalize W8.alloc (.cells #[.string xfr, .string xtn, .slice v1 vn vq1, .slice v2 vrl vq2, .slice v3 vJ vq3] 30) = W9 at *
        generalize W8.heap.size = bx at *
        obtain ⟨t00, t01, t02⟩ := NS.out.k0.all
        obtain ⟨t10, t11, t12⟩ := NS.out.k1.all
        obtain ⟨t20, t21, t22⟩ := NS.out.k2.all
        obtain ⟨t30, t31, t32⟩ := NS.out.ko.all
        obtain ⟨u00, u01, u02⟩ := KY.out.all
        by_cases hTE : TE = 0
        case neg =>
          go_wp2
          go_ret
          exact ⟨rfl, NS.out.hb⟩
        subst hTE
        by_cases hgp : gn = k
        case neg =>
          have g1 : ((gn : Int) != (k : Int)) = true := by simp; omega
          have g2 : ¬ (gn : Int) = (k : Int) := by omega
          go_wp2
          go_ret
          exact ⟨rfl, NS.out.hb⟩
        subst hgp
        have hsm := rsameG_any W9 W9.heap.size _ _ _ _ (HX.out.wide BX.out) ((HG.out.below NS.out.hb).wide NS.out.hb.size) (Nat.le_refl _) (HSX.out SS.out) SG.out true ⟨fun _ => HST.out rfl rfl, fun _ => rfl⟩
        rw [EX.out, EG.out] at hsm
        have HSM := Lib.hid hsm
        clear hsm
        go_wp2_with fail
        refine HSM.out.mono ?_
        rintro e W10 ⟨rfl, bb⟩
        go_wp2
        go_ret
        exact ⟨rfl, NS.out.hb.trans (bb.mono NS.out.hb.size)⟩

end Go.Proofs.YtknchlpcpgflkaaGreatDoor
