/- What Apply and Then return is of a size like what they were given. The reference's Same, of two matters. MigrateChains. -/
import Derived.Test.YtknchlpcpgflkaaGreatDoorKQA
import Derived.Test.YtknchlpcpgflkaaGreatDoorKGBP
import Derived.Test.YtknchlpcpgflkaaGreatDoorKPlan
import Derived.Deep.LoopGhost
import Derived.Test.YtknchlpcpgflkaaGreatDoorKNd
import Derived.Test.YtknchlpcpgflkaaGreatDoorKGBB
import Derived.Test.YtknchlpcpgflkaaGreatDoorKGBT
import Derived.Test.YtknchlpcpgflkaaGreatDoorKWv
import Derived.Test.YtknchlpcpgflkaaGreatDoorKGBW
namespace Go.Proofs.YtknchlpcpgflkaaGreatDoor
open Go.RowKit Go.Shelf

theorem apply_sml {m : Mt} {g : Mg} {p q : Pc} {day : Int} {l : List Int} (h : Sml m) : Sml (applyM m g p q day l) := by
  by_cases h0 : applyE m g p q day l = 0
  · obtain ⟨-, -, -, -, -, he⟩ := apply_ok h0
    rw [he]
    refine ⟨h.1, h.2.1, Nat.le_trans (mergeR_len _ _) h.2.2.1, ?_⟩
    show (chgL g.ts day l m.ls).length ≤ _
    unfold chgL
    rw [List.length_map]
    exact h.2.2.2
  · rw [apply_no h0]
    exact ⟨Nat.zero_le _, Nat.zero_le _, Nat.zero_le _, Nat.zero_le _⟩
theorem then_sml {a b : Mg} (h : SmlG a) : SmlG (thenM a b) := by
  by_cases h0 : thenE a b = 0
  · obtain ⟨he, -, -, -, -, -, h1, h2⟩ := then_ok h0
    rw [he]
    refine ⟨?_, Nat.le_trans h1 (by decide), Nat.le_trans h2 (by decide)⟩
    show (a.st.map (thenSt b)).length ≤ _
    rw [List.length_map]
    exact h.1
  · rw [show thenM a b = Mg.zero from if_neg h0]
    exact ⟨Nat.zero_le _, Nat.zero_le _, Nat.zero_le _⟩
end Go.Proofs.YtknchlpcpgflkaaGreatDoor

namespace Go.Proofs.YtknchlpcpgflkaaGreatDoor
open Go.RowKit Go.Shelf

set_option maxHeartbeats 8000000 in
set_option maxRecDepth 100000 in
theorem rsame_any (w : World) (B : Nat) (m n : Mt) (x y : MtX) (hm : MtAt w B m x) (hn : MtAt w B n y) (hB : B ≤ w.heap.size) (hs : Sml m) (hs2 : Sml n) (q : Bool) (hq : q = true ↔ m = n) :
    Calls Tryz.prog 27 #[.agg (mtC m x), .agg (mtC n y)] w fun e w' => e = .returned (.bool q) ∧ Below w.heap.size w w' := by
  have HM := Lib.hid hm
  have HN := Lib.hid hn
  have HS := Lib.hid hs
  have HS2 := Lib.hid hs2
  obtain ⟨id, o, cs, pr, st, mv, rs, ls⟩ := m
  obtain ⟨id2, o2, cs2, pr2, st2, mv2, rs2, ls2⟩ := n
  obtain ⟨a1, c1, a2, c2, a3, c3, a4, c4, lv⟩ := x
  obtain ⟨b1, e1, b2, e2, b3, e3, b4, e4, lv2⟩ := y
  have hno : ¬ ((⟨id, o, cs, pr, st, mv, rs, ls⟩ : Mt) = ⟨id2, o2, cs2, pr2, st2, mv2, rs2, ls2⟩) → q = false := fun h => by cases q with | false => rfl | true => exact absurd (hq.1 rfl) h
  have HNO := Lib.hid hno
  have HQ := Lib.hid hq
  have hll := hm.len
  have hll2 := hn.len
  simp only at hll hll2
  obtain ⟨nc, h1⟩ : ∃ k, cs.length = k := ⟨_, rfl⟩
  obtain ⟨nm, h2⟩ : ∃ k, mv.length = k := ⟨_, rfl⟩
  obtain ⟨nr, h3⟩ : ∃ k, rs.length = k := ⟨_, rfl⟩
  obtain ⟨nl, h4⟩ : ∃ k, ls.length = k := ⟨_, rfl⟩
  obtain ⟨nc2, g1⟩ : ∃ k, cs2.length = k := ⟨_, rfl⟩
  obtain ⟨nm2, g2⟩ : ∃ k, mv2.length = k := ⟨_, rfl⟩
  obtain ⟨nr2, g3⟩ : ∃ k, rs2.length = k := ⟨_, rfl⟩
  obtain ⟨nl2, g4⟩ : ∃ k, ls2.length = k := ⟨_, rfl⟩
  obtain ⟨z1, z2, z3, z4⟩ := hs
  obtain ⟨y1, y2, y3, y4⟩ := hs2
  simp only at z1 z2 z3 z4 y1 y2 y3 y4
  rw [h1] at z1
  rw [h2] at z2
  rw [h3] at z3
  rw [h4] at z4
  rw [g1] at y1
  rw [g2] at y2
  rw [g3] at y3
  rw [g4] at y4
  have hgo : Calls Tryz.prog 27 #[.agg #[.string id, .int .i64 o, .slice a1 nc c1, .string pr, .int .i64 st, .slice a2 nm c2, .slice a3 nr c3, .slice a4 nl c4], .agg #[.string id2, .int .i64 o2, .slice b1 nc2 e1, .string pr2, .int .i64 st2, .slice b2 nm2 e2, .slice b3 nr2 e3, .slice b4 nl2 e4]] w fun e w' => e = .returned (.bool q) ∧ Below w.heap.size w w' := by
    have HV1 := Lib.hid h1
    have HV2 := Lib.hid h2
    have HV3 := Lib.hid h3
    have HV4 := Lib.hid h4
    have HU1 := Lib.hid g1
    have HU2 := Lib.hid g2
    have HU3 := Lib.hid g3
    have HU4 := Lib.hid g4
    have HLL := Lib.hid (hll.trans h4)
    have HLL2 := Lib.hid (hll2.trans g4)
    have HBB := Lib.hid hB
    clear hm hn hq hno h1 h2 h3 h4 g1 g2 g3 g4 hll hll2 HS HS2 hB
    by_cases q1 : id = id2
    case neg =>
      obtain rfl : false = q := (HNO.out fun e => q1 (by injection e)).symm
      have d : (id.toList == id2.toList) = false := by
        rw [beq_eq_false_iff_ne]
        intro e
        rw [Lib.toList_data, Lib.toList_data] at e
        exact q1 (ByteArray.ext (Array.toList_inj.1 e))
      clear HM HN HQ HNO
      have hb := (below_self_alloc w (.cells #[.string id, .int .i64 o, .slice a1 nc c1, .string pr, .int .i64 st, .slice a2 nm c2, .slice a3 nr c3, .slice a4 nl c4] 27)).alloc (by simp) (.cells #[.string id2, .int .i64 o2, .slice b1 nc2 e1, .string pr2, .int .i64 st2, .slice b2 nm2 e2, .slice b3 nr2 e3, .slice b4 nl2 e4] 27)
      have k0 := (Blk.new w 27 #[.string id, .int .i64 o, .slice a1 nc c1, .string pr, .int .i64 st, .slice a2 nm c2, .slice a3 nr c3, .slice a4 nl c4]).alloc (.cells #[.string id2, .int .i64 o2, .slice b1 nc2 e1, .string pr2, .int .i64 st2, .slice b2 nm2 e2, .slice b3 nr2 e3, .slice b4 nl2 e4] 27)
      have k1 := Blk.new1 w (.cells #[.string id, .int .i64 o, .slice a1 nc c1, .string pr, .int .i64 st, .slice a2 nm c2, .slice a3 nr c3, .slice a4 nl c4] 27) 27 #[.string id2, .int .i64 o2, .slice b1 nc2 e1, .string pr2, .int .i64 st2, .slice b2 nm2 e2, .slice b3 nr2 e3, .slice b4 nl2 e4]
      obtain ⟨t0, t1, -⟩ := k0.all
      obtain ⟨s0, s1, -⟩ := k1.all
      go_enter Tryz.func27, Tryz.ntmps27
      go_wp2
      go_ret
      exact ⟨rfl, hb⟩
    case pos =>
      subst q1
      by_cases q2 : o = o2
      case neg =>
        obtain rfl : false = q := (HNO.out fun e => q2 (by injection e)).symm
        have d : (o == o2) = false := by simp [q2]
        clear HM HN HQ HNO
        have hb := (below_self_alloc w (.cells #[.string id, .int .i64 o, .slice a1 nc c1, .string pr, .int .i64 st, .slice a2 nm c2, .slice a3 nr c3, .slice a4 nl c4] 27)).alloc (by simp) (.cells #[.string id, .int .i64 o2, .slice b1 nc2 e1, .string pr2, .int .i64 st2, .slice b2 nm2 e2, .slice b3 nr2 e3, .slice b4 nl2 e4] 27)
        have k0 := (Blk.new w 27 #[.string id, .int .i64 o, .slice a1 nc c1, .string pr, .int .i64 st, .slice a2 nm c2, .slice a3 nr c3, .slice a4 nl c4]).alloc (.cells #[.string id, .int .i64 o2, .slice b1 nc2 e1, .string pr2, .int .i64 st2, .slice b2 nm2 e2, .slice b3 nr2 e3, .slice b4 nl2 e4] 27)
        have k1 := Blk.new1 w (.cells #[.string id, .int .i64 o, .slice a1 nc c1, .string pr, .int .i64 st, .slice a2 nm c2, .slice a3 nr c3, .slice a4 nl c4] 27) 27 #[.string id, .int .i64 o2, .slice b1 nc2 e1, .string pr2, .int .i64 st2, .slice b2 nm2 e2, .slice b3 nr2 e3, .slice b4 nl2 e4]
        obtain ⟨t0, t1, -⟩ := k0.all
        obtain ⟨s0, s1, -⟩ := k1.all
        go_enter Tryz.func27, Tryz.ntmps27
        go_wp2
        go_ret
        exact ⟨rfl, hb⟩
      case pos =>
        subst q2
        by_cases q3 : pr = pr2
        case neg =>
          obtain rfl : false = q := (HNO.out fun e => q3 (by injection e)).symm
          have d : (pr.toList == pr2.toList) = false := by
            rw [beq_eq_false_iff_ne]
            intro e
            rw [Lib.toList_data, Lib.toList_data] at e
            exact q3 (ByteArray.ext (Array.toList_inj.1 e))
          clear HM HN HQ HNO
          have hb := (below_self_alloc w (.cells #[.string id, .int .i64 o, .slice a1 nc c1, .string pr, .int .i64 st, .slice a2 nm c2, .slice a3 nr c3, .slice a4 nl c4] 27)).alloc (by simp) (.cells #[.string id, .int .i64 o, .slice b1 nc2 e1, .string pr2, .int .i64 st2, .slice b2 nm2 e2, .slice b3 nr2 e3, .slice b4 nl2 e4] 27)
          have k0 := (Blk.new w 27 #[.string id, .int .i64 o, .slice a1 nc c1, .string pr, .int .i64 st, .slice a2 nm c2, .slice a3 nr c3, .slice a4 nl c4]).alloc (.cells #[.string id, .int .i64 o, .slice b1 nc2 e1, .string pr2, .int .i64 st2, .slice b2 nm2 e2, .slice b3 nr2 e3, .slice b4 nl2 e4] 27)
          have k1 := Blk.new1 w (.cells #[.string id, .int .i64 o, .slice a1 nc c1, .string pr, .int .i64 st, .slice a2 nm c2, .slice a3 nr c3, .slice a4 nl c4] 27) 27 #[.string id, .int .i64 o, .slice b1 nc2 e1, .string pr2, .int .i64 st2, .slice b2 nm2 e2, .slice b3 nr2 e3, .slice b4 nl2 e4]
          obtain ⟨t0, t1, -⟩ := k0.all
          obtain ⟨s0, s1, -⟩ := k1.all
          go_enter Tryz.func27, Tryz.ntmps27
          go_wp2
          go_ret
          exact ⟨rfl, hb⟩
        case pos =>
          subst q3
          by_cases q4 : st = st2
          case neg =>
            obtain rfl : false = q := (HNO.out fun e => q4 (by injection e)).symm
            have d : (st == st2) = false := by simp [q4]
            clear HM HN HQ HNO
            have hb := (below_self_alloc w (.cells #[.string id, .int .i64 o, .slice a1 nc c1, .string pr, .int .i64 st, .slice a2 nm c2, .slice a3 nr c3, .slice a4 nl c4] 27)).alloc (by simp) (.cells #[.string id, .int .i64 o, .slice b1 nc2 e1, .string pr, .int .i64 st2, .slice b2 nm2 e2, .slice b3 nr2 e3, .slice b4 nl2 e4] 27)
            have k0 := (Blk.new w 27 #[.string id, .int .i64 o, .slice a1 nc c1, .string pr, .int .i64 st, .slice a2 nm c2, .slice a3 nr c3, .slice a4 nl c4]).alloc (.cells #[.string id, .int .i64 o, .slice b1 nc2 e1, .string pr, .int .i64 st2, .slice b2 nm2 e2, .slice b3 nr2 e3, .slice b4 nl2 e4] 27)
            have k1 := Blk.new1 w (.cells #[.string id, .int .i64 o, .slice a1 nc c1, .string pr, .int .i64 st, .slice a2 nm c2, .slice a3 nr c3, .slice a4 nl c4] 27) 27 #[.string id, .int .i64 o, .slice b1 nc2 e1, .string pr, .int .i64 st2, .slice b2 nm2 e2, .slice b3 nr2 e3, .slice b4 nl2 e4]
            obtain ⟨t0, t1, -⟩ := k0.all
            obtain ⟨s0, s1, -⟩ := k1.all
            go_enter Tryz.func27, Tryz.ntmps27
            go_wp2
            go_ret
            exact ⟨rfl, hb⟩
          case pos =>
            subst q4
            by_cases q5 : cs = cs2
            case neg =>
              obtain rfl : false = q := (HNO.out fun e => q5 (by injection e)).symm
              have hb := (below_self_alloc w (.cells #[.string id, .int .i64 o, .slice a1 nc c1, .string pr, .int .i64 st, .slice a2 nm c2, .slice a3 nr c3, .slice a4 nl c4] 27)).alloc (by simp) (.cells #[.string id, .int .i64 o, .slice b1 nc2 e1, .string pr, .int .i64 st, .slice b2 nm2 e2, .slice b3 nr2 e3, .slice b4 nl2 e4] 27)
              have k0 := (Blk.new w 27 #[.string id, .int .i64 o, .slice a1 nc c1, .string pr, .int .i64 st, .slice a2 nm c2, .slice a3 nr c3, .slice a4 nl c4]).alloc (.cells #[.string id, .int .i64 o, .slice b1 nc2 e1, .string pr, .int .i64 st, .slice b2 nm2 e2, .slice b3 nr2 e3, .slice b4 nl2 e4] 27)
              have k1 := Blk.new1 w (.cells #[.string id, .int .i64 o, .slice a1 nc c1, .string pr, .int .i64 st, .slice a2 nm c2, .slice a3 nr c3, .slice a4 nl c4] 27) 27 #[.string id, .int .i64 o, .slice b1 nc2 e1, .string pr, .int .i64 st, .slice b2 nm2 e2, .slice b3 nr2 e3, .slice b4 nl2 e4]
              obtain ⟨t0, t1, -⟩ := k0.all
              obtain ⟨s0, s1, -⟩ := k1.all
              have r1 := fun (Q : Bool) (hQ : Q = true ↔ cs = cs2) W (hW : Below w.heap.size w W) => rints_any W W.heap.size a1 b1 cs cs2 c1 e1 ((HM.out.cs.below (hW.mono HBB.out)).wide (Nat.le_trans HBB.out hW.size)) ((HN.out.cs.below (hW.mono HBB.out)).wide (Nat.le_trans HBB.out hW.size)) (by rw [HV1.out]; omega) (by rw [HU1.out]; omega) Q hQ
              have r2 := fun (Q : Bool) (hQ : Q = true ↔ mv = mv2) W (hW : Below w.heap.size w W) => rints_any W W.heap.size a2 b2 mv mv2 c2 e2 ((HM.out.mv.below (hW.mono HBB.out)).wide (Nat.le_trans HBB.out hW.size)) ((HN.out.mv.below (hW.mono HBB.out)).wide (Nat.le_trans HBB.out hW.size)) (by rw [HV2.out]; omega) (by rw [HU2.out]; omega) Q hQ
              rw [HV1.out, HU1.out] at r1
              rw [HV2.out, HU2.out] at r2
              have R1 := Lib.hid r1
              have R2 := Lib.hid r2
              clear r1 r2
              go_enter Tryz.func27, Tryz.ntmps27
              go_upto_region 1 with fail
              generalize (w.alloc (.cells #[.string id, .int .i64 o, .slice a1 nc c1, .string pr, .int .i64 st, .slice a2 nm c2, .slice a3 nr c3, .slice a4 nl c4] 27)).alloc (.cells #[.string id, .int .i64 o, .slice b1 nc2 e1, .string pr, .int .i64 st, .slice b2 nm2 e2, .slice b3 nr2 e3, .slice b4 nl2 e4] 27) = W0 at *
              have HB0 := Lib.hid hb
              have hc := R1.out false (by simp [q5]) W0 hb
              have HC := Lib.hid hc
              clear hc
              go_wp2_with fail
              refine HC.out.mono ?_
              rintro e W1 ⟨rfl, x1⟩
              have hb1 := HB0.out.trans (x1.mono HB0.out.size)
              have m0 := k0.below x1 k0.lt
              have m1 := k1.below x1 k1.lt
              clear x1 t0 t1 s0 s1 k0 k1 HC HB0 hb
              obtain ⟨t0, t1, -⟩ := m0.all
              obtain ⟨s0, s1, -⟩ := m1.all
              go_wp2
              go_ret
              exact ⟨rfl, hb1⟩
            case pos =>
              by_cases q6 : mv = mv2
              case neg =>
                obtain rfl : false = q := (HNO.out fun e => q6 (by injection e)).symm
                have hb := (below_self_alloc w (.cells #[.string id, .int .i64 o, .slice a1 nc c1, .string pr, .int .i64 st, .slice a2 nm c2, .slice a3 nr c3, .slice a4 nl c4] 27)).alloc (by simp) (.cells #[.string id, .int .i64 o, .slice b1 nc2 e1, .string pr, .int .i64 st, .slice b2 nm2 e2, .slice b3 nr2 e3, .slice b4 nl2 e4] 27)
                have k0 := (Blk.new w 27 #[.string id, .int .i64 o, .slice a1 nc c1, .string pr, .int .i64 st, .slice a2 nm c2, .slice a3 nr c3, .slice a4 nl c4]).alloc (.cells #[.string id, .int .i64 o, .slice b1 nc2 e1, .string pr, .int .i64 st, .slice b2 nm2 e2, .slice b3 nr2 e3, .slice b4 nl2 e4] 27)
                have k1 := Blk.new1 w (.cells #[.string id, .int .i64 o, .slice a1 nc c1, .string pr, .int .i64 st, .slice a2 nm c2, .slice a3 nr c3, .slice a4 nl c4] 27) 27 #[.string id, .int .i64 o, .slice b1 nc2 e1, .string pr, .int .i64 st, .slice b2 nm2 e2, .slice b3 nr2 e3, .slice b4 nl2 e4]
                obtain ⟨t0, t1, -⟩ := k0.all
                obtain ⟨s0, s1, -⟩ := k1.all
                have r1 := fun (Q : Bool) (hQ : Q = true ↔ cs = cs2) W (hW : Below w.heap.size w W) => rints_any W W.heap.size a1 b1 cs cs2 c1 e1 ((HM.out.cs.below (hW.mono HBB.out)).wide (Nat.le_trans HBB.out hW.size)) ((HN.out.cs.below (hW.mono HBB.out)).wide (Nat.le_trans HBB.out hW.size)) (by rw [HV1.out]; omega) (by rw [HU1.out]; omega) Q hQ
                have r2 := fun (Q : Bool) (hQ : Q = true ↔ mv = mv2) W (hW : Below w.heap.size w W) => rints_any W W.heap.size a2 b2 mv mv2 c2 e2 ((HM.out.mv.below (hW.mono HBB.out)).wide (Nat.le_trans HBB.out hW.size)) ((HN.out.mv.below (hW.mono HBB.out)).wide (Nat.le_trans HBB.out hW.size)) (by rw [HV2.out]; omega) (by rw [HU2.out]; omega) Q hQ
                rw [HV1.out, HU1.out] at r1
                rw [HV2.out, HU2.out] at r2
                have R1 := Lib.hid r1
                have R2 := Lib.hid r2
                clear r1 r2
                go_enter Tryz.func27, Tryz.ntmps27
                go_upto_region 1 with fail
                generalize (w.alloc (.cells #[.string id, .int .i64 o, .slice a1 nc c1, .string pr, .int .i64 st, .slice a2 nm c2, .slice a3 nr c3, .slice a4 nl c4] 27)).alloc (.cells #[.string id, .int .i64 o, .slice b1 nc2 e1, .string pr, .int .i64 st, .slice b2 nm2 e2, .slice b3 nr2 e3, .slice b4 nl2 e4] 27) = W0 at *
                have HB0 := Lib.hid hb
                have hc := R1.out true (by simp [q5]) W0 hb
                have HC := Lib.hid hc
                clear hc
                go_wp2_with fail
                refine HC.out.mono ?_
                rintro e W1 ⟨rfl, x1⟩
                have hb1 := HB0.out.trans (x1.mono HB0.out.size)
                have m0 := k0.below x1 k0.lt
                have m1 := k1.below x1 k1.lt
                clear x1 t0 t1 s0 s1 k0 k1 HC HB0 hb
                obtain ⟨t0, t1, -⟩ := m0.all
                obtain ⟨s0, s1, -⟩ := m1.all
                have hc := R2.out false (by simp [q6]) W1 hb1
                have HC := Lib.hid hc
                clear hc
                go_wp2_with fail
                refine HC.out.mono ?_
                rintro e W2 ⟨rfl, x1⟩
                have hb2 := hb1.trans (x1.mono hb1.size)
                have n0 := m0.below x1 m0.lt
                have n1 := m1.below x1 m1.lt
                clear x1 t0 t1 s0 s1 m0 m1 HC hb1
                obtain ⟨t0, t1, -⟩ := n0.all
                obtain ⟨s0, s1, -⟩ := n1.all
                go_wp2
                go_ret
                exact ⟨rfl, hb2⟩
              case pos =>
                by_cases q7 : nr = nr2
                case neg =>
                  obtain rfl : false = q := (HNO.out fun e => q7 (by have e2 : rs = rs2 := (by injection e); rw [← HV3.out, ← HU3.out, e2])).symm
                  have dn : ((nr : Int) == (nr2 : Int)) = false := by simp; omega
                  have dn2 : ¬ (nr : Int) = (nr2 : Int) := by omega
                  have hb := (below_self_alloc w (.cells #[.string id, .int .i64 o, .slice a1 nc c1, .string pr, .int .i64 st, .slice a2 nm c2, .slice a3 nr c3, .slice a4 nl c4] 27)).alloc (by simp) (.cells #[.string id, .int .i64 o, .slice b1 nc2 e1, .string pr, .int .i64 st, .slice b2 nm2 e2, .slice b3 nr2 e3, .slice b4 nl2 e4] 27)
                  have k0 := (Blk.new w 27 #[.string id, .int .i64 o, .slice a1 nc c1, .string pr, .int .i64 st, .slice a2 nm c2, .slice a3 nr c3, .slice a4 nl c4]).alloc (.cells #[.string id, .int .i64 o, .slice b1 nc2 e1, .string pr, .int .i64 st, .slice b2 nm2 e2, .slice b3 nr2 e3, .slice b4 nl2 e4] 27)
                  have k1 := Blk.new1 w (.cells #[.string id, .int .i64 o, .slice a1 nc c1, .string pr, .int .i64 st, .slice a2 nm c2, .slice a3 nr c3, .slice a4 nl c4] 27) 27 #[.string id, .int .i64 o, .slice b1 nc2 e1, .string pr, .int .i64 st, .slice b2 nm2 e2, .slice b3 nr2 e3, .slice b4 nl2 e4]
                  obtain ⟨t0, t1, -⟩ := k0.all
                  obtain ⟨s0, s1, -⟩ := k1.all
                  have r1 := fun (Q : Bool) (hQ : Q = true ↔ cs = cs2) W (hW : Below w.heap.size w W) => rints_any W W.heap.size a1 b1 cs cs2 c1 e1 ((HM.out.cs.below (hW.mono HBB.out)).wide (Nat.le_trans HBB.out hW.size)) ((HN.out.cs.below (hW.mono HBB.out)).wide (Nat.le_trans HBB.out hW.size)) (by rw [HV1.out]; omega) (by rw [HU1.out]; omega) Q hQ
                  have r2 := fun (Q : Bool) (hQ : Q = true ↔ mv = mv2) W (hW : Below w.heap.size w W) => rints_any W W.heap.size a2 b2 mv mv2 c2 e2 ((HM.out.mv.below (hW.mono HBB.out)).wide (Nat.le_trans HBB.out hW.size)) ((HN.out.mv.below (hW.mono HBB.out)).wide (Nat.le_trans HBB.out hW.size)) (by rw [HV2.out]; omega) (by rw [HU2.out]; omega) Q hQ
                  rw [HV1.out, HU1.out] at r1
                  rw [HV2.out, HU2.out] at r2
                  have R1 := Lib.hid r1
                  have R2 := Lib.hid r2
                  clear r1 r2
                  go_enter Tryz.func27, Tryz.ntmps27
                  go_upto_region 1 with fail
                  generalize (w.alloc (.cells #[.string id, .int .i64 o, .slice a1 nc c1, .string pr, .int .i64 st, .slice a2 nm c2, .slice a3 nr c3, .slice a4 nl c4] 27)).alloc (.cells #[.string id, .int .i64 o, .slice b1 nc2 e1, .string pr, .int .i64 st, .slice b2 nm2 e2, .slice b3 nr2 e3, .slice b4 nl2 e4] 27) = W0 at *
                  have HB0 := Lib.hid hb
                  have hc := R1.out true (by simp [q5]) W0 hb
                  have HC := Lib.hid hc
                  clear hc
                  go_wp2_with fail
                  refine HC.out.mono ?_
                  rintro e W1 ⟨rfl, x1⟩
                  have hb1 := HB0.out.trans (x1.mono HB0.out.size)
                  have m0 := k0.below x1 k0.lt
                  have m1 := k1.below x1 k1.lt
                  clear x1 t0 t1 s0 s1 k0 k1 HC HB0 hb
                  obtain ⟨t0, t1, -⟩ := m0.all
                  obtain ⟨s0, s1, -⟩ := m1.all
                  have hc := R2.out true (by simp [q6]) W1 hb1
                  have HC := Lib.hid hc
                  clear hc
                  go_wp2_with fail
                  refine HC.out.mono ?_
                  rintro e W2 ⟨rfl, x1⟩
                  have hb2 := hb1.trans (x1.mono hb1.size)
                  have n0 := m0.below x1 m0.lt
                  have n1 := m1.below x1 m1.lt
                  clear x1 t0 t1 s0 s1 m0 m1 HC hb1
                  obtain ⟨t0, t1, -⟩ := n0.all
                  obtain ⟨s0, s1, -⟩ := n1.all
                  go_wp2
                  go_ret
                  exact ⟨rfl, hb2⟩
                case pos =>
                  subst q7
                  by_cases q8 : nl = nl2
                  case neg =>
                    obtain rfl : false = q := (HNO.out fun e => q8 (by have e2 : ls = ls2 := (by injection e); rw [← HV4.out, ← HU4.out, e2])).symm
                    have dn : ((nl : Int) == (nl2 : Int)) = false := by simp; omega
                    have dn2 : ¬ (nl : Int) = (nl2 : Int) := by omega
                    have hb := (below_self_alloc w (.cells #[.string id, .int .i64 o, .slice a1 nc c1, .string pr, .int .i64 st, .slice a2 nm c2, .slice a3 nr c3, .slice a4 nl c4] 27)).alloc (by simp) (.cells #[.string id, .int .i64 o, .slice b1 nc2 e1, .string pr, .int .i64 st, .slice b2 nm2 e2, .slice b3 nr e3, .slice b4 nl2 e4] 27)
                    have k0 := (Blk.new w 27 #[.string id, .int .i64 o, .slice a1 nc c1, .string pr, .int .i64 st, .slice a2 nm c2, .slice a3 nr c3, .slice a4 nl c4]).alloc (.cells #[.string id, .int .i64 o, .slice b1 nc2 e1, .string pr, .int .i64 st, .slice b2 nm2 e2, .slice b3 nr e3, .slice b4 nl2 e4] 27)
                    have k1 := Blk.new1 w (.cells #[.string id, .int .i64 o, .slice a1 nc c1, .string pr, .int .i64 st, .slice a2 nm c2, .slice a3 nr c3, .slice a4 nl c4] 27) 27 #[.string id, .int .i64 o, .slice b1 nc2 e1, .string pr, .int .i64 st, .slice b2 nm2 e2, .slice b3 nr e3, .slice b4 nl2 e4]
                    obtain ⟨t0, t1, -⟩ := k0.all
                    obtain ⟨s0, s1, -⟩ := k1.all
                    have r1 := fun (Q : Bool) (hQ : Q = true ↔ cs = cs2) W (hW : Below w.heap.size w W) => rints_any W W.heap.size a1 b1 cs cs2 c1 e1 ((HM.out.cs.below (hW.mono HBB.out)).wide (Nat.le_trans HBB.out hW.size)) ((HN.out.cs.below (hW.mono HBB.out)).wide (Nat.le_trans HBB.out hW.size)) (by rw [HV1.out]; omega) (by rw [HU1.out]; omega) Q hQ
                    have r2 := fun (Q : Bool) (hQ : Q = true ↔ mv = mv2) W (hW : Below w.heap.size w W) => rints_any W W.heap.size a2 b2 mv mv2 c2 e2 ((HM.out.mv.below (hW.mono HBB.out)).wide (Nat.le_trans HBB.out hW.size)) ((HN.out.mv.below (hW.mono HBB.out)).wide (Nat.le_trans HBB.out hW.size)) (by rw [HV2.out]; omega) (by rw [HU2.out]; omega) Q hQ
                    rw [HV1.out, HU1.out] at r1
                    rw [HV2.out, HU2.out] at r2
                    have R1 := Lib.hid r1
                    have R2 := Lib.hid r2
                    clear r1 r2
                    go_enter Tryz.func27, Tryz.ntmps27
                    go_upto_region 1 with fail
                    generalize (w.alloc (.cells #[.string id, .int .i64 o, .slice a1 nc c1, .string pr, .int .i64 st, .slice a2 nm c2, .slice a3 nr c3, .slice a4 nl c4] 27)).alloc (.cells #[.string id, .int .i64 o, .slice b1 nc2 e1, .string pr, .int .i64 st, .slice b2 nm2 e2, .slice b3 nr e3, .slice b4 nl2 e4] 27) = W0 at *
                    have HB0 := Lib.hid hb
                    have hc := R1.out true (by simp [q5]) W0 hb
                    have HC := Lib.hid hc
                    clear hc
                    go_wp2_with fail
                    refine HC.out.mono ?_
                    rintro e W1 ⟨rfl, x1⟩
                    have hb1 := HB0.out.trans (x1.mono HB0.out.size)
                    have m0 := k0.below x1 k0.lt
                    have m1 := k1.below x1 k1.lt
                    clear x1 t0 t1 s0 s1 k0 k1 HC HB0 hb
                    obtain ⟨t0, t1, -⟩ := m0.all
                    obtain ⟨s0, s1, -⟩ := m1.all
                    have hc := R2.out true (by simp [q6]) W1 hb1
                    have HC := Lib.hid hc
                    clear hc
                    go_wp2_with fail
                    refine HC.out.mono ?_
                    rintro e W2 ⟨rfl, x1⟩
                    have hb2 := hb1.trans (x1.mono hb1.size)
                    have n0 := m0.below x1 m0.lt
                    have n1 := m1.below x1 m1.lt
                    clear x1 t0 t1 s0 s1 m0 m1 HC hb1
                    obtain ⟨t0, t1, -⟩ := n0.all
                    obtain ⟨s0, s1, -⟩ := n1.all
                    go_wp2
                    go_ret
                    exact ⟨rfl, hb2⟩
                  case pos =>
                    subst q8
                    have hb := (below_self_alloc w (.cells #[.string id, .int .i64 o, .slice a1 nc c1, .string pr, .int .i64 st, .slice a2 nm c2, .slice a3 nr c3, .slice a4 nl c4] 27)).alloc (by simp) (.cells #[.string id, .int .i64 o, .slice b1 nc2 e1, .string pr, .int .i64 st, .slice b2 nm2 e2, .slice b3 nr e3, .slice b4 nl e4] 27)
                    have k0 := (Blk.new w 27 #[.string id, .int .i64 o, .slice a1 nc c1, .string pr, .int .i64 st, .slice a2 nm c2, .slice a3 nr c3, .slice a4 nl c4]).alloc (.cells #[.string id, .int .i64 o, .slice b1 nc2 e1, .string pr, .int .i64 st, .slice b2 nm2 e2, .slice b3 nr e3, .slice b4 nl e4] 27)
                    have k1 := Blk.new1 w (.cells #[.string id, .int .i64 o, .slice a1 nc c1, .string pr, .int .i64 st, .slice a2 nm c2, .slice a3 nr c3, .slice a4 nl c4] 27) 27 #[.string id, .int .i64 o, .slice b1 nc2 e1, .string pr, .int .i64 st, .slice b2 nm2 e2, .slice b3 nr e3, .slice b4 nl e4]
                    obtain ⟨t0, t1, -⟩ := k0.all
                    obtain ⟨s0, s1, -⟩ := k1.all
                    have r1 := fun (Q : Bool) (hQ : Q = true ↔ cs = cs2) W (hW : Below w.heap.size w W) => rints_any W W.heap.size a1 b1 cs cs2 c1 e1 ((HM.out.cs.below (hW.mono HBB.out)).wide (Nat.le_trans HBB.out hW.size)) ((HN.out.cs.below (hW.mono HBB.out)).wide (Nat.le_trans HBB.out hW.size)) (by rw [HV1.out]; omega) (by rw [HU1.out]; omega) Q hQ
                    have r2 := fun (Q : Bool) (hQ : Q = true ↔ mv = mv2) W (hW : Below w.heap.size w W) => rints_any W W.heap.size a2 b2 mv mv2 c2 e2 ((HM.out.mv.below (hW.mono HBB.out)).wide (Nat.le_trans HBB.out hW.size)) ((HN.out.mv.below (hW.mono HBB.out)).wide (Nat.le_trans HBB.out hW.size)) (by rw [HV2.out]; omega) (by rw [HU2.out]; omega) Q hQ
                    rw [HV1.out, HU1.out] at r1
                    rw [HV2.out, HU2.out] at r2
                    have R1 := Lib.hid r1
                    have R2 := Lib.hid r2
                    clear r1 r2
                    go_enter Tryz.func27, Tryz.ntmps27
                    go_upto_region 1 with fail
                    generalize (w.alloc (.cells #[.string id, .int .i64 o, .slice a1 nc c1, .string pr, .int .i64 st, .slice a2 nm c2, .slice a3 nr c3, .slice a4 nl c4] 27)).alloc (.cells #[.string id, .int .i64 o, .slice b1 nc2 e1, .string pr, .int .i64 st, .slice b2 nm2 e2, .slice b3 nr e3, .slice b4 nl e4] 27) = W0 at *
                    have HB0 := Lib.hid hb
                    have hc := R1.out true (by simp [q5]) W0 hb
                    have HC := Lib.hid hc
                    clear hc
                    go_wp2_with fail
                    refine HC.out.mono ?_
                    rintro e W1 ⟨rfl, x1⟩
                    have hb1 := HB0.out.trans (x1.mono HB0.out.size)
                    have m0 := k0.below x1 k0.lt
                    have m1 := k1.below x1 k1.lt
                    clear x1 t0 t1 s0 s1 k0 k1 HC HB0 hb
                    obtain ⟨t0, t1, -⟩ := m0.all
                    obtain ⟨s0, s1, -⟩ := m1.all
                    have hc := R2.out true (by simp [q6]) W1 hb1
                    have HC := Lib.hid hc
                    clear hc
                    go_wp2_with fail
                    refine HC.out.mono ?_
                    rintro e W2 ⟨rfl, x1⟩
                    have hb2 := hb1.trans (x1.mono hb1.size)
                    have n0 := m0.below x1 m0.lt
                    have n1 := m1.below x1 m1.lt
                    clear x1 t0 t1 s0 s1 m0 m1 HC hb1
                    obtain ⟨t0, t1, -⟩ := n0.all
                    obtain ⟨s0, s1, -⟩ := n1.all
                    go_wp2_with fail
                    have hrs : RtsAt W2 W2.heap.size a3 rs := (HM.out.rs.below (hb2.mono HBB.out)).wide (Nat.le_trans HBB.out hb2.size)
                    have hrs2 : RtsAt W2 W2.heap.size b3 rs2 := (HN.out.rs.below (hb2.mono HBB.out)).wide (Nat.le_trans HBB.out hb2.size)
                    have HR := Lib.hid hrs
                    have HR2 := Lib.hid hrs2
                    have N0 := Lib.hid n0
                    have N1 := Lib.hid n1
                    have HB2 := Lib.hid hb2
                    clear t0 t1 s0 s1 n0 n1 hb2 hrs hrs2
                    go_loopw [5] (fun i wr => ∃ k : Nat, k ≤ nr ∧ i = .int .i64 (k : Int) ∧ Hid (rs.take k = rs2.take k) ∧ ∃ j, wr = W2.drewN j) (fun i _ => nr - (intOf i).toNat)
                    case atStart => exact ⟨0, Nat.zero_le _, rfl, Lib.hid rfl, 0, rfl⟩
                    case round =>
                      obtain ⟨k, hk, rfl, HT, j, rfl⟩ := hrel
                      have k0 := N0.out.drewN j
                      have k1 := N1.out.drewN j
                      obtain ⟨t0, t1, -⟩ := k0.all
                      obtain ⟨s0, s1, -⟩ := k1.all
                      by_cases hlt : k < nr
                      · obtain ⟨x, hx⟩ : ∃ x, rs[k]? = some x := ⟨_, List.getElem?_eq_getElem (by rw [HV3.out]; exact hlt)⟩
                        obtain ⟨y, hy⟩ : ∃ y, rs2[k]? = some y := ⟨_, List.getElem?_eq_getElem (by rw [HU3.out]; exact hlt)⟩
                        obtain ⟨ga, oa, hA, hga, p0, p1⟩ := HR.out k x hx
                        obtain ⟨gb, ob, hA', hgb, r0, r1⟩ := HR2.out k y hy
                        subst hA hA'
                        have HX := Lib.hid hx
                        have HY := Lib.hid hy
                        clear hx hy
                        obtain ⟨x1, x2⟩ := x
                        obtain ⟨y1, y2⟩ := y
                        have p0' : (W2.drewN j).cell? ⟨ga, oa + k * 2, none⟩ = some (.string x1) := p0
                        have p1' : (W2.drewN j).cell? ⟨ga, oa + k * 2 + 1, none⟩ = some (.int .i64 x2) := p1
                        have r0' : (W2.drewN j).cell? ⟨gb, ob + k * 2, none⟩ = some (.string y1) := r0
                        have r1' : (W2.drewN j).cell? ⟨gb, ob + k * 2 + 1, none⟩ = some (.int .i64 y2) := r1
                        have ib0 : (0 : Int) ≤ (k : Int) := by omega
                        have ib1 : (k : Int) < (nr : Int) := by omega
                        clear p0 p1 r0 r1
                        have hne : ¬ (x1 = y1 ∧ x2 = y2) → q = false := fun h => HNO.out fun e => h (by
                          have e2 : rs = rs2 := (by injection e)
                          have h1 := HX.out
                          rw [e2, HY.out] at h1
                          injection h1 with h1
                          injection h1 with h1 h2
                          exact ⟨h1.symm, h2.symm⟩)
                        by_cases hx1 : x1 = y1
                        · subst hx1
                          by_cases hx2 : x2 = y2
                          · subst hx2
                            have HST := Lib.hid (take_eq_snoc HT.out HX.out HY.out)
                            clear hne
                            go_wp2_with fail
                            generalize hW : W2.drewN j = W at *
                            go_quiet (fail)
                            subst hW
                            go_wp2
                            go_roundw
                            case rel => exact ⟨k + 1, by omega, by go_num, HST, j + nq, rfl⟩
                            case measure => simp [intOf]; omega
                          · obtain rfl : q = false := hne fun h => hx2 h.2
                            have d2 : (x2 == y2) = false := by simp [hx2]
                            clear hne
                            go_wp2_with fail
                            generalize hW : W2.drewN j = W at *
                            go_quiet (fail)
                            subst hW
                            go_wp2
                            go_ret
                            exact ⟨rfl, below_dN (below_dN HB2.out j) nq⟩
                        · obtain rfl : q = false := hne fun h => hx1 h.1
                          have d2 : (x1.toList == y1.toList) = false := by
                            rw [beq_eq_false_iff_ne]
                            intro e
                            rw [Lib.toList_data, Lib.toList_data] at e
                            exact hx1 (ByteArray.ext (Array.toList_inj.1 e))
                          clear hne
                          go_wp2_with fail
                          generalize hW : W2.drewN j = W at *
                          go_quiet (fail)
                          subst hW
                          go_wp2
                          go_ret
                          exact ⟨rfl, below_dN (below_dN HB2.out j) nq⟩
                      · obtain rfl : nr = k := by omega
                        have hrr : rs = rs2 := by
                          have := HT.out
                          rwa [List.take_of_length_le (by rw [HV3.out]; exact Nat.le_refl _), List.take_of_length_le (by rw [HU3.out]; exact Nat.le_refl _)] at this
                        have HRR := Lib.hid hrr
                        clear hrr
                        go_wp2_with fail
                        have hb3 := below_dN HB2.out j
                        have k0 := N0.out.drewN j
                        have k1 := N1.out.drewN j
                        clear t0 t1 s0 s1
                        generalize W2.drewN j = W3 at *
                        have K0 := Lib.hid k0
                        have K1 := Lib.hid k1
                        have HB3 := Lib.hid hb3
                        clear k0 k1 hb3
                        go_loopg [6] nl (fun nn i wr => ∃ k : Nat, k + nn = nl ∧ i = .int .i64 (k : Int) ∧ Hid (ls.take k = ls2.take k) ∧ Hid (Below w.heap.size w wr) ∧ Hid (Blk wr w.heap.size 27 #[.string id, .int .i64 o, .slice a1 nc c1, .string pr, .int .i64 st, .slice a2 nm c2, .slice a3 nr c3, .slice a4 nl c4]) ∧ Hid (Blk wr (w.heap.size + 1) 27 #[.string id, .int .i64 o, .slice b1 nc2 e1, .string pr, .int .i64 st, .slice b2 nm2 e2, .slice b3 nr e3, .slice b4 nl e4]))
                        case atStart => exact ⟨0, Nat.zero_add _, rfl, Lib.hid rfl, HB3, K0, K1⟩
                        case round =>
                          clear HB3 K0 K1 HT HR HR2
                          obtain ⟨k, hk, rfl, HT, HB3, K0, K1⟩ := hrel
                          obtain ⟨t0, t1, -⟩ := K0.out.all
                          obtain ⟨s0, s1, -⟩ := K1.out.all
                          by_cases hlt : k < nl
                          · obtain ⟨x, hx⟩ : ∃ x, lv[k]? = some x := ⟨_, List.getElem?_eq_getElem (by rw [HLL.out]; exact hlt)⟩
                            obtain ⟨y, hy⟩ : ∃ y, lv2[k]? = some y := ⟨_, List.getElem?_eq_getElem (by rw [HLL2.out]; exact hlt)⟩
                            have hxl : ls[k]? = some x.1 := by have e := HM.out.lv; simp only at e; rw [← e, List.getElem?_map, hx]; rfl
                            have hyl : ls2[k]? = some y.1 := by have e := HN.out.lv; simp only at e; rw [← e, List.getElem?_map, hy]; rfl
                            have HLS : Hid (LmsAt wr wr.heap.size a4 lv) := Lib.hid ((HM.out.ls.below (HB3.out.mono HBB.out)).wide (Nat.le_trans HBB.out HB3.out.size))
                            have HLS2 : Hid (LmsAt wr wr.heap.size b4 lv2) := Lib.hid ((HN.out.ls.below (HB3.out.mono HBB.out)).wide (Nat.le_trans HBB.out HB3.out.size))
                            obtain ⟨ga, oa, hA, hga, u0, u1, u2, u3, u4, hLa⟩ := HLS.out k x hx
                            obtain ⟨gb, ob, hA', hgb, v0, v1, v2, v3, v4, hLb⟩ := HLS2.out k y hy
                            subst hA hA'
                            obtain ⟨⟨i1, n1, w1, f1, S1⟩, A1, C1⟩ := x
                            obtain ⟨⟨i2, n2, w2, f2, S2⟩, A2, C2⟩ := y
                            have ib0 : (0 : Int) ≤ (k : Int) := by omega
                            have ib1 : (k : Int) < (nl : Int) := by omega
                            simp only at u0 u1 u2 u3 u4 v0 v1 v2 v3 v4 hLa hLb hxl hyl
                            have HXL := Lib.hid hxl
                            have HYL := Lib.hid hyl
                            have HLA := Lib.hid hLa
                            have HLB := Lib.hid hLb
                            clear hx hy hxl hyl hLa hLb
                            have cc : ∀ (Q : Bool), (Q = true ↔ (⟨i1, n1, w1, f1, S1⟩ : Lm) = ⟨i2, n2, w2, f2, S2⟩) → ∀ W, Below wr.heap.size wr W → Calls Tryz.prog 13 #[.agg #[.string i1, .int .i64 n1, .int .i64 w1, .int .i64 f1, .slice A1 S1.length C1], .agg #[.string i2, .int .i64 n2, .int .i64 w2, .int .i64 f2, .slice A2 S2.length C2]] W fun e w' => e = .returned (.bool Q) ∧ Below W.heap.size W w' := fun Q hQ W hW => rsameL_any W wr.heap.size ⟨i1, n1, w1, f1, S1⟩ ⟨i2, n2, w2, f2, S2⟩ A1 A2 C1 C2 (HLA.out.below hW) (HLB.out.below hW) hW.size Q hQ
                            have CCH := Lib.hid cc
                            clear cc
                            go_upto_region 11 with fail
                            refine wp_region_hold (fun V => Below wr.heap.size wr V) [0, 1, 2, 3, 4, 5, 6, 7, 8, 9] [10] [11] (by kernel_rfl) (by kernel_rfl) (fun _ d _ _ _ h => by cases d <;> exact h) (Below.refl _ wr).drew ?_
                            simp only [pick, List.drop_succ_cons, List.drop_zero, List.head?_cons, Option.toList_some, List.cons_append, List.nil_append]
                            repeat (refine wpHeld_step ?_ rfl ?_ ?_; rotate_left; · (intro V hV; obtain ⟨t0, t1, -⟩ := (K0.out.below hV K0.out.lt).all; obtain ⟨s0, s1, -⟩ := (K1.out.below hV K1.out.lt).all; have u0 := (hV.cell (p := ⟨ga, oa + k * 5, none⟩) hga).trans u0; have u1 := (hV.cell (p := ⟨ga, oa + k * 5 + 1, none⟩) hga).trans u1; have u2 := (hV.cell (p := ⟨ga, oa + k * 5 + 2, none⟩) hga).trans u2; have u3 := (hV.cell (p := ⟨ga, oa + k * 5 + 3, none⟩) hga).trans u3; have u4 := (hV.cell (p := ⟨ga, oa + k * 5 + 4, none⟩) hga).trans u4; have v0 := (hV.cell (p := ⟨gb, ob + k * 5, none⟩) hgb).trans v0; have v1 := (hV.cell (p := ⟨gb, ob + k * 5 + 1, none⟩) hgb).trans v1; have v2 := (hV.cell (p := ⟨gb, ob + k * 5 + 2, none⟩) hgb).trans v2; have v3 := (hV.cell (p := ⟨gb, ob + k * 5 + 3, none⟩) hgb).trans v3; have v4 := (hV.cell (p := ⟨gb, ob + k * 5 + 4, none⟩) hgb).trans v4; go_simp; with_reducible rfl))
                            refine wpHeld_nil ?_
                            simp only [wpEarly]
                            clear t0 t1 s0 s1 u0 u1 u2 u3 u4 v0 v1 v2 v3 v4
                            have hwd := (Below.refl wr.heap.size wr).drew
                            have HWD := Lib.hid hwd
                            clear hwd
                            generalize wr.drew = Wd at *
                            by_cases hxy : (⟨i1, n1, w1, f1, S1⟩ : Lm) = ⟨i2, n2, w2, f2, S2⟩
                            · have hst : ls.take (k + 1) = ls2.take (k + 1) := take_eq_snoc HT.out HXL.out (by rw [hxy]; exact HYL.out)
                              have HST := Lib.hid hst
                              have hc := CCH.out true (by simp [hxy]) Wd HWD.out
                              have HC := Lib.hid hc
                              clear hc hst hxy
                              go_wp2_with fail
                              refine HC.out.mono ?_
                              rintro e We ⟨rfl, x1⟩
                              have hwe := HWD.out.trans (x1.mono HWD.out.size)
                              have HWE := Lib.hid hwe
                              clear x1 hwe
                              go_wp2_with fail
                              refine ⟨HWE.out, ?_⟩
                              have HB4 := Lib.hid (HB3.out.trans (HWE.out.mono HB3.out.size))
                              have K0b := Lib.hid (K0.out.below HWE.out K0.out.lt)
                              have K1b := Lib.hid (K1.out.below HWE.out K1.out.lt)
                              go_wp2
                              go_roundg (gk - 1)
                              case rel => exact ⟨k + 1, by omega, by go_num, HST, HB4, K0b, K1b⟩
                              case measure => omega
                            · obtain rfl : q = false := HNO.out fun e => hxy (by
                                have e2 : ls = ls2 := (by injection e)
                                have h1 := HXL.out
                                rw [e2, HYL.out] at h1
                                injection h1 with h1
                                exact h1.symm)
                              have hc := CCH.out false (by simp only [Bool.false_eq_true, false_iff]; exact hxy) Wd HWD.out
                              have HC := Lib.hid hc
                              clear hc hxy
                              go_wp2_with fail
                              refine HC.out.mono ?_
                              rintro e We ⟨rfl, x1⟩
                              have hwe := HWD.out.trans (x1.mono HWD.out.size)
                              have HWE := Lib.hid hwe
                              clear x1 hwe
                              go_wp2_with fail
                              refine ⟨HWE.out, ?_⟩
                              have HB4 := Lib.hid (HB3.out.trans (HWE.out.mono HB3.out.size))
                              go_wp2
                              go_ret
                              exact ⟨rfl, HB4.out⟩
                          · obtain rfl : nl = k := by omega
                            have hyes : true = q := (HQ.out.2 (by
                              have := HT.out
                              rw [List.take_of_length_le (by rw [HV4.out]; exact Nat.le_refl _), List.take_of_length_le (by rw [HU4.out]; exact Nat.le_refl _)] at this
                              rw [q5, q6, HRR.out, this])).symm
                            subst hyes
                            go_wp2
                            go_ret
                            exact ⟨rfl, HB3.out⟩
  have ec : mtC ⟨id, o, cs, pr, st, mv, rs, ls⟩ ⟨a1, c1, a2, c2, a3, c3, a4, c4, lv⟩ = #[.string id, .int .i64 o, .slice a1 nc c1, .string pr, .int .i64 st, .slice a2 nm c2, .slice a3 nr c3, .slice a4 nl c4] := by simp [mtC, h1, h2, h3, h4]
  have ed : mtC ⟨id2, o2, cs2, pr2, st2, mv2, rs2, ls2⟩ ⟨b1, e1, b2, e2, b3, e3, b4, e4, lv2⟩ = #[.string id2, .int .i64 o2, .slice b1 nc2 e1, .string pr2, .int .i64 st2, .slice b2 nm2 e2, .slice b3 nr2 e3, .slice b4 nl2 e4] := by simp [mtC, g1, g2, g3, g4]
  rw [ec, ed]
  exact hgo
end Go.Proofs.YtknchlpcpgflkaaGreatDoor

namespace Go.Proofs.YtknchlpcpgflkaaGreatDoor
open Go.RowKit Go.Shelf

theorem boxes6 {w W : World} {c0 c1 c2 c3 c4 c5 : Array Value} {t0 t1 t2 t3 t4 t5 : TypeId} (hW : (((((w.alloc (.cells c0 t0)).alloc (.cells c1 t1)).alloc (.cells c2 t2)).alloc (.cells c3 t3)).alloc (.cells c4 t4)).alloc (.cells c5 t5) = W) :
    Below w.heap.size w W ∧ Blk W w.heap.size t0 c0 ∧ Blk W (w.heap.size + 1) t1 c1 ∧ Blk W (w.heap.size + 1 + 1) t2 c2 ∧ Blk W (w.heap.size + 1 + 1 + 1) t3 c3 ∧ Blk W (w.heap.size + 1 + 1 + 1 + 1) t4 c4 ∧ Blk W (w.heap.size + 1 + 1 + 1 + 1 + 1) t5 c5 := by
  subst hW
  have s : ∀ (V : World) (o : Obj), (V.alloc o).heap.size = V.heap.size + 1 := fun V o => by simp
  have b0 := below_self_alloc w (.cells c0 t0)
  have b1 := b0.alloc b0.size (.cells c1 t1)
  have b2 := b1.alloc b1.size (.cells c2 t2)
  have b3 := b2.alloc b2.size (.cells c3 t3)
  have b4 := b3.alloc b3.size (.cells c4 t4)
  have k1 := Blk.new (w.alloc (.cells c0 t0)) t1 c1
  have k2 := Blk.new ((w.alloc (.cells c0 t0)).alloc (.cells c1 t1)) t2 c2
  have k3 := Blk.new (((w.alloc (.cells c0 t0)).alloc (.cells c1 t1)).alloc (.cells c2 t2)) t3 c3
  have k4 := Blk.new ((((w.alloc (.cells c0 t0)).alloc (.cells c1 t1)).alloc (.cells c2 t2)).alloc (.cells c3 t3)) t4 c4
  have k5 := Blk.new (((((w.alloc (.cells c0 t0)).alloc (.cells c1 t1)).alloc (.cells c2 t2)).alloc (.cells c3 t3)).alloc (.cells c4 t4)) t5 c5
  simp only [s] at k1 k2 k3 k4 k5
  exact ⟨b4.alloc b4.size _, (((((Blk.new w t0 c0).alloc _).alloc _).alloc _).alloc _).alloc _, (((k1.alloc _).alloc _).alloc _).alloc _, ((k2.alloc _).alloc _).alloc _, (k3.alloc _).alloc _, k4.alloc _, k5⟩
set_option maxRecDepth 100000 in
set_option maxHeartbeats 16000000 in
theorem chains_walk (w : World) (ht : Tbs w) (z1 : Mt × MtX) (h1 : MtIn w z1) (z2 : Mg × MgX) (h2 : MgIn w z2) (z5 : Mg × MgX) (h5 : MgIn w z5) (z3 : Pc × PcX) (h3 : PcIn w z3) (z4 : Pc × PcX) (h4 : PcIn w z4) (z6 : Pc × PcX) (h6 : PcIn w z6) (day : Int) (_wd : (Lit.int .i64 day).wf = true) (C : Option Addr) (cc : Nat) (l : List Int) (hl : Ints w w.heap.size C l) :
    Calls Tryz.prog 8 #[.agg (mtC z1.1 z1.2), .agg (mgC z2.1 z2.2), .agg (mgC z5.1 z5.2), .agg (pcC z3.1 z3.2), .agg (pcC z4.1 z4.2), .agg (pcC z6.1 z6.2), .int .i64 day, .slice C l.length cc] w fun e w' => e = .returned (.bool true) ∧ Below w.heap.size w w' := by
  obtain ⟨m, x⟩ := z1
  obtain ⟨g, z⟩ := z2
  obtain ⟨h, zh⟩ := z5
  obtain ⟨p, y⟩ := z3
  obtain ⟨q, v⟩ := z4
  obtain ⟨r, yr⟩ := z6
  obtain ⟨hm, zm⟩ := h1
  obtain ⟨hg, zg⟩ := h2
  obtain ⟨hh, zzh⟩ := h5
  obtain ⟨hp, zp⟩ := h3
  obtain ⟨hq, zq⟩ := h4
  obtain ⟨hr, zr⟩ := h6
  obtain ⟨hD, hw, hll⟩ := hl
  simp only at hm zm hg zg hh zzh hp zp hq zq hr zr ⊢
  have hfew := fun W (hW : Below w.heap.size w W) => lfew_any W w.heap.size hW.size m x (hm.below hW) ⟨zm.1, zm.2.1, zm.2.2.1, zm.2.2.2.1⟩ g z (hg.below hW) zg p y (hp.below hW) zp q v (hq.below hW) zq C l.length cc hll
  have hfew2 := fun W (hW : Below w.heap.size w W) => lfew_any W w.heap.size hW.size m x (hm.below hW) ⟨zm.1, zm.2.1, zm.2.2.1, zm.2.2.2.1⟩ h zh (hh.below hW) zzh q v (hq.below hW) zq r yr (hr.below hW) zr C l.length cc hll
  have hhd := fun W (hW : Below w.heap.size w W) => head_any W (ht.below hW)
  have hva := fun W (hW : Below w.heap.size w W) (sg : SmlG g) (sp : SmlP p) (sq : SmlP q) => gvalid_any W (ht.below hW) w.heap.size g z (hg.below hW) hW.size sg p y (hp.below hW) sp q v (hq.below hW) sq
  have hvb := fun W (hW : Below w.heap.size w W) (sg : SmlG h) (sp : SmlP q) (sq : SmlP r) => gvalid_any W (ht.below hW) w.heap.size h zh (hh.below hW) hW.size sg q v (hq.below hW) sp r yr (hr.below hW) sq
  have hth := fun W (hW : Below w.heap.size w W) (sg : SmlG g) (sh : SmlG h) => gthen_any W (ht.below hW) w.heap.size g z (hg.below hW) hW.size sg h zh (hh.below hW) sh
  have hap := fun W (hW : Below w.heap.size w W) (sm : Sml m) (sg : SmlG g) (sp : SmlP p) (sq : SmlP q) (hl2 : l.length ≤ 100) => gapply_any W (ht.below hW) w.heap.size m x (hm.below hW) hW.size sm g z (hg.below hW) sg p y (hp.below hW) sp q v (hq.below hW) sq day C l cc (hD.below hW) (by omega) hw
  have hap2 := fun W (hW : Below w.heap.size w W) a xa (ha : MtAt W W.heap.size a xa) (sm : Sml a) (sg : SmlG h) (sp : SmlP q) (sq : SmlP r) (hl2 : l.length ≤ 100) => gapply_any W (ht.below hW) W.heap.size a xa ha (Nat.le_refl _) sm h zh ((hh.below hW).wide hW.size) sg q v ((hq.below hW).wide hW.size) sp r yr ((hr.below hW).wide hW.size) sq day C l cc ((hD.below hW).wide hW.size) (by omega) hw
  have hap3 := fun W (hW : Below w.heap.size w W) k xk (hk : MgAt W W.heap.size k xk) (sm : Sml m) (sg : SmlG k) (sp : SmlP p) (sq : SmlP r) (hl2 : l.length ≤ 100) => gapply_any W (ht.below hW) W.heap.size m x ((hm.below hW).wide hW.size) (Nat.le_refl _) sm k xk hk sg p y ((hp.below hW).wide hW.size) sp r yr ((hr.below hW).wide hW.size) sq day C l cc ((hD.below hW).wide hW.size) (by omega) hw
  have FM : Hid (FewL m g p q l.length → Sml m ∧ SmlG g ∧ SmlP p ∧ SmlP q ∧ l.length ≤ 100) := Lib.hid (fun h => ⟨h.1.sml, h.2.1.sml, h.2.2.1.sml, h.2.2.2.1.sml, h.2.2.2.2⟩)
  have FM2 : Hid (FewL m h q r l.length → SmlG h ∧ SmlP r) := Lib.hid (fun h => ⟨h.2.1.sml, h.2.2.2.1.sml⟩)
  have hch := fun (he : thenE g h = 0) (hg : vdB g p q = true) (hh : vdB h q r = true) => chains (m := m) (g := g) (h := h) (p := p) (b := q) (q := r) (day := day) (l := l) he hg hh
  have htm : thenE g h = 0 → thenM g h = thenG g h := fun he => if_pos he
  have htz : thenE g h ≠ 0 → thenM g h = Mg.zero := fun he => if_neg he
  have hs2 : Sml m → Sml (applyM m g p q day l) := apply_sml
  have hs3 : SmlG g → SmlG (thenM g h) := then_sml
  have hs4 : Sml m → Sml (applyM m (thenM g h) p r day l) := apply_sml
  have hs5 : Sml m → Sml (applyM (applyM m g p q day l) h q r day l) := fun h => apply_sml (apply_sml h)
  have hch2 : thenE g h = 0 → vdB g p q = true → vdB h q r = true → (applyE m g p q day l ≠ 0 ∨ applyE (applyM m g p q day l) h q r day l ≠ 0 → applyE m (thenM g h) p r day l ≠ 0) ∧ (applyE m g p q day l = 0 → applyE (applyM m g p q day l) h q r day l = 0 → applyE m (thenM g h) p r day l = 0 ∧ applyM m (thenM g h) p r day l = applyM (applyM m g p q day l) h q r day l) := fun he h1 h2 => by rw [htm he]; exact hch he h1 h2
  obtain ⟨TE, hTE⟩ : ∃ E, thenE g h = E := ⟨_, rfl⟩
  obtain ⟨X, hX⟩ : ∃ E, thenM g h = E := ⟨_, rfl⟩
  obtain ⟨V1, hV1⟩ : ∃ E, vdB g p q = E := ⟨_, rfl⟩
  obtain ⟨V2, hV2⟩ : ∃ E, vdB h q r = E := ⟨_, rfl⟩
  unfold ThenPost at hth
  rw [hTE, hX] at hth hch2
  rw [hTE, hX] at htz
  rw [hX] at hs3 hs4
  rw [hV1] at hva hch2
  rw [hV2] at hvb hch2
  obtain ⟨E1, hE1⟩ : ∃ E, applyE m g p q day l = E := ⟨_, rfl⟩
  obtain ⟨D1, hD1⟩ : ∃ a, applyM m g p q day l = a := ⟨_, rfl⟩
  rw [hE1, hD1] at hap hch2
  rw [hD1] at hs2 hs5
  obtain ⟨E2, hE2⟩ : ∃ E, applyE D1 h q r day l = E := ⟨_, rfl⟩
  obtain ⟨D2, hD2⟩ : ∃ a, applyM D1 h q r day l = a := ⟨_, rfl⟩
  obtain ⟨E3, hE3⟩ : ∃ E, applyE m X p r day l = E := ⟨_, rfl⟩
  obtain ⟨D3, hD3⟩ : ∃ a, applyM m X p r day l = a := ⟨_, rfl⟩
  rw [hE2, hD2, hE3, hD3] at hch2
  rw [hD2] at hs5
  rw [hD3] at hs4
  have hap2 := fun W hW xa ha sm sg sp sq hl2 => hap2 W hW D1 xa ha sm sg sp sq hl2
  have hap3 := fun W hW xk hk sm sg sp sq hl2 => hap3 W hW X xk hk sm sg sp sq hl2
  rw [hE2, hD2] at hap2
  rw [hE3, hD3] at hap3
  clear hch htm hE1 hD1 hE2 hD2 hE3 hD3 hTE hX hV1 hV2
  obtain ⟨PF, hPF⟩ : ∃ P, FewL m g p q l.length = P := ⟨_, rfl⟩
  obtain ⟨PG, hPG⟩ : ∃ P, FewL m h q r l.length = P := ⟨_, rfl⟩
  rw [hPF] at hfew FM
  rw [hPG] at hfew2 FM2
  clear hPF hPG hm hg hh hp hq hr zm zg zzh zp zq zr hD hw hll
  obtain ⟨id, o, cs, pr, st, mv, rs, ls⟩ := m
  obtain ⟨a1, c1, a2, c2, a3, c3, a4, c4, lv⟩ := x
  obtain ⟨fr, tn, gst, grs, gts⟩ := g
  obtain ⟨b1, dq1, b2, dq2, b3, dq3, tv⟩ := z
  obtain ⟨hfr, htn, hst, hrs, hts⟩ := h
  obtain ⟨hb1, hq1, hb2, hq2, hb3, hq3, htv⟩ := zh
  obtain ⟨pn, pss, pms⟩ := p
  obtain ⟨ez1, f1, ez2, f2⟩ := y
  obtain ⟨qn, qss, qms⟩ := q
  obtain ⟨i1, j1, i2, j2⟩ := v
  obtain ⟨rnm, rss, rms⟩ := r
  obtain ⟨ra1, rc1, ra2, rc2⟩ := yr
  obtain ⟨cl, e_cl⟩ : ∃ k, cs.length = k := ⟨_, rfl⟩
  obtain ⟨k2, e_k2⟩ : ∃ k, mv.length = k := ⟨_, rfl⟩
  obtain ⟨N, e_N⟩ : ∃ k, rs.length = k := ⟨_, rfl⟩
  obtain ⟨K, e_K⟩ : ∃ k, ls.length = k := ⟨_, rfl⟩
  obtain ⟨gn, e_gn⟩ : ∃ k, gst.length = k := ⟨_, rfl⟩
  obtain ⟨grl, e_grl⟩ : ∃ k, grs.length = k := ⟨_, rfl⟩
  obtain ⟨J, e_J⟩ : ∃ k, gts.length = k := ⟨_, rfl⟩
  obtain ⟨hn, e_hn⟩ : ∃ k, hst.length = k := ⟨_, rfl⟩
  obtain ⟨hrl, e_hrl⟩ : ∃ k, hrs.length = k := ⟨_, rfl⟩
  obtain ⟨hJ, e_hJ⟩ : ∃ k, hts.length = k := ⟨_, rfl⟩
  obtain ⟨pl, e_pl⟩ : ∃ k, pss.length = k := ⟨_, rfl⟩
  obtain ⟨pml, e_pml⟩ : ∃ k, pms.length = k := ⟨_, rfl⟩
  obtain ⟨ql, e_ql⟩ : ∃ k, qss.length = k := ⟨_, rfl⟩
  obtain ⟨qml, e_qml⟩ : ∃ k, qms.length = k := ⟨_, rfl⟩
  obtain ⟨rl, e_rl⟩ : ∃ k, rss.length = k := ⟨_, rfl⟩
  obtain ⟨rml, e_rml⟩ : ∃ k, rms.length = k := ⟨_, rfl⟩
  have eM : mtC ⟨id, o, cs, pr, st, mv, rs, ls⟩ ⟨a1, c1, a2, c2, a3, c3, a4, c4, lv⟩ = #[.string id, .int .i64 o, .slice a1 cl c1, .string pr, .int .i64 st, .slice a2 k2 c2, .slice a3 N c3, .slice a4 K c4] := by unfold mtC; simp only [e_cl, e_k2, e_N, e_K]
  have eG : mgC ⟨fr, tn, gst, grs, gts⟩ ⟨b1, dq1, b2, dq2, b3, dq3, tv⟩ = #[.string fr, .string tn, .slice b1 gn dq1, .slice b2 grl dq2, .slice b3 J dq3] := by unfold mgC; simp only [e_gn, e_grl, e_J]
  have eH : mgC ⟨hfr, htn, hst, hrs, hts⟩ ⟨hb1, hq1, hb2, hq2, hb3, hq3, htv⟩ = #[.string hfr, .string htn, .slice hb1 hn hq1, .slice hb2 hrl hq2, .slice hb3 hJ hq3] := by unfold mgC; simp only [e_hn, e_hrl, e_hJ]
  have eP : pcC ⟨pn, pss, pms⟩ ⟨ez1, f1, ez2, f2⟩ = #[.string pn, .slice ez1 pl f1, .slice ez2 pml f2] := by unfold pcC; simp only [e_pl, e_pml]
  have eQ : pcC ⟨qn, qss, qms⟩ ⟨i1, j1, i2, j2⟩ = #[.string qn, .slice i1 ql j1, .slice i2 qml j2] := by unfold pcC; simp only [e_ql, e_qml]
  have eR : pcC ⟨rnm, rss, rms⟩ ⟨ra1, rc1, ra2, rc2⟩ = #[.string rnm, .slice ra1 rl rc1, .slice ra2 rml rc2] := by unfold pcC; simp only [e_rl, e_rml]
  rw [eM, eG, eP, eQ] at hfew hap
  rw [eM, eH, eQ, eR] at hfew2
  rw [eG, eP, eQ] at hva
  rw [eH, eQ, eR] at hvb hap2
  rw [eG, eH] at hth
  rw [eM, eP, eR] at hap3
  rw [eM, eG, eH, eP, eQ, eR]
  have FEW := Lib.hid hfew
  have FEW2 := Lib.hid hfew2
  have HHD := Lib.hid hhd
  have HVA := Lib.hid hva
  have HVB := Lib.hid hvb
  have HTH := Lib.hid hth
  have HAP := Lib.hid hap
  have HAP2 := Lib.hid hap2
  have HAP3 := Lib.hid hap3
  have HCH := Lib.hid hch2
  have HTZ := Lib.hid htz
  have HS2 := Lib.hid hs2
  have HS3 := Lib.hid hs3
  have HS4 := Lib.hid hs4
  have HS5 := Lib.hid hs5
  clear ht eM eG eH eP eQ eR hfew hfew2 hhd hva hvb hth hap hap2 hap3 hch2 htz hs2 hs3 hs4 hs5 e_cl e_k2 e_N e_K e_gn e_grl e_J e_hn e_hrl e_hJ e_pl e_pml e_ql e_qml e_rl e_rml
  go_enter Tryz.func8, Tryz.ntmps8
  go_upto_region 1 with fail
  generalize hW0 : ((((((w.alloc (.cells #[.string id, .int .i64 o, .slice a1 cl c1, .string pr, .int .i64 st, .slice a2 k2 c2, .slice a3 N c3, .slice a4 K c4] 27)).alloc (.cells #[.string fr, .string tn, .slice b1 gn dq1, .slice b2 grl dq2, .slice b3 J dq3] 30)).alloc (.cells #[.string hfr, .string htn, .slice hb1 hn hq1, .slice hb2 hrl hq2, .slice hb3 hJ hq3] 30)).alloc (.cells #[.string pn, .slice ez1 pl f1, .slice ez2 pml f2] 34)).alloc (.cells #[.string qn, .slice i1 ql j1, .slice i2 qml j2] 34)).alloc (.cells #[.string rnm, .slice ra1 rl rc1, .slice ra2 rml rc2] 34)) = W0 at *
  obtain ⟨hb, kb0, kb1, kb2, kb3, kb4, kb5⟩ := boxes6 hW0
  have HB := Lib.hid hb
  have KB0 := Lib.hid kb0
  have KB1 := Lib.hid kb1
  have KB2 := Lib.hid kb2
  have KB3 := Lib.hid kb3
  have KB4 := Lib.hid kb4
  have KB5 := Lib.hid kb5
  clear hb kb0 kb1 kb2 kb3 kb4 kb5 hW0
  go_wp2_with fail
  refine (HHD.out W0 HB.out).mono ?_
  rintro e W1 ⟨rfl, bb⟩
  replace HB := Lib.hid (HB.out.trans (bb.mono HB.out.size))
  replace KB0 := Lib.hid (KB0.out.below bb KB0.out.lt)
  replace KB1 := Lib.hid (KB1.out.below bb KB1.out.lt)
  replace KB2 := Lib.hid (KB2.out.below bb KB2.out.lt)
  replace KB3 := Lib.hid (KB3.out.below bb KB3.out.lt)
  replace KB4 := Lib.hid (KB4.out.below bb KB4.out.lt)
  replace KB5 := Lib.hid (KB5.out.below bb KB5.out.lt)
  clear bb
  obtain ⟨t00, t01, t02⟩ := KB0.out.all
  obtain ⟨t10, t11, t12⟩ := KB1.out.all
  obtain ⟨t20, t21, t22⟩ := KB2.out.all
  obtain ⟨t30, t31, t32⟩ := KB3.out.all
  obtain ⟨t40, t41, t42⟩ := KB4.out.all
  obtain ⟨t50, t51, t52⟩ := KB5.out.all
  go_wp2_with fail
  refine (FEW.out W1 HB.out).mono ?_
  rintro e W2 ⟨qf, rfl, hqf, bb⟩
  clear t00 t01 t02 t10 t11 t12 t20 t21 t22 t30 t31 t32 t40 t41 t42 t50 t51 t52
  replace HB := Lib.hid (HB.out.trans (bb.mono HB.out.size))
  replace KB0 := Lib.hid (KB0.out.below bb KB0.out.lt)
  replace KB1 := Lib.hid (KB1.out.below bb KB1.out.lt)
  replace KB2 := Lib.hid (KB2.out.below bb KB2.out.lt)
  replace KB3 := Lib.hid (KB3.out.below bb KB3.out.lt)
  replace KB4 := Lib.hid (KB4.out.below bb KB4.out.lt)
  replace KB5 := Lib.hid (KB5.out.below bb KB5.out.lt)
  clear bb
  obtain ⟨t00, t01, t02⟩ := KB0.out.all
  obtain ⟨t10, t11, t12⟩ := KB1.out.all
  obtain ⟨t20, t21, t22⟩ := KB2.out.all
  obtain ⟨t30, t31, t32⟩ := KB3.out.all
  obtain ⟨t40, t41, t42⟩ := KB4.out.all
  obtain ⟨t50, t51, t52⟩ := KB5.out.all
  cases qf with
  | false =>
    go_wp2
    go_ret
    exact ⟨rfl, HB.out⟩
  | true =>
  obtain ⟨sm, sg, sp, sq, sl⟩ := FM.out (hqf rfl)
  have SM := Lib.hid sm
  have SG := Lib.hid sg
  have SP := Lib.hid sp
  have SQ := Lib.hid sq
  have SL := Lib.hid sl
  clear sm sg sp sq sl hqf
  go_wp2_with fail
  refine (FEW2.out W2 HB.out).mono ?_
  rintro e W3 ⟨qf, rfl, hqf, bb⟩
  clear t00 t01 t02 t10 t11 t12 t20 t21 t22 t30 t31 t32 t40 t41 t42 t50 t51 t52
  replace HB := Lib.hid (HB.out.trans (bb.mono HB.out.size))
  replace KB0 := Lib.hid (KB0.out.below bb KB0.out.lt)
  replace KB1 := Lib.hid (KB1.out.below bb KB1.out.lt)
  replace KB2 := Lib.hid (KB2.out.below bb KB2.out.lt)
  replace KB3 := Lib.hid (KB3.out.below bb KB3.out.lt)
  replace KB4 := Lib.hid (KB4.out.below bb KB4.out.lt)
  replace KB5 := Lib.hid (KB5.out.below bb KB5.out.lt)
  clear bb
  obtain ⟨t00, t01, t02⟩ := KB0.out.all
  obtain ⟨t10, t11, t12⟩ := KB1.out.all
  obtain ⟨t20, t21, t22⟩ := KB2.out.all
  obtain ⟨t30, t31, t32⟩ := KB3.out.all
  obtain ⟨t40, t41, t42⟩ := KB4.out.all
  obtain ⟨t50, t51, t52⟩ := KB5.out.all
  cases qf with
  | false =>
    go_wp2
    go_ret
    exact ⟨rfl, HB.out⟩
  | true =>
  obtain ⟨sh, sr⟩ := FM2.out (hqf rfl)
  have SH := Lib.hid sh
  have SR := Lib.hid sr
  clear sh sr hqf
  go_wp2_with fail
  refine (HVA.out W3 HB.out SG.out SP.out SQ.out).mono ?_
  rintro e W4 ⟨rfl, bb⟩
  clear t00 t01 t02 t10 t11 t12 t20 t21 t22 t30 t31 t32 t40 t41 t42 t50 t51 t52
  replace HB := Lib.hid (HB.out.trans (bb.mono HB.out.size))
  replace KB0 := Lib.hid (KB0.out.below bb KB0.out.lt)
  replace KB1 := Lib.hid (KB1.out.below bb KB1.out.lt)
  replace KB2 := Lib.hid (KB2.out.below bb KB2.out.lt)
  replace KB3 := Lib.hid (KB3.out.below bb KB3.out.lt)
  replace KB4 := Lib.hid (KB4.out.below bb KB4.out.lt)
  replace KB5 := Lib.hid (KB5.out.below bb KB5.out.lt)
  clear bb
  obtain ⟨t00, t01, t02⟩ := KB0.out.all
  obtain ⟨t10, t11, t12⟩ := KB1.out.all
  obtain ⟨t20, t21, t22⟩ := KB2.out.all
  obtain ⟨t30, t31, t32⟩ := KB3.out.all
  obtain ⟨t40, t41, t42⟩ := KB4.out.all
  obtain ⟨t50, t51, t52⟩ := KB5.out.all
  cases V1 with
  | false =>
    go_wp2
    go_ret
    exact ⟨rfl, HB.out⟩
  | true =>
  go_wp2_with fail
  refine (HVB.out W4 HB.out SH.out SQ.out SR.out).mono ?_
  rintro e W5 ⟨rfl, bb⟩
  clear t00 t01 t02 t10 t11 t12 t20 t21 t22 t30 t31 t32 t40 t41 t42 t50 t51 t52
  replace HB := Lib.hid (HB.out.trans (bb.mono HB.out.size))
  replace KB0 := Lib.hid (KB0.out.below bb KB0.out.lt)
  replace KB1 := Lib.hid (KB1.out.below bb KB1.out.lt)
  replace KB2 := Lib.hid (KB2.out.below bb KB2.out.lt)
  replace KB3 := Lib.hid (KB3.out.below bb KB3.out.lt)
  replace KB4 := Lib.hid (KB4.out.below bb KB4.out.lt)
  replace KB5 := Lib.hid (KB5.out.below bb KB5.out.lt)
  clear bb
  obtain ⟨t00, t01, t02⟩ := KB0.out.all
  obtain ⟨t10, t11, t12⟩ := KB1.out.all
  obtain ⟨t20, t21, t22⟩ := KB2.out.all
  obtain ⟨t30, t31, t32⟩ := KB3.out.all
  obtain ⟨t40, t41, t42⟩ := KB4.out.all
  obtain ⟨t50, t51, t52⟩ := KB5.out.all
  cases V2 with
  | false =>
    go_wp2
    go_ret
    exact ⟨rfl, HB.out⟩
  | true =>
  go_wp2_with fail
  refine (HTH.out W5 HB.out SG.out SH.out).mono ?_
  rintro e W6 ⟨⟨xb1, xq1, xb2, xq2, xb3, xq3, xtv⟩, he, hx, bb⟩
  obtain ⟨xfr, xtn, xst, xrs, xts⟩ := X
  obtain ⟨xn, e_xn⟩ : ∃ k, xst.length = k := ⟨_, rfl⟩
  obtain ⟨xrl, e_xrl⟩ : ∃ k, xrs.length = k := ⟨_, rfl⟩
  obtain ⟨xJ, e_xJ⟩ : ∃ k, xts.length = k := ⟨_, rfl⟩
  have eX : mgC ⟨xfr, xtn, xst, xrs, xts⟩ ⟨xb1, xq1, xb2, xq2, xb3, xq3, xtv⟩ = #[.string xfr, .string xtn, .slice xb1 xn xq1, .slice xb2 xrl xq2, .slice xb3 xJ xq3] := by unfold mgC; simp only [e_xn, e_xrl, e_xJ]
  rw [eX] at he
  subst he
  have HX := Lib.hid hx
  have EX := Lib.hid eX
  have EXN := Lib.hid e_xn
  clear eX hx e_xn e_xrl e_xJ
  clear t00 t01 t02 t10 t11 t12 t20 t21 t22 t30 t31 t32 t40 t41 t42 t50 t51 t52
  replace HB := Lib.hid (HB.out.trans (bb.mono HB.out.size))
  replace KB0 := Lib.hid (KB0.out.below bb KB0.out.lt)
  replace KB1 := Lib.hid (KB1.out.below bb KB1.out.lt)
  replace KB2 := Lib.hid (KB2.out.below bb KB2.out.lt)
  replace KB3 := Lib.hid (KB3.out.below bb KB3.out.lt)
  replace KB4 := Lib.hid (KB4.out.below bb KB4.out.lt)
  replace KB5 := Lib.hid (KB5.out.below bb KB5.out.lt)
  clear bb
  go_upto_region 5 with fail
  have kx := Blk.new W6 30 #[.string xfr, .string xtn, .slice xb1 xn xq1, .slice xb2 xrl xq2, .slice xb3 xJ xq3]
  have bb := below_self_alloc W6 (.cells #[.string xfr, .string xtn, .slice xb1 xn xq1, .slice xb2 xrl xq2, .slice xb3 xJ xq3] 30)
  generalize hW7 : W6.alloc (.cells #[.string xfr, .string xtn, .slice xb1 xn xq1, .slice xb2 xrl xq2, .slice xb3 xJ xq3] 30) = W7 at *
  replace HB := Lib.hid (HB.out.trans (bb.mono HB.out.size))
  replace KB0 := Lib.hid (KB0.out.below bb KB0.out.lt)
  replace KB1 := Lib.hid (KB1.out.below bb KB1.out.lt)
  replace KB2 := Lib.hid (KB2.out.below bb KB2.out.lt)
  replace KB3 := Lib.hid (KB3.out.below bb KB3.out.lt)
  replace KB4 := Lib.hid (KB4.out.below bb KB4.out.lt)
  replace KB5 := Lib.hid (KB5.out.below bb KB5.out.lt)
  have KX := Lib.hid kx
  replace HX := Lib.hid (HX.out.below bb)
  have BX := Lib.hid bb.size
  clear bb kx hW7
  generalize W6.heap.size = bx at *
  by_cases hTE : TE = 0
  case neg =>
    have hz := HTZ.out hTE
    simp only [Mg.zero, Mg.mk.injEq] at hz
    have h0 : xn = 0 := by rw [← EXN.out, hz.2.2.1]; rfl
    subst h0
    clear hz
    obtain ⟨tx0, tx1, tx2⟩ := KX.out.all
    go_wp2
    go_ret
    exact ⟨rfl, HB.out⟩
  subst hTE
  have HCC := Lib.hid (HCH.out rfl (by trivial) (by trivial))
  clear HCH HTZ
  obtain ⟨t00, t01, t02⟩ := KB0.out.all
  obtain ⟨t10, t11, t12⟩ := KB1.out.all
  obtain ⟨t20, t21, t22⟩ := KB2.out.all
  obtain ⟨t30, t31, t32⟩ := KB3.out.all
  obtain ⟨t40, t41, t42⟩ := KB4.out.all
  obtain ⟨t50, t51, t52⟩ := KB5.out.all
  obtain ⟨t60, t61, t62⟩ := KX.out.all
  go_wp2_with fail
  have HC := Lib.hid (HAP.out W7 HB.out SM.out SG.out SP.out SQ.out SL.out)
  refine HC.out.mono ?_
  rintro e W8 ⟨⟨xpa1, xpc1, xpa2, xpc2, xpa3, xpc3, xpa4, xpc4, xplv⟩, he, hat, bb⟩
  obtain ⟨xpid, xpo, xpcs, xppr, xpst, xpmv, xprs, xpls⟩ := D1
  obtain ⟨xpcl, e1⟩ : ∃ k, xpcs.length = k := ⟨_, rfl⟩
  obtain ⟨xpmk, e2⟩ : ∃ k, xpmv.length = k := ⟨_, rfl⟩
  obtain ⟨xpN, e3⟩ : ∃ k, xprs.length = k := ⟨_, rfl⟩
  obtain ⟨xpK, e4⟩ : ∃ k, xpls.length = k := ⟨_, rfl⟩
  have eA : mtC ⟨xpid, xpo, xpcs, xppr, xpst, xpmv, xprs, xpls⟩ ⟨xpa1, xpc1, xpa2, xpc2, xpa3, xpc3, xpa4, xpc4, xplv⟩ = #[.string xpid, .int .i64 xpo, .slice xpa1 xpcl xpc1, .string xppr, .int .i64 xpst, .slice xpa2 xpmk xpc2, .slice xpa3 xpN xpc3, .slice xpa4 xpK xpc4] := by unfold mtC; simp only [e1, e2, e3, e4]
  rw [eA] at he
  subst he
  have HATp := Lib.hid hat
  have EAp := Lib.hid eA
  clear eA hat e1 e2 e3 e4 HC
  clear t00 t01 t02 t10 t11 t12 t20 t21 t22 t30 t31 t32 t40 t41 t42 t50 t51 t52 t60 t61 t62
  replace HB := Lib.hid (HB.out.trans (bb.mono HB.out.size))
  replace KB0 := Lib.hid (KB0.out.below bb KB0.out.lt)
  replace KB1 := Lib.hid (KB1.out.below bb KB1.out.lt)
  replace KB2 := Lib.hid (KB2.out.below bb KB2.out.lt)
  replace KB3 := Lib.hid (KB3.out.below bb KB3.out.lt)
  replace KB4 := Lib.hid (KB4.out.below bb KB4.out.lt)
  replace KB5 := Lib.hid (KB5.out.below bb KB5.out.lt)
  replace KX := Lib.hid (KX.out.below bb KX.out.lt)
  replace HX := Lib.hid (HX.out.below (bb.mono BX.out))
  replace BX := Lib.hid (Nat.le_trans BX.out bb.size)
  clear bb
  go_upto_region 8 with fail
  have kx := Blk.new W8 27 #[.string xpid, .int .i64 xpo, .slice xpa1 xpcl xpc1, .string xppr, .int .i64 xpst, .slice xpa2 xpmk xpc2, .slice xpa3 xpN xpc3, .slice xpa4 xpK xpc4]
  have bb := below_self_alloc W8 (.cells #[.string xpid, .int .i64 xpo, .slice xpa1 xpcl xpc1, .string xppr, .int .i64 xpst, .slice xpa2 xpmk xpc2, .slice xpa3 xpN xpc3, .slice xpa4 xpK xpc4] 27)
  have bs0 := bb.size
  generalize hWn : W8.alloc (.cells #[.string xpid, .int .i64 xpo, .slice xpa1 xpcl xpc1, .string xppr, .int .i64 xpst, .slice xpa2 xpmk xpc2, .slice xpa3 xpN xpc3, .slice xpa4 xpK xpc4] 27) = W8n at *
  replace HB := Lib.hid (HB.out.trans (bb.mono HB.out.size))
  replace KB0 := Lib.hid (KB0.out.below bb KB0.out.lt)
  replace KB1 := Lib.hid (KB1.out.below bb KB1.out.lt)
  replace KB2 := Lib.hid (KB2.out.below bb KB2.out.lt)
  replace KB3 := Lib.hid (KB3.out.below bb KB3.out.lt)
  replace KB4 := Lib.hid (KB4.out.below bb KB4.out.lt)
  replace KB5 := Lib.hid (KB5.out.below bb KB5.out.lt)
  replace KX := Lib.hid (KX.out.below bb KX.out.lt)
  replace HX := Lib.hid (HX.out.below (bb.mono BX.out))
  replace BX := Lib.hid (Nat.le_trans BX.out bb.size)
  have KAp := Lib.hid kx
  replace HATp := Lib.hid (HATp.out.below bb)
  have BAp := Lib.hid bs0
  clear bb bs0 kx hWn
  generalize W8.heap.size = bap at *
  obtain ⟨t00, t01, t02⟩ := KB0.out.all
  obtain ⟨t10, t11, t12⟩ := KB1.out.all
  obtain ⟨t20, t21, t22⟩ := KB2.out.all
  obtain ⟨t30, t31, t32⟩ := KB3.out.all
  obtain ⟨t40, t41, t42⟩ := KB4.out.all
  obtain ⟨t50, t51, t52⟩ := KB5.out.all
  obtain ⟨t60, t61, t62⟩ := KX.out.all
  obtain ⟨t70, t71, t72⟩ := KAp.out.all
  go_wp2_with fail
  have hc := HAP2.out W8n HB.out _ (HATp.out.wide BAp.out) (HS2.out SM.out) SH.out SQ.out SR.out SL.out
  rw [EAp.out] at hc
  have HC := Lib.hid hc
  clear hc
  refine HC.out.mono ?_
  rintro e W9 ⟨⟨xqa1, xqc1, xqa2, xqc2, xqa3, xqc3, xqa4, xqc4, xqlv⟩, he, hat, bb⟩
  obtain ⟨xqid, xqo, xqcs, xqpr, xqst, xqmv, xqrs, xqls⟩ := D2
  obtain ⟨xqcl, e1⟩ : ∃ k, xqcs.length = k := ⟨_, rfl⟩
  obtain ⟨xqmk, e2⟩ : ∃ k, xqmv.length = k := ⟨_, rfl⟩
  obtain ⟨xqN, e3⟩ : ∃ k, xqrs.length = k := ⟨_, rfl⟩
  obtain ⟨xqK, e4⟩ : ∃ k, xqls.length = k := ⟨_, rfl⟩
  have eA : mtC ⟨xqid, xqo, xqcs, xqpr, xqst, xqmv, xqrs, xqls⟩ ⟨xqa1, xqc1, xqa2, xqc2, xqa3, xqc3, xqa4, xqc4, xqlv⟩ = #[.string xqid, .int .i64 xqo, .slice xqa1 xqcl xqc1, .string xqpr, .int .i64 xqst, .slice xqa2 xqmk xqc2, .slice xqa3 xqN xqc3, .slice xqa4 xqK xqc4] := by unfold mtC; simp only [e1, e2, e3, e4]
  rw [eA] at he
  subst he
  have HATq := Lib.hid hat
  have EAq := Lib.hid eA
  clear eA hat e1 e2 e3 e4 HC
  clear t00 t01 t02 t10 t11 t12 t20 t21 t22 t30 t31 t32 t40 t41 t42 t50 t51 t52 t60 t61 t62 t70 t71 t72
  replace HB := Lib.hid (HB.out.trans (bb.mono HB.out.size))
  replace KB0 := Lib.hid (KB0.out.below bb KB0.out.lt)
  replace KB1 := Lib.hid (KB1.out.below bb KB1.out.lt)
  replace KB2 := Lib.hid (KB2.out.below bb KB2.out.lt)
  replace KB3 := Lib.hid (KB3.out.below bb KB3.out.lt)
  replace KB4 := Lib.hid (KB4.out.below bb KB4.out.lt)
  replace KB5 := Lib.hid (KB5.out.below bb KB5.out.lt)
  replace KX := Lib.hid (KX.out.below bb KX.out.lt)
  replace KAp := Lib.hid (KAp.out.below bb KAp.out.lt)
  replace HX := Lib.hid (HX.out.below (bb.mono BX.out))
  replace BX := Lib.hid (Nat.le_trans BX.out bb.size)
  replace HATp := Lib.hid (HATp.out.below (bb.mono BAp.out))
  replace BAp := Lib.hid (Nat.le_trans BAp.out bb.size)
  clear bb
  go_upto_region 9 with fail
  have kx := Blk.new W9 27 #[.string xqid, .int .i64 xqo, .slice xqa1 xqcl xqc1, .string xqpr, .int .i64 xqst, .slice xqa2 xqmk xqc2, .slice xqa3 xqN xqc3, .slice xqa4 xqK xqc4]
  have bb := below_self_alloc W9 (.cells #[.string xqid, .int .i64 xqo, .slice xqa1 xqcl xqc1, .string xqpr, .int .i64 xqst, .slice xqa2 xqmk xqc2, .slice xqa3 xqN xqc3, .slice xqa4 xqK xqc4] 27)
  have bs0 := bb.size
  generalize hWn : W9.alloc (.cells #[.string xqid, .int .i64 xqo, .slice xqa1 xqcl xqc1, .string xqpr, .int .i64 xqst, .slice xqa2 xqmk xqc2, .slice xqa3 xqN xqc3, .slice xqa4 xqK xqc4] 27) = W9n at *
  replace HB := Lib.hid (HB.out.trans (bb.mono HB.out.size))
  replace KB0 := Lib.hid (KB0.out.below bb KB0.out.lt)
  replace KB1 := Lib.hid (KB1.out.below bb KB1.out.lt)
  replace KB2 := Lib.hid (KB2.out.below bb KB2.out.lt)
  replace KB3 := Lib.hid (KB3.out.below bb KB3.out.lt)
  replace KB4 := Lib.hid (KB4.out.below bb KB4.out.lt)
  replace KB5 := Lib.hid (KB5.out.below bb KB5.out.lt)
  replace KX := Lib.hid (KX.out.below bb KX.out.lt)
  replace KAp := Lib.hid (KAp.out.below bb KAp.out.lt)
  replace HX := Lib.hid (HX.out.below (bb.mono BX.out))
  replace BX := Lib.hid (Nat.le_trans BX.out bb.size)
  replace HATp := Lib.hid (HATp.out.below (bb.mono BAp.out))
  replace BAp := Lib.hid (Nat.le_trans BAp.out bb.size)
  have KAq := Lib.hid kx
  replace HATq := Lib.hid (HATq.out.below bb)
  have BAq := Lib.hid bs0
  clear bb bs0 kx hWn
  generalize W9.heap.size = baq at *
  obtain ⟨t00, t01, t02⟩ := KB0.out.all
  obtain ⟨t10, t11, t12⟩ := KB1.out.all
  obtain ⟨t20, t21, t22⟩ := KB2.out.all
  obtain ⟨t30, t31, t32⟩ := KB3.out.all
  obtain ⟨t40, t41, t42⟩ := KB4.out.all
  obtain ⟨t50, t51, t52⟩ := KB5.out.all
  obtain ⟨t60, t61, t62⟩ := KX.out.all
  obtain ⟨t70, t71, t72⟩ := KAp.out.all
  obtain ⟨t80, t81, t82⟩ := KAq.out.all
  go_wp2_with fail
  have hc := HAP3.out W9n HB.out _ (HX.out.wide BX.out) SM.out (HS3.out SG.out) SP.out SR.out SL.out
  rw [EX.out] at hc
  have HC := Lib.hid hc
  clear hc
  refine HC.out.mono ?_
  rintro e W10 ⟨⟨xra1, xrc1, xra2, xrc2, xra3, xrc3, xra4, xrc4, xrlv⟩, he, hat, bb⟩
  obtain ⟨xrid, xro, xrcs, xrpr, xrst, xrmv, xrrs, xrls⟩ := D3
  obtain ⟨xrcl, e1⟩ : ∃ k, xrcs.length = k := ⟨_, rfl⟩
  obtain ⟨xrmk, e2⟩ : ∃ k, xrmv.length = k := ⟨_, rfl⟩
  obtain ⟨xrN, e3⟩ : ∃ k, xrrs.length = k := ⟨_, rfl⟩
  obtain ⟨xrK, e4⟩ : ∃ k, xrls.length = k := ⟨_, rfl⟩
  have eA : mtC ⟨xrid, xro, xrcs, xrpr, xrst, xrmv, xrrs, xrls⟩ ⟨xra1, xrc1, xra2, xrc2, xra3, xrc3, xra4, xrc4, xrlv⟩ = #[.string xrid, .int .i64 xro, .slice xra1 xrcl xrc1, .string xrpr, .int .i64 xrst, .slice xra2 xrmk xrc2, .slice xra3 xrN xrc3, .slice xra4 xrK xrc4] := by unfold mtC; simp only [e1, e2, e3, e4]
  rw [eA] at he
  subst he
  have HATr := Lib.hid hat
  have EAr := Lib.hid eA
  clear eA hat e1 e2 e3 e4 HC
  clear t00 t01 t02 t10 t11 t12 t20 t21 t22 t30 t31 t32 t40 t41 t42 t50 t51 t52 t60 t61 t62 t70 t71 t72 t80 t81 t82
  replace HB := Lib.hid (HB.out.trans (bb.mono HB.out.size))
  replace KB0 := Lib.hid (KB0.out.below bb KB0.out.lt)
  replace KB1 := Lib.hid (KB1.out.below bb KB1.out.lt)
  replace KB2 := Lib.hid (KB2.out.below bb KB2.out.lt)
  replace KB3 := Lib.hid (KB3.out.below bb KB3.out.lt)
  replace KB4 := Lib.hid (KB4.out.below bb KB4.out.lt)
  replace KB5 := Lib.hid (KB5.out.below bb KB5.out.lt)
  replace KX := Lib.hid (KX.out.below bb KX.out.lt)
  replace KAp := Lib.hid (KAp.out.below bb KAp.out.lt)
  replace KAq := Lib.hid (KAq.out.below bb KAq.out.lt)
  replace HX := Lib.hid (HX.out.below (bb.mono BX.out))
  replace BX := Lib.hid (Nat.le_trans BX.out bb.size)
  replace HATp := Lib.hid (HATp.out.below (bb.mono BAp.out))
  replace BAp := Lib.hid (Nat.le_trans BAp.out bb.size)
  replace HATq := Lib.hid (HATq.out.below (bb.mono BAq.out))
  replace BAq := Lib.hid (Nat.le_trans BAq.out bb.size)
  clear bb
  go_upto_region 10 with fail
  have kx := Blk.new W10 27 #[.string xrid, .int .i64 xro, .slice xra1 xrcl xrc1, .string xrpr, .int .i64 xrst, .slice xra2 xrmk xrc2, .slice xra3 xrN xrc3, .slice xra4 xrK xrc4]
  have bb := below_self_alloc W10 (.cells #[.string xrid, .int .i64 xro, .slice xra1 xrcl xrc1, .string xrpr, .int .i64 xrst, .slice xra2 xrmk xrc2, .slice xra3 xrN xrc3, .slice xra4 xrK xrc4] 27)
  have bs0 := bb.size
  generalize hWn : W10.alloc (.cells #[.string xrid, .int .i64 xro, .slice xra1 xrcl xrc1, .string xrpr, .int .i64 xrst, .slice xra2 xrmk xrc2, .slice xra3 xrN xrc3, .slice xra4 xrK xrc4] 27) = W10n at *
  replace HB := Lib.hid (HB.out.trans (bb.mono HB.out.size))
  replace KB0 := Lib.hid (KB0.out.below bb KB0.out.lt)
  replace KB1 := Lib.hid (KB1.out.below bb KB1.out.lt)
  replace KB2 := Lib.hid (KB2.out.below bb KB2.out.lt)
  replace KB3 := Lib.hid (KB3.out.below bb KB3.out.lt)
  replace KB4 := Lib.hid (KB4.out.below bb KB4.out.lt)
  replace KB5 := Lib.hid (KB5.out.below bb KB5.out.lt)
  replace KX := Lib.hid (KX.out.below bb KX.out.lt)
  replace KAp := Lib.hid (KAp.out.below bb KAp.out.lt)
  replace KAq := Lib.hid (KAq.out.below bb KAq.out.lt)
  replace HX := Lib.hid (HX.out.below (bb.mono BX.out))
  replace BX := Lib.hid (Nat.le_trans BX.out bb.size)
  replace HATp := Lib.hid (HATp.out.below (bb.mono BAp.out))
  replace BAp := Lib.hid (Nat.le_trans BAp.out bb.size)
  replace HATq := Lib.hid (HATq.out.below (bb.mono BAq.out))
  replace BAq := Lib.hid (Nat.le_trans BAq.out bb.size)
  have KAr := Lib.hid kx
  replace HATr := Lib.hid (HATr.out.below bb)
  have BAr := Lib.hid bs0
  clear bb bs0 kx hWn
  generalize W10.heap.size = bar at *
  obtain ⟨hc1, hc2⟩ := HCC.out
  have HC1 := Lib.hid hc1
  have HC2 := Lib.hid hc2
  clear hc1 hc2
  by_cases h1 : E1 = 0
  case neg =>
    have h3 := HC1.out (.inl h1)
    have c1 : decide (E1 = 0) = false := decide_eq_false h1
    have hc3 : (E3 != 0) = true := by simpa using h3
    have HC3 := Lib.hid hc3
    clear hc3
    go_wp2
    go_ret
    exact ⟨by show Ending.returned (.bool (E3 != 0)) = _; rw [HC3.out], HB.out⟩
  by_cases h2 : E2 = 0
  case neg =>
    have h3 := HC1.out (.inr h2)
    have c2' : decide (E2 = 0) = false := decide_eq_false h2
    have hc3 : (E3 != 0) = true := by simpa using h3
    have HC3 := Lib.hid hc3
    clear hc3
    subst h1
    go_wp2
    go_ret
    exact ⟨by show Ending.returned (.bool (E3 != 0)) = _; rw [HC3.out], HB.out⟩
  obtain ⟨h3, hd⟩ := HC2.out h1 h2
  subst h1 h2 h3
  have hsm := rsame_any W10n W10n.heap.size _ _ _ _ (HATq.out.wide BAq.out) (HATr.out.wide BAr.out) (Nat.le_refl _) (HS5.out SM.out) (HS4.out SM.out) true ⟨fun _ => hd.symm, fun _ => rfl⟩
  rw [EAq.out, EAr.out] at hsm
  have HSM := Lib.hid hsm
  clear hd hsm
  obtain ⟨t00, t01, t02⟩ := KB0.out.all
  obtain ⟨t10, t11, t12⟩ := KB1.out.all
  obtain ⟨t20, t21, t22⟩ := KB2.out.all
  obtain ⟨t30, t31, t32⟩ := KB3.out.all
  obtain ⟨t40, t41, t42⟩ := KB4.out.all
  obtain ⟨t50, t51, t52⟩ := KB5.out.all
  obtain ⟨t60, t61, t62⟩ := KX.out.all
  obtain ⟨t70, t71, t72⟩ := KAp.out.all
  obtain ⟨t80, t81, t82⟩ := KAq.out.all
  obtain ⟨t90, t91, t92⟩ := KAr.out.all
  go_wp2_with fail
  refine HSM.out.mono ?_
  rintro e W11 ⟨rfl, bb⟩
  clear HSM
  clear t00 t01 t02 t10 t11 t12 t20 t21 t22 t30 t31 t32 t40 t41 t42 t50 t51 t52 t60 t61 t62 t70 t71 t72 t80 t81 t82 t90 t91 t92
  replace HB := Lib.hid (HB.out.trans (bb.mono HB.out.size))
  replace KB0 := Lib.hid (KB0.out.below bb KB0.out.lt)
  replace KB1 := Lib.hid (KB1.out.below bb KB1.out.lt)
  replace KB2 := Lib.hid (KB2.out.below bb KB2.out.lt)
  replace KB3 := Lib.hid (KB3.out.below bb KB3.out.lt)
  replace KB4 := Lib.hid (KB4.out.below bb KB4.out.lt)
  replace KB5 := Lib.hid (KB5.out.below bb KB5.out.lt)
  replace KX := Lib.hid (KX.out.below bb KX.out.lt)
  replace KAp := Lib.hid (KAp.out.below bb KAp.out.lt)
  replace KAq := Lib.hid (KAq.out.below bb KAq.out.lt)
  replace KAr := Lib.hid (KAr.out.below bb KAr.out.lt)
  go_wp2
  go_ret
  exact ⟨rfl, HB.out⟩
end Go.Proofs.YtknchlpcpgflkaaGreatDoor
