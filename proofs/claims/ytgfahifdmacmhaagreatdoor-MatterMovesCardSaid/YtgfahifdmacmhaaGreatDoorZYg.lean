/- What moves and rights keep (plain); the law's moved. -/
import Derived.Test.YtgfahifdmacmhaaGreatDoorZYa
import Derived.Test.YtgfahifdmacmhaaGreatDoorYf
import Derived.Test.YtgfahifdmacmhaaGreatDoorQr
import Derived.BigQuiet
namespace Go.Proofs.YtgfahifdmacmhaaGreatDoor
open Go.RowKit Go.Shelf

theorem moveE_ok {m : Mt} {p : Pc} {s day : Int} (h : moveE m p s day = 0) : fmB m = true ∧ pcB p = true ∧ isB day = true ∧ 0 ≤ s ∧ s < (p.ss.length : Int) ∧ (m.st, s) ∈ p.ms ∧ m.o ≤ day ∧ lastI m.o m.mv ≤ day ∧ m.mv.length < 60 := by
  unfold moveE at h
  split at h
  · cases h
  · rename_i h1
    split at h
    · cases h
    · rename_i h2
      split at h
      · cases h
      · rename_i h3
        split at h
        · cases h
        · rename_i h4
          split at h
          · cases h
          · rename_i h5
            simp only [Bool.not_eq_true, Bool.not_eq_false', Bool.and_eq_true] at h1
            exact ⟨h1.1, h1.2.1, h1.2.2.2.2, by omega, by omega, Decidable.of_not_not h3, by omega, by omega, by omega⟩
theorem pc_ss {p : Pc} (h : pcB p = true) : p.ss.length ≤ 60 := by
  unfold pcB at h
  simp only [Bool.and_eq_true] at h
  exact (difB_iff.1 h.2.2.1).2.2
theorem vld_move {m : Mt} {p : Pc} {d : List Fc} {s day : Int} (h : vldB m p d = true) (hE : moveE m p s day = 0) : vldB { m with st := s, mv := m.mv ++ [day] } p d = true := by
  obtain ⟨h1, h2, h3, h4, h5, h6⟩ := vldB_iff.1 h
  obtain ⟨e1, e2, e3, e4, e5, e6, e7, e8, e9⟩ := moveE_ok hE
  obtain ⟨f1, f2, f3, f4, f5, f6, f7, f8, f9, f10⟩ := fmB_iff.1 h1
  have hp := pc_ss h2
  refine vldB_iff.2 ⟨fmB_iff.2 ⟨f1, f2, f3, ⟨e4, by show s < 60; omega⟩, f5, f6, ?_, ?_, f9, f10⟩, h2, h3, h4, e5, h6⟩
  · show upB m.o (m.mv ++ [day]) = true
    rw [upB_app, f7, Bool.true_and, decide_eq_true_eq]
    exact ⟨e8, ((isB_iff day).1 e3).2⟩
  · show (m.mv ++ [day]).length ≤ 60
    rw [List.length_append]
    simp only [List.length_cons, List.length_nil]
    omega
theorem vld_grant {m : Mt} {p : Pc} {d : List Fc} {n : ByteArray} {day : Int} (h : vldB m p d = true) (hE : grantE m n day = 0) : vldB { m with rs := m.rs ++ [(n, day)] } p d = true := by
  obtain ⟨h1, h2, h3, h4, h5, h6⟩ := vldB_iff.1 h
  obtain ⟨g1, g2, g3, g4, g5, g6⟩ := grantE_ok hE
  obtain ⟨f1, f2, f3, f4, f5, f6, f7, f8, f9, f10⟩ := fmB_iff.1 h1
  have ho := rights_other g1 g4
  obtain ⟨k1, k2, k3⟩ := difB_iff.1 f9
  refine vldB_iff.2 ⟨fmB_iff.2 ⟨f1, f2, f3, f4, f5, f6, f7, f8, difB_iff.2 ⟨fun x hx => ?_, ?_, ?_⟩, f10⟩, h2, h3, h4, h5, h6⟩
  · rcases List.mem_append.1 hx with hx | hx
    · exact k1 x hx
    · rw [List.mem_singleton] at hx
      subst hx
      unfold rtB
      rw [g2, g3, decide_eq_true g5]
      rfl
  · show ((m.rs ++ [(n, day)]).map (·.1)).Nodup
    rw [List.map_append, List.nodup_append]
    refine ⟨k2, by simp, fun a ha b hb => ?_⟩
    have hbn : b = n := by simpa using hb
    obtain ⟨r, hr, rfl⟩ := List.mem_map.1 ha
    rw [hbn]
    exact ho r hr
  · show (m.rs ++ [(n, day)]).length ≤ 60
    rw [List.length_append]
    simp only [List.length_cons, List.length_nil]
    omega
theorem has_self {l : List Rt} {r : Rt} (h : r ∈ l) : hasB l r.1 r.2 = true := hasB_iff.2 ⟨r, h, rfl, Int.le_refl _⟩

set_option maxRecDepth 100000 in
set_option maxHeartbeats 8000000 in
theorem moved_any (w : World) (B : Nat) (id id2 pr pr2 : ByteArray) (o o2 st s : Int) (mv : List Int) (day : Int) (nr nc nc2 nl nl2 : Nat) (a1 a2 a3 a4 b1 b2 b3 b4 : Option Addr) (c1 c2 c3 c4 e1 e2 e3 e4 : Nat)
    (hmv : IntsAt w B a2 mv) (hmv2 : IntsAt w B b2 (mv ++ [day])) (hl : mv.length ≤ 1000000) (p : Pc) (y : PcX) (hp : PcAt w B p y) (hpl : p.ms.length ≤ 1000000) (hmem : (st, s) ∈ p.ms) (hB : B ≤ w.heap.size) :
    Calls Tryz.prog 28 #[.agg #[.string id, .int .i64 o, .slice a1 nc c1, .string pr, .int .i64 st, .slice a2 mv.length c2, .slice a3 nr c3, .slice a4 nl c4], .agg #[.string id2, .int .i64 o2, .slice b1 nc2 e1, .string pr2, .int .i64 s, .slice b2 (mv.length + 1) e2, .slice b3 nr e3, .slice b4 nl2 e4], .agg (pcC p y), .int .i64 day] w
      fun e w' => e = .returned (.bool true) ∧ Below w.heap.size w w' := by
  obtain ⟨pn, ss, ms⟩ := p
  obtain ⟨x1, x2, x3, x4⟩ := y
  simp only at hpl hmem
  have hms : StopsAt w B x3 ms := hp.ms
  show Calls Tryz.prog 28 #[.agg #[.string id, .int .i64 o, .slice a1 nc c1, .string pr, .int .i64 st, .slice a2 mv.length c2, .slice a3 nr c3, .slice a4 nl c4], .agg #[.string id2, .int .i64 o2, .slice b1 nc2 e1, .string pr2, .int .i64 s, .slice b2 (mv.length + 1) e2, .slice b3 nr e3, .slice b4 nl2 e4], .agg #[.string pn, .slice x1 ss.length x2, .slice x3 ms.length x4], .int .i64 day] w _
  obtain ⟨nm, hnm⟩ : ∃ n, mv.length = n := ⟨_, rfl⟩
  obtain ⟨np, hnp⟩ : ∃ n, ms.length = n := ⟨_, rfl⟩
  rw [hnm] at hl ⊢
  rw [hnp] at hpl ⊢
  have HNM := Lib.hid hnm
  have HNP := Lib.hid hnp
  have HMEM := Lib.hid hmem
  clear hnm hnp hp hmem
  have hb := ((below_self_alloc w (.cells #[.string id, .int .i64 o, .slice a1 nc c1, .string pr, .int .i64 st, .slice a2 nm c2, .slice a3 nr c3, .slice a4 nl c4] 27)).alloc (by simp) (.cells #[.string id2, .int .i64 o2, .slice b1 nc2 e1, .string pr2, .int .i64 s, .slice b2 (nm + 1) e2, .slice b3 nr e3, .slice b4 nl2 e4] 27)).alloc (by simp; omega) (.cells #[.string pn, .slice x1 ss.length x2, .slice x3 np x4] 46)
  have k0 := ((Blk.new w 27 #[.string id, .int .i64 o, .slice a1 nc c1, .string pr, .int .i64 st, .slice a2 nm c2, .slice a3 nr c3, .slice a4 nl c4]).alloc (.cells #[.string id2, .int .i64 o2, .slice b1 nc2 e1, .string pr2, .int .i64 s, .slice b2 (nm + 1) e2, .slice b3 nr e3, .slice b4 nl2 e4] 27)).alloc (.cells #[.string pn, .slice x1 ss.length x2, .slice x3 np x4] 46)
  have k1 := (Blk.new1 w (.cells #[.string id, .int .i64 o, .slice a1 nc c1, .string pr, .int .i64 st, .slice a2 nm c2, .slice a3 nr c3, .slice a4 nl c4] 27) 27 #[.string id2, .int .i64 o2, .slice b1 nc2 e1, .string pr2, .int .i64 s, .slice b2 (nm + 1) e2, .slice b3 nr e3, .slice b4 nl2 e4]).alloc (.cells #[.string pn, .slice x1 ss.length x2, .slice x3 np x4] 46)
  have k2 := Blk.new2 w (.cells #[.string id, .int .i64 o, .slice a1 nc c1, .string pr, .int .i64 st, .slice a2 nm c2, .slice a3 nr c3, .slice a4 nl c4] 27) (.cells #[.string id2, .int .i64 o2, .slice b1 nc2 e1, .string pr2, .int .i64 s, .slice b2 (nm + 1) e2, .slice b3 nr e3, .slice b4 nl2 e4] 27) 46 #[.string pn, .slice x1 ss.length x2, .slice x3 np x4]
  have hv1 := hmv.below (hb.mono hB)
  have hv2 := hmv2.below (hb.mono hB)
  have hv3 := hms.below (hb.mono hB)
  clear hmv hmv2 hms
  go_enter Tryz.func28, Tryz.ntmps28
  go_upto_region 1 with fail
  generalize ((w.alloc (.cells #[.string id, .int .i64 o, .slice a1 nc c1, .string pr, .int .i64 st, .slice a2 nm c2, .slice a3 nr c3, .slice a4 nl c4] 27)).alloc (.cells #[.string id2, .int .i64 o2, .slice b1 nc2 e1, .string pr2, .int .i64 s, .slice b2 (nm + 1) e2, .slice b3 nr e3, .slice b4 nl2 e4] 27)).alloc (.cells #[.string pn, .slice x1 ss.length x2, .slice x3 np x4] 46) = W0 at *
  have K0 := Lib.hid k0
  have K1 := Lib.hid k1
  have K2 := Lib.hid k2
  have HB0 := Lib.hid hb
  obtain ⟨gb, ob, hA2, hgb, q0⟩ := hv2 nm day (by rw [List.getElem?_append_right (by rw [HNM.out]; exact Nat.le_refl _), HNM.out]; simp)
  subst hA2
  have HV1 := Lib.hid hv1
  have HV2 := Lib.hid hv2
  have HV3 := Lib.hid hv3
  obtain ⟨t0, t1, -⟩ := k0.all
  obtain ⟨s0, s1, -⟩ := k1.all
  clear k0 k1 k2 hb hv1 hv2 hv3
  go_wp2_with fail
  clear t0 t1 s0 s1 q0
  go_loopw [10] (fun i wr => ∃ k : Nat, k ≤ nm ∧ i = .int .i64 (k : Int) ∧ ∃ j, wr = W0.drewN j) (fun i _ => nm - (intOf i).toNat)
  case atStart => exact ⟨0, Nat.zero_le _, rfl, 0, rfl⟩
  case round =>
    obtain ⟨k, hk, rfl, j, rfl⟩ := hrel
    have k0 := K0.out.drewN j
    have k1 := K1.out.drewN j
    obtain ⟨t0, t1, -⟩ := k0.all
    obtain ⟨s0, s1, -⟩ := k1.all
    by_cases hlt : k < nm
    · obtain ⟨x, hx⟩ : ∃ x, mv[k]? = some x := ⟨_, List.getElem?_eq_getElem (by rw [HNM.out]; exact hlt)⟩
      have hx2 : (mv ++ [day])[k]? = some x := by rw [List.getElem?_append_left (by rw [HNM.out]; exact hlt)]; exact hx
      obtain ⟨ga, oa, hA, hga, p0⟩ := HV1.out k x hx
      obtain ⟨gc, oc, hC, hgc, r0⟩ := HV2.out k x hx2
      injection hC with hC
      injection hC with e1' e2' _
      subst hA
      subst e1' e2'
      have p0' : (W0.drewN j).cell? ⟨ga, oa + k, none⟩ = some (.int .i64 x) := p0
      have r0' : (W0.drewN j).cell? ⟨gb, ob + k, none⟩ = some (.int .i64 x) := r0
      have ib0 : (0 : Int) ≤ (k : Int) := by omega
      have ib1 : (k : Int) < (nm : Int) := by omega
      have ib2 : (k : Int) < ((nm + 1 : Nat) : Int) := by omega
      clear p0 r0 hx hx2
      go_wp2_with fail
      generalize hW : W0.drewN j = W at *
      go_quiet (fail)
      subst hW
      go_wp2
      go_roundw
      case rel => exact ⟨k + 1, by omega, by go_num, j + nq, rfl⟩
      case measure => simp [intOf]; omega
    · obtain rfl : nm = k := by omega
      go_wp2_with fail
      have k2 := K2.out.drewN j
      have hb := below_dN HB0.out j
      have hv3 : StopsAt (W0.drewN j) B x3 ms := HV3.out
      clear t0 t1 s0 s1
      generalize W0.drewN j = W1 at *
      have L0 := Lib.hid k0
      have L1 := Lib.hid k1
      have L2 := Lib.hid k2
      have LB := Lib.hid hb
      have LV3 := Lib.hid hv3
      clear k0 k1 k2 hb hv3 K0 K1 K2 HB0 HV1 HV2 HV3
      go_loopw [11] (fun i wr => ∃ k : Nat, k ≤ np ∧ i = .int .i64 (k : Int) ∧ Hid ((st, s) ∉ ms.take k) ∧ ∃ j, wr = W1.drewN j) (fun i _ => np - (intOf i).toNat)
      case atStart => exact ⟨0, Nat.zero_le _, rfl, Lib.hid (by simp), 0, rfl⟩
      case round =>
        obtain ⟨k, hk, rfl, HT, j, rfl⟩ := hrel
        have k0 := L0.out.drewN j
        have k1 := L1.out.drewN j
        have k2 := L2.out.drewN j
        obtain ⟨t0, t1, -⟩ := k0.all
        obtain ⟨s0, s1, -⟩ := k1.all
        obtain ⟨u0, u1, -⟩ := k2.all
        by_cases hlt : k < np
        · obtain ⟨x, hx⟩ : ∃ x, ms[k]? = some x := ⟨_, List.getElem?_eq_getElem (by rw [HNP.out]; exact hlt)⟩
          obtain ⟨ga, oa, hA, hga, p0, p1⟩ := LV3.out k x hx
          subst hA
          have HX := Lib.hid hx
          clear hx
          obtain ⟨z1, z2⟩ := x
          have p0' : (W1.drewN j).cell? ⟨ga, oa + k * 2, none⟩ = some (.int .i64 z1) := p0
          have p1' : (W1.drewN j).cell? ⟨ga, oa + k * 2 + 1, none⟩ = some (.int .i64 z2) := p1
          have ib0 : (0 : Int) ≤ (k : Int) := by omega
          have ib1 : (k : Int) < (np : Int) := by omega
          clear p0 p1
          go_wp2_with fail
          generalize hW : W1.drewN j = W at *
          by_cases hz1 : z1 = st
          · by_cases hz2 : z2 = s
            · have heq : ∀ W, (Op.equalIn 10000 101 (.agg #[.int .i64 z1, .int .i64 z2]) (.agg #[.int .i64 st, .int .i64 s])).run Tryz.prog W = .ok true W := fun W => by rw [eq_ky, decide_eq_true ⟨hz1, hz2⟩]
              clear hz1 hz2
              go_quiet (fail)
              subst hW
              rw [drew2]
              go_wp2
              go_ret
              exact ⟨rfl, below_dN LB.out _⟩
            · have heq : ∀ W, (Op.equalIn 10000 101 (.agg #[.int .i64 z1, .int .i64 z2]) (.agg #[.int .i64 st, .int .i64 s])).run Tryz.prog W = .ok false W := fun W => by rw [eq_ky, decide_eq_false (fun h => hz2 h.2)]
              have HT2 := Lib.hid (show (st, s) ∉ ms.take (k + 1) by rw [take_snoc' HX.out]; simp only [List.mem_append, List.mem_singleton, Prod.mk.injEq, not_or]; exact ⟨HT.out, fun h => hz2 h.2.symm⟩)
              clear hz1 hz2
              go_quiet (fail)
              subst hW
              rw [drew2]
              go_wp2
              go_roundw
              case rel => exact ⟨k + 1, by omega, by go_num, HT2, _, rfl⟩
              case measure => simp [intOf]; omega
          · have heq : ∀ W, (Op.equalIn 10000 101 (.agg #[.int .i64 z1, .int .i64 z2]) (.agg #[.int .i64 st, .int .i64 s])).run Tryz.prog W = .ok false W := fun W => by rw [eq_ky, decide_eq_false (fun h => hz1 h.1)]
            have HT2 := Lib.hid (show (st, s) ∉ ms.take (k + 1) by rw [take_snoc' HX.out]; simp only [List.mem_append, List.mem_singleton, Prod.mk.injEq, not_or]; exact ⟨HT.out, fun h => hz1 h.1.symm⟩)
            clear hz1
            go_quiet (fail)
            subst hW
            rw [drew2]
            go_wp2
            go_roundw
            case rel => exact ⟨k + 1, by omega, by go_num, HT2, _, rfl⟩
            case measure => simp [intOf]; omega
        · exact absurd HMEM.out (by have := HT.out; rwa [List.take_of_length_le (by rw [HNP.out]; omega)] at this)
end Go.Proofs.YtgfahifdmacmhaaGreatDoor
