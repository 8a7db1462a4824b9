/- The reference's Has, Valid. The reference's Grant. The reference's Move. -/
import Derived.Test.YtgfahifdmacmhaaGreatDoorZUGG
import Derived.Test.YtgfahifdmacmhaaGreatDoorQs
import Derived.Test.YtgfahifdmacmhaaGreatDoorQx
import Derived.BigQuiet
namespace Go.Proofs.YtgfahifdmacmhaaGreatDoor
open Go.RowKit Go.Shelf

set_option maxRecDepth 100000 in
set_option maxHeartbeats 2000000 in
theorem rhas_any (w : World) (B : Nat) (m : Mt) (x : MtX) (h : RtsAt w B x.a3 m.rs) (hB : B ≤ w.heap.size) (hs : m.rs.length ≤ 4611686018427387904) (n : ByteArray) (day : Int) :
    Calls Tryz.prog 27 #[.agg (mtC m x), .string n, .int .i64 day] w fun e w' => e = .returned (.bool (hasB m.rs n day)) ∧ Below w.heap.size w w' := by
  obtain ⟨id, o, cs, pr, st, mv, rs, ls⟩ := m
  obtain ⟨a1, c1, a2, c2, a3, c3, a4, c4, lv⟩ := x
  simp only at *
  show Calls Tryz.prog 27 #[.agg #[.string id, .int .i64 o, .slice a1 cs.length c1, .string pr, .int .i64 st, .slice a2 mv.length c2, .slice a3 rs.length c3, .slice a4 ls.length c4], .string n, .int .i64 day] w _
  obtain ⟨q, hq⟩ : ∃ q, hasB rs n day = q := ⟨_, rfl⟩
  rw [hq]
  unfold hasB at hq
  have HQ := Lib.hid hq
  have hb := below_self_alloc w (.cells #[.string id, .int .i64 o, .slice a1 cs.length c1, .string pr, .int .i64 st, .slice a2 mv.length c2, .slice a3 rs.length c3, .slice a4 ls.length c4] 27)
  have kx := Blk.new w 27 #[.string id, .int .i64 o, .slice a1 cs.length c1, .string pr, .int .i64 st, .slice a2 mv.length c2, .slice a3 rs.length c3, .slice a4 ls.length c4]
  have HH := Lib.hid (h.below (hb.mono hB))
  clear hq h
  obtain ⟨t0, t1, t2⟩ := kx.all
  go_enter Tryz.func27, Tryz.ntmps27
  go_wp2_with fail
  generalize w.alloc (.cells #[.string id, .int .i64 o, .slice a1 cs.length c1, .string pr, .int .i64 st, .slice a2 mv.length c2, .slice a3 rs.length c3, .slice a4 ls.length c4] 27) = W at *
  have HB := Lib.hid hb
  clear hb kx
  go_loop [7] (fun i => ∃ k : Nat, k ≤ rs.length ∧ i = .int .i64 (k : Int) ∧ Hid ((rs.take k).any (fun r => decide (r.1 = n) && decide (r.2 ≤ day)) = false)) (fun i => rs.length - (intOf i).toNat)
  case atStart => exact ⟨0, Nat.zero_le _, rfl, Lib.hid rfl⟩
  case round =>
    obtain ⟨k, hk, rfl, HT⟩ := hrel
    by_cases hlt : k < rs.length
    · obtain ⟨x, hx⟩ : ∃ x, rs[k]? = some x := ⟨_, List.getElem?_eq_getElem hlt⟩
      obtain ⟨g, off, hA, hg, p0, p1⟩ := HH.out k x hx
      subst hA
      have hat : (rs.take (k + 1)).any (fun r => decide (r.1 = n) && decide (r.2 ≤ day)) = (decide (x.1 = n) && decide (x.2 ≤ day)) := by
        rw [take_snoc' hx, List.any_append, HT.out]
        simp
      have HMEM := Lib.hid (List.mem_of_getElem? hx)
      obtain ⟨a, d⟩ := x
      simp only at p0 p1 hat
      have ib0 : (0 : Int) ≤ (k : Int) := by omega
      have ib1 : (k : Int) < (rs.length : Int) := by omega
      have HAT := Lib.hid hat
      clear hx hat
      by_cases h1 : a = n
      · by_cases h2 : d ≤ day
        · have hfin : true = q := by
            rw [← HQ.out]
            exact (List.any_eq_true.2 ⟨_, HMEM.out, by simp [h1, h2]⟩).symm
          subst hfin h1
          go_wp2_with fail
          go_ret
          exact ⟨rfl, HB.out⟩
        · have HT2 : Hid ((rs.take (k + 1)).any (fun r => decide (r.1 = n) && decide (r.2 ≤ day)) = false) := Lib.hid (by rw [HAT.out, decide_eq_false h2, Bool.and_false])
          have e2 : decide (d ≤ day) = false := decide_eq_false h2
          subst h1
          go_wp2_with fail
          go_round
          case rel => exact ⟨k + 1, by omega, by go_num, HT2⟩
          case measure => simp [intOf]; omega
      · have HT2 : Hid ((rs.take (k + 1)).any (fun r => decide (r.1 = n) && decide (r.2 ≤ day)) = false) := Lib.hid (by rw [HAT.out, decide_eq_false h1, Bool.false_and])
        have e3 := str_no h1
        clear h1
        go_wp2_with fail
        go_round
        case rel => exact ⟨k + 1, by omega, by go_num, HT2⟩
        case measure => simp [intOf]; omega
    · obtain rfl : k = rs.length := by omega
      obtain rfl : false = q := by
        rw [← HQ.out]
        have := HT.out
        rw [List.take_length] at this
        exact this.symm
      go_wp2
      go_ret
      exact ⟨rfl, HB.out⟩

set_option maxRecDepth 100000 in
set_option maxHeartbeats 8000000 in
theorem rvalid_any (w : World) (B : Nat) (m : Mt) (x : MtX) (h : MtAt w B m x) (hB : B ≤ w.heap.size) (hs : Sml m) (hcap : m.rs.length ≤ x.c3) (p : Pc) (y : PcX) (hp : PcAt w B p y) (hsp : SmlP p) (hcp : p.ss.length ≤ y.c1) (dm : List Fc) (e1 : Option Addr) (e2 : Nat) (hd : DmAt w B dm e1) (hdl : dm.length ≤ 1000000) :
    Calls Tryz.prog 26 #[.agg (mtC m x), .agg (pcC p y), .agg #[.slice e1 dm.length e2]] w fun e w' => e = .returned (.bool (vldB m p dm)) ∧ Below w.heap.size w w' := by
  obtain ⟨V, hV⟩ : ∃ V, vldB m p dm = V := ⟨_, rfl⟩
  rw [hV]
  have hfo := fun W (hb : Below w.heap.size w W) => rformed_any W B _ _ (h.below (hb.mono hB)) (Nat.le_trans hB hb.size) hs hcap
  have hpr := fun W (hb : Below w.heap.size w W) => rproper_any W B _ _ (hp.below (hb.mono hB)) (Nat.le_trans hB hb.size) hsp hcp
  have hfv := fun W (hb : Below w.heap.size w W) => rfvalid_any W B e1 dm e2 (hd.below (hb.mono hB)).at_ (Nat.le_trans hB hb.size) hdl hd.nm
  have hft := fun W (hb : Below w.heap.size w W) => rfits_any W B e1 dm e2 (hd.below (hb.mono hB)).at_ (Nat.le_trans hB hb.size) hdl hd.nm x.a1 m.cs x.c1 (h.below (hb.mono hB)).cs hs.1
  obtain ⟨id, o, cs, pr, st, mv, rs, ls⟩ := m
  obtain ⟨a1, c1, a2, c2, a3, c3, a4, c4, lv⟩ := x
  obtain ⟨name, ss, ms⟩ := p
  obtain ⟨b1, d1, b2, d2⟩ := y
  have hv : V = (fmB ⟨id, o, cs, pr, st, mv, rs, ls⟩ && (pcB ⟨name, ss, ms⟩ && (dmB dm && (decide (pr = name) && (decide (st < (ss.length : Int)) && fitB dm cs))))) := hV.symm
  have hfo2 : ∀ W, Below w.heap.size w W → Calls Tryz.prog 36 #[.agg #[.string id, .int .i64 o, .slice a1 cs.length c1, .string pr, .int .i64 st, .slice a2 mv.length c2, .slice a3 rs.length c3, .slice a4 ls.length c4]] W fun e w' => e = .returned (.bool (fmB ⟨id, o, cs, pr, st, mv, rs, ls⟩)) ∧ Below W.heap.size W w' := hfo
  have hpr2 : ∀ W, Below w.heap.size w W → Calls Tryz.prog 24 #[.agg #[.string name, .slice b1 ss.length d1, .slice b2 ms.length d2]] W fun e w' => e = .returned (.bool (pcB ⟨name, ss, ms⟩)) ∧ Below W.heap.size W w' := hpr
  have hft2 : ∀ W, Below w.heap.size w W → Calls Tryz.prog 69 #[.agg #[.slice e1 dm.length e2], .slice a1 cs.length c1] W fun e w' => e = .returned (.bool (fitB dm cs)) ∧ Below W.heap.size W w' := hft
  show Calls Tryz.prog 26 #[.agg #[.string id, .int .i64 o, .slice a1 cs.length c1, .string pr, .int .i64 st, .slice a2 mv.length c2, .slice a3 rs.length c3, .slice a4 ls.length c4], .agg #[.string name, .slice b1 ss.length d1, .slice b2 ms.length d2], .agg #[.slice e1 dm.length e2]] w _
  generalize fmB ⟨id, o, cs, pr, st, mv, rs, ls⟩ = Q1 at *
  generalize pcB ⟨name, ss, ms⟩ = Q2 at *
  generalize dmB dm = Q3 at *
  generalize fitB dm cs = Q6 at *
  have hb := ((below_self_alloc w (.cells #[.string id, .int .i64 o, .slice a1 cs.length c1, .string pr, .int .i64 st, .slice a2 mv.length c2, .slice a3 rs.length c3, .slice a4 ls.length c4] 27)).alloc (by simp) (.cells #[.string name, .slice b1 ss.length d1, .slice b2 ms.length d2] 46)).alloc (by simp; omega) (.cells #[.slice e1 dm.length e2] 52)
  have k0 := ((Blk.new w 27 #[.string id, .int .i64 o, .slice a1 cs.length c1, .string pr, .int .i64 st, .slice a2 mv.length c2, .slice a3 rs.length c3, .slice a4 ls.length c4]).alloc (.cells #[.string name, .slice b1 ss.length d1, .slice b2 ms.length d2] 46)).alloc (.cells #[.slice e1 dm.length e2] 52)
  have k1 := (Blk.new1 w (.cells #[.string id, .int .i64 o, .slice a1 cs.length c1, .string pr, .int .i64 st, .slice a2 mv.length c2, .slice a3 rs.length c3, .slice a4 ls.length c4] 27) 46 #[.string name, .slice b1 ss.length d1, .slice b2 ms.length d2]).alloc (.cells #[.slice e1 dm.length e2] 52)
  have k2 := Blk.new2 w (.cells #[.string id, .int .i64 o, .slice a1 cs.length c1, .string pr, .int .i64 st, .slice a2 mv.length c2, .slice a3 rs.length c3, .slice a4 ls.length c4] 27) (.cells #[.string name, .slice b1 ss.length d1, .slice b2 ms.length d2] 46) 52 #[.slice e1 dm.length e2]
  have HV := Lib.hid hv
  have HFO := Lib.hid hfo2
  have HPR := Lib.hid hpr2
  have HFV := Lib.hid hfv
  have HFT := Lib.hid hft2
  clear hV hv hfo hfo2 hpr hpr2 hfv hft hft2 h hp hd
  go_enter Tryz.func26, Tryz.ntmps26
  go_upto_region 1 with fail
  generalize ((w.alloc (.cells #[.string id, .int .i64 o, .slice a1 cs.length c1, .string pr, .int .i64 st, .slice a2 mv.length c2, .slice a3 rs.length c3, .slice a4 ls.length c4] 27)).alloc (.cells #[.string name, .slice b1 ss.length d1, .slice b2 ms.length d2] 46)).alloc (.cells #[.slice e1 dm.length e2] 52) = W0 at *
  have HB := Lib.hid hb
  have K0 := Lib.hid k0
  have K1 := Lib.hid k1
  have K2 := Lib.hid k2
  clear hb k0 k1 k2
  obtain ⟨t0, t1, t2⟩ := K0.out.all
  have HC := Lib.hid (HFO.out W0 HB.out)
  go_wp2_with fail
  refine HC.out.mono ?_
  rintro e W1 ⟨rfl, bz⟩
  clear HC t0 t1 t2
  have HBx := Lib.hid (HB.out.trans (bz.mono HB.out.size))
  have K0x := Lib.hid (K0.out.below bz K0.out.lt)
  have K1x := Lib.hid (K1.out.below bz K1.out.lt)
  have K2x := Lib.hid (K2.out.below bz K2.out.lt)
  clear HB K0 K1 K2
  have HB := HBx
  clear HBx
  have K0 := K0x
  clear K0x
  have K1 := K1x
  clear K1x
  have K2 := K2x
  clear K2x
  clear bz
  cases Q1 with
  | false =>
    obtain rfl : V = false := HV.out
    go_wp2
    go_ret
    exact ⟨rfl, HB.out⟩
  | true =>
  obtain ⟨u0, u1, u2⟩ := K1.out.all
  have HC := Lib.hid (HPR.out W1 HB.out)
  go_wp2_with fail
  refine HC.out.mono ?_
  rintro e W2 ⟨rfl, bz⟩
  clear HC u0 u1 u2
  have HBx := Lib.hid (HB.out.trans (bz.mono HB.out.size))
  have K0x := Lib.hid (K0.out.below bz K0.out.lt)
  have K1x := Lib.hid (K1.out.below bz K1.out.lt)
  have K2x := Lib.hid (K2.out.below bz K2.out.lt)
  clear HB K0 K1 K2
  have HB := HBx
  clear HBx
  have K0 := K0x
  clear K0x
  have K1 := K1x
  clear K1x
  have K2 := K2x
  clear K2x
  clear bz
  cases Q2 with
  | false =>
    obtain rfl : V = false := HV.out
    go_wp2
    go_ret
    exact ⟨rfl, HB.out⟩
  | true =>
  obtain ⟨v0, v1, v2⟩ := K2.out.all
  have HC := Lib.hid (HFV.out W2 HB.out)
  go_wp2_with fail
  refine HC.out.mono ?_
  rintro e W3 ⟨rfl, bz⟩
  clear HC v0 v1 v2
  have HBx := Lib.hid (HB.out.trans (bz.mono HB.out.size))
  have K0x := Lib.hid (K0.out.below bz K0.out.lt)
  have K1x := Lib.hid (K1.out.below bz K1.out.lt)
  have K2x := Lib.hid (K2.out.below bz K2.out.lt)
  clear HB K0 K1 K2
  have HB := HBx
  clear HBx
  have K0 := K0x
  clear K0x
  have K1 := K1x
  clear K1x
  have K2 := K2x
  clear K2x
  clear bz
  cases Q3 with
  | false =>
    obtain rfl : V = false := HV.out
    go_wp2
    go_ret
    exact ⟨rfl, HB.out⟩
  | true =>
  obtain ⟨t0, t1, t2⟩ := K0.out.all
  obtain ⟨u0, u1, u2⟩ := K1.out.all
  obtain ⟨v0, v1, v2⟩ := K2.out.all
  by_cases h4 : pr = name
  case neg =>
    obtain rfl : V = false := by rw [HV.out, decide_eq_false h4]; rfl
    have e4 := str_no h4
    clear h4
    go_wp2
    go_ret
    exact ⟨rfl, HB.out⟩
  subst h4
  by_cases h5 : st < (ss.length : Int)
  case neg =>
    obtain rfl : V = false := by rw [HV.out, decide_eq_false h5]; simp
    have e5 : decide (st < (ss.length : Int)) = false := decide_eq_false h5
    go_wp2
    go_ret
    exact ⟨rfl, HB.out⟩
  have e5 : decide (st < (ss.length : Int)) = true := decide_eq_true h5
  have hv := HV.out
  rw [decide_eq_true rfl, e5] at hv
  have hv2 : V = Q6 := hv
  subst hv2
  have HC := Lib.hid (HFT.out W3 HB.out)
  clear hv
  go_wp2_with fail
  refine HC.out.mono ?_
  rintro e W4 ⟨rfl, bz⟩
  have hbf := HB.out.trans (bz.mono HB.out.size)
  clear bz t0 t1 t2 u0 u1 u2 v0 v1 v2
  go_wp2
  go_ret
  exact ⟨rfl, hbf⟩
end Go.Proofs.YtgfahifdmacmhaaGreatDoor

namespace Go.Proofs.YtgfahifdmacmhaaGreatDoor
open Go.RowKit Go.Shelf

/-- A formed matter's rights are all there at the last day. -/
theorem has_max {m : Mt} (h : fmB m = true) (n : ByteArray) : hasB m.rs n 1000000 = true ↔ n ∈ m.rs.map (·.1) := by
  have h9 := (difB_iff.1 (fmB_iff.1 h).2.2.2.2.2.2.2.2.1).1
  unfold hasB
  rw [List.any_eq_true]
  constructor
  · rintro ⟨r, hr, h2⟩
    rw [Bool.and_eq_true, decide_eq_true_eq] at h2
    exact List.mem_map.2 ⟨r, hr, h2.1⟩
  · intro hn
    obtain ⟨r, hr, rfl⟩ := List.mem_map.1 hn
    refine ⟨r, hr, ?_⟩
    have h3 := h9 r hr
    unfold rtB at h3
    rw [Bool.and_eq_true, Bool.and_eq_true] at h3
    have h4 := (isB_iff _).1 h3.2.2
    rw [Bool.and_eq_true, decide_eq_true_eq, decide_eq_true_eq]
    exact ⟨rfl, h4.2⟩
set_option maxRecDepth 100000 in
set_option maxHeartbeats 8000000 in
theorem rgrant_any (w : World) (B : Nat) (m : Mt) (x : MtX) (h : MtAt w B m x) (hB : B ≤ w.heap.size) (hs : Sml m) (hcap : m.rs.length ≤ x.c3) (n : ByteArray) (hn : n.size ≤ 9223372036854775807) (day : Int) :
    Calls Tryz.prog 22 #[.agg (mtC m x), .string n, .int .i64 day] w (MtPost w (grantE m n day) (grantM m n day)) := by
  obtain ⟨i0, hi0, hz0, hz1, hz2⟩ := info_parts Tryz.infoRight
  obtain ⟨E, hE⟩ : ∃ E, grantE m n day = E := ⟨_, rfl⟩
  obtain ⟨Z, hZ⟩ : ∃ Z, grantM m n day = Z := ⟨_, rfl⟩
  rw [hE, hZ]
  have HE := Lib.hid hE
  have HZ := Lib.hid hZ
  have H := Lib.hid h
  have HBB := Lib.hid hB
  have hfo := fun W (hb : Below w.heap.size w W) => rformed_any W B _ _ (h.below (hb.mono hB)) (Nat.le_trans hB hb.size) hs hcap
  have s3 := hs.2.2.1
  clear hE hZ h hB
  obtain ⟨id, o, cs, pr, st, mv, rs, ls⟩ := m
  obtain ⟨a1, c1, a2, c2, a3, c3, a4, c4, lv⟩ := x
  simp only at s3 hcap
  have hfo2 : ∀ W, Below w.heap.size w W → Calls Tryz.prog 36 #[.agg #[.string id, .int .i64 o, .slice a1 cs.length c1, .string pr, .int .i64 st, .slice a2 mv.length c2, .slice a3 rs.length c3, .slice a4 ls.length c4]] W fun e w' => e = .returned (.bool (fmB ⟨id, o, cs, pr, st, mv, rs, ls⟩)) ∧ Below W.heap.size W w' := hfo
  show Calls Tryz.prog 22 #[.agg #[.string id, .int .i64 o, .slice a1 cs.length c1, .string pr, .int .i64 st, .slice a2 mv.length c2, .slice a3 rs.length c3, .slice a4 ls.length c4], .string n, .int .i64 day] w _
  have hb := (below_self_alloc w (.cells #[.string id, .int .i64 o, .slice a1 cs.length c1, .string pr, .int .i64 st, .slice a2 mv.length c2, .slice a3 rs.length c3, .slice a4 ls.length c4] 27)).alloc (by simp) (.cells #[.string ⟨#[]⟩, .int .i64 0, .slice none 0 0, .string ⟨#[]⟩, .int .i64 0, .slice none 0 0, .slice none 0 0, .slice none 0 0] 27)
  have k0 := (Blk.new w 27 #[.string id, .int .i64 o, .slice a1 cs.length c1, .string pr, .int .i64 st, .slice a2 mv.length c2, .slice a3 rs.length c3, .slice a4 ls.length c4]).alloc (.cells #[.string ⟨#[]⟩, .int .i64 0, .slice none 0 0, .string ⟨#[]⟩, .int .i64 0, .slice none 0 0, .slice none 0 0, .slice none 0 0] 27)
  have k1 := Blk.new1 w (.cells #[.string id, .int .i64 o, .slice a1 cs.length c1, .string pr, .int .i64 st, .slice a2 mv.length c2, .slice a3 rs.length c3, .slice a4 ls.length c4] 27) 27 #[.string ⟨#[]⟩, .int .i64 0, .slice none 0 0, .string ⟨#[]⟩, .int .i64 0, .slice none 0 0, .slice none 0 0, .slice none 0 0]
  have HFO := Lib.hid hfo2
  clear hfo hfo2
  go_enter Tryz.func22, Tryz.ntmps22
  go_upto_region 1 with fail
  generalize (w.alloc (.cells #[.string id, .int .i64 o, .slice a1 cs.length c1, .string pr, .int .i64 st, .slice a2 mv.length c2, .slice a3 rs.length c3, .slice a4 ls.length c4] 27)).alloc (.cells #[.string ⟨#[]⟩, .int .i64 0, .slice none 0 0, .string ⟨#[]⟩, .int .i64 0, .slice none 0 0, .slice none 0 0, .slice none 0 0] 27) = W0 at *
  have HB := Lib.hid hb
  have KX := Lib.hid k0
  have KZ := Lib.hid k1
  clear hb k0 k1
  obtain ⟨t0, t1, t2⟩ := KX.out.all
  have hc := HFO.out W0 HB.out
  cases h1 : fmB ⟨id, o, cs, pr, st, mv, rs, ls⟩ with
  | false =>
    rw [h1] at hc
    have HC := Lib.hid hc
    have H1 := Lib.hid h1
    clear hc h1
    go_wp2_with fail
    refine HC.out.mono ?_
    rintro e W1 ⟨rfl, bz⟩
    clear HC t0 t1 t2
    have HBx := Lib.hid (HB.out.trans (bz.mono HB.out.size))
    have KXx := Lib.hid (KX.out.below bz KX.out.lt)
    have KZx := Lib.hid (KZ.out.below bz KZ.out.lt)
    clear HB KX KZ
    have HB := HBx
    clear HBx
    have KX := KXx
    clear KXx
    have KZ := KZx
    clear KZx
    clear bz
    go_upto_region 2 with fail
    have hEE : grantE ⟨id, o, cs, pr, st, mv, rs, ls⟩ n day = 1 := grantE1 (by rw [H1.out]; rfl)
    obtain rfl : E = 1 := HE.out.symm.trans hEE
    obtain rfl : Z = Mt.zero := HZ.out.symm.trans (grantM_bad (by rw [hEE]; decide))
    clear hEE
    have hlv := row_load KZ.out #[.string ⟨#[]⟩, .int .i64 0, .slice none 0 0, .string ⟨#[]⟩, .int .i64 0, .slice none 0 0, .slice none 0 0, .slice none 0 0] rfl
    have HLV := Lib.hid hlv
    have hfin := mt_err (w := w) (E := 1) (below_row HB.out (show w.heap.size ≤ w.heap.size + 1 by omega) #[.string ⟨#[]⟩, .int .i64 0, .slice none 0 0, .string ⟨#[]⟩, .int .i64 0, .slice none 0 0, .slice none 0 0, .slice none 0 0])
    have HFIN := Lib.hid hfin
    clear hlv hfin
    go_wp2_with (refine wp_row rfl (.tmp 6) (.tmp 21) rfl (w.heap.size + 1) #[.string ⟨#[]⟩, .int .i64 0, .slice none 0 0, .string ⟨#[]⟩, .int .i64 0, .slice none 0 0, .slice none 0 0, .slice none 0 0] rfl rfl rfl one8 rfl KZ.out ?_)
    exact bodyPost_ret (v := .tuple #[.agg #[.string ⟨#[]⟩, .int .i64 0, .slice none 0 0, .string ⟨#[]⟩, .int .i64 0, .slice none 0 0, .slice none 0 0, .slice none 0 0], .int .i64 1]) (by simp [results, Tryz.results22, asAddr, HLV.out]) rfl HFIN.out
  | true =>
  rw [h1] at hc
  have HC := Lib.hid hc
  have H1 := Lib.hid h1
  clear hc h1
  go_wp2_with fail
  refine HC.out.mono ?_
  rintro e W1 ⟨rfl, bz⟩
  clear HC t0 t1 t2
  have HBx := Lib.hid (HB.out.trans (bz.mono HB.out.size))
  have KXx := Lib.hid (KX.out.below bz KX.out.lt)
  have KZx := Lib.hid (KZ.out.below bz KZ.out.lt)
  clear HB KX KZ
  have HB := HBx
  clear HBx
  have KX := KXx
  clear KXx
  have KZ := KZx
  clear KZx
  clear bz
  have nm := rname07_any W1 n hn
  cases h2 : nameB n with
  | false =>
    have hx : nmB n.data.toList = false := h2
    rw [hx] at nm
    have NM := Lib.hid nm
    have H2 := Lib.hid h2
    clear nm h2 hx
    go_wp2_with fail
    refine NM.out.mono ?_
    rintro e w3 ⟨rfl, rfl⟩
    go_upto_region 2 with fail
    have hEE : grantE ⟨id, o, cs, pr, st, mv, rs, ls⟩ n day = 1 := grantE1 (by rw [H2.out]; simp)
    obtain rfl : E = 1 := HE.out.symm.trans hEE
    obtain rfl : Z = Mt.zero := HZ.out.symm.trans (grantM_bad (by rw [hEE]; decide))
    clear hEE
    have hlv := row_load KZ.out #[.string ⟨#[]⟩, .int .i64 0, .slice none 0 0, .string ⟨#[]⟩, .int .i64 0, .slice none 0 0, .slice none 0 0, .slice none 0 0] rfl
    have HLV := Lib.hid hlv
    have hfin := mt_err (w := w) (E := 1) (below_row HB.out (show w.heap.size ≤ w.heap.size + 1 by omega) #[.string ⟨#[]⟩, .int .i64 0, .slice none 0 0, .string ⟨#[]⟩, .int .i64 0, .slice none 0 0, .slice none 0 0, .slice none 0 0])
    have HFIN := Lib.hid hfin
    clear hlv hfin
    go_wp2_with (refine wp_row rfl (.tmp 6) (.tmp 21) rfl (w.heap.size + 1) #[.string ⟨#[]⟩, .int .i64 0, .slice none 0 0, .string ⟨#[]⟩, .int .i64 0, .slice none 0 0, .slice none 0 0, .slice none 0 0] rfl rfl rfl one8 rfl KZ.out ?_)
    exact bodyPost_ret (v := .tuple #[.agg #[.string ⟨#[]⟩, .int .i64 0, .slice none 0 0, .string ⟨#[]⟩, .int .i64 0, .slice none 0 0, .slice none 0 0, .slice none 0 0], .int .i64 1]) (by simp [results, Tryz.results22, asAddr, HLV.out]) rfl HFIN.out
  | true =>
  have hx : nmB n.data.toList = true := h2
  rw [hx] at nm
  have NM := Lib.hid nm
  have H2 := Lib.hid h2
  clear nm h2 hx
  go_wp2_with fail
  refine NM.out.mono ?_
  rintro e w3 ⟨rfl, rfl⟩
  clear NM
  have nd := rDay_any W1 day
  cases h3 : isB day with
  | false =>
    rw [h3] at nd
    have ND := Lib.hid nd
    have H3 := Lib.hid h3
    clear nd h3
    go_wp2_with fail
    refine ND.out.mono ?_
    rintro e w3 ⟨rfl, rfl⟩
    go_upto_region 2 with fail
    have hEE : grantE ⟨id, o, cs, pr, st, mv, rs, ls⟩ n day = 1 := grantE1 (by rw [H3.out]; simp)
    obtain rfl : E = 1 := HE.out.symm.trans hEE
    obtain rfl : Z = Mt.zero := HZ.out.symm.trans (grantM_bad (by rw [hEE]; decide))
    clear hEE
    have hlv := row_load KZ.out #[.string ⟨#[]⟩, .int .i64 0, .slice none 0 0, .string ⟨#[]⟩, .int .i64 0, .slice none 0 0, .slice none 0 0, .slice none 0 0] rfl
    have HLV := Lib.hid hlv
    have hfin := mt_err (w := w) (E := 1) (below_row HB.out (show w.heap.size ≤ w.heap.size + 1 by omega) #[.string ⟨#[]⟩, .int .i64 0, .slice none 0 0, .string ⟨#[]⟩, .int .i64 0, .slice none 0 0, .slice none 0 0, .slice none 0 0])
    have HFIN := Lib.hid hfin
    clear hlv hfin
    go_wp2_with (refine wp_row rfl (.tmp 6) (.tmp 21) rfl (w.heap.size + 1) #[.string ⟨#[]⟩, .int .i64 0, .slice none 0 0, .string ⟨#[]⟩, .int .i64 0, .slice none 0 0, .slice none 0 0, .slice none 0 0] rfl rfl rfl one8 rfl KZ.out ?_)
    exact bodyPost_ret (v := .tuple #[.agg #[.string ⟨#[]⟩, .int .i64 0, .slice none 0 0, .string ⟨#[]⟩, .int .i64 0, .slice none 0 0, .slice none 0 0, .slice none 0 0], .int .i64 1]) (by simp [results, Tryz.results22, asAddr, HLV.out]) rfl HFIN.out
  | true =>
  rw [h3] at nd
  have ND := Lib.hid nd
  have HALL : Hid ((fmB ⟨id, o, cs, pr, st, mv, rs, ls⟩ && (nameB n && isB day)) = true) := Lib.hid (by rw [H1.out, H2.out, h3]; rfl)
  clear nd h3
  obtain ⟨t0, t1, t2⟩ := KX.out.all
  go_wp2_with fail
  refine ND.out.mono ?_
  rintro e w3 ⟨rfl, rfl⟩
  clear ND
  have hmx := has_max H1.out n
  obtain ⟨q, hq⟩ : ∃ q, hasB rs n 1000000 = q := ⟨_, rfl⟩
  have hri := rright_any W1 B a3 rs c3 (H.out.below (HB.out.mono HBB.out)).rs (by omega) n q (by rw [← hq]; exact hmx)
  have HRI := Lib.hid hri
  have HQ := Lib.hid hq
  clear hri hq hmx
  go_wp2_with fail
  refine HRI.out.mono ?_
  rintro e w3 ⟨rfl, rfl⟩
  clear HRI
  cases q with
  | true =>
    go_upto_region 4 with fail
    clear t0 t1 t2
    have hEE : grantE ⟨id, o, cs, pr, st, mv, rs, ls⟩ n day = 9 := grantE9 HALL.out HQ.out
    obtain rfl : E = 9 := HE.out.symm.trans hEE
    obtain rfl : Z = Mt.zero := HZ.out.symm.trans (grantM_bad (by rw [hEE]; decide))
    clear hEE
    have hlv := row_load KZ.out #[.string ⟨#[]⟩, .int .i64 0, .slice none 0 0, .string ⟨#[]⟩, .int .i64 0, .slice none 0 0, .slice none 0 0, .slice none 0 0] rfl
    have HLV := Lib.hid hlv
    have hfin := mt_err (w := w) (E := 9) (below_row HB.out (show w.heap.size ≤ w.heap.size + 1 by omega) #[.string ⟨#[]⟩, .int .i64 0, .slice none 0 0, .string ⟨#[]⟩, .int .i64 0, .slice none 0 0, .slice none 0 0, .slice none 0 0])
    have HFIN := Lib.hid hfin
    clear hlv hfin
    go_wp2_with (refine wp_row rfl (.tmp 6) (.tmp 26) rfl (w.heap.size + 1) #[.string ⟨#[]⟩, .int .i64 0, .slice none 0 0, .string ⟨#[]⟩, .int .i64 0, .slice none 0 0, .slice none 0 0, .slice none 0 0] rfl rfl rfl one8 rfl KZ.out ?_)
    exact bodyPost_ret (v := .tuple #[.agg #[.string ⟨#[]⟩, .int .i64 0, .slice none 0 0, .string ⟨#[]⟩, .int .i64 0, .slice none 0 0, .slice none 0 0, .slice none 0 0], .int .i64 9]) (by simp [results, Tryz.results22, asAddr, HLV.out]) rfl HFIN.out
  | false =>
  by_cases h5 : day < o
  case pos =>
    have d5 : decide (day < o) = true := decide_eq_true h5
    go_upto_region 6 with fail
    clear t0 t1 t2
    have hEE : grantE ⟨id, o, cs, pr, st, mv, rs, ls⟩ n day = 24 := grantE24 HALL.out HQ.out h5
    obtain rfl : E = 24 := HE.out.symm.trans hEE
    obtain rfl : Z = Mt.zero := HZ.out.symm.trans (grantM_bad (by rw [hEE]; decide))
    clear hEE
    have hlv := row_load KZ.out #[.string ⟨#[]⟩, .int .i64 0, .slice none 0 0, .string ⟨#[]⟩, .int .i64 0, .slice none 0 0, .slice none 0 0, .slice none 0 0] rfl
    have HLV := Lib.hid hlv
    have hfin := mt_err (w := w) (E := 24) (below_row HB.out (show w.heap.size ≤ w.heap.size + 1 by omega) #[.string ⟨#[]⟩, .int .i64 0, .slice none 0 0, .string ⟨#[]⟩, .int .i64 0, .slice none 0 0, .slice none 0 0, .slice none 0 0])
    have HFIN := Lib.hid hfin
    clear hlv hfin
    go_wp2_with (refine wp_row rfl (.tmp 6) (.tmp 31) rfl (w.heap.size + 1) #[.string ⟨#[]⟩, .int .i64 0, .slice none 0 0, .string ⟨#[]⟩, .int .i64 0, .slice none 0 0, .slice none 0 0, .slice none 0 0] rfl rfl rfl one8 rfl KZ.out ?_)
    exact bodyPost_ret (v := .tuple #[.agg #[.string ⟨#[]⟩, .int .i64 0, .slice none 0 0, .string ⟨#[]⟩, .int .i64 0, .slice none 0 0, .slice none 0 0, .slice none 0 0], .int .i64 24]) (by simp [results, Tryz.results22, asAddr, HLV.out]) rfl HFIN.out
  have d5 : decide (day < o) = false := decide_eq_false h5
  have h5p : o ≤ day := Int.not_lt.1 h5
  by_cases h6 : 60 ≤ rs.length
  case pos =>
    have d6 : decide ((60 : Int) ≤ (rs.length : Int)) = true := decide_eq_true (by omega)
    have d6' : (60 : Int) ≤ (rs.length : Int) := by omega
    go_upto_region 8 with fail
    clear t0 t1 t2
    have hEE : grantE ⟨id, o, cs, pr, st, mv, rs, ls⟩ n day = 2 := grantE2 HALL.out HQ.out (Int.not_lt.2 h5p) h6
    obtain rfl : E = 2 := HE.out.symm.trans hEE
    obtain rfl : Z = Mt.zero := HZ.out.symm.trans (grantM_bad (by rw [hEE]; decide))
    clear hEE
    have hlv := row_load KZ.out #[.string ⟨#[]⟩, .int .i64 0, .slice none 0 0, .string ⟨#[]⟩, .int .i64 0, .slice none 0 0, .slice none 0 0, .slice none 0 0] rfl
    have HLV := Lib.hid hlv
    have hfin := mt_err (w := w) (E := 2) (below_row HB.out (show w.heap.size ≤ w.heap.size + 1 by omega) #[.string ⟨#[]⟩, .int .i64 0, .slice none 0 0, .string ⟨#[]⟩, .int .i64 0, .slice none 0 0, .slice none 0 0, .slice none 0 0])
    have HFIN := Lib.hid hfin
    clear hlv hfin
    go_wp2_with (refine wp_row rfl (.tmp 6) (.tmp 36) rfl (w.heap.size + 1) #[.string ⟨#[]⟩, .int .i64 0, .slice none 0 0, .string ⟨#[]⟩, .int .i64 0, .slice none 0 0, .slice none 0 0, .slice none 0 0] rfl rfl rfl one8 rfl KZ.out ?_)
    exact bodyPost_ret (v := .tuple #[.agg #[.string ⟨#[]⟩, .int .i64 0, .slice none 0 0, .string ⟨#[]⟩, .int .i64 0, .slice none 0 0, .slice none 0 0, .slice none 0 0], .int .i64 2]) (by simp [results, Tryz.results22, asAddr, HLV.out]) rfl HFIN.out
  have d6 : decide ((60 : Int) ≤ (rs.length : Int)) = false := decide_eq_false (by omega)
  have d6' : ¬ (60 : Int) ≤ (rs.length : Int) := by omega
  have hEE : grantE ⟨id, o, cs, pr, st, mv, rs, ls⟩ n day = 0 := grantE0 HALL.out HQ.out (Int.not_lt.2 h5p) h6
  obtain rfl : E = 0 := HE.out.symm.trans hEE
  obtain rfl : Z = ⟨id, o, cs, pr, st, mv, rs ++ [(n, day)], ls⟩ := HZ.out.symm.trans (grantM_ok hEE)
  clear hEE
  have hsz := HB.out.size
  have own0 := World.ownsRow_lit (base := w.heap.size) (e := 41) (size := 2) W1 #[] 0 hsz (by unfold maxLen; omega) rfl
  have kx1 := KX.out.alloc (.cells #[] 41)
  have hb1 := HB.out.alloc HB.out.size (.cells #[] 41)
  have kz1 := KZ.out.alloc (.cells #[] 41)
  have hrt := (H.out.below (hb1.mono HBB.out)).rs
  simp only at hrt
  have hsz1 := hb1.size
  go_upto_region 10 with (first
    | (at_builtin; refine wpList_append_any rfl _ _ 24 rfl w.heap.size 41 i0 _ 2 24 Tryz.underlying24 hi0 hz0 hz1 hz2 rfl (by omega) (.slice (some ⟨W1.heap.size, 0, none⟩) 0 0) 0 [] rfl own0 a3 rs.length c3 (rtCells rs) rfl (rtCells_len rs) (rtCells_news hrt) (rtCells_one rs) (by unfold maxLen; omega) (by omega) hsz1 ?_; intro v4 w4 own4 gr4 l4; simp only [Nat.zero_add, List.nil_append] at own4; obtain ⟨A5, k5, rfl⟩ := own_form own4; have kx4 := kx1.grown gr4 (fun e' => own_blk_ne own0 kx1 (by decide) e'.symm); have kz4 := kz1.grown gr4 (fun e' => own_blk_ne own0 kz1 (by decide) e'.symm); have hb4 := hb1.grown gr4 hb1.size (fun k hk => (World.ownsRow.lt own0 k hk).1); have kn := Blk.new w4 41 #[.string n, .int .i64 day]; have own5 := own4.alloc (.cells #[.string n, .int .i64 day] 41); have kx5 := kx4.alloc (.cells #[.string n, .int .i64 day] 41); have kz5 := kz4.alloc (.cells #[.string n, .int .i64 day] 41); have hb5 := hb4.alloc hb4.size (.cells #[.string n, .int .i64 day] 41); have hsz5 := hb5.size)
    | (at_builtin; refine wpList_append_lies _ rfl _ _ 24 rfl w.heap.size 41 i0 _ 2 24 Tryz.underlying24 hi0 hz0 hz1 hz2 rfl (by omega) (.slice A5 rs.length k5) rs.length (rtCells rs) rfl own5 ⟨w4.heap.size, 0, none⟩ 1 1 [.string n, .int .i64 day] rfl rfl (World.news_of_block kn) (rtCells_one [(n, day)]) (by omega) (by unfold maxLen; omega) (by omega) (by omega) _ rfl ?_; intro gz cz Y own9 gr9 l9 z9; have kx9 := kx5.grown gr9 (fun e' => own_blk_ne own5 kx5 (by decide) e'.symm); obtain ⟨x0, x1, x2⟩ := kx9.all))
  have kz9 := kz5.grown gr9 (fun e' => own_blk_ne own5 kz5 (by decide) e'.symm)
  have hb9 := hb5.grown gr9 hb5.size (fun k hk => (World.ownsRow.lt own5 k hk).1)
  have kx6 := kx9.set_ 6 (.slice (some ⟨gz, 0, none⟩) (rs.length + 1) cz)
  have kz6 := kz9.far (show w.heap.size + 1 ≠ w.heap.size by omega) (p := ⟨w.heap.size, 6, none⟩) (.slice (some ⟨gz, 0, none⟩) (rs.length + 1) cz)
  have hb6 := hb9.setCell (p := ⟨w.heap.size, 6, none⟩) (Nat.le_refl _) (.slice (some ⟨gz, 0, none⟩) (rs.length + 1) cz)
  have own6 := ((Only.refl (fun g => g = w.heap.size) Y).setCell (p := ⟨w.heap.size, 6, none⟩) (.inl rfl) (.slice (some ⟨gz, 0, none⟩) (rs.length + 1) cz)).owns own9 (fun g hv hg => own_blk_ne own9 kx9 (by decide) (by rw [hv, hg]))
  have own7 := (only_setRow (Y.setCell ⟨w.heap.size, 6, none⟩ (.slice (some ⟨gz, 0, none⟩) (rs.length + 1) cz)) (w.heap.size + 1) #[.string id, .int .i64 o, .slice a1 cs.length c1, .string pr, .int .i64 st, .slice a2 mv.length c2, .slice (some ⟨gz, 0, none⟩) (rs.length + 1) cz, .slice a4 ls.length c4]).owns own6 (fun g hv hg => own_blk_ne own6 kz6 (by decide) (by rw [hv, hg]))
  have hb7 := below_row hb6 (show w.heap.size ≤ w.heap.size + 1 by omega) #[.string id, .int .i64 o, .slice a1 cs.length c1, .string pr, .int .i64 st, .slice a2 mv.length c2, .slice (some ⟨gz, 0, none⟩) (rs.length + 1) cz, .slice a4 ls.length c4]
  have hlv := row_load kz6 #[.string id, .int .i64 o, .slice a1 cs.length c1, .string pr, .int .i64 st, .slice a2 mv.length c2, .slice (some ⟨gz, 0, none⟩) (rs.length + 1) cz, .slice a4 ls.length c4] rfl
  have KX6 := Lib.hid kx6
  have KZ6 := Lib.hid kz6
  have OW7 := Lib.hid own7
  have HB7 := Lib.hid hb7
  have HLV := Lib.hid hlv
  clear kx1 kz1 hb1 own0 hrt kx4 kz4 hb4 own4 gr4 l4 kn own5 kx5 kz5 hb5 kx9 kz9 hb9 kx6 kz6 hb6 own6 own7 hb7 hlv t0 t1 t2 x0 x1 x2 own9 gr9 l9 z9
  obtain ⟨t0, t1, t2⟩ := KX6.out.all
  go_wp2_with (refine wp_row rfl (.tmp 6) (.tmp 47) rfl (w.heap.size + 1) #[.string id, .int .i64 o, .slice a1 cs.length c1, .string pr, .int .i64 st, .slice a2 mv.length c2, .slice (some ⟨gz, 0, none⟩) (rs.length + 1) cz, .slice a4 ls.length c4] rfl rfl rfl one8 rfl KZ6.out ?_)
  refine bodyPost_ret (v := .tuple #[.agg #[.string id, .int .i64 o, .slice a1 cs.length c1, .string pr, .int .i64 st, .slice a2 mv.length c2, .slice (some ⟨gz, 0, none⟩) (rs.length + 1) cz, .slice a4 ls.length c4], .int .i64 0]) (by simp [results, Tryz.results22, asAddr, HLV.out]) rfl ?_
  have hlen2 : (rs ++ [(n, day)]).length = rs.length + 1 := by simp
  have hrow := RtsAt.of_row hlen2 (by rw [rtCells_app]; exact OW7.out)
  have hm := H.out.below (HB7.out.mono HBB.out)
  have hsz7 := Nat.le_trans HBB.out HB7.out.size
  refine ⟨⟨a1, c1, a2, c2, some ⟨gz, 0, none⟩, cz, a4, c4, lv⟩, ?_, ⟨hm.cs.wide hsz7, hm.mv.wide hsz7, hrow, hm.ls.wide hsz7, hm.lv, hm.id, hm.pr, fun r hr => ?_⟩, HB7.out⟩
  · unfold mtC
    simp only [hlen2]
  · rcases List.mem_append.1 hr with hr | hr
    · exact hm.rn r hr
    · rw [List.mem_singleton.1 hr]
      exact hn
end Go.Proofs.YtgfahifdmacmhaaGreatDoor

namespace Go.Proofs.YtgfahifdmacmhaaGreatDoor
open Go.RowKit Go.Shelf

def inM (b : Bool) (x : I2) (l : List I2) : Prop := b = true ↔ x ∈ l
set_option maxRecDepth 100000 in
set_option maxHeartbeats 16000000 in
theorem rmove_any (w : World) (B : Nat) (m : Mt) (x : MtX) (h : MtAt w B m x) (hB : B ≤ w.heap.size) (hs : Sml m) (hcap : m.rs.length ≤ x.c3) (p : Pc) (y : PcX) (hp : PcAt w B p y) (hsp : SmlP p) (hcp : p.ss.length ≤ y.c1) (s day : Int) :
    Calls Tryz.prog 21 #[.agg (mtC m x), .agg (pcC p y), .int .i64 s, .int .i64 day] w (MtPost w (moveE m p s day) (moveM m p s day)) := by
  obtain ⟨i0, hi0, hz0, hz1, hz2⟩ := info_parts Tryz.infoInt
  obtain ⟨E, hE⟩ : ∃ E, moveE m p s day = E := ⟨_, rfl⟩
  obtain ⟨Z, hZ⟩ : ∃ Z, moveM m p s day = Z := ⟨_, rfl⟩
  rw [hE, hZ]
  have HE := Lib.hid hE
  have HZ := Lib.hid hZ
  have H := Lib.hid h
  have HPC := Lib.hid hp
  have HBB := Lib.hid hB
  have hfo := fun W (hb : Below w.heap.size w W) => rformed_any W B _ _ (h.below (hb.mono hB)) (Nat.le_trans hB hb.size) hs hcap
  have hpr := fun W (hb : Below w.heap.size w W) => rproper_any W B _ _ (hp.below (hb.mono hB)) (Nat.le_trans hB hb.size) hsp hcp
  have s2 := hs.2.1
  have s5 := hsp.1
  have s6 := hsp.2
  clear hE hZ h hp hB
  obtain ⟨id, o, cs, pr, st, mv, rs, ls⟩ := m
  obtain ⟨a1, c1, a2, c2, a3, c3, a4, c4, lv⟩ := x
  obtain ⟨name, ss, ms⟩ := p
  obtain ⟨b1, d1, b2, d2⟩ := y
  simp only at s2 s5 s6 hcap hcp
  have hfo2 : ∀ W, Below w.heap.size w W → Calls Tryz.prog 36 #[.agg #[.string id, .int .i64 o, .slice a1 cs.length c1, .string pr, .int .i64 st, .slice a2 mv.length c2, .slice a3 rs.length c3, .slice a4 ls.length c4]] W fun e w' => e = .returned (.bool (fmB ⟨id, o, cs, pr, st, mv, rs, ls⟩)) ∧ Below W.heap.size W w' := hfo
  have hpr2 : ∀ W, Below w.heap.size w W → Calls Tryz.prog 24 #[.agg #[.string name, .slice b1 ss.length d1, .slice b2 ms.length d2]] W fun e w' => e = .returned (.bool (pcB ⟨name, ss, ms⟩)) ∧ Below W.heap.size W w' := hpr
  show Calls Tryz.prog 21 #[.agg #[.string id, .int .i64 o, .slice a1 cs.length c1, .string pr, .int .i64 st, .slice a2 mv.length c2, .slice a3 rs.length c3, .slice a4 ls.length c4], .agg #[.string name, .slice b1 ss.length d1, .slice b2 ms.length d2], .int .i64 s, .int .i64 day] w _
  obtain ⟨k2, hk2⟩ : ∃ k, mv.length = k := ⟨_, rfl⟩
  rw [hk2] at s2 hfo2 ⊢
  have HK2 := Lib.hid hk2
  clear hk2
  have hb := ((below_self_alloc w (.cells #[.string id, .int .i64 o, .slice a1 cs.length c1, .string pr, .int .i64 st, .slice a2 k2 c2, .slice a3 rs.length c3, .slice a4 ls.length c4] 27)).alloc (by simp) (.cells #[.string name, .slice b1 ss.length d1, .slice b2 ms.length d2] 46)).alloc (by simp; omega) (.cells #[.string ⟨#[]⟩, .int .i64 0, .slice none 0 0, .string ⟨#[]⟩, .int .i64 0, .slice none 0 0, .slice none 0 0, .slice none 0 0] 27)
  have k0 := ((Blk.new w 27 #[.string id, .int .i64 o, .slice a1 cs.length c1, .string pr, .int .i64 st, .slice a2 k2 c2, .slice a3 rs.length c3, .slice a4 ls.length c4]).alloc (.cells #[.string name, .slice b1 ss.length d1, .slice b2 ms.length d2] 46)).alloc (.cells #[.string ⟨#[]⟩, .int .i64 0, .slice none 0 0, .string ⟨#[]⟩, .int .i64 0, .slice none 0 0, .slice none 0 0, .slice none 0 0] 27)
  have k1 := (Blk.new1 w (.cells #[.string id, .int .i64 o, .slice a1 cs.length c1, .string pr, .int .i64 st, .slice a2 k2 c2, .slice a3 rs.length c3, .slice a4 ls.length c4] 27) 46 #[.string name, .slice b1 ss.length d1, .slice b2 ms.length d2]).alloc (.cells #[.string ⟨#[]⟩, .int .i64 0, .slice none 0 0, .string ⟨#[]⟩, .int .i64 0, .slice none 0 0, .slice none 0 0, .slice none 0 0] 27)
  have kz := Blk.new2 w (.cells #[.string id, .int .i64 o, .slice a1 cs.length c1, .string pr, .int .i64 st, .slice a2 k2 c2, .slice a3 rs.length c3, .slice a4 ls.length c4] 27) (.cells #[.string name, .slice b1 ss.length d1, .slice b2 ms.length d2] 46) 27 #[.string ⟨#[]⟩, .int .i64 0, .slice none 0 0, .string ⟨#[]⟩, .int .i64 0, .slice none 0 0, .slice none 0 0, .slice none 0 0]
  have HFO := Lib.hid hfo2
  have HPR := Lib.hid hpr2
  clear hfo hfo2 hpr hpr2
  go_enter Tryz.func21, Tryz.ntmps21
  go_upto_region 1 with fail
  generalize ((w.alloc (.cells #[.string id, .int .i64 o, .slice a1 cs.length c1, .string pr, .int .i64 st, .slice a2 k2 c2, .slice a3 rs.length c3, .slice a4 ls.length c4] 27)).alloc (.cells #[.string name, .slice b1 ss.length d1, .slice b2 ms.length d2] 46)).alloc (.cells #[.string ⟨#[]⟩, .int .i64 0, .slice none 0 0, .string ⟨#[]⟩, .int .i64 0, .slice none 0 0, .slice none 0 0, .slice none 0 0] 27) = W0 at *
  have HB := Lib.hid hb
  have KX := Lib.hid k0
  have KP := Lib.hid k1
  have KZ := Lib.hid kz
  clear hb k0 k1 kz
  obtain ⟨t0, t1, t2⟩ := KX.out.all
  have hc := HFO.out W0 HB.out
  cases h1 : fmB ⟨id, o, cs, pr, st, mv, rs, ls⟩ with
  | false =>
    rw [h1] at hc
    have HC := Lib.hid hc
    have H1 := Lib.hid h1
    clear hc h1
    go_wp2_with fail
    refine HC.out.mono ?_
    rintro e W1 ⟨rfl, bz⟩
    clear HC t0 t1 t2
    have HBx := Lib.hid (HB.out.trans (bz.mono HB.out.size))
    have KXx := Lib.hid (KX.out.below bz KX.out.lt)
    have KPx := Lib.hid (KP.out.below bz KP.out.lt)
    have KZx := Lib.hid (KZ.out.below bz KZ.out.lt)
    clear HB KX KP KZ
    have HB := HBx
    clear HBx
    have KX := KXx
    clear KXx
    have KP := KPx
    clear KPx
    have KZ := KZx
    clear KZx
    clear bz
    go_upto_region 2 with fail
    have hEE : moveE ⟨id, o, cs, pr, st, mv, rs, ls⟩ ⟨name, ss, ms⟩ s day = 1 := moveE1 (by unfold okM; rw [H1.out]; rfl)
    obtain rfl : E = 1 := HE.out.symm.trans hEE
    obtain rfl : Z = Mt.zero := HZ.out.symm.trans (moveM_bad (by rw [hEE]; decide))
    clear hEE
    have hlv := row_load KZ.out #[.string ⟨#[]⟩, .int .i64 0, .slice none 0 0, .string ⟨#[]⟩, .int .i64 0, .slice none 0 0, .slice none 0 0, .slice none 0 0] rfl
    have HLV := Lib.hid hlv
    have hfin := mt_err (w := w) (E := 1) (below_row HB.out (show w.heap.size ≤ w.heap.size + 1 + 1 by omega) #[.string ⟨#[]⟩, .int .i64 0, .slice none 0 0, .string ⟨#[]⟩, .int .i64 0, .slice none 0 0, .slice none 0 0, .slice none 0 0])
    have HFIN := Lib.hid hfin
    clear hlv hfin
    go_wp2_with (refine wp_row rfl (.tmp 8) (.tmp 41) rfl (w.heap.size + 1 + 1) #[.string ⟨#[]⟩, .int .i64 0, .slice none 0 0, .string ⟨#[]⟩, .int .i64 0, .slice none 0 0, .slice none 0 0, .slice none 0 0] rfl rfl rfl one8 rfl KZ.out ?_)
    exact bodyPost_ret (v := .tuple #[.agg #[.string ⟨#[]⟩, .int .i64 0, .slice none 0 0, .string ⟨#[]⟩, .int .i64 0, .slice none 0 0, .slice none 0 0, .slice none 0 0], .int .i64 1]) (by simp [results, Tryz.results21, asAddr, HLV.out]) rfl HFIN.out
  | true =>
  rw [h1] at hc
  have HC := Lib.hid hc
  have H1 := Lib.hid h1
  clear hc h1
  go_wp2_with fail
  refine HC.out.mono ?_
  rintro e W1 ⟨rfl, bz⟩
  clear HC t0 t1 t2
  have HBx := Lib.hid (HB.out.trans (bz.mono HB.out.size))
  have KXx := Lib.hid (KX.out.below bz KX.out.lt)
  have KPx := Lib.hid (KP.out.below bz KP.out.lt)
  have KZx := Lib.hid (KZ.out.below bz KZ.out.lt)
  clear HB KX KP KZ
  have HB := HBx
  clear HBx
  have KX := KXx
  clear KXx
  have KP := KPx
  clear KPx
  have KZ := KZx
  clear KZx
  clear bz
  obtain ⟨u0, u1, u2⟩ := KP.out.all
  have hc := HPR.out W1 HB.out
  cases h2 : pcB ⟨name, ss, ms⟩ with
  | false =>
    rw [h2] at hc
    have HC := Lib.hid hc
    have H2 := Lib.hid h2
    clear hc h2
    go_wp2_with fail
    refine HC.out.mono ?_
    rintro e W2 ⟨rfl, bz⟩
    clear HC u0 u1 u2
    have HBx := Lib.hid (HB.out.trans (bz.mono HB.out.size))
    have KXx := Lib.hid (KX.out.below bz KX.out.lt)
    have KPx := Lib.hid (KP.out.below bz KP.out.lt)
    have KZx := Lib.hid (KZ.out.below bz KZ.out.lt)
    clear HB KX KP KZ
    have HB := HBx
    clear HBx
    have KX := KXx
    clear KXx
    have KP := KPx
    clear KPx
    have KZ := KZx
    clear KZx
    clear bz
    go_upto_region 2 with fail
    have hEE : moveE ⟨id, o, cs, pr, st, mv, rs, ls⟩ ⟨name, ss, ms⟩ s day = 1 := moveE1 (by unfold okM; rw [H2.out]; simp)
    obtain rfl : E = 1 := HE.out.symm.trans hEE
    obtain rfl : Z = Mt.zero := HZ.out.symm.trans (moveM_bad (by rw [hEE]; decide))
    clear hEE
    have hlv := row_load KZ.out #[.string ⟨#[]⟩, .int .i64 0, .slice none 0 0, .string ⟨#[]⟩, .int .i64 0, .slice none 0 0, .slice none 0 0, .slice none 0 0] rfl
    have HLV := Lib.hid hlv
    have hfin := mt_err (w := w) (E := 1) (below_row HB.out (show w.heap.size ≤ w.heap.size + 1 + 1 by omega) #[.string ⟨#[]⟩, .int .i64 0, .slice none 0 0, .string ⟨#[]⟩, .int .i64 0, .slice none 0 0, .slice none 0 0, .slice none 0 0])
    have HFIN := Lib.hid hfin
    clear hlv hfin
    go_wp2_with (refine wp_row rfl (.tmp 8) (.tmp 41) rfl (w.heap.size + 1 + 1) #[.string ⟨#[]⟩, .int .i64 0, .slice none 0 0, .string ⟨#[]⟩, .int .i64 0, .slice none 0 0, .slice none 0 0, .slice none 0 0] rfl rfl rfl one8 rfl KZ.out ?_)
    exact bodyPost_ret (v := .tuple #[.agg #[.string ⟨#[]⟩, .int .i64 0, .slice none 0 0, .string ⟨#[]⟩, .int .i64 0, .slice none 0 0, .slice none 0 0, .slice none 0 0], .int .i64 1]) (by simp [results, Tryz.results21, asAddr, HLV.out]) rfl HFIN.out
  | true =>
  rw [h2] at hc
  have HC := Lib.hid hc
  have H2 := Lib.hid h2
  clear hc h2
  go_wp2_with fail
  refine HC.out.mono ?_
  rintro e W2 ⟨rfl, bz⟩
  clear HC u0 u1 u2
  have HBx := Lib.hid (HB.out.trans (bz.mono HB.out.size))
  have KXx := Lib.hid (KX.out.below bz KX.out.lt)
  have KPx := Lib.hid (KP.out.below bz KP.out.lt)
  have KZx := Lib.hid (KZ.out.below bz KZ.out.lt)
  clear HB KX KP KZ
  have HB := HBx
  clear HBx
  have KX := KXx
  clear KXx
  have KP := KPx
  clear KPx
  have KZ := KZx
  clear KZx
  clear bz
  obtain ⟨t0, t1, t2⟩ := KX.out.all
  obtain ⟨u0, u1, u2⟩ := KP.out.all
  by_cases h3 : pr = name
  case neg =>
    have e3 := str_no h3
    have H3 : Hid (okM ⟨id, o, cs, pr, st, mv, rs, ls⟩ ⟨name, ss, ms⟩ day = false) := Lib.hid (by unfold okM; simp only; rw [decide_eq_false h3]; simp)
    clear h3
    go_upto_region 2 with fail
    clear t0 t1 t2 u0 u1 u2
    have hEE : moveE ⟨id, o, cs, pr, st, mv, rs, ls⟩ ⟨name, ss, ms⟩ s day = 1 := moveE1 H3.out
    obtain rfl : E = 1 := HE.out.symm.trans hEE
    obtain rfl : Z = Mt.zero := HZ.out.symm.trans (moveM_bad (by rw [hEE]; decide))
    clear hEE
    have hlv := row_load KZ.out #[.string ⟨#[]⟩, .int .i64 0, .slice none 0 0, .string ⟨#[]⟩, .int .i64 0, .slice none 0 0, .slice none 0 0, .slice none 0 0] rfl
    have HLV := Lib.hid hlv
    have hfin := mt_err (w := w) (E := 1) (below_row HB.out (show w.heap.size ≤ w.heap.size + 1 + 1 by omega) #[.string ⟨#[]⟩, .int .i64 0, .slice none 0 0, .string ⟨#[]⟩, .int .i64 0, .slice none 0 0, .slice none 0 0, .slice none 0 0])
    have HFIN := Lib.hid hfin
    clear hlv hfin
    go_wp2_with (refine wp_row rfl (.tmp 8) (.tmp 41) rfl (w.heap.size + 1 + 1) #[.string ⟨#[]⟩, .int .i64 0, .slice none 0 0, .string ⟨#[]⟩, .int .i64 0, .slice none 0 0, .slice none 0 0, .slice none 0 0] rfl rfl rfl one8 rfl KZ.out ?_)
    exact bodyPost_ret (v := .tuple #[.agg #[.string ⟨#[]⟩, .int .i64 0, .slice none 0 0, .string ⟨#[]⟩, .int .i64 0, .slice none 0 0, .slice none 0 0, .slice none 0 0], .int .i64 1]) (by simp [results, Tryz.results21, asAddr, HLV.out]) rfl HFIN.out
  subst h3
  by_cases h4 : st < (ss.length : Int)
  case neg =>
    have H4 : Hid (okM ⟨id, o, cs, pr, st, mv, rs, ls⟩ ⟨pr, ss, ms⟩ day = false) := Lib.hid (by unfold okM; simp only; rw [decide_eq_false h4]; simp)
    have d4 : decide ((ss.length : Int) ≤ st) = true := decide_eq_true (by omega)
    go_upto_region 2 with fail
    clear t0 t1 t2 u0 u1 u2
    have hEE : moveE ⟨id, o, cs, pr, st, mv, rs, ls⟩ ⟨pr, ss, ms⟩ s day = 1 := moveE1 H4.out
    obtain rfl : E = 1 := HE.out.symm.trans hEE
    obtain rfl : Z = Mt.zero := HZ.out.symm.trans (moveM_bad (by rw [hEE]; decide))
    clear hEE
    have hlv := row_load KZ.out #[.string ⟨#[]⟩, .int .i64 0, .slice none 0 0, .string ⟨#[]⟩, .int .i64 0, .slice none 0 0, .slice none 0 0, .slice none 0 0] rfl
    have HLV := Lib.hid hlv
    have hfin := mt_err (w := w) (E := 1) (below_row HB.out (show w.heap.size ≤ w.heap.size + 1 + 1 by omega) #[.string ⟨#[]⟩, .int .i64 0, .slice none 0 0, .string ⟨#[]⟩, .int .i64 0, .slice none 0 0, .slice none 0 0, .slice none 0 0])
    have HFIN := Lib.hid hfin
    clear hlv hfin
    go_wp2_with (refine wp_row rfl (.tmp 8) (.tmp 41) rfl (w.heap.size + 1 + 1) #[.string ⟨#[]⟩, .int .i64 0, .slice none 0 0, .string ⟨#[]⟩, .int .i64 0, .slice none 0 0, .slice none 0 0, .slice none 0 0] rfl rfl rfl one8 rfl KZ.out ?_)
    exact bodyPost_ret (v := .tuple #[.agg #[.string ⟨#[]⟩, .int .i64 0, .slice none 0 0, .string ⟨#[]⟩, .int .i64 0, .slice none 0 0, .slice none 0 0, .slice none 0 0], .int .i64 1]) (by simp [results, Tryz.results21, asAddr, HLV.out]) rfl HFIN.out
  have d4 : decide ((ss.length : Int) ≤ st) = false := decide_eq_false (by omega)
  have d4' : ¬ (ss.length : Int) ≤ st := by omega
  have nd := rDay_any W2 day
  cases h5 : isB day with
  | false =>
    rw [h5] at nd
    have ND := Lib.hid nd
    have H5 := Lib.hid h5
    clear nd h5
    go_wp2_with fail
    refine ND.out.mono ?_
    rintro e w3 ⟨rfl, rfl⟩
    go_upto_region 2 with fail
    clear t0 t1 t2 u0 u1 u2
    have hEE : moveE ⟨id, o, cs, pr, st, mv, rs, ls⟩ ⟨pr, ss, ms⟩ s day = 1 := moveE1 (by unfold okM; simp only; rw [H5.out]; simp)
    obtain rfl : E = 1 := HE.out.symm.trans hEE
    obtain rfl : Z = Mt.zero := HZ.out.symm.trans (moveM_bad (by rw [hEE]; decide))
    clear hEE
    have hlv := row_load KZ.out #[.string ⟨#[]⟩, .int .i64 0, .slice none 0 0, .string ⟨#[]⟩, .int .i64 0, .slice none 0 0, .slice none 0 0, .slice none 0 0] rfl
    have HLV := Lib.hid hlv
    have hfin := mt_err (w := w) (E := 1) (below_row HB.out (show w.heap.size ≤ w.heap.size + 1 + 1 by omega) #[.string ⟨#[]⟩, .int .i64 0, .slice none 0 0, .string ⟨#[]⟩, .int .i64 0, .slice none 0 0, .slice none 0 0, .slice none 0 0])
    have HFIN := Lib.hid hfin
    clear hlv hfin
    go_wp2_with (refine wp_row rfl (.tmp 8) (.tmp 41) rfl (w.heap.size + 1 + 1) #[.string ⟨#[]⟩, .int .i64 0, .slice none 0 0, .string ⟨#[]⟩, .int .i64 0, .slice none 0 0, .slice none 0 0, .slice none 0 0] rfl rfl rfl one8 rfl KZ.out ?_)
    exact bodyPost_ret (v := .tuple #[.agg #[.string ⟨#[]⟩, .int .i64 0, .slice none 0 0, .string ⟨#[]⟩, .int .i64 0, .slice none 0 0, .slice none 0 0, .slice none 0 0], .int .i64 1]) (by simp [results, Tryz.results21, asAddr, HLV.out]) rfl HFIN.out
  | true =>
  rw [h5] at nd
  have ND := Lib.hid nd
  have HALL : Hid (okM ⟨id, o, cs, pr, st, mv, rs, ls⟩ ⟨pr, ss, ms⟩ day = true) := Lib.hid (by unfold okM; simp only; rw [H1.out, H2.out, h5, decide_eq_true h4]; simp)
  clear nd h5
  go_wp2_with fail
  refine ND.out.mono ?_
  rintro e w3 ⟨rfl, rfl⟩
  clear ND
  by_cases h6 : s < 0 ∨ (ss.length : Int) ≤ s
  case pos =>
    have H6 := Lib.hid h6
    rcases Int.lt_or_le s 0 with h7 | h7
    · have d7 : decide (s < 0) = true := decide_eq_true h7
      clear h6
      go_upto_region 4 with fail
      clear t0 t1 t2 u0 u1 u2
      have hEE : moveE ⟨id, o, cs, pr, st, mv, rs, ls⟩ ⟨pr, ss, ms⟩ s day = 11 := moveE11 HALL.out H6.out
      obtain rfl : E = 11 := HE.out.symm.trans hEE
      obtain rfl : Z = Mt.zero := HZ.out.symm.trans (moveM_bad (by rw [hEE]; decide))
      clear hEE
      have hlv := row_load KZ.out #[.string ⟨#[]⟩, .int .i64 0, .slice none 0 0, .string ⟨#[]⟩, .int .i64 0, .slice none 0 0, .slice none 0 0, .slice none 0 0] rfl
      have HLV := Lib.hid hlv
      have hfin := mt_err (w := w) (E := 11) (below_row HB.out (show w.heap.size ≤ w.heap.size + 1 + 1 by omega) #[.string ⟨#[]⟩, .int .i64 0, .slice none 0 0, .string ⟨#[]⟩, .int .i64 0, .slice none 0 0, .slice none 0 0, .slice none 0 0])
      have HFIN := Lib.hid hfin
      clear hlv hfin
      go_wp2_with (refine wp_row rfl (.tmp 8) (.tmp 51) rfl (w.heap.size + 1 + 1) #[.string ⟨#[]⟩, .int .i64 0, .slice none 0 0, .string ⟨#[]⟩, .int .i64 0, .slice none 0 0, .slice none 0 0, .slice none 0 0] rfl rfl rfl one8 rfl KZ.out ?_)
      exact bodyPost_ret (v := .tuple #[.agg #[.string ⟨#[]⟩, .int .i64 0, .slice none 0 0, .string ⟨#[]⟩, .int .i64 0, .slice none 0 0, .slice none 0 0, .slice none 0 0], .int .i64 11]) (by simp [results, Tryz.results21, asAddr, HLV.out]) rfl HFIN.out
    · have d7 : decide (s < 0) = false := decide_eq_false (by omega)
      have d7' : ¬ s < 0 := by omega
      have d8' : (ss.length : Int) ≤ s := by omega
      have d8 : decide ((ss.length : Int) ≤ s) = true := decide_eq_true d8'
      clear h6
      go_upto_region 4 with fail
      clear t0 t1 t2 u0 u1 u2
      have hEE : moveE ⟨id, o, cs, pr, st, mv, rs, ls⟩ ⟨pr, ss, ms⟩ s day = 11 := moveE11 HALL.out H6.out
      obtain rfl : E = 11 := HE.out.symm.trans hEE
      obtain rfl : Z = Mt.zero := HZ.out.symm.trans (moveM_bad (by rw [hEE]; decide))
      clear hEE
      have hlv := row_load KZ.out #[.string ⟨#[]⟩, .int .i64 0, .slice none 0 0, .string ⟨#[]⟩, .int .i64 0, .slice none 0 0, .slice none 0 0, .slice none 0 0] rfl
      have HLV := Lib.hid hlv
      have hfin := mt_err (w := w) (E := 11) (below_row HB.out (show w.heap.size ≤ w.heap.size + 1 + 1 by omega) #[.string ⟨#[]⟩, .int .i64 0, .slice none 0 0, .string ⟨#[]⟩, .int .i64 0, .slice none 0 0, .slice none 0 0, .slice none 0 0])
      have HFIN := Lib.hid hfin
      clear hlv hfin
      go_wp2_with (refine wp_row rfl (.tmp 8) (.tmp 51) rfl (w.heap.size + 1 + 1) #[.string ⟨#[]⟩, .int .i64 0, .slice none 0 0, .string ⟨#[]⟩, .int .i64 0, .slice none 0 0, .slice none 0 0, .slice none 0 0] rfl rfl rfl one8 rfl KZ.out ?_)
      exact bodyPost_ret (v := .tuple #[.agg #[.string ⟨#[]⟩, .int .i64 0, .slice none 0 0, .string ⟨#[]⟩, .int .i64 0, .slice none 0 0, .slice none 0 0, .slice none 0 0], .int .i64 11]) (by simp [results, Tryz.results21, asAddr, HLV.out]) rfl HFIN.out
  have HS1 := Lib.hid h6
  have d7 : decide (s < 0) = false := decide_eq_false (by omega)
  have d7' : ¬ s < 0 := by omega
  have d8' : ¬ (ss.length : Int) ≤ s := by omega
  have d8 : decide ((ss.length : Int) ≤ s) = false := decide_eq_false d8'
  clear h6
  go_wp2_with fail
  clear d4 d4' d7 d7' d8 d8' t0 t1 t2 u0 u1 u2
  go_loopw [10, 11] (fun v i wr => ∃ (k : Nat) (b : Bool), k ≤ ms.length ∧ i = .int .i64 (k : Int) ∧ v = .bool b ∧ Hid (inM b (st, s) (ms.take k)) ∧ ∃ q, wr = W2.drewN q) (fun _ i _ => ms.length - (intOf i).toNat)
  case atStart => exact ⟨0, false, Nat.zero_le _, rfl, rfl, Lib.hid (by unfold inM; simp), 0, rfl⟩
  case round =>
    obtain ⟨k, b, hk, rfl, rfl, HT, q, rfl⟩ := hrel
    have hbq := below_dN HB.out q
    have kxq := KX.out.drewN q
    have kpq := KP.out.drewN q
    have kzq := KZ.out.drewN q
    obtain ⟨t0, t1, t2⟩ := kxq.all
    obtain ⟨u0, u1, u2⟩ := kpq.all
    by_cases hlt : k < ms.length
    · obtain ⟨x, hx⟩ : ∃ n, ms[k]? = some n := ⟨_, List.getElem?_eq_getElem hlt⟩
      obtain ⟨g, off, hA, hg, p0, p1⟩ := (HPC.out.below (hbq.mono HBB.out)).ms k x hx
      simp only at hA
      subst hA
      obtain ⟨z1, z2⟩ := x
      simp only at p0 p1
      have ib0 : (0 : Int) ≤ (k : Int) := by omega
      have ib1 : (k : Int) < (ms.length : Int) := by omega
      have HX := Lib.hid hx
      clear hx hbq kxq kpq kzq
      cases b with
      | true =>
        have HT2 : Hid (inM true (st, s) (ms.take (k + 1))) := Lib.hid (by
          unfold inM
          have := HT.out.1 rfl
          rw [take_snoc' HX.out]
          simp [this])
        go_wp2_with fail
        generalize hW : W2.drewN q = W7 at *
        go_quiet (fail)
        subst hW
        clear t0 t1 t2 u0 u1 u2 p0 p1
        go_wp2
        go_roundw
        case rel => exact ⟨k + 1, true, by omega, by go_num, rfl, HT2, q + nq, rfl⟩
        case measure => simp [intOf]; omega
      | false =>
        have hno : (st, s) ∉ ms.take k := fun h => by have := HT.out.2 h; cases this
        by_cases hzz : z1 = st ∧ z2 = s
        · have heq : ∀ W, (Op.equalIn 10000 101 (.agg #[.int .i64 z1, .int .i64 z2]) (.agg #[.int .i64 st, .int .i64 s])).run Tryz.prog W = .ok true W := fun W => by rw [eq_ky, decide_eq_true hzz]
          have HT2 : Hid (inM true (st, s) (ms.take (k + 1))) := Lib.hid (by
            unfold inM
            rw [take_snoc' HX.out, hzz.1, hzz.2]
            simp)
          clear hzz hno
          go_wp2_with fail
          generalize hW : W2.drewN q = W7 at *
          go_quiet (fail)
          subst hW
          clear t0 t1 t2 u0 u1 u2 p0 p1
          go_wp2
          go_roundw
          case rel => exact ⟨k + 1, true, by omega, by go_num, rfl, HT2, q + nq, rfl⟩
          case measure => simp [intOf]; omega
        · have heq : ∀ W, (Op.equalIn 10000 101 (.agg #[.int .i64 z1, .int .i64 z2]) (.agg #[.int .i64 st, .int .i64 s])).run Tryz.prog W = .ok false W := fun W => by rw [eq_ky, decide_eq_false hzz]
          have HT2 : Hid (inM false (st, s) (ms.take (k + 1))) := Lib.hid (by
            unfold inM
            rw [take_snoc' HX.out]
            simp only [List.mem_append, List.mem_singleton, Prod.mk.injEq, Bool.false_eq_true, false_iff, not_or]
            exact ⟨hno, fun h => hzz ⟨h.1.symm, h.2.symm⟩⟩)
          clear hzz hno
          go_wp2_with fail
          generalize hW : W2.drewN q = W7 at *
          go_quiet (fail)
          subst hW
          clear t0 t1 t2 u0 u1 u2 p0 p1
          go_wp2
          go_roundw
          case rel => exact ⟨k + 1, false, by omega, by go_num, rfl, HT2, q + nq, rfl⟩
          case measure => simp [intOf]; omega
    · obtain rfl : k = ms.length := by omega
      have hin : inM b (st, s) ms := by have := HT.out; rwa [List.take_length] at this
      have HIN := Lib.hid hin
      clear HB KX KP KZ HT hin
      have HB := Lib.hid hbq
      have KX := Lib.hid kxq
      have KP := Lib.hid kpq
      have KZ := Lib.hid kzq
      clear hbq kxq kpq kzq
      generalize W2.drewN q = W3 at *
      cases b with
      | false =>
        have HNI := Lib.hid (show (st, s) ∉ ms from fun h => by have := HIN.out.2 h; cases this)
        go_upto_region 11 with fail
        clear t0 t1 t2 u0 u1 u2
        have hEE : moveE ⟨id, o, cs, pr, st, mv, rs, ls⟩ ⟨pr, ss, ms⟩ s day = 12 := moveE12 HALL.out HS1.out HNI.out
        obtain rfl : E = 12 := HE.out.symm.trans hEE
        obtain rfl : Z = Mt.zero := HZ.out.symm.trans (moveM_bad (by rw [hEE]; decide))
        clear hEE
        have hlv := row_load KZ.out #[.string ⟨#[]⟩, .int .i64 0, .slice none 0 0, .string ⟨#[]⟩, .int .i64 0, .slice none 0 0, .slice none 0 0, .slice none 0 0] rfl
        have HLV := Lib.hid hlv
        have hfin := mt_err (w := w) (E := 12) (below_row HB.out (show w.heap.size ≤ w.heap.size + 1 + 1 by omega) #[.string ⟨#[]⟩, .int .i64 0, .slice none 0 0, .string ⟨#[]⟩, .int .i64 0, .slice none 0 0, .slice none 0 0, .slice none 0 0])
        have HFIN := Lib.hid hfin
        clear hlv hfin
        go_wp2_with (refine wp_row rfl (.tmp 8) (.tmp 74) rfl (w.heap.size + 1 + 1) #[.string ⟨#[]⟩, .int .i64 0, .slice none 0 0, .string ⟨#[]⟩, .int .i64 0, .slice none 0 0, .slice none 0 0, .slice none 0 0] rfl rfl rfl one8 rfl KZ.out ?_)
        exact bodyPost_ret (v := .tuple #[.agg #[.string ⟨#[]⟩, .int .i64 0, .slice none 0 0, .string ⟨#[]⟩, .int .i64 0, .slice none 0 0, .slice none 0 0, .slice none 0 0], .int .i64 12]) (by simp [results, Tryz.results21, asAddr, HLV.out]) rfl HFIN.out
      | true =>
      have HI := Lib.hid (HIN.out.1 rfl)
      clear HIN
      by_cases h10 : day < o
      case pos =>
        have d10 : decide (day < o) = true := decide_eq_true h10
        go_upto_region 14 with fail
        clear t0 t1 t2 u0 u1 u2
        have hEE : moveE ⟨id, o, cs, pr, st, mv, rs, ls⟩ ⟨pr, ss, ms⟩ s day = 24 := moveE24 HALL.out HS1.out HI.out (.inl h10)
        obtain rfl : E = 24 := HE.out.symm.trans hEE
        obtain rfl : Z = Mt.zero := HZ.out.symm.trans (moveM_bad (by rw [hEE]; decide))
        clear hEE
        have hlv := row_load KZ.out #[.string ⟨#[]⟩, .int .i64 0, .slice none 0 0, .string ⟨#[]⟩, .int .i64 0, .slice none 0 0, .slice none 0 0, .slice none 0 0] rfl
        have HLV := Lib.hid hlv
        have hfin := mt_err (w := w) (E := 24) (below_row HB.out (show w.heap.size ≤ w.heap.size + 1 + 1 by omega) #[.string ⟨#[]⟩, .int .i64 0, .slice none 0 0, .string ⟨#[]⟩, .int .i64 0, .slice none 0 0, .slice none 0 0, .slice none 0 0])
        have HFIN := Lib.hid hfin
        clear hlv hfin
        go_wp2_with (refine wp_row rfl (.tmp 8) (.tmp 96) rfl (w.heap.size + 1 + 1) #[.string ⟨#[]⟩, .int .i64 0, .slice none 0 0, .string ⟨#[]⟩, .int .i64 0, .slice none 0 0, .slice none 0 0, .slice none 0 0] rfl rfl rfl one8 rfl KZ.out ?_)
        exact bodyPost_ret (v := .tuple #[.agg #[.string ⟨#[]⟩, .int .i64 0, .slice none 0 0, .string ⟨#[]⟩, .int .i64 0, .slice none 0 0, .slice none 0 0, .slice none 0 0], .int .i64 24]) (by simp [results, Tryz.results21, asAddr, HLV.out]) rfl HFIN.out
      have d10 : decide (day < o) = false := decide_eq_false h10
      have h10p : o ≤ day := Int.not_lt.1 h10
      clear h10
      cases k2 with
      | zero =>
        have HND : Hid (¬ (day < o ∨ day < lastI o mv)) := Lib.hid (by
          have : mv = [] := List.length_eq_zero_iff.1 HK2.out
          rw [this]
          show ¬ (day < o ∨ day < o)
          omega)
        have h9 : ¬ 60 ≤ 0 := by omega
        have hEE : moveE ⟨id, o, cs, pr, st, mv, rs, ls⟩ ⟨pr, ss, ms⟩ s day = 0 := moveE0 HALL.out HS1.out HI.out HND.out (by show ¬ 60 ≤ mv.length; rw [HK2.out]; exact h9)
        obtain rfl : E = 0 := HE.out.symm.trans hEE
        obtain rfl : Z = ⟨id, o, cs, pr, s, mv ++ [day], rs, ls⟩ := HZ.out.symm.trans (moveM_ok hEE)
        clear hEE
        have kx4 := KX.out.set_ 4 (.int .i64 s)
        have kz4 := KZ.out.far (show w.heap.size + 1 + 1 ≠ w.heap.size by omega) (p := ⟨w.heap.size, 4, none⟩) (.int .i64 s)
        have hb4 := HB.out.setCell (p := ⟨w.heap.size, 4, none⟩) (Nat.le_refl _) (.int .i64 s)
        go_upto_region 18 with fail
        generalize W3.setCell ⟨w.heap.size, 4, none⟩ (.int .i64 s) = W4 at *
        have KX4 : Hid (Blk W4 w.heap.size 27 #[.string id, .int .i64 o, .slice a1 cs.length c1, .string pr, .int .i64 s, .slice a2 0 c2, .slice a3 rs.length c3, .slice a4 ls.length c4]) := Lib.hid kx4
        have hsz := hb4.size
        have own0 := World.ownsRow_lit (base := w.heap.size) (e := 3) (size := 1) W4 #[] 0 hsz (by unfold maxLen; omega) rfl
        have kx1 := KX4.out.alloc (.cells #[] 3)
        have hb1 := hb4.alloc hb4.size (.cells #[] 3)
        have kz1 := kz4.alloc (.cells #[] 3)
        have hrt := (H.out.below (hb1.mono HBB.out)).mv
        simp only at hrt
        have hsz1 := hb1.size
        have hk2l : (intCells mv).length = 0 * 1 := by rw [intCells_len, HK2.out]
        clear t0 t1 t2 u0 u1 u2 kx4
        obtain ⟨t0, t1, t2⟩ := KX4.out.all
        go_upto_region 19 with (first
          | (at_builtin; refine wpList_append_any rfl _ _ 22 rfl w.heap.size 3 i0 _ 1 8 Tryz.underlying22 hi0 hz0 hz1 hz2 rfl (by omega) (.slice (some ⟨W4.heap.size, 0, none⟩) 0 0) 0 [] rfl own0 a2 0 c2 (intCells mv) rfl hk2l (intCells_news hrt) (intCells_one mv) (by unfold maxLen; omega) (by omega) hsz1 ?_; intro v4 w4 own4 gr4 l4; simp only [Nat.zero_add, List.nil_append] at own4; obtain ⟨A5, k5, rfl⟩ := own_form own4; have kx4 := kx1.grown gr4 (fun e' => own_blk_ne own0 kx1 (by decide) e'.symm); have kz4' := kz1.grown gr4 (fun e' => own_blk_ne own0 kz1 (by decide) e'.symm); have hb4' := hb1.grown gr4 hb1.size (fun k hk => (World.ownsRow.lt own0 k hk).1); have kn := Blk.new w4 3 #[.int .i64 day]; have own5 := own4.alloc (.cells #[.int .i64 day] 3); have kx5 := kx4.alloc (.cells #[.int .i64 day] 3); have kz5 := kz4'.alloc (.cells #[.int .i64 day] 3); have hb5 := hb4'.alloc hb4'.size (.cells #[.int .i64 day] 3); have hsz5 := hb5.size)
          | (at_builtin; refine wpList_append_lies _ rfl _ _ 22 rfl w.heap.size 3 i0 _ 1 8 Tryz.underlying22 hi0 hz0 hz1 hz2 rfl (by omega) (.slice A5 0 k5) 0 (intCells mv) rfl own5 ⟨w4.heap.size, 0, none⟩ 1 1 [.int .i64 day] rfl rfl (World.news_of_block kn) (intCells_one [day]) (by omega) (by unfold maxLen; omega) (by omega) (by omega) _ rfl ?_; intro gz cz Y own9 gr9 l9 z9; have kx9 := kx5.grown gr9 (fun e' => own_blk_ne own5 kx5 (by decide) e'.symm); obtain ⟨x0, x1, x2⟩ := kx9.all))
        have kz9 := kz5.grown gr9 (fun e' => own_blk_ne own5 kz5 (by decide) e'.symm)
        have hb9 := hb5.grown gr9 hb5.size (fun k hk => (World.ownsRow.lt own5 k hk).1)
        have kx6 := kx9.set_ 5 (.slice (some ⟨gz, 0, none⟩) (0 + 1) cz)
        have kz6 := kz9.far (show w.heap.size + 1 + 1 ≠ w.heap.size by omega) (p := ⟨w.heap.size, 5, none⟩) (.slice (some ⟨gz, 0, none⟩) (0 + 1) cz)
        have hb6 := hb9.setCell (p := ⟨w.heap.size, 5, none⟩) (Nat.le_refl _) (.slice (some ⟨gz, 0, none⟩) (0 + 1) cz)
        have own6 := ((Only.refl (fun g => g = w.heap.size) Y).setCell (p := ⟨w.heap.size, 5, none⟩) (.inl rfl) (.slice (some ⟨gz, 0, none⟩) (0 + 1) cz)).owns own9 (fun g hv hg => own_blk_ne own9 kx9 (by decide) (by rw [hv, hg]))
        have own7 := (only_setRow (Y.setCell ⟨w.heap.size, 5, none⟩ (.slice (some ⟨gz, 0, none⟩) (0 + 1) cz)) (w.heap.size + 1 + 1) #[.string id, .int .i64 o, .slice a1 cs.length c1, .string pr, .int .i64 s, .slice (some ⟨gz, 0, none⟩) (0 + 1) cz, .slice a3 rs.length c3, .slice a4 ls.length c4]).owns own6 (fun g hv hg => own_blk_ne own6 kz6 (by decide) (by rw [hv, hg]))
        have hb7 := below_row hb6 (show w.heap.size ≤ w.heap.size + 1 + 1 by omega) #[.string id, .int .i64 o, .slice a1 cs.length c1, .string pr, .int .i64 s, .slice (some ⟨gz, 0, none⟩) (0 + 1) cz, .slice a3 rs.length c3, .slice a4 ls.length c4]
        have hlv := row_load kz6 #[.string id, .int .i64 o, .slice a1 cs.length c1, .string pr, .int .i64 s, .slice (some ⟨gz, 0, none⟩) (0 + 1) cz, .slice a3 rs.length c3, .slice a4 ls.length c4] rfl
        have KX6 := Lib.hid kx6
        have KZ6 := Lib.hid kz6
        have OW7 := Lib.hid own7
        have HB7 := Lib.hid hb7
        have HLV := Lib.hid hlv
        clear kx1 kz1 hb1 own0 hrt kx4 kz4' hb4' own4 gr4 l4 kn own5 kx5 kz5 hb5 kx9 kz9 hb9 kx6 kz6 hb6 own6 own7 hb7 hlv t0 t1 t2 x0 x1 x2 own9 gr9 l9 z9
        obtain ⟨t0, t1, t2⟩ := KX6.out.all
        go_wp2_with (refine wp_row rfl (.tmp 8) (.tmp 110) rfl (w.heap.size + 1 + 1) #[.string id, .int .i64 o, .slice a1 cs.length c1, .string pr, .int .i64 s, .slice (some ⟨gz, 0, none⟩) (0 + 1) cz, .slice a3 rs.length c3, .slice a4 ls.length c4] rfl rfl rfl one8 rfl KZ6.out ?_)
        refine bodyPost_ret (v := .tuple #[.agg #[.string id, .int .i64 o, .slice a1 cs.length c1, .string pr, .int .i64 s, .slice (some ⟨gz, 0, none⟩) (0 + 1) cz, .slice a3 rs.length c3, .slice a4 ls.length c4], .int .i64 0]) (by simp [results, Tryz.results21, asAddr, HLV.out]) rfl ?_
        have hlen2 : (mv ++ [day]).length = 0 + 1 := by rw [List.length_append, HK2.out]; rfl
        have hrow := IntsAt.of_row hlen2 (by rw [intCells_app]; exact OW7.out)
        have hm := H.out.below (HB7.out.mono HBB.out)
        have hsz7 := Nat.le_trans HBB.out HB7.out.size
        refine ⟨⟨a1, c1, some ⟨gz, 0, none⟩, cz, a3, c3, a4, c4, lv⟩, ?_, ⟨hm.cs.wide hsz7, hrow, hm.rs.wide hsz7, hm.ls.wide hsz7, hm.lv, hm.id, hm.pr, hm.rn⟩, HB7.out⟩
        unfold mtC
        simp only [hlen2]
      | succ n =>
        obtain ⟨z, hz⟩ : ∃ z, mv[n]? = some z := ⟨_, List.getElem?_eq_getElem (by rw [HK2.out]; omega)⟩
        obtain ⟨g, off, hA, hg, e1⟩ := (H.out.below (HB.out.mono HBB.out)).mv n z hz
        simp only at hA
        subst hA
        have hlast : lastI o mv = z := by unfold lastI; rw [List.getLast?_eq_getElem?, HK2.out]; show (mv[n]?).getD o = z; rw [hz]; rfl
        have HLA := Lib.hid hlast
        have r1 : IntKind.i64.wrap (((n + 1 : Nat) : Int) - 1) = (n : Int) := by rw [show (((n + 1 : Nat) : Int) - 1) = (n : Int) by omega]; exact IntWalk.i64_in _ (by omega)
        have r2 : (0 : Int) ≤ (n : Int) := by omega
        have r3 : (n : Int) < (n : Int) + 1 := by omega
        have r5 : (0 : Int) < (n : Int) + 1 := by omega
        clear hlast hz
        by_cases h11 : day < z
        case pos =>
          have d11 : decide (day < z) = true := decide_eq_true h11
          go_upto_region 14 with fail
          clear t0 t1 t2 u0 u1 u2 e1
          have hEE : moveE ⟨id, o, cs, pr, st, mv, rs, ls⟩ ⟨pr, ss, ms⟩ s day = 24 := moveE24 HALL.out HS1.out HI.out (.inr (by show day < lastI o mv; rw [HLA.out]; exact h11))
          obtain rfl : E = 24 := HE.out.symm.trans hEE
          obtain rfl : Z = Mt.zero := HZ.out.symm.trans (moveM_bad (by rw [hEE]; decide))
          clear hEE
          have hlv := row_load KZ.out #[.string ⟨#[]⟩, .int .i64 0, .slice none 0 0, .string ⟨#[]⟩, .int .i64 0, .slice none 0 0, .slice none 0 0, .slice none 0 0] rfl
          have HLV := Lib.hid hlv
          have hfin := mt_err (w := w) (E := 24) (below_row HB.out (show w.heap.size ≤ w.heap.size + 1 + 1 by omega) #[.string ⟨#[]⟩, .int .i64 0, .slice none 0 0, .string ⟨#[]⟩, .int .i64 0, .slice none 0 0, .slice none 0 0, .slice none 0 0])
          have HFIN := Lib.hid hfin
          clear hlv hfin
          go_wp2_with (refine wp_row rfl (.tmp 8) (.tmp 96) rfl (w.heap.size + 1 + 1) #[.string ⟨#[]⟩, .int .i64 0, .slice none 0 0, .string ⟨#[]⟩, .int .i64 0, .slice none 0 0, .slice none 0 0, .slice none 0 0] rfl rfl rfl one8 rfl KZ.out ?_)
          exact bodyPost_ret (v := .tuple #[.agg #[.string ⟨#[]⟩, .int .i64 0, .slice none 0 0, .string ⟨#[]⟩, .int .i64 0, .slice none 0 0, .slice none 0 0, .slice none 0 0], .int .i64 24]) (by simp [results, Tryz.results21, asAddr, HLV.out]) rfl HFIN.out
        have HND : Hid (¬ (day < o ∨ day < lastI o mv)) := Lib.hid (by rw [HLA.out]; omega)
        have d11 : decide (day < z) = false := decide_eq_false h11
        have h11p : z ≤ day := Int.not_lt.1 h11
        clear h11
        by_cases h9 : 60 ≤ n + 1
        case pos =>
          have d9 : decide ((60 : Int) ≤ ((n : Int) + 1)) = true := decide_eq_true (by omega)
          have d9' : (60 : Int) ≤ (n : Int) + 1 := by omega
          go_upto_region 16 with fail
          clear t0 t1 t2 u0 u1 u2 e1
          have hEE : moveE ⟨id, o, cs, pr, st, mv, rs, ls⟩ ⟨pr, ss, ms⟩ s day = 2 := moveE2 HALL.out HS1.out HI.out HND.out (by show 60 ≤ mv.length; rw [HK2.out]; exact h9)
          obtain rfl : E = 2 := HE.out.symm.trans hEE
          obtain rfl : Z = Mt.zero := HZ.out.symm.trans (moveM_bad (by rw [hEE]; decide))
          clear hEE
          have hlv := row_load KZ.out #[.string ⟨#[]⟩, .int .i64 0, .slice none 0 0, .string ⟨#[]⟩, .int .i64 0, .slice none 0 0, .slice none 0 0, .slice none 0 0] rfl
          have HLV := Lib.hid hlv
          have hfin := mt_err (w := w) (E := 2) (below_row HB.out (show w.heap.size ≤ w.heap.size + 1 + 1 by omega) #[.string ⟨#[]⟩, .int .i64 0, .slice none 0 0, .string ⟨#[]⟩, .int .i64 0, .slice none 0 0, .slice none 0 0, .slice none 0 0])
          have HFIN := Lib.hid hfin
          clear hlv hfin
          go_wp2_with (refine wp_row rfl (.tmp 8) (.tmp 99) rfl (w.heap.size + 1 + 1) #[.string ⟨#[]⟩, .int .i64 0, .slice none 0 0, .string ⟨#[]⟩, .int .i64 0, .slice none 0 0, .slice none 0 0, .slice none 0 0] rfl rfl rfl one8 rfl KZ.out ?_)
          exact bodyPost_ret (v := .tuple #[.agg #[.string ⟨#[]⟩, .int .i64 0, .slice none 0 0, .string ⟨#[]⟩, .int .i64 0, .slice none 0 0, .slice none 0 0, .slice none 0 0], .int .i64 2]) (by simp [results, Tryz.results21, asAddr, HLV.out]) rfl HFIN.out
        have d9 : decide ((60 : Int) ≤ ((n : Int) + 1)) = false := decide_eq_false (by omega)
        have d9' : ¬ (60 : Int) ≤ (n : Int) + 1 := by omega
        have hEE : moveE ⟨id, o, cs, pr, st, mv, rs, ls⟩ ⟨pr, ss, ms⟩ s day = 0 := moveE0 HALL.out HS1.out HI.out HND.out (by show ¬ 60 ≤ mv.length; rw [HK2.out]; exact h9)
        obtain rfl : E = 0 := HE.out.symm.trans hEE
        obtain rfl : Z = ⟨id, o, cs, pr, s, mv ++ [day], rs, ls⟩ := HZ.out.symm.trans (moveM_ok hEE)
        clear hEE
        have kx4 := KX.out.set_ 4 (.int .i64 s)
        have kz4 := KZ.out.far (show w.heap.size + 1 + 1 ≠ w.heap.size by omega) (p := ⟨w.heap.size, 4, none⟩) (.int .i64 s)
        have hb4 := HB.out.setCell (p := ⟨w.heap.size, 4, none⟩) (Nat.le_refl _) (.int .i64 s)
        go_upto_region 18 with fail
        generalize W3.setCell ⟨w.heap.size, 4, none⟩ (.int .i64 s) = W4 at *
        have KX4 : Hid (Blk W4 w.heap.size 27 #[.string id, .int .i64 o, .slice a1 cs.length c1, .string pr, .int .i64 s, .slice (some ⟨g, off, none⟩) (n + 1) c2, .slice a3 rs.length c3, .slice a4 ls.length c4]) := Lib.hid kx4
        have hsz := hb4.size
        have own0 := World.ownsRow_lit (base := w.heap.size) (e := 3) (size := 1) W4 #[] 0 hsz (by unfold maxLen; omega) rfl
        have kx1 := KX4.out.alloc (.cells #[] 3)
        have hb1 := hb4.alloc hb4.size (.cells #[] 3)
        have kz1 := kz4.alloc (.cells #[] 3)
        have hrt := (H.out.below (hb1.mono HBB.out)).mv
        simp only at hrt
        have hsz1 := hb1.size
        have hk2l : (intCells mv).length = (n + 1) * 1 := by rw [intCells_len, HK2.out]
        clear t0 t1 t2 u0 u1 u2 kx4
        obtain ⟨t0, t1, t2⟩ := KX4.out.all
        go_upto_region 19 with (first
          | (at_builtin; refine wpList_append_any rfl _ _ 22 rfl w.heap.size 3 i0 _ 1 8 Tryz.underlying22 hi0 hz0 hz1 hz2 rfl (by omega) (.slice (some ⟨W4.heap.size, 0, none⟩) 0 0) 0 [] rfl own0 (some ⟨g, off, none⟩) (n + 1) c2 (intCells mv) rfl hk2l (intCells_news hrt) (intCells_one mv) (by unfold maxLen; omega) (by omega) hsz1 ?_; intro v4 w4 own4 gr4 l4; simp only [Nat.zero_add, List.nil_append] at own4; obtain ⟨A5, k5, rfl⟩ := own_form own4; have kx4 := kx1.grown gr4 (fun e' => own_blk_ne own0 kx1 (by decide) e'.symm); have kz4' := kz1.grown gr4 (fun e' => own_blk_ne own0 kz1 (by decide) e'.symm); have hb4' := hb1.grown gr4 hb1.size (fun k hk => (World.ownsRow.lt own0 k hk).1); have kn := Blk.new w4 3 #[.int .i64 day]; have own5 := own4.alloc (.cells #[.int .i64 day] 3); have kx5 := kx4.alloc (.cells #[.int .i64 day] 3); have kz5 := kz4'.alloc (.cells #[.int .i64 day] 3); have hb5 := hb4'.alloc hb4'.size (.cells #[.int .i64 day] 3); have hsz5 := hb5.size)
          | (at_builtin; refine wpList_append_lies _ rfl _ _ 22 rfl w.heap.size 3 i0 _ 1 8 Tryz.underlying22 hi0 hz0 hz1 hz2 rfl (by omega) (.slice A5 (n + 1) k5) (n + 1) (intCells mv) rfl own5 ⟨w4.heap.size, 0, none⟩ 1 1 [.int .i64 day] rfl rfl (World.news_of_block kn) (intCells_one [day]) (by omega) (by unfold maxLen; omega) (by omega) (by omega) _ rfl ?_; intro gz cz Y own9 gr9 l9 z9; have kx9 := kx5.grown gr9 (fun e' => own_blk_ne own5 kx5 (by decide) e'.symm); obtain ⟨x0, x1, x2⟩ := kx9.all))
        have kz9 := kz5.grown gr9 (fun e' => own_blk_ne own5 kz5 (by decide) e'.symm)
        have hb9 := hb5.grown gr9 hb5.size (fun k hk => (World.ownsRow.lt own5 k hk).1)
        have kx6 := kx9.set_ 5 (.slice (some ⟨gz, 0, none⟩) ((n + 1) + 1) cz)
        have kz6 := kz9.far (show w.heap.size + 1 + 1 ≠ w.heap.size by omega) (p := ⟨w.heap.size, 5, none⟩) (.slice (some ⟨gz, 0, none⟩) ((n + 1) + 1) cz)
        have hb6 := hb9.setCell (p := ⟨w.heap.size, 5, none⟩) (Nat.le_refl _) (.slice (some ⟨gz, 0, none⟩) ((n + 1) + 1) cz)
        have own6 := ((Only.refl (fun g => g = w.heap.size) Y).setCell (p := ⟨w.heap.size, 5, none⟩) (.inl rfl) (.slice (some ⟨gz, 0, none⟩) ((n + 1) + 1) cz)).owns own9 (fun g hv hg => own_blk_ne own9 kx9 (by decide) (by rw [hv, hg]))
        have own7 := (only_setRow (Y.setCell ⟨w.heap.size, 5, none⟩ (.slice (some ⟨gz, 0, none⟩) ((n + 1) + 1) cz)) (w.heap.size + 1 + 1) #[.string id, .int .i64 o, .slice a1 cs.length c1, .string pr, .int .i64 s, .slice (some ⟨gz, 0, none⟩) ((n + 1) + 1) cz, .slice a3 rs.length c3, .slice a4 ls.length c4]).owns own6 (fun g hv hg => own_blk_ne own6 kz6 (by decide) (by rw [hv, hg]))
        have hb7 := below_row hb6 (show w.heap.size ≤ w.heap.size + 1 + 1 by omega) #[.string id, .int .i64 o, .slice a1 cs.length c1, .string pr, .int .i64 s, .slice (some ⟨gz, 0, none⟩) ((n + 1) + 1) cz, .slice a3 rs.length c3, .slice a4 ls.length c4]
        have hlv := row_load kz6 #[.string id, .int .i64 o, .slice a1 cs.length c1, .string pr, .int .i64 s, .slice (some ⟨gz, 0, none⟩) ((n + 1) + 1) cz, .slice a3 rs.length c3, .slice a4 ls.length c4] rfl
        have KX6 := Lib.hid kx6
        have KZ6 := Lib.hid kz6
        have OW7 := Lib.hid own7
        have HB7 := Lib.hid hb7
        have HLV := Lib.hid hlv
        clear kx1 kz1 hb1 own0 hrt kx4 kz4' hb4' own4 gr4 l4 kn own5 kx5 kz5 hb5 kx9 kz9 hb9 kx6 kz6 hb6 own6 own7 hb7 hlv t0 t1 t2 x0 x1 x2 own9 gr9 l9 z9
        obtain ⟨t0, t1, t2⟩ := KX6.out.all
        go_wp2_with (refine wp_row rfl (.tmp 8) (.tmp 110) rfl (w.heap.size + 1 + 1) #[.string id, .int .i64 o, .slice a1 cs.length c1, .string pr, .int .i64 s, .slice (some ⟨gz, 0, none⟩) ((n + 1) + 1) cz, .slice a3 rs.length c3, .slice a4 ls.length c4] rfl rfl rfl one8 rfl KZ6.out ?_)
        refine bodyPost_ret (v := .tuple #[.agg #[.string id, .int .i64 o, .slice a1 cs.length c1, .string pr, .int .i64 s, .slice (some ⟨gz, 0, none⟩) ((n + 1) + 1) cz, .slice a3 rs.length c3, .slice a4 ls.length c4], .int .i64 0]) (by simp [results, Tryz.results21, asAddr, HLV.out]) rfl ?_
        have hlen2 : (mv ++ [day]).length = (n + 1) + 1 := by rw [List.length_append, HK2.out]; rfl
        have hrow := IntsAt.of_row hlen2 (by rw [intCells_app]; exact OW7.out)
        have hm := H.out.below (HB7.out.mono HBB.out)
        have hsz7 := Nat.le_trans HBB.out HB7.out.size
        refine ⟨⟨a1, c1, some ⟨gz, 0, none⟩, cz, a3, c3, a4, c4, lv⟩, ?_, ⟨hm.cs.wide hsz7, hrow, hm.rs.wide hsz7, hm.ls.wide hsz7, hm.lv, hm.id, hm.pr, hm.rn⟩, HB7.out⟩
        unfold mtC
        simp only [hlen2]
end Go.Proofs.YtgfahifdmacmhaaGreatDoor
