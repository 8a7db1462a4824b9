/- pandectlaw32's few: what it promises. Migrations, plain laws on Apply and Then. slices.Grow and slices.Concat at limits, as Then calls them. What lies in memory while Then works; its lists step by step. The reference's Same: lists of numbers, limits, matters. The reference's Same, of two limits. Package migrate's Then. What Apply and Then return is of a size like what they were given. -/
import Derived.Test.YtknchlpcpgflkaaGreatDoorLGBW
import Derived.Test.YtknchlpcpgflkaaGreatDoorLWv
import Derived.Test.YtknchlpcpgflkaaGreatDoorLGBT
import Derived.Test.YtknchlpcpgflkaaGreatDoorLGBF
import Derived.Lib.AppendZeros
import Derived.Test.YtknchlpcpgflkaaGreatDoorLGBG
import Derived.Test.YtknchlpcpgflkaaGreatDoorLGBN
import Derived.Test.YtknchlpcpgflkaaGreatDoorLGBM
import Derived.Test.YtknchlpcpgflkaaGreatDoorLGAR
import Derived.Test.YtknchlpcpgflkaaGreatDoorLGBP
namespace Go.Proofs.YtknchlpcpgflkaaGreatDoor
open Go.RowKit Go.Shelf

def FewL (m : Mt) (g : Mg) (p q : Pc) (n : Nat) : Prop := FewM m ∧ FewG g ∧ FewP p ∧ FewP q ∧ n ≤ 100
set_option maxRecDepth 100000 in
set_option maxHeartbeats 8000000 in
theorem lfew_any (w : World) (B : Nat) (hB : B ≤ w.heap.size) (m : Mt) (x : MtX) (h : MtAt w B m x) (zm : m.cs.length ≤ 9223372036854775807 ∧ m.mv.length ≤ 9223372036854775807 ∧ m.rs.length ≤ 9223372036854775807 ∧ m.ls.length ≤ 9223372036854775807) (g : Mg) (z : MgX) (hg : MgAt w B g z) (zg : g.st.length ≤ 9223372036854775807 ∧ g.rs.length ≤ 9223372036854775807 ∧ g.ts.length ≤ 9223372036854775807) (p : Pc) (y : PcX) (hp : PcAt w B p y) (zp : p.ss.length ≤ 9223372036854775807 ∧ p.ms.length ≤ 9223372036854775807) (q : Pc) (v : PcX) (hq : PcAt w B q v) (zq : q.ss.length ≤ 9223372036854775807 ∧ q.ms.length ≤ 9223372036854775807) (D : Option Addr) (dn dc : Nat) (hdn : dn ≤ 9223372036854775807) :
    Calls Tryz.prog 11 #[.agg (mtC m x), .agg (mgC g z), .agg (pcC p y), .agg (pcC q v), .slice D dn dc] w (FewPost w (FewL m g p q dn)) := by
  have hf1 := fun W (hW : Below w.heap.size w W) => few_any W B m x (h.below (hW.mono hB)) (Nat.le_trans hB hW.size) zm.1 zm.2.1 zm.2.2.1 zm.2.2.2
  have hf2 := fun W (hW : Below w.heap.size w W) => short_any W B p y (hp.below (hW.mono hB)) (Nat.le_trans hB hW.size) zp.1 zp.2
  have hf3 := fun W (hW : Below w.heap.size w W) => short_any W B q v (hq.below (hW.mono hB)) (Nat.le_trans hB hW.size) zq.1 zq.2
  have hf4 := fun W (hW : Below w.heap.size w W) => gfew_any W B g z (hg.below (hW.mono hB)) (Nat.le_trans hB hW.size) zg.1 zg.2.1 zg.2.2
  have hll := h.len
  have hls := h.ls
  have zl := zm.2.2.2
  have hfin : ∀ (r : Bool) W, (r = true → FewM m ∧ FewP p ∧ FewP q ∧ FewG g ∧ dn ≤ 100) → Below w.heap.size w W → FewPost w (FewL m g p q dn) (.returned (.bool r)) W := fun r W hr hb => ⟨r, rfl, fun e => ⟨(hr e).1, (hr e).2.2.2.1, (hr e).2.1, (hr e).2.2.1, (hr e).2.2.2.2⟩, hb⟩
  obtain ⟨PP, hPP⟩ : ∃ P, FewL m g p q dn = P := ⟨_, rfl⟩
  obtain ⟨P1, hP1⟩ : ∃ P, FewM m = P := ⟨_, rfl⟩
  obtain ⟨P2, hP2⟩ : ∃ P, FewP p = P := ⟨_, rfl⟩
  obtain ⟨P3, hP3⟩ : ∃ P, FewP q = P := ⟨_, rfl⟩
  obtain ⟨P4, hP4⟩ : ∃ P, FewG g = P := ⟨_, rfl⟩
  rw [hP1] at hf1
  rw [hP2] at hf2
  rw [hP3] at hf3
  rw [hP4] at hf4
  rw [hPP, hP1, hP2, hP3, hP4] at hfin
  rw [hPP]
  clear hPP hP1 hP2 hP3 hP4 h hg hp hq zm zg zp zq
  obtain ⟨id, o, cs, pr, st, mv, rs, ls⟩ := m
  obtain ⟨a1, c1, a2, c2, a3, c3, a4, c4, lv⟩ := x
  obtain ⟨fr, tn, gst, grs, gts⟩ := g
  obtain ⟨b1, d1, b2, d2, b3, d3, tv⟩ := z
  obtain ⟨pn, pss, pms⟩ := p
  obtain ⟨e1, f1, e2, f2⟩ := y
  obtain ⟨qn, qss, qms⟩ := q
  obtain ⟨i1, j1, i2, j2⟩ := v
  simp only at hll hls zl
  obtain ⟨nl, hnl⟩ : ∃ k, ls.length = k := ⟨_, rfl⟩
  rw [hnl] at zl hll
  have eM : mtC ⟨id, o, cs, pr, st, mv, rs, ls⟩ ⟨a1, c1, a2, c2, a3, c3, a4, c4, lv⟩ = #[.string id, .int .i64 o, .slice a1 cs.length c1, .string pr, .int .i64 st, .slice a2 mv.length c2, .slice a3 rs.length c3, .slice a4 nl c4] := by unfold mtC; simp only [hnl]
  have eG : mgC ⟨fr, tn, gst, grs, gts⟩ ⟨b1, d1, b2, d2, b3, d3, tv⟩ = #[.string fr, .string tn, .slice b1 gst.length d1, .slice b2 grs.length d2, .slice b3 gts.length d3] := rfl
  have eP : pcC ⟨pn, pss, pms⟩ ⟨e1, f1, e2, f2⟩ = #[.string pn, .slice e1 pss.length f1, .slice e2 pms.length f2] := rfl
  have eQ : pcC ⟨qn, qss, qms⟩ ⟨i1, j1, i2, j2⟩ = #[.string qn, .slice i1 qss.length j1, .slice i2 qms.length j2] := rfl
  rw [eM] at hf1
  rw [eP] at hf2
  rw [eQ] at hf3
  rw [eG] at hf4
  rw [eM, eG, eP, eQ]
  have hb := (((below_self_alloc w (.cells #[.string id, .int .i64 o, .slice a1 cs.length c1, .string pr, .int .i64 st, .slice a2 mv.length c2, .slice a3 rs.length c3, .slice a4 nl c4] 27)).alloc (by simp) (.cells #[.string fr, .string tn, .slice b1 gst.length d1, .slice b2 grs.length d2, .slice b3 gts.length d3] 30)).alloc (by simp; omega) (.cells #[.string pn, .slice e1 pss.length f1, .slice e2 pms.length f2] 34)).alloc (by simp; omega) (.cells #[.string qn, .slice i1 qss.length j1, .slice i2 qms.length j2] 34)
  have s3 : (((w.alloc (.cells #[.string id, .int .i64 o, .slice a1 cs.length c1, .string pr, .int .i64 st, .slice a2 mv.length c2, .slice a3 rs.length c3, .slice a4 nl c4] 27)).alloc (.cells #[.string fr, .string tn, .slice b1 gst.length d1, .slice b2 grs.length d2, .slice b3 gts.length d3] 30)).alloc (.cells #[.string pn, .slice e1 pss.length f1, .slice e2 pms.length f2] 34)).heap.size = w.heap.size + 1 + 1 + 1 := by simp
  have k0 := (((Blk.new w 27 #[.string id, .int .i64 o, .slice a1 cs.length c1, .string pr, .int .i64 st, .slice a2 mv.length c2, .slice a3 rs.length c3, .slice a4 nl c4]).alloc (.cells #[.string fr, .string tn, .slice b1 gst.length d1, .slice b2 grs.length d2, .slice b3 gts.length d3] 30)).alloc (.cells #[.string pn, .slice e1 pss.length f1, .slice e2 pms.length f2] 34)).alloc (.cells #[.string qn, .slice i1 qss.length j1, .slice i2 qms.length j2] 34)
  have k1 := ((Blk.new1 w (.cells #[.string id, .int .i64 o, .slice a1 cs.length c1, .string pr, .int .i64 st, .slice a2 mv.length c2, .slice a3 rs.length c3, .slice a4 nl c4] 27) 30 #[.string fr, .string tn, .slice b1 gst.length d1, .slice b2 grs.length d2, .slice b3 gts.length d3]).alloc (.cells #[.string pn, .slice e1 pss.length f1, .slice e2 pms.length f2] 34)).alloc (.cells #[.string qn, .slice i1 qss.length j1, .slice i2 qms.length j2] 34)
  have k2 := (Blk.new2 w (.cells #[.string id, .int .i64 o, .slice a1 cs.length c1, .string pr, .int .i64 st, .slice a2 mv.length c2, .slice a3 rs.length c3, .slice a4 nl c4] 27) (.cells #[.string fr, .string tn, .slice b1 gst.length d1, .slice b2 grs.length d2, .slice b3 gts.length d3] 30) 34 #[.string pn, .slice e1 pss.length f1, .slice e2 pms.length f2]).alloc (.cells #[.string qn, .slice i1 qss.length j1, .slice i2 qms.length j2] 34)
  have k3 := Blk.new (((w.alloc (.cells #[.string id, .int .i64 o, .slice a1 cs.length c1, .string pr, .int .i64 st, .slice a2 mv.length c2, .slice a3 rs.length c3, .slice a4 nl c4] 27)).alloc (.cells #[.string fr, .string tn, .slice b1 gst.length d1, .slice b2 grs.length d2, .slice b3 gts.length d3] 30)).alloc (.cells #[.string pn, .slice e1 pss.length f1, .slice e2 pms.length f2] 34)) 34 #[.string qn, .slice i1 qss.length j1, .slice i2 qms.length j2]
  rw [s3] at k3
  have HB := Lib.hid hb
  have K0 := Lib.hid k0
  have K1 := Lib.hid k1
  have K2 := Lib.hid k2
  have K3 := Lib.hid k3
  have F1 := Lib.hid hf1
  have F2 := Lib.hid hf2
  have F3 := Lib.hid hf3
  have F4 := Lib.hid hf4
  have HFIN := Lib.hid hfin
  have HLS := Lib.hid hls
  have HLL := Lib.hid hll
  have HBB := Lib.hid hB
  obtain ⟨t0, t1, t2⟩ := k0.all
  clear hb k0 k1 k2 k3 hf1 hf2 hf3 hf4 hfin hls hll hB eM eG eP eQ s3 hnl
  have NO : ∀ W, Below w.heap.size w W → FewPost w PP (.returned (.bool false)) W := fun W hW => HFIN.out false W (fun e => by cases e) hW
  have NO := Lib.hid NO
  by_cases q1 : nl ≤ 10
  case neg =>
    have z1 : decide ((10 : Int) < (nl : Int)) = true := decide_eq_true (by omega)
    go_enter Tryz.func11, Tryz.ntmps11
    go_wp2
    go_ret
    exact NO.out _ HB.out
  have z1 : decide ((10 : Int) < (nl : Int)) = false := decide_eq_false (by omega)
  by_cases q2 : dn ≤ 100
  case neg =>
    have z2 : decide ((100 : Int) < (dn : Int)) = true := decide_eq_true (by omega)
    go_enter Tryz.func11, Tryz.ntmps11
    go_wp2
    go_ret
    exact NO.out _ HB.out
  have z2 : decide ((100 : Int) < (dn : Int)) = false := decide_eq_false (by omega)
  go_enter Tryz.func11, Tryz.ntmps11
  go_wp2_with fail
  clear t0 t1 t2 z1 z2
  generalize (((w.alloc (.cells #[.string id, .int .i64 o, .slice a1 cs.length c1, .string pr, .int .i64 st, .slice a2 mv.length c2, .slice a3 rs.length c3, .slice a4 nl c4] 27)).alloc (.cells #[.string fr, .string tn, .slice b1 gst.length d1, .slice b2 grs.length d2, .slice b3 gts.length d3] 30)).alloc (.cells #[.string pn, .slice e1 pss.length f1, .slice e2 pms.length f2] 34)).alloc (.cells #[.string qn, .slice i1 qss.length j1, .slice i2 qms.length j2] 34) = W0 at *
  go_loopw [11] (fun i wr => ∃ k : Nat, k ≤ nl ∧ i = .int .i64 (k : Int) ∧ Hid (Blk wr w.heap.size 27 #[.string id, .int .i64 o, .slice a1 cs.length c1, .string pr, .int .i64 st, .slice a2 mv.length c2, .slice a3 rs.length c3, .slice a4 nl c4]) ∧ Hid (Blk wr (w.heap.size + 1) 30 #[.string fr, .string tn, .slice b1 gst.length d1, .slice b2 grs.length d2, .slice b3 gts.length d3]) ∧ Hid (Blk wr (w.heap.size + 1 + 1) 34 #[.string pn, .slice e1 pss.length f1, .slice e2 pms.length f2]) ∧ Hid (Blk wr (w.heap.size + 1 + 1 + 1) 34 #[.string qn, .slice i1 qss.length j1, .slice i2 qms.length j2]) ∧ Hid (Below w.heap.size w wr)) (fun i _ => nl - (intOf i).toNat)
  case atStart => exact ⟨0, Nat.zero_le _, rfl, K0, K1, K2, K3, HB⟩
  case round =>
    clear K0 K1 K2 K3 HB
    obtain ⟨k, hk, rfl, K0, K1, K2, K3, HB⟩ := hrel
    obtain ⟨t0, t1, t2⟩ := K0.out.all
    by_cases hlt : k < nl
    · obtain ⟨x, hx⟩ : ∃ x, lv[k]? = some x := ⟨_, List.getElem?_eq_getElem (by rw [HLL.out]; exact hlt)⟩
      obtain ⟨ga, oa, hA, hga, p0, p1, p2, p3, p4, hla⟩ := (HLS.out.below (HB.out.mono HBB.out)) k x hx
      subst hA
      have ib0 : (0 : Int) ≤ (k : Int) := by omega
      have ib1 : (k : Int) < (nl : Int) := by omega
      have hfw : Calls Tryz.prog 33 #[.agg #[.string x.1.id, .int .i64 x.1.n, .int .i64 x.1.u, .int .i64 x.1.f, .slice x.2.1 x.1.S.length x.2.2], .slice D dn dc, .int .i64 10] wr _ := Lim.Few_any wr x.1 B x.2.1 x.2.2 hla (Nat.le_trans HBB.out HB.out.size) D dn dc (by omega)
      obtain ⟨r, hr⟩ : ∃ r, Lim.frB x.1 dn = r := ⟨_, rfl⟩
      rw [hr] at hfw
      have HFW := Lib.hid hfw
      clear hx hfw hr hla
      cases r with
      | false =>
        go_wp2_with fail
        refine HFW.out.mono ?_
        rintro e w2 ⟨rfl, b2⟩
        go_wp2
        go_ret
        exact NO.out _ (HB.out.trans (b2.mono HB.out.size))
      | true =>
        go_wp2_with fail
        refine HFW.out.mono ?_
        rintro e w2 ⟨rfl, b2⟩
        replace HB := Lib.hid (HB.out.trans (b2.mono HB.out.size))
        replace K0 := Lib.hid (K0.out.below b2 K0.out.lt)
        replace K1 := Lib.hid (K1.out.below b2 K1.out.lt)
        replace K2 := Lib.hid (K2.out.below b2 K2.out.lt)
        replace K3 := Lib.hid (K3.out.below b2 K3.out.lt)
        clear b2 t0 t1 t2 p0 p1 p2 p3 p4
        go_wp2
        go_roundw
        case rel => exact ⟨k + 1, by omega, by go_num, K0, K1, K2, K3, HB⟩
        case measure => simp [intOf]; omega
    · obtain rfl : nl = k := by omega
      go_wp2_with fail
      refine (F1.out wr HB.out).mono ?_
      rintro e w1 ⟨r1, rfl, h1, b1⟩
      replace HB := Lib.hid (HB.out.trans (b1.mono HB.out.size))
      replace K1 := Lib.hid (K1.out.below b1 K1.out.lt)
      replace K2 := Lib.hid (K2.out.below b1 K2.out.lt)
      replace K3 := Lib.hid (K3.out.below b1 K3.out.lt)
      clear b1
      have H1 := Lib.hid h1
      clear h1 t0 t1 t2
      cases r1 with
      | false =>
        go_wp2
        go_ret
        exact NO.out _ HB.out
      | true =>
      obtain ⟨v0, v1, v2⟩ := K2.out.all
      go_wp2_with fail
      refine (F2.out w1 HB.out).mono ?_
      rintro e w2 ⟨r2, rfl, h2, b2⟩
      replace HB := Lib.hid (HB.out.trans (b2.mono HB.out.size))
      replace K1 := Lib.hid (K1.out.below b2 K1.out.lt)
      replace K2 := Lib.hid (K2.out.below b2 K2.out.lt)
      replace K3 := Lib.hid (K3.out.below b2 K3.out.lt)
      clear b2
      have H2 := Lib.hid h2
      clear h2 v0 v1 v2
      cases r2 with
      | false =>
        go_wp2
        go_ret
        exact NO.out _ HB.out
      | true =>
      obtain ⟨v0, v1, v2⟩ := K3.out.all
      go_wp2_with fail
      refine (F3.out w2 HB.out).mono ?_
      rintro e w3 ⟨r3, rfl, h3, b3⟩
      replace HB := Lib.hid (HB.out.trans (b3.mono HB.out.size))
      replace K1 := Lib.hid (K1.out.below b3 K1.out.lt)
      replace K2 := Lib.hid (K2.out.below b3 K2.out.lt)
      replace K3 := Lib.hid (K3.out.below b3 K3.out.lt)
      clear b3
      have H3 := Lib.hid h3
      clear h3 v0 v1 v2
      cases r3 with
      | false =>
        go_wp2
        go_ret
        exact NO.out _ HB.out
      | true =>
      obtain ⟨v0, v1, v2⟩ := K1.out.all
      go_wp2_with fail
      refine (F4.out w3 HB.out).mono ?_
      rintro e w4 ⟨r4, rfl, h4, b4⟩
      have HE := Lib.hid (HFIN.out r4 w4 (fun e => ⟨H1.out trivial, H2.out trivial, H3.out trivial, h4 e, q2⟩) (HB.out.trans (b4.mono HB.out.size)))
      clear v0 v1 v2 h4 b4
      go_wp2
      go_ret
      exact HE.out
end Go.Proofs.YtknchlpcpgflkaaGreatDoor

namespace Go.Proofs.YtknchlpcpgflkaaGreatDoor

theorem apB_iff {m : Mt} {g : Mg} {p q : Pc} {day : Int} : apB m g p q day = true ↔ vdB g p q = true ∧ fmB m = true ∧ m.pr = g.fr ∧ m.st < (p.ss.length : Int) ∧ isB day = true := by
  unfold apB
  simp only [Bool.and_eq_true, decide_eq_true_eq]
section
variable {m : Mt} {g : Mg} {p q : Pc} {day : Int} {l : List Int}
/-- What an Apply without an error shows. -/
theorem apply_ok (h : applyE m g p q day l = 0) : apB m g p q day = true ∧ 0 ≤ newSt g m.st ∧ m.o ≤ day ∧ lastI m.o m.mv ≤ day ∧ chgE g.ts day l m.ls = 0 ∧ applyM m g p q day l = ⟨m.id, m.o, m.cs, g.tn, newSt g m.st, m.mv, mergeR g.rs m.rs, chgL g.ts day l m.ls⟩ := by
  have h' := h
  unfold applyE at h
  cases hp : apB m g p q day with
  | false => rw [hp] at h; simp at h
  | true =>
    rw [hp] at h
    simp only [Bool.true_eq_false, if_false] at h
    by_cases h1 : newSt g m.st < 0
    · rw [if_pos h1] at h; simp at h
    · rw [if_neg h1] at h
      by_cases h2 : day < m.o ∨ day < lastI m.o m.mv
      · rw [if_pos h2] at h; simp at h
      · rw [if_neg h2] at h
        refine ⟨rfl, by omega, by omega, by omega, h, ?_⟩
        unfold applyM
        rw [if_pos h']
theorem apply_no (h : applyE m g p q day l ≠ 0) : applyM m g p q day l = Mt.zero := by unfold applyM; rw [if_neg h]
theorem apply_of (hp : apB m g p q day = true) (h1 : 0 ≤ newSt g m.st) (h2 : m.o ≤ day) (h3 : lastI m.o m.mv ≤ day) : applyE m g p q day l = chgE g.ts day l m.ls := by
  unfold applyE
  rw [hp, if_neg (by simp), if_neg (by omega), if_neg (by omega)]
end

/-! Two in a row. -/
section
variable {m : Mt} {g h : Mg} {p b q : Pc} {day : Int} {l : List Int}
theorem then_ok (he : thenE g h = 0) : thenM g h = thenG g h ∧ mgB g = true ∧ mgB h = true ∧ g.tn = h.fr ∧ (∀ s ∈ g.st, s < (h.st.length : Int)) ∧ ((g.ts ++ h.ts).map (·.id)).Nodup ∧ (thenRs g h).length ≤ 60 ∧ (g.ts ++ h.ts).length ≤ 60 := by
  have he' := he
  unfold thenE at he
  cases hc : (mgB g && (mgB h && (decide (g.tn = h.fr) && g.st.all fun s => decide (s < (h.st.length : Int))))) with
  | false => rw [hc] at he; simp at he
  | true =>
    rw [hc] at he
    simp only [Bool.true_eq_false, if_false] at he
    simp only [Bool.and_eq_true, decide_eq_true_eq, List.all_eq_true] at hc
    by_cases h1 : ((g.ts ++ h.ts).map (·.id)).Nodup
    · rw [if_neg (by simpa using h1)] at he
      by_cases h2 : 60 < (thenRs g h).length ∨ 60 < (g.ts ++ h.ts).length
      · rw [if_pos h2] at he; simp at he
      · exact ⟨by unfold thenM; rw [if_pos he'], hc.1, hc.2.1, hc.2.2.1, hc.2.2.2, h1, by omega, by omega⟩
    · rw [if_pos h1] at he; simp at he
/-! One that keeps all. -/
def sameG (p : Pc) : Mg := ⟨p.name, p.name, (List.range p.ss.length).map fun i : Nat => (i : Int), [], []⟩
theorem same_st {s : Int} (h0 : 0 ≤ s) (h1 : s < (p.ss.length : Int)) : newSt (sameG p) s = s := by
  have hk : s.toNat < p.ss.length := by omega
  unfold newSt sameG
  simp only [List.getElem?_map, List.getElem?_range hk, Option.map_some, Option.getD_some]
  omega
theorem chgE_nil (ls : List Lm) : chgE [] day l ls = 0 := chgE_zero.2 fun _ _ => rfl
theorem same_apply : (applyE m (sameG p) p p day l = 0 ∧ applyM m (sameG p) p p day l = m) ∨ applyE m (sameG p) p p day l = 1 ∨ applyE m (sameG p) p p day l = 24 := by
  cases hp : apB m (sameG p) p p day with
  | false => exact .inr (.inl (by unfold applyE; rw [hp, if_pos rfl]))
  | true =>
    obtain ⟨-, hf, hpr, hst, -⟩ := apB_iff.1 hp
    obtain ⟨-, -, -, f4, -, -, -, -, f9, -⟩ := fmB_iff.1 hf
    have hn := same_st f4.1 hst
    by_cases h2 : day < m.o ∨ day < lastI m.o m.mv
    · exact .inr (.inr (by unfold applyE; rw [hp, if_neg (by simp), if_neg (by rw [hn]; omega), if_pos h2]))
    · have h0 : applyE m (sameG p) p p day l = 0 := (apply_of hp (by rw [hn]; omega) (by omega) (by omega)).trans (chgE_nil _)
      refine .inl ⟨h0, ?_⟩
      obtain ⟨-, -, -, -, -, h6⟩ := apply_ok h0
      rw [h6, hn]
      have r1 : mergeR (sameG p).rs m.rs = m.rs := merge_nil _ (difB_iff.1 f9).2.1
      have r2 : chgL (sameG p).ts day l m.ls = m.ls := (List.map_congr_left (g := id) fun _ _ => rfl).trans (List.map_id _)
      have r3 : (sameG p).tn = m.pr := hpr.symm
      rw [r1, r2, r3]
theorem same_then (he : thenE (sameG p) g = 0) (hl : g.st.length = p.ss.length) : thenG (sameG p) g = g := by
  obtain ⟨-, -, -, hto, -⟩ := then_ok he
  have r0 : (sameG p).fr = g.fr := hto
  have r1 : (sameG p).st.map (thenSt g) = g.st := by
    apply List.ext_getElem?
    intro i
    rw [List.getElem?_map]
    unfold sameG
    simp only [List.getElem?_map]
    by_cases hi : i < p.ss.length
    · rw [List.getElem?_range hi, Option.map_some, Option.map_some]
      unfold thenSt newSt
      rw [if_pos (Int.natCast_nonneg i), Int.toNat_natCast, List.getElem?_eq_getElem (by omega)]
      rfl
    · rw [List.getElem?_eq_none (by rw [List.length_range]; omega), List.getElem?_eq_none (by omega)]
      rfl
  have r2 : thenRs (sameG p) g = g.rs := by
    unfold thenRs sameG
    simp
  show (⟨(sameG p).fr, g.tn, (sameG p).st.map (thenSt g), thenRs (sameG p) g, [] ++ g.ts⟩ : Mg) = g
  rw [r0, r1, r2, List.nil_append]
end
end Go.Proofs.YtknchlpcpgflkaaGreatDoor

namespace Go.Proofs.YtknchlpcpgflkaaGreatDoor
open Go.RowKit Go.Shelf

/-- What Grow and Concat leave: a row of limits of the call's own. -/
def RowPostL (w : World) (S : List LmV) (e : Ending) (w' : World) : Prop :=
  ∃ v, e = .returned v ∧ w'.ownsRow w.heap.size 44 5 v S.length (lmCells S) ∧ Below w.heap.size w w'

set_option maxHeartbeats 1000000 in
set_option maxRecDepth 100000 in
theorem growL_any (w : World) (n : Nat) (hn : n ≤ 1000000) :
    Calls Tryz.prog 128 #[.slice none 0 0, .int .i64 (n : Int)] w (RowPostL w []) := by
  obtain ⟨i0, hi0, hz0, hz1, hz2⟩ := info_parts Tryz.infoLimit
  cases n with
  | zero =>
    go_enter Tryz.func128, Tryz.ntmps128
    go_wp2
    go_ret
    exact ⟨_, rfl, World.ownsRow_nil _ _ _ _, Below.refl _ _⟩
  | succ n =>
    have h1 : ¬ ((n + 1 : Nat) : Int) < 0 := by omega
    have h4 : (((n + 1 : Nat) : Int)) > 0 := by omega
    have z25 : ∀ w, (Go.sizeOf 44).run Tryz.prog w = .ok 5 w := fun w => by simp [Go.sizeOf, typeInfo, hi0, hz1]
    have hrz := fun ty => Lib.run_append_nil_zeros (P := Tryz.prog) w 25 3 ty 44 i0 _ .i64 .i64 Tryz.underlying25 (by kernel_rfl) hi0 hz0 (n + 1) (by omega) (by rw [hz1]; decide) (by omega) (by rw [hz2]; omega)
    obtain ⟨G, hG⟩ : ∃ G, grownCap w (n + 1) 0 44 = G := ⟨_, rfl⟩
    have hGn : n + 1 ≤ G := by rw [← hG]; exact grownCap_ge w _ _ _
    have hG63 : G ≤ maxLen := by rw [← hG]; exact grownCap_le_maxLen w (n + 1) 0 _ (by unfold maxLen; omega)
    rw [hG] at hrz
    clear hG
    have hG64 : G ≤ 9223372036854775807 := by unfold maxLen at hG63; omega
    go_enter Tryz.func128, Tryz.ntmps128
    go_wp2_with (at_builtin; refine Lib.wpList_append_run _ rfl _ _ _ _ rfl _ _ rfl rfl _ _ (hrz _) ?_)
    go_ret
    refine ⟨_, rfl, ⟨rfl, .inr ⟨w.heap.size, G, _, rfl, Nat.le_refl _, Blk.new w.drew _ _, Nat.zero_le _, hG63, ?_, by simp [lmCells]⟩⟩, ((Below.refl w.heap.size w).drew).alloc (Nat.le_refl _) _⟩
    simp only [Array.size_append, size_zeroCells]
    show (n + 1) * 5 + (G - (n + 1)) * 5 = G * 5
    omega

theorem owns_base {w : World} {b b' : Nat} {e : TypeId} {size : Nat} {v : Value} {n : Nat} {xs : List Value} (h : w.ownsRow b e size v n xs) (hb : b' ≤ b) : w.ownsRow b' e size v n xs := ⟨h.1, h.2.imp id fun ⟨g, cap, cur, e1, e2, e3⟩ => ⟨g, cap, cur, e1, Nat.le_trans hb e2, e3⟩⟩
def szK (a b : Nat) : Nat → Nat
  | 0 => 0
  | 1 => a
  | _ => a + b
def catK (a b : List LmV) : Nat → List LmV
  | 0 => []
  | 1 => a
  | _ => a ++ b
set_option maxHeartbeats 4000000 in
set_option maxRecDepth 100000 in
theorem concatL_any (w : World) (B : Nat) (hB : B ≤ w.heap.size) (A1 : Option Addr) (l1 : List LmV) (c1 : Nat) (h1 : LmsAt w B A1 l1) (A2 : Option Addr) (l2 : List LmV) (c2 : Nat) (h2 : LmsAt w B A2 l2) (z1 : l1.length ≤ 100000) (z2 : l2.length ≤ 100000)
    (bk : Nat) (kb : Blk w bk 25 #[.slice A1 l1.length c1, .slice A2 l2.length c2]) :
    Calls Tryz.prog 59 #[.slice (some ⟨bk, 0, none⟩) 2 2] w (RowPostL w (l1 ++ l2)) := by
  obtain ⟨i0, hi0, hz0, hz1, hz2⟩ := info_parts Tryz.infoLimit
  obtain ⟨n1, hn1⟩ : ∃ n, l1.length = n := ⟨_, rfl⟩
  obtain ⟨n2, hn2⟩ : ∃ n, l2.length = n := ⟨_, rfl⟩
  rw [hn1, hn2] at kb
  rw [hn1] at z1
  rw [hn2] at z2
  have hgr := fun W => growL_any W (n1 + n2) (by omega)
  unfold RowPostL at hgr
  have HGR := Lib.hid hgr
  have H1 := Lib.hid h1
  have H2 := Lib.hid h2
  have HN1 := Lib.hid hn1
  have HN2 := Lib.hid hn2
  have KB := Lib.hid kb
  clear hgr h1 h2 hn1 hn2 kb
  go_enter Tryz.func59, Tryz.ntmps59
  go_wp2_with fail
  go_loopw [3, 11] (fun a v wr => ∃ k : Nat, k ≤ 2 ∧ a = .int .i64 (szK n1 n2 k : Int) ∧ v = .int .i64 (k : Int) ∧ Hid (Below w.heap.size w wr)) (fun _ v _ => 2 - (intOf v).toNat)
  case atStart => exact ⟨0, by omega, rfl, rfl, Lib.hid (Below.refl _ _)⟩
  case round =>
    obtain ⟨k, hk, rfl, rfl, HB⟩ := hrel
    obtain ⟨t0, t1, t2⟩ := (KB.out.below HB.out KB.out.lt).all
    have hkk : k = 0 ∨ k = 1 ∨ k = 2 := by omega
    rcases hkk with rfl | rfl | rfl
    · unfold szK
      have hw1 : wrap64 (n1 : Int) = (n1 : Int) := by unfold wrap64; omega
      have hge : ¬ (n1 : Int) < 0 := by omega
      go_wp2
      go_roundw
      case rel => exact ⟨1, by omega, rfl, rfl, HB⟩
      case measure => simp [intOf]
    · unfold szK
      have hw1 : wrap64 ((n1 : Int) + (n2 : Int)) = (n1 : Int) + (n2 : Int) := by unfold wrap64; omega
      have hge : ¬ (n1 : Int) + (n2 : Int) < 0 := by omega
      go_wp2
      go_roundw
      case rel => exact ⟨2, by omega, by show Value.int .i64 _ = Value.int .i64 ((n1 + n2 : Nat) : Int); rw [Int.natCast_add], rfl, HB⟩
      case measure => simp [intOf]
    · unfold szK
      go_wp2_with fail
      refine (HGR.out wr).mono ?_
      rintro e W1 ⟨v1, rfl, ow, b1⟩
      have HB1 := Lib.hid (HB.out.trans (b1.mono HB.out.size))
      have OW := Lib.hid (owns_base ow HB.out.size)
      clear b1 HB t0 t1 t2 ow HGR
      go_wp2_with fail
      go_loopw [6, 27] (fun a v wr => ∃ k : Nat, k ≤ 2 ∧ v = .int .i64 (k : Int) ∧ Hid (wr.ownsRow w.heap.size 44 5 a (szK n1 n2 k) (lmCells (catK l1 l2 k))) ∧ Hid (Below w.heap.size w wr)) (fun _ v _ => 2 - (intOf v).toNat)
      case atStart => exact ⟨0, by omega, rfl, OW, HB1⟩
      case round =>
        clear OW HB1
        obtain ⟨k, hk, rfl, OW, HB⟩ := hrel
        have hkk : k = 0 ∨ k = 1 ∨ k = 2 := by omega
        rcases hkk with rfl | rfl | rfl
        · obtain ⟨t0, t1, t2⟩ := (KB.out.below HB.out KB.out.lt).all
          have hh := H1.out.below (HB.out.mono hB)
          have own : wr.ownsRow w.heap.size 44 5 _ 0 (lmCells (catK l1 l2 0)) := OW.out
          have ew : szK n1 n2 1 = 0 + n1 := (Nat.zero_add _).symm
          clear OW
          go_wp2_with (at_builtin; refine wpList_append_any rfl _ _ 25 rfl w.heap.size 44 i0 _ 5 64 Tryz.underlying25 hi0 hz0 hz1 hz2 rfl (by omega) _ _ _ rfl own A1 n1 c1 (lmCells l1) rfl (by rw [lmCells_len, HN1.out]) (lmCells_news hh) (lmCells_one l1) (by unfold maxLen; omega) (by omega) HB.out.size ?_; intro v4 w1 own4 gr4 l4)
          have HB4 := Lib.hid (HB.out.grown gr4 HB.out.size (fun x hx => (own.lt x hx).1))
          have OW4 : Hid (w1.ownsRow w.heap.size 44 5 v4 (szK n1 n2 1) (lmCells (catK l1 l2 1))) := Lib.hid (by rw [ew, show catK l1 l2 1 = catK l1 l2 0 ++ l1 from rfl, lmCells_app]; exact own4)
          clear own own4 gr4 l4 hh t0 t1 t2 HB
          go_wp2
          go_roundw
          case rel => exact ⟨1, by omega, rfl, OW4, HB4⟩
          case measure => simp [intOf]
        · obtain ⟨t0, t1, t2⟩ := (KB.out.below HB.out KB.out.lt).all
          have hh := H2.out.below (HB.out.mono hB)
          have own : wr.ownsRow w.heap.size 44 5 _ n1 (lmCells (catK l1 l2 1)) := OW.out
          have ew : szK n1 n2 2 = n1 + n2 := rfl
          clear OW
          go_wp2_with (at_builtin; refine wpList_append_any rfl _ _ 25 rfl w.heap.size 44 i0 _ 5 64 Tryz.underlying25 hi0 hz0 hz1 hz2 rfl (by omega) _ _ _ rfl own A2 n2 c2 (lmCells l2) rfl (by rw [lmCells_len, HN2.out]) (lmCells_news hh) (lmCells_one l2) (by unfold maxLen; omega) (by omega) HB.out.size ?_; intro v4 w1 own4 gr4 l4)
          have HB4 := Lib.hid (HB.out.grown gr4 HB.out.size (fun x hx => (own.lt x hx).1))
          have OW4 : Hid (w1.ownsRow w.heap.size 44 5 v4 (szK n1 n2 2) (lmCells (catK l1 l2 2))) := Lib.hid (by rw [ew, show catK l1 l2 2 = catK l1 l2 1 ++ l2 from rfl, lmCells_app]; exact own4)
          clear own own4 gr4 l4 hh t0 t1 t2 HB
          go_wp2
          go_roundw
          case rel => exact ⟨2, by omega, rfl, OW4, HB4⟩
          case measure => simp [intOf]
        · go_wp2
          go_ret
          exact ⟨_, rfl, by rw [List.length_append, HN1.out, HN2.out]; exact OW.out, HB.out⟩
end Go.Proofs.YtknchlpcpgflkaaGreatDoor

namespace Go.Proofs.YtknchlpcpgflkaaGreatDoor
open Go.RowKit Go.Shelf

theorem Tryz.infoPair : (Tryz.prog.info? 75).map (fun i => (i.zero, i.size, i.bytes)) = some (some (.agg #[.string ⟨#[]⟩, .string ⟨#[]⟩]), 2, 32) := by kernel_rfl
def encP2 (s : S2) : List Value := [.string s.1, .string s.2]
def prCells (S : List S2) : List Value := S.flatMap encP2
theorem prCells_len (S : List S2) : (prCells S).length = S.length * 2 := by
  induction S with
  | nil => rfl
  | cons s S ih => show (encP2 s ++ prCells S).length = _; rw [List.length_append, ih]; simp [encP2]; omega
theorem prCells_app (J K : List S2) : prCells (J ++ K) = prCells J ++ prCells K := by simp [prCells]
theorem prCells_one (S : List S2) : ∀ u ∈ prCells S, u.oneCell' = true := by
  intro u hu
  obtain ⟨s, _, hs⟩ := List.mem_flatMap.1 hu
  simp [encP2] at hs
  rcases hs with rfl | rfl <;> rfl
theorem prCells_at : ∀ (S : List S2) (i : Nat) (s : S2), S[i]? = some s → (prCells S)[i * 2]? = some (.string s.1) ∧ (prCells S)[i * 2 + 1]? = some (.string s.2)
  | [], i, s, h => by simp at h
  | t :: S, 0, s, h => by
    have : t = s := by simpa using h
    subst this
    exact ⟨rfl, rfl⟩
  | t :: S, i + 1, s, h => by
    have h' : S[i]? = some s := by simpa using h
    obtain ⟨h1, h2⟩ := prCells_at S i s h'
    have e1 : (i + 1) * 2 = i * 2 + 1 + 1 := by omega
    refine ⟨?_, ?_⟩
    · rw [e1]; show (prCells S)[i * 2]? = _; exact h1
    · rw [e1]; show (prCells S)[i * 2 + 1]? = _; exact h2
theorem PrsAt.of_row {W : World} {base cap n : Nat} {A : Option Addr} {l : List S2} (hl : l.length = n) (h : W.ownsRow base 75 2 (.slice A n cap) n (prCells l)) : PrsAt W W.heap.size A l := by
  intro i x hi
  have hil := (List.getElem?_eq_some_iff.1 hi).1
  rcases h.2 with ⟨_, h0⟩ | ⟨g, cap', cur, hv, _, hh, _, _, _, h4⟩
  · omega
  · injection hv with hv _ _
    have at_ : ∀ j v, (prCells l)[j]? = some v → W.cell? ⟨g, 0 + j, none⟩ = some v := fun j v hj => by
      rw [Nat.zero_add, cell_of_row W g j cur _ _ hh]
      have hj4 : j < n * 2 := by
        have := (List.getElem?_eq_some_iff.1 hj).1
        rw [prCells_len, hl] at this
        exact this
      have h5 := congrArg (fun l : List Value => l[j]?) h4
      simp only [List.getElem?_take, hj4, if_true] at h5
      rw [hj] at h5
      simpa using h5
    obtain ⟨e0, e1⟩ := prCells_at l i x hi
    have c0 := at_ _ _ e0
    have c1 := at_ _ _ e1
    rw [show 0 + (i * 2 + 1) = 0 + i * 2 + 1 by omega] at c1
    exact ⟨g, 0, hv, (Array.getElem?_eq_some_iff.1 hh).1, c0, c1⟩

/-! The stages of both. -/
def stK (b : Mg) (st : List Int) (k : Nat) : List Int := (st.take k).map (thenSt b) ++ st.drop k
theorem stK_all (b : Mg) (st : List Int) : stK b st st.length = st.map (thenSt b) := by unfold stK; rw [List.take_length, List.drop_length, List.append_nil]
theorem stK_len (b : Mg) (st : List Int) (k : Nat) : (stK b st k).length = st.length := by unfold stK; rw [List.length_append, List.length_map, List.length_take, List.length_drop]; omega
theorem stK_next {b : Mg} {st : List Int} {k : Nat} {s : Int} (h : st[k]? = some s) : stK b st (k + 1) = (stK b st k).set k (thenSt b s) := by
  obtain ⟨hl, he⟩ := List.getElem?_eq_some_iff.1 h
  apply List.ext_getElem?
  intro i
  unfold stK
  rw [List.getElem?_set]
  by_cases h1 : k = i
  · subst h1
    rw [if_pos rfl, if_pos (by rw [List.length_append, List.length_map, List.length_take, List.length_drop]; omega), List.getElem?_append_left (by rw [List.length_map, List.length_take]; omega), List.getElem?_map, List.getElem?_take, if_pos (by omega), h]
    rfl
  · rw [if_neg h1]
    by_cases h2 : i < k
    · rw [List.getElem?_append_left (by rw [List.length_map, List.length_take]; omega), List.getElem?_append_left (by rw [List.length_map, List.length_take]; omega), List.getElem?_map, List.getElem?_map, List.getElem?_take, List.getElem?_take, if_pos (by omega), if_pos h2]
    · rw [List.getElem?_append_right (by rw [List.length_map, List.length_take]; omega), List.getElem?_append_right (by rw [List.length_map, List.length_take]; omega), List.getElem?_drop, List.getElem?_drop, List.length_map, List.length_map, List.length_take, List.length_take]
      congr 1
      omega
theorem stK_at {b : Mg} {st : List Int} {k : Nat} {s : Int} (h : st[k]? = some s) : (stK b st k)[k]? = some s := by
  obtain ⟨hl, -⟩ := List.getElem?_eq_some_iff.1 h
  unfold stK
  rw [List.getElem?_append_right (by rw [List.length_map, List.length_take]; omega), List.getElem?_drop, List.length_map, List.length_take]
  rw [show k + (k - min k st.length) = k by omega]
  exact h
theorem stK_skip {b : Mg} {st : List Int} {k : Nat} {s : Int} (h : st[k]? = some s) (hs : ¬ 0 ≤ s) : stK b st (k + 1) = stK b st k := by
  rw [stK_next h]
  have e : thenSt b s = s := if_neg hs
  rw [e]
  apply List.ext_getElem?
  intro i
  rw [List.getElem?_set]
  by_cases h1 : k = i
  · subst h1
    obtain ⟨hl, -⟩ := List.getElem?_eq_some_iff.1 h
    rw [if_pos rfl, if_pos (by rw [stK_len]; exact hl)]
    exact (stK_at h).symm
  · rw [if_neg h1]
theorem intCells_set (S : List Int) (i : Nat) (x : Int) : intCells (S.set i x) = (intCells S).set i (.int .i64 x) := by unfold intCells; rw [List.map_set]
/-! The rights of both. -/
def rrK (a b : Mg) (j : Nat) : List S2 := (a.rs.take j).map fun r => (r.1, namedL b.rs r.2)
def rrL (a b : Mg) (j : Nat) : List S2 := a.rs.map (fun r => (r.1, namedL b.rs r.2)) ++ (b.rs.take j).filter fun r => decide (r.1 ∉ a.rs.map (·.1))
theorem rrK_next {a b : Mg} {j : Nat} {r : S2} (h : a.rs[j]? = some r) : rrK a b (j + 1) = rrK a b j ++ [(r.1, namedL b.rs r.2)] := by unfold rrK; rw [List.take_add_one, h, List.map_append]; rfl
theorem rrK_len (a b : Mg) (j : Nat) : (rrK a b j).length ≤ a.rs.length := by unfold rrK; rw [List.length_map, List.length_take]; omega
theorem rrK_all (a b : Mg) : rrK a b a.rs.length = rrL a b 0 := by unfold rrK rrL; rw [List.take_length, List.take_zero, List.filter_nil, List.append_nil]
theorem rrL_in {a b : Mg} {j : Nat} {r : S2} (h : b.rs[j]? = some r) (hr : r.1 ∈ a.rs.map (·.1)) : rrL a b (j + 1) = rrL a b j := by unfold rrL; rw [List.take_add_one, h, List.filter_append]; simp [hr]
theorem rrL_out {a b : Mg} {j : Nat} {r : S2} (h : b.rs[j]? = some r) (hr : r.1 ∉ a.rs.map (·.1)) : rrL a b (j + 1) = rrL a b j ++ [r] := by
  unfold rrL
  rw [List.take_add_one, h, List.filter_append, ← List.append_assoc]
  congr 1
  simp only [Option.toList_some, List.filter_cons, List.filter_nil, decide_eq_true_eq, hr, not_false_eq_true, if_true]
theorem rrL_len (a b : Mg) (j : Nat) : (rrL a b j).length ≤ a.rs.length + b.rs.length := by
  unfold rrL
  rw [List.length_append, List.length_map]
  exact Nat.add_le_add_left (Nat.le_trans (List.length_filter_le _ _) (by rw [List.length_take]; omega)) _
theorem rrL_all (a b : Mg) : rrL a b b.rs.length = thenRs a b := by unfold rrL thenRs; rw [List.take_length]

/-! In memory. -/
def Z5 : Array Value := #[.string ⟨#[]⟩, .string ⟨#[]⟩, .slice none 0 0, .slice none 0 0, .slice none 0 0]
structure ThS (w W : World) (Ca Cb : Array Value) (bo : Nat) (C : Array Value) (vs : Value) (n : Nat) (ss : List Int) (vr : Value) (k : Nat) (rr : List S2) (vl : Value) (J : Nat) (lv : List LmV) : Prop where
  hb : Below w.heap.size w W
  ka : Blk W w.heap.size 30 Ca
  kb : Blk W (w.heap.size + 1) 30 Cb
  kz : Blk W (w.heap.size + 1 + 1) 30 Z5
  ko : Blk W bo 30 C
  os : W.ownsRow w.heap.size 3 1 vs n (intCells ss)
  or_ : W.ownsRow w.heap.size 75 2 vr k (prCells rr)
  ol : W.ownsRow w.heap.size 44 5 vl J (lmCells lv)
  lo : w.heap.size + 1 + 1 < bo
section
variable {w W W' : World} {Ca Cb C : Array Value} {bo n k J : Nat} {ss : List Int} {rr : List S2} {vs vr vl : Value} {lv : List LmV}
theorem ThS.below (h : ThS w W Ca Cb bo C vs n ss vr k rr vl J lv) (hb : Below W.heap.size W W') : ThS w W' Ca Cb bo C vs n ss vr k rr vl J lv :=
  ⟨h.hb.trans (hb.mono h.hb.size), h.ka.below hb h.ka.lt, h.kb.below hb h.kb.lt, h.kz.below hb h.kz.lt, h.ko.below hb h.ko.lt, (Only.of_below hb (fun _ => False)).owns h.os (fun _ _ f => f), (Only.of_below hb (fun _ => False)).owns h.or_ (fun _ _ f => f), (Only.of_below hb (fun _ => False)).owns h.ol (fun _ _ f => f), h.lo⟩
/-- A stage is stored. -/
theorem ThS.stage {g cap : Nat} (h : ThS w W Ca Cb bo C (.slice (some ⟨g, 0, none⟩) n cap) n ss vr k rr vl J lv) (i : Nat) (x : Int) : ThS w (W.setCell ⟨g, i, none⟩ (.int .i64 x)) Ca Cb bo C (.slice (some ⟨g, 0, none⟩) n cap) n (ss.set i x) vr k rr vl J lv := by
  have hv : (Value.slice (some ⟨g, 0, none⟩) n cap).ownBlock = some g := rfl
  have hlo := (h.os.lt g hv).1
  have hO : Only (fun i => i = g) W (W.setCell ⟨g, i, none⟩ (.int .i64 x)) := (Only.refl (fun i => i = g) W).setCell (p := ⟨g, i, none⟩) (.inl rfl) _
  have ne : ∀ {t : TypeId} {c : Nat} {cs : Array Value}, Blk W c t cs → 3 ≠ t → ¬ c = g := fun hk ht e => own_blk_ne h.os hk ht (by rw [hv, e])
  exact ⟨h.hb.trans (hO.below h.hb.size fun i hi => by omega), hO.blk h.ka (ne h.ka (by decide)), hO.blk h.kb (ne h.kb (by decide)), hO.blk h.kz (ne h.kz (by decide)), hO.blk h.ko (ne h.ko (by decide)), by rw [intCells_set]; exact (h.os.stored i _).1, hO.owns h.or_ (fun b hb f => own_own_ne h.os h.or_ (by decide) hv (by rw [hb, f])), hO.owns h.ol (fun b hb f => own_own_ne h.os h.ol (by decide) hv (by rw [hb, f])), h.lo⟩
/-- The row of rights grows. -/
theorem ThS.right {v' : Value} {k' : Nat} {rr' : List S2} (h : ThS w W Ca Cb bo C vs n ss vr k rr vl J lv) (o : W'.ownsRow w.heap.size 75 2 v' k' (prCells rr')) (hg : W.grownBy W' vr.ownBlock) : ThS w W' Ca Cb bo C vs n ss v' k' rr' vl J lv := by
  have hO := Only.of_grown hg
  exact ⟨h.hb.trans (hO.below h.hb.size (fun i hi => (h.or_.lt i hi).1)), hO.blk h.ka (own_blk_ne h.or_ h.ka (by decide)), hO.blk h.kb (own_blk_ne h.or_ h.kb (by decide)), hO.blk h.kz (own_blk_ne h.or_ h.kz (by decide)), hO.blk h.ko (own_blk_ne h.or_ h.ko (by decide)), hO.owns h.os (fun b hb f => own_own_ne h.os h.or_ (by decide) hb f), o, hO.owns h.ol (fun b hb f => own_own_ne h.ol h.or_ (by decide) hb f), h.lo⟩
/-- A cell of the result. -/
theorem ThS.set (h : ThS w W Ca Cb bo C vs n ss vr k rr vl J lv) (i : Nat) (v : Value) : ThS w (W.setCell ⟨bo, i, none⟩ v) Ca Cb bo (C.setIfInBounds i v) vs n ss vr k rr vl J lv := by
  have hlo := h.lo
  have ho : Only (fun j => j = bo) W (W.setCell ⟨bo, i, none⟩ v) := only_set3
  exact ⟨h.hb.setCell (p := ⟨bo, i, none⟩) (show w.heap.size ≤ bo by omega) v, ho.blk h.ka (by omega), ho.blk h.kb (by omega), ho.blk h.kz (by omega), h.ko.set_ i v, ho.owns h.os (fun b hb f => own_blk_ne h.os h.ko (by decide) (by rw [hb, f])), ho.owns h.or_ (fun b hb f => own_blk_ne h.or_ h.ko (by decide) (by rw [hb, f])), ho.owns h.ol (fun b hb f => own_blk_ne h.ol h.ko (by decide) (by rw [hb, f])), h.lo⟩
end
theorem own_slice {w : World} {base size n : Nat} {e : TypeId} {v : Value} {xs : List Value} (h : w.ownsRow base e size v n xs) : ∃ A c, v = .slice A n c := by
  rcases h.2 with ⟨hv, h0⟩ | ⟨g, cap, cur, hv, _⟩
  · exact ⟨none, 0, by rw [hv, h0]⟩
  · exact ⟨_, _, hv⟩
theorem PSv.go2 {w V : World} {g : Nat} {cells : Array Value} (h : PSv w V) (hg : w.heap.size ≤ g) : PSv w (V.setRow g cells) :=
  ⟨h.os, h.tape, h.output, by rw [size_setRow]; exact h.size, fun i hi => (setRow_other V g i cells (by omega)).trans (h.block i hi)⟩
/-! The region that builds the result: what may change from one operation to the next. -/
def IsMg (w : World) (g : Nat) : Prop := ∃ cs, Blk w g 30 cs ∧ cs.size = 5
def FinT (base : Nat) (fr bn : ByteArray) (n : Nat) (ss : List Int) (J : Nat) (lv : List LmV) (w : World) (g : Nat) : Prop :=
  ∃ A c A' c', Blk w g 30 #[.string fr, .string bn, .slice A n c, .slice none 0 0, .slice A' J c'] ∧ w.ownsRow base 3 1 (.slice A n c) n (intCells ss) ∧ w.ownsRow base 44 5 (.slice A' J c') J (lmCells lv)
structure R3 (base : Nat) (fr bn : ByteArray) (n : Nat) (ss : List Int) (J : Nat) (lv : List LmV) (w w' : World) : Prop where
  only : Only (fun i => base ≤ i ∧ IsMg w i) w w'
  mg : ∀ g, IsMg w g → IsMg w' g
  fin : ∀ g, FinT base fr bn n ss J lv w g → FinT base fr bn n ss J lv w' g
section
variable {base n J : Nat} {fr bn : ByteArray} {ss : List Int} {lv : List LmV} {w w' : World}
theorem R3.of_below (h : Below w.heap.size w w') : R3 base fr bn n ss J lv w w' where
  only := Only.of_below h _
  mg g hg := by
    obtain ⟨cs, h1, h2⟩ := hg
    exact ⟨cs, h1.below h h1.lt, h2⟩
  fin g hg := by
    obtain ⟨A, c, A', c', h1, h2, h3⟩ := hg
    exact ⟨A, c, A', c', h1.below h h1.lt, (Only.of_below h (fun _ => False)).owns h2 (fun _ _ f => f), (Only.of_below h (fun _ => False)).owns h3 (fun _ _ f => f)⟩
theorem IsMg.ne_own {base' size n' : Nat} {e : TypeId} {v : Value} {xs : List Value} {g : Nat} (h : IsMg w g) (o : w.ownsRow base' e size v n' xs) (he : e ≠ 30) : v.ownBlock ≠ some g := by
  obtain ⟨cs, h1, -⟩ := h
  exact own_blk_ne o h1 he
theorem R3.own {base' size n' : Nat} {e : TypeId} {v : Value} {xs : List Value} (h : R3 base fr bn n ss J lv w w') (o : w.ownsRow base' e size v n' xs) (he : e ≠ 30) : w'.ownsRow base' e size v n' xs :=
  h.only.owns o (fun _ hb f => f.2.ne_own o he hb)
theorem R3.blk {g : Nat} {t : TypeId} {cs : Array Value} (h : R3 base fr bn n ss J lv w w') (k : Blk w g t cs) (ht : t ≠ 30) : Blk w' g t cs :=
  h.only.blk k (fun f => by
    obtain ⟨cs', h1, -⟩ := f.2
    exact k.ne_ h1 ht rfl)
/-- A result is stored whole. -/
theorem R3.store {g : Nat} {A A' : Option Addr} {c c' : Nat} (hg : base ≤ g) (hm : IsMg w g) (ho : Only (fun i => i = g) w w') (hk : Blk w' g 30 #[.string fr, .string bn, .slice A n c, .slice none 0 0, .slice A' J c']) (h2 : w.ownsRow base 3 1 (.slice A n c) n (intCells ss)) (h3 : w.ownsRow base 44 5 (.slice A' J c') J (lmCells lv)) :
    R3 base fr bn n ss J lv w w' ∧ FinT base fr bn n ss J lv w' g := by
  have k2 := ho.owns h2 (fun b hb f => hm.ne_own h2 (by decide) (by rw [hb, f]))
  have k3 := ho.owns h3 (fun b hb f => hm.ne_own h3 (by decide) (by rw [hb, f]))
  have hf : FinT base fr bn n ss J lv w' g := ⟨A, c, A', c', hk, k2, k3⟩
  refine ⟨⟨ho.mono (fun i hi => by subst hi; exact ⟨hg, hm⟩), fun i hi => ?_, fun i hi => ?_⟩, hf⟩
  · by_cases he : i = g
    · subst he; exact ⟨_, hk, rfl⟩
    · obtain ⟨cs, h1, h2⟩ := hi
      exact ⟨cs, ho.blk h1 he, h2⟩
  · by_cases he : i = g
    · subst he; exact hf
    · obtain ⟨X, x, X', x', h1, h4, h5⟩ := hi
      exact ⟨X, x, X', x', ho.blk h1 he, ho.owns h4 (fun b hb f => hm.ne_own h4 (by decide) (by rw [hb, f])), ho.owns h5 (fun b hb f => hm.ne_own h5 (by decide) (by rw [hb, f]))⟩
end
/-- An own row of ints, of limits; a result's cells; where the result lies; that it is stored. -/
def ownI (base n : Nat) (ss : List Int) : Phi := ⟨none, fun _ v w => ∃ A c, v = .slice A n c ∧ w.ownsRow base 3 1 (.slice A n c) n (intCells ss)⟩
def ownL (base J : Nat) (lv : List LmV) : Phi := ⟨none, fun _ v w => ∃ A c, v = .slice A J c ∧ w.ownsRow base 44 5 (.slice A J c) J (lmCells lv)⟩
def rowK (base : Nat) (t : TypeId) (cs : Array Value) (n c : Nat) : Phi := ⟨none, fun _ v w => ∃ g, v = .slice (some ⟨g, 0, none⟩) n c ∧ base ≤ g ∧ Blk w g t cs⟩
def aggT (base : Nat) (fr bn : ByteArray) (n : Nat) (ss : List Int) (J : Nat) (lv : List LmV) : Phi := ⟨none, fun _ v w => ∃ A c A' c', v = .agg #[.string fr, .string bn, .slice A n c, .slice none 0 0, .slice A' J c'] ∧ w.ownsRow base 3 1 (.slice A n c) n (intCells ss) ∧ w.ownsRow base 44 5 (.slice A' J c') J (lmCells lv)⟩
def ptrT (base : Nat) : Phi := ⟨none, fun _ v w => ∃ g, v = .pointer (some ⟨g, 0, none⟩) ∧ base ≤ g ∧ IsMg w g⟩
def finV (base : Nat) (fr bn : ByteArray) (n : Nat) (ss : List Int) (J : Nat) (lv : List LmV) (i : Nat) : Phi := ⟨some i, fun x _ w => ∃ g, x = .pointer (some ⟨g, 0, none⟩) ∧ base ≤ g ∧ FinT base fr bn n ss J lv w g⟩
/-- A map of new names. -/
def mapNV (base : Nat) (rs : List S2) : Phi := ⟨none, fun _ v w => ∃ b, v = .map (some b) ∧ base ≤ b ∧ MapV w b (nmL rs)⟩
theorem mapNV_mono (base : Nat) (rs : List S2) : ∀ x v w w', RB w w' → (mapNV base rs).p x v w → (mapNV base rs).p x v w' := fun _ _ _ _ hr ⟨b, h1, h2, h3⟩ => ⟨b, h1, h2, h3.below hr h3.lt⟩
section
variable (base : Nat) (fr bn : ByteArray) (n : Nat) (ss : List Int) (J : Nat) (lv : List LmV)
theorem ownI_mono (b n' : Nat) (s' : List Int) : ∀ x v w w', R3 base fr bn n ss J lv w w' → (ownI b n' s').p x v w → (ownI b n' s').p x v w' := fun _ _ _ _ hr ⟨A, c, h1, h2⟩ => ⟨A, c, h1, hr.own h2 (by decide)⟩
theorem ownL_mono (b n' : Nat) (s' : List LmV) : ∀ x v w w', R3 base fr bn n ss J lv w w' → (ownL b n' s').p x v w → (ownL b n' s').p x v w' := fun _ _ _ _ hr ⟨A, c, h1, h2⟩ => ⟨A, c, h1, hr.own h2 (by decide)⟩
theorem rowK_mono (b : Nat) (t : TypeId) (cs : Array Value) (m c : Nat) (ht : t ≠ 30) : ∀ x v w w', R3 base fr bn n ss J lv w w' → (rowK b t cs m c).p x v w → (rowK b t cs m c).p x v w' := fun _ _ _ _ hr ⟨g, h1, h2, h3⟩ => ⟨g, h1, h2, hr.blk h3 ht⟩
theorem aggT_mono : ∀ x v w w', R3 base fr bn n ss J lv w w' → (aggT base fr bn n ss J lv).p x v w → (aggT base fr bn n ss J lv).p x v w' := fun _ _ _ _ hr ⟨A, c, A', c', h1, h2, h3⟩ => ⟨A, c, A', c', h1, hr.own h2 (by decide), hr.own h3 (by decide)⟩
theorem ptrT_mono : ∀ x v w w', R3 base fr bn n ss J lv w w' → (ptrT base).p x v w → (ptrT base).p x v w' := fun _ _ _ _ hr ⟨g, h1, h2, h3⟩ => ⟨g, h1, h2, hr.mg g h3⟩
theorem finV_mono (i : Nat) : ∀ x v w w', R3 base fr bn n ss J lv w w' → (finV base fr bn n ss J lv i).p x v w → (finV base fr bn n ss J lv i).p x v w' := fun _ _ _ _ hr ⟨g, h1, h2, h3⟩ => ⟨g, h1, h2, hr.fin g h3⟩
end
end Go.Proofs.YtknchlpcpgflkaaGreatDoor

namespace Go.Proofs.YtknchlpcpgflkaaGreatDoor
open Go.RowKit Go.Shelf

theorem take_eq_snoc {α : Type} {a b : List α} {k : Nat} {x : α} (h : a.take k = b.take k) (ha : a[k]? = some x) (hb : b[k]? = some x) : a.take (k + 1) = b.take (k + 1) := by
  rw [take_snoc' ha, take_snoc' hb, h]

set_option maxHeartbeats 4000000 in
set_option maxRecDepth 100000 in
theorem rints_any (w : World) (B : Nat) (A A' : Option Addr) (a b : List Int) (c c' : Nat) (h : IntsAt w B A a) (h' : IntsAt w B A' b) (hl : a.length ≤ 1000001) (hl' : b.length ≤ 1000001) (q : Bool) (hq : q = true ↔ a = b) :
    Calls Tryz.prog 63 #[.slice A a.length c, .slice A' b.length c'] w fun e w' => e = .returned (.bool q) ∧ Below w.heap.size w w' := by
  have HA := Lib.hid h
  have HB := Lib.hid h'
  have HQ := Lib.hid hq
  clear h h' hq
  obtain ⟨n, hn⟩ : ∃ n, a.length = n := ⟨_, rfl⟩
  obtain ⟨m, hm⟩ : ∃ m, b.length = m := ⟨_, rfl⟩
  rw [hn] at hl ⊢
  rw [hm] at hl' ⊢
  by_cases hnm : n = m
  · subst hnm
    have HN := Lib.hid hn
    have HM := Lib.hid hm
    clear hn hm hl'
    go_enter Tryz.func63, Tryz.ntmps63
    go_wp2_with fail
    go_loopw [5] (fun i wr => ∃ k : Nat, k ≤ n ∧ i = .int .i64 (k : Int) ∧ Hid (a.take k = b.take k) ∧ ∃ j, wr = w.drewN j) (fun i _ => n - (intOf i).toNat)
    case atStart => exact ⟨0, Nat.zero_le _, rfl, Lib.hid rfl, 0, rfl⟩
    case round =>
      obtain ⟨k, hk, rfl, HT, j, rfl⟩ := hrel
      by_cases hlt : k < n
      · obtain ⟨x, hx⟩ : ∃ x, a[k]? = some x := ⟨_, List.getElem?_eq_getElem (by rw [HN.out]; exact hlt)⟩
        obtain ⟨y, hy⟩ : ∃ y, b[k]? = some y := ⟨_, List.getElem?_eq_getElem (by rw [HM.out]; exact hlt)⟩
        obtain ⟨ga, oa, rfl, hga, a0⟩ := HA.out k x hx
        obtain ⟨gb, ob, rfl, hgb, b0⟩ := HB.out k y hy
        have a0' : (w.drewN j).cell? ⟨ga, oa + k, none⟩ = some (.int .i64 x) := a0
        have b0' : (w.drewN j).cell? ⟨gb, ob + k, none⟩ = some (.int .i64 y) := b0
        have ib0 : (0 : Int) ≤ (k : Int) := by omega
        have ib1 : (k : Int) < (n : Int) := by omega
        have HX := Lib.hid hx
        have HY := Lib.hid hy
        clear a0 b0 hx hy
        by_cases hxy : x = y
        · subst hxy
          have HS := Lib.hid (take_eq_snoc HT.out HX.out HY.out)
          go_wp2_with fail
          generalize hW : w.drewN j = W at *
          go_quiet (fail)
          subst hW
          go_wp2
          go_roundw
          case rel => exact ⟨k + 1, by omega, by go_num, HS, j + nq, rfl⟩
          case measure => simp [intOf]; omega
        · have hno : ¬ a = b := fun e => hxy (by have h1 := HX.out; rw [e, HY.out] at h1; exact (Option.some.inj h1).symm)
          have hq : q = false := by cases q with | false => rfl | true => exact absurd (HQ.out.1 rfl) hno
          subst hq
          have d1 : (x == y) = false := by simp [hxy]
          clear hno
          go_wp2_with fail
          generalize hW : w.drewN j = W at *
          go_quiet (fail)
          subst hW
          go_wp2
          go_ret
          exact ⟨rfl, below_dN (below_dN (Below.refl _ _) j) nq⟩
      · obtain rfl : k = n := by omega
        have hq : q = true := HQ.out.2 (by
          have := HT.out
          rwa [List.take_of_length_le (by rw [HN.out]; exact Nat.le_refl _), List.take_of_length_le (by rw [HM.out]; exact Nat.le_refl _)] at this)
        subst hq
        go_wp2
        go_ret
        exact ⟨rfl, below_dN (Below.refl _ _) j⟩
  · have hq : q = false := by
      cases q with
      | false => rfl
      | true => exact absurd (by rw [← hn, ← hm, HQ.out.1 rfl]) hnm
    subst hq
    have d1 : ((n : Int) == (m : Int)) = false := by simp; omega
    have d2 : ¬ (n : Int) = (m : Int) := by omega
    clear HA HB HQ hn hm
    go_enter Tryz.func63, Tryz.ntmps63
    go_wp2
    go_ret
    exact ⟨rfl, Below.refl _ _⟩
end Go.Proofs.YtknchlpcpgflkaaGreatDoor

namespace Go.Proofs.YtknchlpcpgflkaaGreatDoor
open Go.RowKit Go.Shelf

set_option maxHeartbeats 4000000 in
set_option maxRecDepth 100000 in
theorem rsameL_any (w : World) (B : Nat) (L K : Lm) (A A' : Option Addr) (c c' : Nat) (h : LmAt w B A L) (h' : LmAt w B A' K) (hB : B ≤ w.heap.size) (q : Bool) (hq : q = true ↔ L = K) :
    Calls Tryz.prog 13 #[.agg (L.cells A c), .agg (K.cells A' c')] w fun e w' => e = .returned (.bool q) ∧ Below w.heap.size w w' := by
  obtain ⟨hs, hid, hsl⟩ := h
  obtain ⟨hs', hid', hsl'⟩ := h'
  obtain ⟨id, n, u, f, S⟩ := L
  obtain ⟨id', n', u', f', S'⟩ := K
  show Calls Tryz.prog 13 #[.agg #[.string id, .int .i64 n, .int .i64 u, .int .i64 f, .slice A S.length c], .agg #[.string id', .int .i64 n', .int .i64 u', .int .i64 f', .slice A' S'.length c']] w _
  simp only at hs hs' hsl hsl'
  have HS := Lib.hid hs
  have HS' := Lib.hid hs'
  have HQ := Lib.hid hq
  clear hs hs' hq hid hid'
  obtain ⟨m, hm⟩ : ∃ m, S.length = m := ⟨_, rfl⟩
  obtain ⟨m', hm'⟩ : ∃ m, S'.length = m := ⟨_, rfl⟩
  rw [hm] at hsl ⊢
  rw [hm'] at hsl' ⊢
  have hb := ((Below.refl w.heap.size w).alloc (Nat.le_refl _) (.cells #[.string id, .int .i64 n, .int .i64 u, .int .i64 f, .slice A m c] 44)).alloc (by simp) (.cells #[.string id', .int .i64 n', .int .i64 u', .int .i64 f', .slice A' m' c'] 44)
  have k0 := (Blk.new w 44 #[.string id, .int .i64 n, .int .i64 u, .int .i64 f, .slice A m c]).alloc (.cells #[.string id', .int .i64 n', .int .i64 u', .int .i64 f', .slice A' m' c'] 44)
  have k1 := Blk.new1 w (.cells #[.string id, .int .i64 n, .int .i64 u, .int .i64 f, .slice A m c] 44) 44 #[.string id', .int .i64 n', .int .i64 u', .int .i64 f', .slice A' m' c']
  have HN := Lib.hid hm
  have HN' := Lib.hid hm'
  clear hm hm'
  have hno : ¬ ((⟨id, n, u, f, S⟩ : Lm) = ⟨id', n', u', f', S'⟩) → q = false := fun h => by cases q with | false => rfl | true => exact absurd (HQ.out.1 rfl) h
  have HNO := Lib.hid hno
  clear hno
  obtain ⟨t0, t1, -⟩ := k0.all
  obtain ⟨s0, s1, -⟩ := k1.all
  by_cases h1 : id = id'
  · subst h1
    have e1 : (id.toList == id.toList) = true := by simp
    by_cases h2 : n = n' ∧ u = u'
    · obtain ⟨rfl, rfl⟩ := h2
      by_cases h3 : f = f'
      · subst h3
        by_cases h4 : m = m'
        · subst h4
          go_enter Tryz.func13, Tryz.ntmps13
          go_wp2_with fail
          have k0' := k0
          have k1' := k1
          have hsA := HS.out.below (hb.mono hB)
          have hsB := HS'.out.below (hb.mono hB)
          clear t0 t1 s0 s1 k0 k1 HS HS' e1
          generalize (w.alloc (.cells #[.string id, .int .i64 n, .int .i64 u, .int .i64 f, .slice A m c] 44)).alloc (.cells #[.string id, .int .i64 n, .int .i64 u, .int .i64 f, .slice A' m c'] 44) = w1 at *
          have HSA := Lib.hid hsA
          have HSB := Lib.hid hsB
          clear hsA hsB
          go_loopw [5] (fun i wr => ∃ k : Nat, k ≤ m ∧ i = .int .i64 (k : Int) ∧ Hid (S.take k = S'.take k) ∧ ∃ j, wr = w1.drewN j) (fun i _ => m - (intOf i).toNat)
          case atStart => exact ⟨0, Nat.zero_le _, rfl, Lib.hid rfl, 0, rfl⟩
          case round =>
            obtain ⟨k, hk, rfl, HT, j, rfl⟩ := hrel
            have k0 := k0'.drewN j
            have k1 := k1'.drewN j
            obtain ⟨t0, t1, -⟩ := k0.all
            obtain ⟨s0, s1, -⟩ := k1.all
            by_cases hlt : k < m
            · obtain ⟨x, hx⟩ : ∃ x, S[k]? = some x := ⟨_, List.getElem?_eq_getElem (by rw [HN.out]; exact hlt)⟩
              obtain ⟨y, hy⟩ : ∃ y, S'[k]? = some y := ⟨_, List.getElem?_eq_getElem (by rw [HN'.out]; exact hlt)⟩
              obtain ⟨ga, oa, hA, hga, a0, a1⟩ := HSA.out k x hx
              obtain ⟨gb, ob, hA', hgb, b0, b1⟩ := HSB.out k y hy
              subst hA hA'
              have HX := Lib.hid hx
              have HY := Lib.hid hy
              clear hx hy
              obtain ⟨x1, x2⟩ := x
              obtain ⟨y1, y2⟩ := y
              have a0' : (w1.drewN j).cell? ⟨ga, oa + k * 2, none⟩ = some (.int .i64 x1) := a0
              have a1' : (w1.drewN j).cell? ⟨ga, oa + k * 2 + 1, none⟩ = some (.int .i64 x2) := a1
              have b0' : (w1.drewN j).cell? ⟨gb, ob + k * 2, none⟩ = some (.int .i64 y1) := b0
              have b1' : (w1.drewN j).cell? ⟨gb, ob + k * 2 + 1, none⟩ = some (.int .i64 y2) := b1
              have ib0 : (0 : Int) ≤ (k : Int) := by omega
              have ib1 : (k : Int) < (m : Int) := by omega
              clear a0 a1 b0 b1
              by_cases hxy : x1 = y1 ∧ x2 = y2
              · obtain ⟨rfl, rfl⟩ := hxy
                have HST := Lib.hid (take_eq_snoc HT.out HX.out HY.out)
                go_wp2_with fail
                generalize hW : w1.drewN j = W at *
                go_quiet (fail)
                subst hW
                go_wp2
                go_roundw
                case rel => exact ⟨k + 1, by omega, by go_num, HST, j + nq, rfl⟩
                case measure => simp [intOf]; omega
              · obtain rfl : false = q := (HNO.out fun e => hxy (by
                  have h1 := HX.out
                  injection e with _ _ _ _ e
                  rw [e, HY.out] at h1
                  injection h1 with h1
                  injection h1 with h1 h2
                  exact ⟨h1.symm, h2.symm⟩)).symm
                by_cases hx1 : x1 = y1
                · subst hx1
                  have hx2 : ¬ x2 = y2 := fun e => hxy ⟨rfl, e⟩
                  have d2 : (x2 == y2) = false := by simp [hx2]
                  clear hxy
                  go_wp2_with fail
                  generalize hW : w1.drewN j = W at *
                  go_quiet (fail)
                  subst hW
                  go_wp2
                  go_ret
                  exact ⟨rfl, below_dN (below_dN hb j) nq⟩
                · have d2 : (x1 == y1) = false := by simp [hx1]
                  clear hxy
                  go_wp2_with fail
                  generalize hW : w1.drewN j = W at *
                  go_quiet (fail)
                  subst hW
                  go_wp2
                  go_ret
                  exact ⟨rfl, below_dN (below_dN hb j) nq⟩
            · obtain rfl : k = m := by omega
              obtain rfl : true = q := (HQ.out.2 (by
                have := HT.out
                rw [List.take_of_length_le (by rw [HN.out]; exact Nat.le_refl _), List.take_of_length_le (by rw [HN'.out]; exact Nat.le_refl _)] at this
                rw [this])).symm
              go_wp2
              go_ret
              exact ⟨rfl, below_dN hb j⟩
        · obtain rfl : false = q := (HNO.out fun e => h4 (by injection e with _ _ _ _ e; rw [← HN.out, e, HN'.out])).symm
          have d4 : ((m : Int) == (m' : Int)) = false := by simp; omega
          have d4' : ¬ (m : Int) = (m' : Int) := by omega
          clear HS HS' HQ HNO HN HN'
          go_enter Tryz.func13, Tryz.ntmps13
          go_wp2
          go_ret
          exact ⟨rfl, hb⟩
      · obtain rfl : false = q := (HNO.out fun e => h3 (by injection e with _ _ _ e _)).symm
        have d3 : (f == f') = false := by simp [h3]
        clear HS HS' HQ HNO HN HN'
        go_enter Tryz.func13, Tryz.ntmps13
        go_wp2
        go_ret
        exact ⟨rfl, hb⟩
    · obtain rfl : false = q := (HNO.out fun e => h2 (by injection e with _ e1 e2 _ _; exact ⟨e1, e2⟩)).symm
      clear HS HS' HQ HNO HN HN'
      by_cases h21 : n = n'
      · subst h21
        have h22 : ¬ u = u' := fun e => h2 ⟨rfl, e⟩
        have d2 : (u == u') = false := by simp [h22]
        clear h2
        go_enter Tryz.func13, Tryz.ntmps13
        go_wp2
        go_ret
        exact ⟨rfl, hb⟩
      · have d2 : (n == n') = false := by simp [h21]
        clear h2
        go_enter Tryz.func13, Tryz.ntmps13
        go_wp2
        go_ret
        exact ⟨rfl, hb⟩
  · obtain rfl : false = q := (HNO.out fun e => h1 (by injection e with e _ _ _ _)).symm
    have e1 : (id.toList == id'.toList) = false := by
      rw [beq_eq_false_iff_ne]
      intro e
      rw [Lib.toList_data, Lib.toList_data] at e
      exact h1 (ByteArray.ext (Array.toList_inj.1 e))
    clear HS HS' HQ HNO HN HN'
    go_enter Tryz.func13, Tryz.ntmps13
    go_wp2
    go_ret
    exact ⟨rfl, hb⟩
end Go.Proofs.YtknchlpcpgflkaaGreatDoor

namespace Go.Proofs.YtknchlpcpgflkaaGreatDoor
open Go.RowKit Go.Shelf

/-- What Then returns: an error, a migration. -/
def ThenPost (w : World) (a b : Mg) (e : Ending) (w' : World) : Prop := ∃ x : MgX, e = .returned (.tuple #[.agg (mgC (thenM a b) x), .int .i64 (thenE a b)]) ∧ MgAt w' w'.heap.size (thenM a b) x ∧ Below w.heap.size w w'
theorem then_err {w W : World} {a b : Mg} {E : Int} (hE : thenE a b = E) (h0 : E ≠ 0) (hb : Below w.heap.size w W) : ThenPost w a b (.returned (.tuple #[.agg #[.string ⟨#[]⟩, .string ⟨#[]⟩, .slice none 0 0, .slice none 0 0, .slice none 0 0], .int .i64 E])) W := by
  subst hE
  have hm : thenM a b = Mg.zero := if_neg h0
  unfold ThenPost
  rw [hm]
  refine ⟨⟨none, 0, none, 0, none, 0, []⟩, rfl, ⟨fun i x hx => by simp [Mg.zero] at hx, fun i x hx => by simp [Mg.zero] at hx, fun i x hx => by simp at hx, rfl, Nat.zero_le _, Nat.zero_le _, fun r hr => by simp [Mg.zero] at hr⟩, hb⟩
theorem one5 {a f : ByteArray} {A1 A2 A3 : Option Addr} {n1 n2 n3 c1 c2 c3 : Nat} : (#[.string a, .string f, .slice A1 n1 c1, .slice A2 n2 c2, .slice A3 n3 c3] : Array Value).all (·.oneCell') = true := by simp [Value.oneCell']
/-- A migration stored whole. -/
theorem wp_rowG {ops : Array Oper} {rest : List Oper} {o : Oper} {a : Act} {W : World} {Q : Exit → Act → World → Prop} (hgd : o.guard = none) (x y : Operand) (ho : o.op = .store 30 x y) (g : Nat) (C : Array Value)
    (hx : a.eval x = .pointer (some ⟨g, 0, none⟩)) (hy : a.eval y = .agg C) (hC : C.size = 5) (h1 : C.all (·.oneCell') = true) {old : Array Value} (hold : old.size = 5) (hb : Blk W g 30 old)
    (h : wpList Tryz.prog ops Q rest (a.put o.dst undef) (W.setRow g C)) : wpList Tryz.prog ops Q (o :: rest) a W :=
  wpList_store_row hgd 30 x y ho g C hx hy 30 old hb (by rw [hC]; kernel_rfl) (by rw [hC, hold]) h1 h
theorem row_loadG {W : World} {g : Nat} {old : Array Value} (h : Blk W g 30 old) (cells : Array Value) (hs : cells.size = 5) :
    (loadVar 30 ⟨g, 0, none⟩).run Tryz.prog (W.setRow g cells) = .ok (.agg cells) (W.setRow g cells) :=
  run_loadVar_row (P := Tryz.prog) _ g 30 30 cells (0, 0) _ (setRow_heap W g old cells _ _ h) Tryz.underlying30 rfl (by rw [hs]; kernel_rfl)
theorem row_blk {W : World} {g : Nat} {old cells : Array Value} (h : Blk W g 30 old) : Blk (W.setRow g cells) g 30 cells := setRow_heap W g old cells _ _ h
theorem row_only {W : World} {g : Nat} {cells : Array Value} : Only (fun i => i = g) W (W.setRow g cells) :=
  ⟨rfl, rfl, rfl, by rw [size_setRow]; exact Nat.le_refl _, fun i _ hi => setRow_other W g i cells hi⟩

theorem then_lms {w W : World} {B : Nat} {a b : Mg} {x y : MgX} (h : MgAt w B a x) (hb : MgAt w B b y) (hw : Below w.heap.size w W) (hB : B ≤ w.heap.size) : ∀ v ∈ x.tv ++ y.tv, LmAt W W.heap.size v.2.1 v.1 := fun v hv => by
  rcases List.mem_append.1 hv with h1 | h1
  · exact (lms_elem (h.below (hw.mono hB)).ts h1).wide (Nat.le_trans hB hw.size)
  · exact (lms_elem (hb.below (hw.mono hB)).ts h1).wide (Nat.le_trans hB hw.size)
theorem then_ids {a b : Mg} {x y : MgX} (h1 : x.tv.map (·.1) = a.ts) (h2 : y.tv.map (·.1) = b.ts) : ((x.tv ++ y.tv).map fun v : LmV => v.1.id) = (a.ts ++ b.ts).map (·.id) := by
  rw [← h1, ← h2, ← List.map_append, List.map_map]
  rfl
/-- What Then leaves where it can. -/
theorem then_post {w W : World} {B n nr nj gs c bo : Nat} {a b : Mg} {x y : MgX} {Ca Cb C : Array Value} {A3 A' : Option Addr} {q3 c' : Nat} {LV : List LmV} (h : MgAt w B a x) (hb : MgAt w B b y) (hB : B ≤ w.heap.size) (hE : thenE a b = 0)
    (ts : ThS w W Ca Cb bo C (.slice (some ⟨gs, 0, none⟩) n c) n (a.st.map (thenSt b)) (.slice A3 nr q3) nr (thenRs a b) (.slice A' nj c') nj LV) (hn : a.st.length = n) (hnr : (thenRs a b).length = nr) (hnj : LV.length = nj) (hLV : x.tv ++ y.tv = LV) :
    ThenPost w a b (.returned (.tuple #[.agg #[.string a.fr, .string b.tn, .slice (some ⟨gs, 0, none⟩) n c, .slice A3 nr q3, .slice A' nj c'], .int .i64 0])) (W.setRow (w.heap.size + 1 + 1) #[.string a.fr, .string b.tn, .slice (some ⟨gs, 0, none⟩) n c, .slice A3 nr q3, .slice A' nj c']) := by
  have hM : thenM a b = thenG a b := if_pos hE
  have hb6 := below_row ts.hb (show w.heap.size ≤ w.heap.size + 1 + 1 by omega) #[.string a.fr, .string b.tn, .slice (some ⟨gs, 0, none⟩) n c, .slice A3 nr q3, .slice A' nj c']
  have ho : Only (fun i => i = w.heap.size + 1 + 1) W (W.setRow (w.heap.size + 1 + 1) #[.string a.fr, .string b.tn, .slice (some ⟨gs, 0, none⟩) n c, .slice A3 nr q3, .slice A' nj c']) := row_only
  have o1 := ho.owns ts.os (fun q hq f => own_blk_ne ts.os ts.kz (by decide) (by rw [hq, f]))
  have o2 := ho.owns ts.or_ (fun q hq f => own_blk_ne ts.or_ ts.kz (by decide) (by rw [hq, f]))
  have o3 := ho.owns ts.ol (fun q hq f => own_blk_ne ts.ol ts.kz (by decide) (by rw [hq, f]))
  have htv : LV.map (·.1) = a.ts ++ b.ts := by rw [← hLV, List.map_append, h.tv, hb.tv]
  have hel := then_lms h hb hb6 hB
  rw [hLV] at hel
  unfold ThenPost
  rw [hE, hM]
  refine ⟨⟨some ⟨gs, 0, none⟩, c, A3, q3, A', c', LV⟩, ?_, ⟨?_, ?_, ?_, ?_, h.fr, hb.tn, ?_⟩, hb6⟩
  · unfold mgC thenG
    simp only [List.length_map, hn, hnr]
    rw [show (a.ts ++ b.ts).length = nj from by rw [← htv, List.length_map]; exact hnj]
  · exact IntsAt.of_row (by rw [← hn]; exact List.length_map _) o1
  · exact PrsAt.of_row hnr o2
  · exact LmsAt.of_row2 hnj o3 hel
  · exact htv
  · intro r hr
    rcases List.mem_append.1 hr with h1 | h1
    · obtain ⟨r0, h2, rfl⟩ := List.mem_map.1 h1
      refine ⟨(h.rn r0 h2).1, ?_⟩
      rcases named_or b.rs r0.2 with e | ⟨r1, h3, e⟩
      · show (namedL b.rs r0.2).size ≤ _
        rw [e]
        exact (h.rn r0 h2).2
      · show (namedL b.rs r0.2).size ≤ _
        rw [e]
        exact (hb.rn r1 h3).2
    · exact hb.rn r (List.mem_filter.1 h1).1

set_option maxRecDepth 100000 in
set_option maxHeartbeats 16000000 in
theorem gthen_any (w : World) (ht : Tbs w) (B : Nat) (a : Mg) (x : MgX) (h : MgAt w B a x) (hB : B ≤ w.heap.size) (hs : SmlG a) (b : Mg) (y : MgX) (hb : MgAt w B b y) (hsb : SmlG b) :
    Calls Tryz.prog 25 #[.agg (mgC a x), .agg (mgC b y)] w (ThenPost w a b) := by
  have hfa := fun W (hW : Below w.heap.size w W) => gformed_any W (ht.below hW) B a x (h.below (hW.mono hB)) (Nat.le_trans hB hW.size) hs
  have hfb := fun W (hW : Below w.heap.size w W) => gformed_any W (ht.below hW) B b y (hb.below (hW.mono hB)) (Nat.le_trans hB hW.size) hsb
  have hmx := fun W (hW : Below w.heap.size w W) (a0 : Int) (h0 : a.st[0]? = some a0) => max_any W B x.a1 a0 a.st x.c1 ((h.below (hW.mono hB)).st) h0 (Nat.le_trans hB hW.size) (by have := hs.1; omega)
  have hfin := fun (E : Int) (hE : thenE a b = E) (h0 : E ≠ 0) W (hb : Below w.heap.size w W) => then_err hE h0 hb
  have hte : thenE a b = if (mgB a && (mgB b && (decide (a.tn = b.fr) && a.st.all fun s => decide (s < (b.st.length : Int))))) = false then 1 else if ¬ ((a.ts ++ b.ts).map (·.id)).Nodup then 9 else if 60 < (thenRs a b).length ∨ 60 < (a.ts ++ b.ts).length then 2 else 0 := rfl
  have hne : mgB a = true → a.st ≠ [] := fun h => (mgB_iff.1 h).2.2.1.1
  have hcl := fun W (hW : Below w.heap.size w W) => cloneI_any W B x.a1 a.st x.c1 ((h.below (hW.mono hB)).st) (Nat.le_trans hB hW.size) hs.1
  have HH := Lib.hid h
  have HHB := Lib.hid hb
  obtain ⟨fa, hfa1⟩ : ∃ r, mgB a = r := ⟨_, rfl⟩
  obtain ⟨fb, hfb1⟩ : ∃ r, mgB b = r := ⟨_, rfl⟩
  have HFA1 := Lib.hid hfa1
  have HFB1 := Lib.hid hfb1
  rw [hfa1] at hfa hte hne
  rw [hfb1] at hfb hte
  clear hfa1 hfb1 h hb
  obtain ⟨afr, atn, ast, ars, ats⟩ := a
  obtain ⟨a1, qa1, a2, qa2, a3, qa3, atv⟩ := x
  obtain ⟨bfr, btn, bst, brs, bts⟩ := b
  obtain ⟨b1, qb1, b2, qb2, b3, qb3, btv⟩ := y
  obtain ⟨an, han⟩ : ∃ k, ast.length = k := ⟨_, rfl⟩
  obtain ⟨ar, har⟩ : ∃ k, ars.length = k := ⟨_, rfl⟩
  obtain ⟨aj, haj⟩ : ∃ k, ats.length = k := ⟨_, rfl⟩
  obtain ⟨bn, hbn⟩ : ∃ k, bst.length = k := ⟨_, rfl⟩
  obtain ⟨br, hbr⟩ : ∃ k, brs.length = k := ⟨_, rfl⟩
  obtain ⟨bj, hbj⟩ : ∃ k, bts.length = k := ⟨_, rfl⟩
  have eA : mgC ⟨afr, atn, ast, ars, ats⟩ ⟨a1, qa1, a2, qa2, a3, qa3, atv⟩ = #[.string afr, .string atn, .slice a1 an qa1, .slice a2 ar qa2, .slice a3 aj qa3] := by unfold mgC; simp only [han, har, haj]
  have eB : mgC ⟨bfr, btn, bst, brs, bts⟩ ⟨b1, qb1, b2, qb2, b3, qb3, btv⟩ = #[.string bfr, .string btn, .slice b1 bn qb1, .slice b2 br qb2, .slice b3 bj qb3] := by unfold mgC; simp only [hbn, hbr, hbj]
  rw [eA] at hfa
  rw [eB] at hfb
  rw [eA, eB]
  simp only at hmx hte hne hcl
  unfold ClonePostI at hcl
  rw [han] at hmx hcl
  rw [hbn] at hte
  have HHA := Lib.hid hfa
  have HHF := Lib.hid hfb
  have HMX := Lib.hid hmx
  have HFIN := Lib.hid hfin
  have HTE := Lib.hid hte
  have HNE := Lib.hid hne
  have HCL := Lib.hid hcl
  have HAN := Lib.hid han
  have HAR := Lib.hid har
  have HAJ := Lib.hid haj
  have HBN := Lib.hid hbn
  have HBR := Lib.hid hbr
  have HBJ := Lib.hid hbj
  have HS := Lib.hid hs
  have HSB := Lib.hid hsb
  have HBH := Lib.hid hB
  clear eA eB hfa hfb hmx hfin hte hne hcl han har haj hbn hbr hbj ht hs hsb hB
  have hb := ((below_self_alloc w (.cells #[.string afr, .string atn, .slice a1 an qa1, .slice a2 ar qa2, .slice a3 aj qa3] 30)).alloc (by simp) (.cells #[.string bfr, .string btn, .slice b1 bn qb1, .slice b2 br qb2, .slice b3 bj qb3] 30)).alloc (by simp; omega) (.cells #[.string ⟨#[]⟩, .string ⟨#[]⟩, .slice none 0 0, .slice none 0 0, .slice none 0 0] 30)
  have k0 := ((Blk.new w 30 #[.string afr, .string atn, .slice a1 an qa1, .slice a2 ar qa2, .slice a3 aj qa3]).alloc (.cells #[.string bfr, .string btn, .slice b1 bn qb1, .slice b2 br qb2, .slice b3 bj qb3] 30)).alloc (.cells #[.string ⟨#[]⟩, .string ⟨#[]⟩, .slice none 0 0, .slice none 0 0, .slice none 0 0] 30)
  have k1 := (Blk.new1 w (.cells #[.string afr, .string atn, .slice a1 an qa1, .slice a2 ar qa2, .slice a3 aj qa3] 30) 30 #[.string bfr, .string btn, .slice b1 bn qb1, .slice b2 br qb2, .slice b3 bj qb3]).alloc (.cells #[.string ⟨#[]⟩, .string ⟨#[]⟩, .slice none 0 0, .slice none 0 0, .slice none 0 0] 30)
  have k2 := Blk.new2 w (.cells #[.string afr, .string atn, .slice a1 an qa1, .slice a2 ar qa2, .slice a3 aj qa3] 30) (.cells #[.string bfr, .string btn, .slice b1 bn qb1, .slice b2 br qb2, .slice b3 bj qb3] 30) 30 #[.string ⟨#[]⟩, .string ⟨#[]⟩, .slice none 0 0, .slice none 0 0, .slice none 0 0]
  have HB := Lib.hid hb
  have K0 := Lib.hid k0
  have K1 := Lib.hid k1
  have K2 := Lib.hid k2
  clear hb k0 k1 k2
  go_enter Tryz.func25, Tryz.ntmps25
  go_upto_region 1 with fail
  generalize ((w.alloc (.cells #[.string afr, .string atn, .slice a1 an qa1, .slice a2 ar qa2, .slice a3 aj qa3] 30)).alloc (.cells #[.string bfr, .string btn, .slice b1 bn qb1, .slice b2 br qb2, .slice b3 bj qb3] 30)).alloc (.cells #[.string ⟨#[]⟩, .string ⟨#[]⟩, .slice none 0 0, .slice none 0 0, .slice none 0 0] 30) = W0 at *
  have CA : Hid (∀ V, PSv W0 V → Calls Tryz.prog 47 #[.agg #[.string afr, .string atn, .slice a1 an qa1, .slice a2 ar qa2, .slice a3 aj qa3]] V fun e w' => e = .returned (.bool fa) ∧ Below V.heap.size V w') := Lib.hid (fun V hV => HHA.out V (HB.out.trans (Below.mono hV HB.out.size)))
  have CB : Hid (∀ V, PSv W0 V → Calls Tryz.prog 47 #[.agg #[.string bfr, .string btn, .slice b1 bn qb1, .slice b2 br qb2, .slice b3 bj qb3]] V fun e w' => e = .returned (.bool fb) ∧ Below V.heap.size V w') := Lib.hid (fun V hV => HHF.out V (HB.out.trans (Below.mono hV HB.out.size)))
  clear HHA HHF
  cases fa with
  | false =>
    refine wp_region_rg2 (PSv W0) RB ([isV (.agg #[.string afr, .string atn, .slice a1 an qa1, .slice a2 ar qa2, .slice a3 aj qa3]), isV (.bool false), isV (.bool true), isV (.bool true), isV (.tuple #[]), isV (.tuple #[]), isV (.tuple #[]), isV (.bool true), isV (.bool true), isV (.tuple #[]), isV (.tuple #[]), isV (.tuple #[]), isV (.tuple #[]), isV (.tuple #[]), isV (.bool true), isV (.bool true), isV (.tuple #[]), isV (.tuple #[]), isV (.tuple #[]), isV (.tuple #[]), isV (.tuple #[]), isV (.tuple #[]), isV (.tuple #[]), isV (.bool true)]) [0, 1, 2, 3, 4, 5, 6, 7, 8, 9, 10, 11, 12, 13, 14, 15, 16, 17, 18, 19, 20, 21, 22, 23] (by kernel_rfl) (by kernel_rfl) (by kernel_rfl) (below_drewM W0) ⟨isV_mono _, isV_mono _, isV_mono _, isV_mono _, isV_mono _, isV_mono _, isV_mono _, isV_mono _, isV_mono _, isV_mono _, isV_mono _, isV_mono _, isV_mono _, isV_mono _, isV_mono _, isV_mono _, isV_mono _, isV_mono _, isV_mono _, isV_mono _, isV_mono _, isV_mono _, isV_mono _, isV_mono _, trivial⟩ ?_
    intro F hF
    simp only [putAll, List.map_cons, List.map_nil, Act.put, List.setIfInBounds_toArray, List.set_cons_succ, List.set_cons_zero] at hF
    have HFX := Lib.hid hF
    clear hF
    refine ⟨fun Q' => ⟨?_, ?_, ?_, ?_, ?_, ?_, ?_, ?_, ?_, ?_, ?_, ?_, ?_, ?_, ?_, ?_, ?_, ?_, ?_, ?_, ?_, ?_, ?_, ?_, trivial⟩, ?_⟩
    · intro u W hS hd hp
      have HS := Lib.hid hS
      clear hS
      rw [HFX.out]
      clear hd hp 
      obtain ⟨r0, r1, r2⟩ := (K0.out.below HS.out K0.out.lt).all
      go_wp2_with fail
      exact ⟨_, by rw [HFX.out]; simp [upd], rfl, HS.out, Below.refl _ _⟩
    · intro u W hS hd hp
      have HS := Lib.hid hS
      clear hS
      obtain ⟨d0, -⟩ := hd
      have e0 : u 0 = .agg #[.string afr, .string atn, .slice a1 an qa1, .slice a2 ar qa2, .slice a3 aj qa3] := d0 rfl
      rw [HFX.out]
      simp only [e0]
      clear hp d0
      have HC := Lib.hid (CA.out W HS.out)
      go_wp2_with fail
      refine HC.out.mono ?_
      rintro e W2 ⟨rfl, b2⟩
      go_wp2_with fail
      exact ⟨_, by rw [HFX.out]; simp [upd, e0], rfl, PSv.go HS.out b2, b2⟩
    · intro u W hS hd hp
      have HS := Lib.hid hS
      clear hS
      obtain ⟨d1, -⟩ := hd
      have e1 : u 1 = .bool false := d1 rfl
      rw [HFX.out]
      simp only [e1]
      clear hp d1
      go_wp2_with fail
      exact ⟨_, by rw [HFX.out]; simp [upd, e1], rfl, HS.out, Below.refl _ _⟩
    · intro u W hS hd hp
      have HS := Lib.hid hS
      clear hS
      obtain ⟨d2, -⟩ := hd
      have e2 : u 2 = .bool true := d2 rfl
      rw [HFX.out]
      simp only [e2]
      clear hp d2
      go_wp2_with fail
      exact ⟨_, by rw [HFX.out]; simp [upd, e2], rfl, HS.out, Below.refl _ _⟩
    · intro u W hS hd hp
      have HS := Lib.hid hS
      clear hS
      obtain ⟨d3, -⟩ := hd
      have e3 : u 3 = .bool true := d3 rfl
      rw [HFX.out]
      simp only [e3]
      clear hp d3
      go_wp2_with fail
      exact ⟨_, by rw [HFX.out]; simp [upd, e3]; rfl, rfl, HS.out, Below.refl _ _⟩
    · intro u W hS hd hp
      have HS := Lib.hid hS
      clear hS
      obtain ⟨d4, _, d3, -⟩ := hd
      have e4 : u 4 = .tuple #[] := d4 rfl
      have e3 : u 3 = .bool true := d3 rfl
      rw [HFX.out]
      simp only [e4, e3]
      clear hp d4 d3
      go_wp2_with fail
      exact ⟨_, by rw [HFX.out]; simp [upd, e4, e3]; rfl, rfl, HS.out, Below.refl _ _⟩
    · intro u W hS hd hp
      have HS := Lib.hid hS
      clear hS
      obtain ⟨d5, d3, -⟩ := hd
      have e5 : u 5 = .tuple #[] := d5 rfl
      have e3 : u 3 = .bool true := d3 rfl
      rw [HFX.out]
      simp only [e5, e3]
      clear hp d5 d3
      go_wp2_with fail
      exact ⟨_, by rw [HFX.out]; simp [upd, e5, e3]; rfl, rfl, HS.out, Below.refl _ _⟩
    · intro u W hS hd hp
      have HS := Lib.hid hS
      clear hS
      obtain ⟨d3, d6, -⟩ := hd
      have e3 : u 3 = .bool true := d3 rfl
      have e6 : u 6 = .tuple #[] := d6 rfl
      rw [HFX.out]
      simp only [e3, e6]
      clear hp d3 d6
      go_wp2_with fail
      exact ⟨_, by rw [HFX.out]; simp [upd, e3, e6], rfl, HS.out, Below.refl _ _⟩
    · intro u W hS hd hp
      have HS := Lib.hid hS
      clear hS
      obtain ⟨d7, -⟩ := hd
      have e7 : u 7 = .bool true := d7 rfl
      rw [HFX.out]
      simp only [e7]
      clear hp d7
      go_wp2_with fail
      exact ⟨_, by rw [HFX.out]; simp [upd, e7], rfl, HS.out, Below.refl _ _⟩
    · intro u W hS hd hp
      have HS := Lib.hid hS
      clear hS
      obtain ⟨d8, -⟩ := hd
      have e8 : u 8 = .bool true := d8 rfl
      rw [HFX.out]
      simp only [e8]
      clear hp d8
      go_wp2_with fail
      exact ⟨_, by rw [HFX.out]; simp [upd, e8]; rfl, rfl, HS.out, Below.refl _ _⟩
    · intro u W hS hd hp
      have HS := Lib.hid hS
      clear hS
      obtain ⟨d9, d8, -⟩ := hd
      have e9 : u 9 = .tuple #[] := d9 rfl
      have e8 : u 8 = .bool true := d8 rfl
      rw [HFX.out]
      simp only [e9, e8]
      clear hp d9 d8
      go_wp2_with fail
      exact ⟨_, by rw [HFX.out]; simp [upd, e9, e8]; rfl, rfl, HS.out, Below.refl _ _⟩
    · intro u W hS hd hp
      have HS := Lib.hid hS
      clear hS
      obtain ⟨d8, -⟩ := hd
      have e8 : u 8 = .bool true := d8 rfl
      rw [HFX.out]
      simp only [e8]
      clear hp d8
      go_wp2_with fail
      exact ⟨_, by rw [HFX.out]; simp [upd, e8]; rfl, rfl, HS.out, Below.refl _ _⟩
    · intro u W hS hd hp
      have HS := Lib.hid hS
      clear hS
      obtain ⟨d11, d8, -⟩ := hd
      have e11 : u 11 = .tuple #[] := d11 rfl
      have e8 : u 8 = .bool true := d8 rfl
      rw [HFX.out]
      simp only [e11, e8]
      clear hp d11 d8
      go_wp2_with fail
      exact ⟨_, by rw [HFX.out]; simp [upd, e11, e8]; rfl, rfl, HS.out, Below.refl _ _⟩
    · intro u W hS hd hp
      have HS := Lib.hid hS
      clear hS
      obtain ⟨d10, d12, d8, -⟩ := hd
      have e10 : u 10 = .tuple #[] := d10 rfl
      have e12 : u 12 = .tuple #[] := d12 rfl
      have e8 : u 8 = .bool true := d8 rfl
      rw [HFX.out]
      simp only [e10, e12, e8]
      clear hp d10 d12 d8
      go_wp2_with fail
      exact ⟨_, by rw [HFX.out]; simp [upd, e10, e12, e8]; rfl, rfl, HS.out, Below.refl _ _⟩
    · intro u W hS hd hp
      have HS := Lib.hid hS
      clear hS
      obtain ⟨d8, d13, -⟩ := hd
      have e8 : u 8 = .bool true := d8 rfl
      have e13 : u 13 = .tuple #[] := d13 rfl
      rw [HFX.out]
      simp only [e8, e13]
      clear hp d8 d13
      go_wp2_with fail
      exact ⟨_, by rw [HFX.out]; simp [upd, e8, e13], rfl, HS.out, Below.refl _ _⟩
    · intro u W hS hd hp
      have HS := Lib.hid hS
      clear hS
      obtain ⟨d14, -⟩ := hd
      have e14 : u 14 = .bool true := d14 rfl
      rw [HFX.out]
      simp only [e14]
      clear hp d14
      go_wp2_with fail
      exact ⟨_, by rw [HFX.out]; simp [upd, e14], rfl, HS.out, Below.refl _ _⟩
    · intro u W hS hd hp
      have HS := Lib.hid hS
      clear hS
      obtain ⟨d15, -⟩ := hd
      have e15 : u 15 = .bool true := d15 rfl
      rw [HFX.out]
      simp only [e15]
      clear hp d15
      go_wp2_with fail
      exact ⟨_, by rw [HFX.out]; simp [upd, e15]; rfl, rfl, HS.out, Below.refl _ _⟩
    · intro u W hS hd hp
      have HS := Lib.hid hS
      clear hS
      obtain ⟨d16, d15, -⟩ := hd
      have e16 : u 16 = .tuple #[] := d16 rfl
      have e15 : u 15 = .bool true := d15 rfl
      rw [HFX.out]
      simp only [e16, e15]
      clear hp d16 d15
      go_wp2_with fail
      exact ⟨_, by rw [HFX.out]; simp [upd, e16, e15]; rfl, rfl, HS.out, Below.refl _ _⟩
    · intro u W hS hd hp
      have HS := Lib.hid hS
      clear hS
      obtain ⟨d17, _, d15, -⟩ := hd
      have e17 : u 17 = .tuple #[] := d17 rfl
      have e15 : u 15 = .bool true := d15 rfl
      rw [HFX.out]
      simp only [e17, e15]
      clear hp d17 d15
      go_wp2_with fail
      exact ⟨_, by rw [HFX.out]; simp [upd, e17, e15]; rfl, rfl, HS.out, Below.refl _ _⟩
    · intro u W hS hd hp
      have HS := Lib.hid hS
      clear hS
      obtain ⟨d15, -⟩ := hd
      have e15 : u 15 = .bool true := d15 rfl
      rw [HFX.out]
      simp only [e15]
      clear hp d15
      go_wp2_with fail
      exact ⟨_, by rw [HFX.out]; simp [upd, e15]; rfl, rfl, HS.out, Below.refl _ _⟩
    · intro u W hS hd hp
      have HS := Lib.hid hS
      clear hS
      obtain ⟨d19, d15, -⟩ := hd
      have e19 : u 19 = .tuple #[] := d19 rfl
      have e15 : u 15 = .bool true := d15 rfl
      rw [HFX.out]
      simp only [e19, e15]
      clear hp d19 d15
      go_wp2_with fail
      exact ⟨_, by rw [HFX.out]; simp [upd, e19, e15]; rfl, rfl, HS.out, Below.refl _ _⟩
    · intro u W hS hd hp
      have HS := Lib.hid hS
      clear hS
      obtain ⟨d20, d15, -⟩ := hd
      have e20 : u 20 = .tuple #[] := d20 rfl
      have e15 : u 15 = .bool true := d15 rfl
      rw [HFX.out]
      simp only [e20, e15]
      clear hp d20 d15
      go_wp2_with fail
      exact ⟨_, by rw [HFX.out]; simp [upd, e20, e15]; rfl, rfl, HS.out, Below.refl _ _⟩
    · intro u W hS hd hp
      have HS := Lib.hid hS
      clear hS
      obtain ⟨d18, d21, d15, -⟩ := hd
      have e18 : u 18 = .tuple #[] := d18 rfl
      have e21 : u 21 = .tuple #[] := d21 rfl
      have e15 : u 15 = .bool true := d15 rfl
      rw [HFX.out]
      simp only [e18, e21, e15]
      clear hp d18 d21 d15
      go_wp2_with fail
      exact ⟨_, by rw [HFX.out]; simp [upd, e18, e21, e15]; rfl, rfl, HS.out, Below.refl _ _⟩
    · intro u W hS hd hp
      have HS := Lib.hid hS
      clear hS
      obtain ⟨d15, d22, -⟩ := hd
      have e15 : u 15 = .bool true := d15 rfl
      have e22 : u 22 = .tuple #[] := d22 rfl
      rw [HFX.out]
      simp only [e15, e22]
      clear hp d15 d22
      go_wp2_with fail
      exact ⟨_, by rw [HFX.out]; simp [upd, e15, e22], rfl, HS.out, Below.refl _ _⟩
    intro u W hS hf
    have eE : u 23 = .bool true := hf 23 (by decide)
    rw [HFX.out]
    simp only [eE]
    clear eE hf HFX F
    have KW := Lib.hid (K2.out.below hS K2.out.lt)
    have HBW := Lib.hid (HB.out.trans (Below.mono hS HB.out.size))
    have HFN := Lib.hid (HFIN.out 1 (by rw [HTE.out]; rfl) (by decide))
    have HLV := Lib.hid (row_loadG KW.out #[.string ⟨#[]⟩, .string ⟨#[]⟩, .slice none 0 0, .slice none 0 0, .slice none 0 0] rfl)
    clear hS HB K0 K1 K2 HFIN
    go_wp2_with (refine wp_rowG rfl (.tmp 4) (.tmp 41) rfl (w.heap.size + 1 + 1) #[.string ⟨#[]⟩, .string ⟨#[]⟩, .slice none 0 0, .slice none 0 0, .slice none 0 0] rfl rfl rfl one5 rfl KW.out ?_)
    exact bodyPost_ret (v := .tuple #[.agg #[.string ⟨#[]⟩, .string ⟨#[]⟩, .slice none 0 0, .slice none 0 0, .slice none 0 0], .int .i64 1]) (by simp [results, Tryz.results25, asAddr, HLV.out]) rfl (HFN.out _ (below_row HBW.out (show w.heap.size ≤ w.heap.size + 1 + 1 by omega) #[.string ⟨#[]⟩, .string ⟨#[]⟩, .slice none 0 0, .slice none 0 0, .slice none 0 0]))
  | true =>
  cases fb with
  | false =>
    refine wp_region_rg2 (PSv W0) RB ([isV (.agg #[.string afr, .string atn, .slice a1 an qa1, .slice a2 ar qa2, .slice a3 aj qa3]), isV (.bool true), isV (.bool false), isV (.bool false), isV (.agg #[.string bfr, .string btn, .slice b1 bn qb1, .slice b2 br qb2, .slice b3 bj qb3]), isV (.bool false), isV (.bool true), isV (.bool true), isV (.bool true), isV (.tuple #[]), isV (.tuple #[]), isV (.tuple #[]), isV (.tuple #[]), isV (.tuple #[]), isV (.bool true), isV (.bool true), isV (.tuple #[]), isV (.tuple #[]), isV (.tuple #[]), isV (.tuple #[]), isV (.tuple #[]), isV (.tuple #[]), isV (.tuple #[]), isV (.bool true)]) [0, 1, 2, 3, 4, 5, 6, 7, 8, 9, 10, 11, 12, 13, 14, 15, 16, 17, 18, 19, 20, 21, 22, 23] (by kernel_rfl) (by kernel_rfl) (by kernel_rfl) (below_drewM W0) ⟨isV_mono _, isV_mono _, isV_mono _, isV_mono _, isV_mono _, isV_mono _, isV_mono _, isV_mono _, isV_mono _, isV_mono _, isV_mono _, isV_mono _, isV_mono _, isV_mono _, isV_mono _, isV_mono _, isV_mono _, isV_mono _, isV_mono _, isV_mono _, isV_mono _, isV_mono _, isV_mono _, isV_mono _, trivial⟩ ?_
    intro F hF
    simp only [putAll, List.map_cons, List.map_nil, Act.put, List.setIfInBounds_toArray, List.set_cons_succ, List.set_cons_zero] at hF
    have HFX := Lib.hid hF
    clear hF
    refine ⟨fun Q' => ⟨?_, ?_, ?_, ?_, ?_, ?_, ?_, ?_, ?_, ?_, ?_, ?_, ?_, ?_, ?_, ?_, ?_, ?_, ?_, ?_, ?_, ?_, ?_, ?_, trivial⟩, ?_⟩
    · intro u W hS hd hp
      have HS := Lib.hid hS
      clear hS
      rw [HFX.out]
      clear hd hp 
      obtain ⟨r0, r1, r2⟩ := (K0.out.below HS.out K0.out.lt).all
      go_wp2_with fail
      exact ⟨_, by rw [HFX.out]; simp [upd], rfl, HS.out, Below.refl _ _⟩
    · intro u W hS hd hp
      have HS := Lib.hid hS
      clear hS
      obtain ⟨d0, -⟩ := hd
      have e0 : u 0 = .agg #[.string afr, .string atn, .slice a1 an qa1, .slice a2 ar qa2, .slice a3 aj qa3] := d0 rfl
      rw [HFX.out]
      simp only [e0]
      clear hp d0
      have HC := Lib.hid (CA.out W HS.out)
      go_wp2_with fail
      refine HC.out.mono ?_
      rintro e W2 ⟨rfl, b2⟩
      go_wp2_with fail
      exact ⟨_, by rw [HFX.out]; simp [upd, e0], rfl, PSv.go HS.out b2, b2⟩
    · intro u W hS hd hp
      have HS := Lib.hid hS
      clear hS
      obtain ⟨d1, -⟩ := hd
      have e1 : u 1 = .bool true := d1 rfl
      rw [HFX.out]
      simp only [e1]
      clear hp d1
      go_wp2_with fail
      exact ⟨_, by rw [HFX.out]; simp [upd, e1], rfl, HS.out, Below.refl _ _⟩
    · intro u W hS hd hp
      have HS := Lib.hid hS
      clear hS
      obtain ⟨d2, -⟩ := hd
      have e2 : u 2 = .bool false := d2 rfl
      rw [HFX.out]
      simp only [e2]
      clear hp d2
      go_wp2_with fail
      exact ⟨_, by rw [HFX.out]; simp [upd, e2], rfl, HS.out, Below.refl _ _⟩
    · intro u W hS hd hp
      have HS := Lib.hid hS
      clear hS
      obtain ⟨d3, -⟩ := hd
      have e3 : u 3 = .bool false := d3 rfl
      rw [HFX.out]
      simp only [e3]
      clear hp d3
      obtain ⟨r0, r1, r2⟩ := (K1.out.below HS.out K1.out.lt).all
      go_wp2_with fail
      exact ⟨_, by rw [HFX.out]; simp [upd, e3], rfl, HS.out, Below.refl _ _⟩
    · intro u W hS hd hp
      have HS := Lib.hid hS
      clear hS
      obtain ⟨d4, _, d3, -⟩ := hd
      have e4 : u 4 = .agg #[.string bfr, .string btn, .slice b1 bn qb1, .slice b2 br qb2, .slice b3 bj qb3] := d4 rfl
      have e3 : u 3 = .bool false := d3 rfl
      rw [HFX.out]
      simp only [e4, e3]
      clear hp d4 d3
      have HC := Lib.hid (CB.out W HS.out)
      go_wp2_with fail
      refine HC.out.mono ?_
      rintro e W2 ⟨rfl, b2⟩
      go_wp2_with fail
      exact ⟨_, by rw [HFX.out]; simp [upd, e4, e3], rfl, PSv.go HS.out b2, b2⟩
    · intro u W hS hd hp
      have HS := Lib.hid hS
      clear hS
      obtain ⟨d5, d3, -⟩ := hd
      have e5 : u 5 = .bool false := d5 rfl
      have e3 : u 3 = .bool false := d3 rfl
      rw [HFX.out]
      simp only [e5, e3]
      clear hp d5 d3
      go_wp2_with fail
      exact ⟨_, by rw [HFX.out]; simp [upd, e5, e3], rfl, HS.out, Below.refl _ _⟩
    · intro u W hS hd hp
      have HS := Lib.hid hS
      clear hS
      obtain ⟨d3, d6, -⟩ := hd
      have e3 : u 3 = .bool false := d3 rfl
      have e6 : u 6 = .bool true := d6 rfl
      rw [HFX.out]
      simp only [e3, e6]
      clear hp d3 d6
      go_wp2_with fail
      exact ⟨_, by rw [HFX.out]; simp [upd, e3, e6], rfl, HS.out, Below.refl _ _⟩
    · intro u W hS hd hp
      have HS := Lib.hid hS
      clear hS
      obtain ⟨d7, -⟩ := hd
      have e7 : u 7 = .bool true := d7 rfl
      rw [HFX.out]
      simp only [e7]
      clear hp d7
      go_wp2_with fail
      exact ⟨_, by rw [HFX.out]; simp [upd, e7], rfl, HS.out, Below.refl _ _⟩
    · intro u W hS hd hp
      have HS := Lib.hid hS
      clear hS
      obtain ⟨d8, -⟩ := hd
      have e8 : u 8 = .bool true := d8 rfl
      rw [HFX.out]
      simp only [e8]
      clear hp d8
      go_wp2_with fail
      exact ⟨_, by rw [HFX.out]; simp [upd, e8]; rfl, rfl, HS.out, Below.refl _ _⟩
    · intro u W hS hd hp
      have HS := Lib.hid hS
      clear hS
      obtain ⟨d9, d8, -⟩ := hd
      have e9 : u 9 = .tuple #[] := d9 rfl
      have e8 : u 8 = .bool true := d8 rfl
      rw [HFX.out]
      simp only [e9, e8]
      clear hp d9 d8
      go_wp2_with fail
      exact ⟨_, by rw [HFX.out]; simp [upd, e9, e8]; rfl, rfl, HS.out, Below.refl _ _⟩
    · intro u W hS hd hp
      have HS := Lib.hid hS
      clear hS
      obtain ⟨d8, -⟩ := hd
      have e8 : u 8 = .bool true := d8 rfl
      rw [HFX.out]
      simp only [e8]
      clear hp d8
      go_wp2_with fail
      exact ⟨_, by rw [HFX.out]; simp [upd, e8]; rfl, rfl, HS.out, Below.refl _ _⟩
    · intro u W hS hd hp
      have HS := Lib.hid hS
      clear hS
      obtain ⟨d11, d8, -⟩ := hd
      have e11 : u 11 = .tuple #[] := d11 rfl
      have e8 : u 8 = .bool true := d8 rfl
      rw [HFX.out]
      simp only [e11, e8]
      clear hp d11 d8
      go_wp2_with fail
      exact ⟨_, by rw [HFX.out]; simp [upd, e11, e8]; rfl, rfl, HS.out, Below.refl _ _⟩
    · intro u W hS hd hp
      have HS := Lib.hid hS
      clear hS
      obtain ⟨d10, d12, d8, -⟩ := hd
      have e10 : u 10 = .tuple #[] := d10 rfl
      have e12 : u 12 = .tuple #[] := d12 rfl
      have e8 : u 8 = .bool true := d8 rfl
      rw [HFX.out]
      simp only [e10, e12, e8]
      clear hp d10 d12 d8
      go_wp2_with fail
      exact ⟨_, by rw [HFX.out]; simp [upd, e10, e12, e8]; rfl, rfl, HS.out, Below.refl _ _⟩
    · intro u W hS hd hp
      have HS := Lib.hid hS
      clear hS
      obtain ⟨d8, d13, -⟩ := hd
      have e8 : u 8 = .bool true := d8 rfl
      have e13 : u 13 = .tuple #[] := d13 rfl
      rw [HFX.out]
      simp only [e8, e13]
      clear hp d8 d13
      go_wp2_with fail
      exact ⟨_, by rw [HFX.out]; simp [upd, e8, e13], rfl, HS.out, Below.refl _ _⟩
    · intro u W hS hd hp
      have HS := Lib.hid hS
      clear hS
      obtain ⟨d14, -⟩ := hd
      have e14 : u 14 = .bool true := d14 rfl
      rw [HFX.out]
      simp only [e14]
      clear hp d14
      go_wp2_with fail
      exact ⟨_, by rw [HFX.out]; simp [upd, e14], rfl, HS.out, Below.refl _ _⟩
    · intro u W hS hd hp
      have HS := Lib.hid hS
      clear hS
      obtain ⟨d15, -⟩ := hd
      have e15 : u 15 = .bool true := d15 rfl
      rw [HFX.out]
      simp only [e15]
      clear hp d15
      go_wp2_with fail
      exact ⟨_, by rw [HFX.out]; simp [upd, e15]; rfl, rfl, HS.out, Below.refl _ _⟩
    · intro u W hS hd hp
      have HS := Lib.hid hS
      clear hS
      obtain ⟨d16, d15, -⟩ := hd
      have e16 : u 16 = .tuple #[] := d16 rfl
      have e15 : u 15 = .bool true := d15 rfl
      rw [HFX.out]
      simp only [e16, e15]
      clear hp d16 d15
      go_wp2_with fail
      exact ⟨_, by rw [HFX.out]; simp [upd, e16, e15]; rfl, rfl, HS.out, Below.refl _ _⟩
    · intro u W hS hd hp
      have HS := Lib.hid hS
      clear hS
      obtain ⟨d17, _, d15, -⟩ := hd
      have e17 : u 17 = .tuple #[] := d17 rfl
      have e15 : u 15 = .bool true := d15 rfl
      rw [HFX.out]
      simp only [e17, e15]
      clear hp d17 d15
      go_wp2_with fail
      exact ⟨_, by rw [HFX.out]; simp [upd, e17, e15]; rfl, rfl, HS.out, Below.refl _ _⟩
    · intro u W hS hd hp
      have HS := Lib.hid hS
      clear hS
      obtain ⟨d15, -⟩ := hd
      have e15 : u 15 = .bool true := d15 rfl
      rw [HFX.out]
      simp only [e15]
      clear hp d15
      go_wp2_with fail
      exact ⟨_, by rw [HFX.out]; simp [upd, e15]; rfl, rfl, HS.out, Below.refl _ _⟩
    · intro u W hS hd hp
      have HS := Lib.hid hS
      clear hS
      obtain ⟨d19, d15, -⟩ := hd
      have e19 : u 19 = .tuple #[] := d19 rfl
      have e15 : u 15 = .bool true := d15 rfl
      rw [HFX.out]
      simp only [e19, e15]
      clear hp d19 d15
      go_wp2_with fail
      exact ⟨_, by rw [HFX.out]; simp [upd, e19, e15]; rfl, rfl, HS.out, Below.refl _ _⟩
    · intro u W hS hd hp
      have HS := Lib.hid hS
      clear hS
      obtain ⟨d20, d15, -⟩ := hd
      have e20 : u 20 = .tuple #[] := d20 rfl
      have e15 : u 15 = .bool true := d15 rfl
      rw [HFX.out]
      simp only [e20, e15]
      clear hp d20 d15
      go_wp2_with fail
      exact ⟨_, by rw [HFX.out]; simp [upd, e20, e15]; rfl, rfl, HS.out, Below.refl _ _⟩
    · intro u W hS hd hp
      have HS := Lib.hid hS
      clear hS
      obtain ⟨d18, d21, d15, -⟩ := hd
      have e18 : u 18 = .tuple #[] := d18 rfl
      have e21 : u 21 = .tuple #[] := d21 rfl
      have e15 : u 15 = .bool true := d15 rfl
      rw [HFX.out]
      simp only [e18, e21, e15]
      clear hp d18 d21 d15
      go_wp2_with fail
      exact ⟨_, by rw [HFX.out]; simp [upd, e18, e21, e15]; rfl, rfl, HS.out, Below.refl _ _⟩
    · intro u W hS hd hp
      have HS := Lib.hid hS
      clear hS
      obtain ⟨d15, d22, -⟩ := hd
      have e15 : u 15 = .bool true := d15 rfl
      have e22 : u 22 = .tuple #[] := d22 rfl
      rw [HFX.out]
      simp only [e15, e22]
      clear hp d15 d22
      go_wp2_with fail
      exact ⟨_, by rw [HFX.out]; simp [upd, e15, e22], rfl, HS.out, Below.refl _ _⟩
    intro u W hS hf
    have eE : u 23 = .bool true := hf 23 (by decide)
    rw [HFX.out]
    simp only [eE]
    clear eE hf HFX F
    have KW := Lib.hid (K2.out.below hS K2.out.lt)
    have HBW := Lib.hid (HB.out.trans (Below.mono hS HB.out.size))
    have HFN := Lib.hid (HFIN.out 1 (by rw [HTE.out]; rfl) (by decide))
    have HLV := Lib.hid (row_loadG KW.out #[.string ⟨#[]⟩, .string ⟨#[]⟩, .slice none 0 0, .slice none 0 0, .slice none 0 0] rfl)
    clear hS HB K0 K1 K2 HFIN
    go_wp2_with (refine wp_rowG rfl (.tmp 4) (.tmp 41) rfl (w.heap.size + 1 + 1) #[.string ⟨#[]⟩, .string ⟨#[]⟩, .slice none 0 0, .slice none 0 0, .slice none 0 0] rfl rfl rfl one5 rfl KW.out ?_)
    exact bodyPost_ret (v := .tuple #[.agg #[.string ⟨#[]⟩, .string ⟨#[]⟩, .slice none 0 0, .slice none 0 0, .slice none 0 0], .int .i64 1]) (by simp [results, Tryz.results25, asAddr, HLV.out]) rfl (HFN.out _ (below_row HBW.out (show w.heap.size ≤ w.heap.size + 1 + 1 by omega) #[.string ⟨#[]⟩, .string ⟨#[]⟩, .slice none 0 0, .slice none 0 0, .slice none 0 0]))
  | true =>
  by_cases hnm : atn = bfr
  case neg =>
    have ES : Hid ((atn.toList == bfr.toList) = false) := Lib.hid (str_no hnm)
    have HNM := Lib.hid hnm
    clear hnm
    refine wp_region_rg2 (PSv W0) RB ([isV (.agg #[.string afr, .string atn, .slice a1 an qa1, .slice a2 ar qa2, .slice a3 aj qa3]), isV (.bool true), isV (.bool false), isV (.bool false), isV (.agg #[.string bfr, .string btn, .slice b1 bn qb1, .slice b2 br qb2, .slice b3 bj qb3]), isV (.bool true), isV (.bool false), isV (.bool false), isV (.bool false), isV (.pointer (some ⟨w.heap.size, 1, none⟩)), isV (.string atn), isV (.pointer (some ⟨w.heap.size + 1, 0, none⟩)), isV (.string bfr), isV (.bool true), isV (.bool true), isV (.bool true), isV (.tuple #[]), isV (.tuple #[]), isV (.tuple #[]), isV (.tuple #[]), isV (.tuple #[]), isV (.tuple #[]), isV (.tuple #[]), isV (.bool true)]) [0, 1, 2, 3, 4, 5, 6, 7, 8, 9, 10, 11, 12, 13, 14, 15, 16, 17, 18, 19, 20, 21, 22, 23] (by kernel_rfl) (by kernel_rfl) (by kernel_rfl) (below_drewM W0) ⟨isV_mono _, isV_mono _, isV_mono _, isV_mono _, isV_mono _, isV_mono _, isV_mono _, isV_mono _, isV_mono _, isV_mono _, isV_mono _, isV_mono _, isV_mono _, isV_mono _, isV_mono _, isV_mono _, isV_mono _, isV_mono _, isV_mono _, isV_mono _, isV_mono _, isV_mono _, isV_mono _, isV_mono _, trivial⟩ ?_
    intro F hF
    simp only [putAll, List.map_cons, List.map_nil, Act.put, List.setIfInBounds_toArray, List.set_cons_succ, List.set_cons_zero] at hF
    have HFX := Lib.hid hF
    clear hF
    refine ⟨fun Q' => ⟨?_, ?_, ?_, ?_, ?_, ?_, ?_, ?_, ?_, ?_, ?_, ?_, ?_, ?_, ?_, ?_, ?_, ?_, ?_, ?_, ?_, ?_, ?_, ?_, trivial⟩, ?_⟩
    · intro u W hS hd hp
      have HS := Lib.hid hS
      clear hS
      rw [HFX.out]
      clear hd hp 
      obtain ⟨r0, r1, r2⟩ := (K0.out.below HS.out K0.out.lt).all
      go_wp2_with fail
      exact ⟨_, by rw [HFX.out]; simp [upd], rfl, HS.out, Below.refl _ _⟩
    · intro u W hS hd hp
      have HS := Lib.hid hS
      clear hS
      obtain ⟨d0, -⟩ := hd
      have e0 : u 0 = .agg #[.string afr, .string atn, .slice a1 an qa1, .slice a2 ar qa2, .slice a3 aj qa3] := d0 rfl
      rw [HFX.out]
      simp only [e0]
      clear hp d0
      have HC := Lib.hid (CA.out W HS.out)
      go_wp2_with fail
      refine HC.out.mono ?_
      rintro e W2 ⟨rfl, b2⟩
      go_wp2_with fail
      exact ⟨_, by rw [HFX.out]; simp [upd, e0], rfl, PSv.go HS.out b2, b2⟩
    · intro u W hS hd hp
      have HS := Lib.hid hS
      clear hS
      obtain ⟨d1, -⟩ := hd
      have e1 : u 1 = .bool true := d1 rfl
      rw [HFX.out]
      simp only [e1]
      clear hp d1
      go_wp2_with fail
      exact ⟨_, by rw [HFX.out]; simp [upd, e1], rfl, HS.out, Below.refl _ _⟩
    · intro u W hS hd hp
      have HS := Lib.hid hS
      clear hS
      obtain ⟨d2, -⟩ := hd
      have e2 : u 2 = .bool false := d2 rfl
      rw [HFX.out]
      simp only [e2]
      clear hp d2
      go_wp2_with fail
      exact ⟨_, by rw [HFX.out]; simp [upd, e2], rfl, HS.out, Below.refl _ _⟩
    · intro u W hS hd hp
      have HS := Lib.hid hS
      clear hS
      obtain ⟨d3, -⟩ := hd
      have e3 : u 3 = .bool false := d3 rfl
      rw [HFX.out]
      simp only [e3]
      clear hp d3
      obtain ⟨r0, r1, r2⟩ := (K1.out.below HS.out K1.out.lt).all
      go_wp2_with fail
      exact ⟨_, by rw [HFX.out]; simp [upd, e3], rfl, HS.out, Below.refl _ _⟩
    · intro u W hS hd hp
      have HS := Lib.hid hS
      clear hS
      obtain ⟨d4, _, d3, -⟩ := hd
      have e4 : u 4 = .agg #[.string bfr, .string btn, .slice b1 bn qb1, .slice b2 br qb2, .slice b3 bj qb3] := d4 rfl
      have e3 : u 3 = .bool false := d3 rfl
      rw [HFX.out]
      simp only [e4, e3]
      clear hp d4 d3
      have HC := Lib.hid (CB.out W HS.out)
      go_wp2_with fail
      refine HC.out.mono ?_
      rintro e W2 ⟨rfl, b2⟩
      go_wp2_with fail
      exact ⟨_, by rw [HFX.out]; simp [upd, e4, e3], rfl, PSv.go HS.out b2, b2⟩
    · intro u W hS hd hp
      have HS := Lib.hid hS
      clear hS
      obtain ⟨d5, d3, -⟩ := hd
      have e5 : u 5 = .bool true := d5 rfl
      have e3 : u 3 = .bool false := d3 rfl
      rw [HFX.out]
      simp only [e5, e3]
      clear hp d5 d3
      go_wp2_with fail
      exact ⟨_, by rw [HFX.out]; simp [upd, e5, e3], rfl, HS.out, Below.refl _ _⟩
    · intro u W hS hd hp
      have HS := Lib.hid hS
      clear hS
      obtain ⟨d3, d6, -⟩ := hd
      have e3 : u 3 = .bool false := d3 rfl
      have e6 : u 6 = .bool false := d6 rfl
      rw [HFX.out]
      simp only [e3, e6]
      clear hp d3 d6
      go_wp2_with fail
      exact ⟨_, by rw [HFX.out]; simp [upd, e3, e6], rfl, HS.out, Below.refl _ _⟩
    · intro u W hS hd hp
      have HS := Lib.hid hS
      clear hS
      obtain ⟨d7, -⟩ := hd
      have e7 : u 7 = .bool false := d7 rfl
      rw [HFX.out]
      simp only [e7]
      clear hp d7
      go_wp2_with fail
      exact ⟨_, by rw [HFX.out]; simp [upd, e7], rfl, HS.out, Below.refl _ _⟩
    · intro u W hS hd hp
      have HS := Lib.hid hS
      clear hS
      obtain ⟨d8, -⟩ := hd
      have e8 : u 8 = .bool false := d8 rfl
      rw [HFX.out]
      simp only [e8]
      clear hp d8
      go_wp2_with fail
      exact ⟨_, by rw [HFX.out]; simp [upd, e8], rfl, HS.out, Below.refl _ _⟩
    · intro u W hS hd hp
      have HS := Lib.hid hS
      clear hS
      obtain ⟨d9, d8, -⟩ := hd
      have e9 : u 9 = .pointer (some ⟨w.heap.size, 1, none⟩) := d9 rfl
      have e8 : u 8 = .bool false := d8 rfl
      rw [HFX.out]
      simp only [e9, e8]
      clear hp d9 d8
      obtain ⟨r0, r1, r2⟩ := (K0.out.below HS.out K0.out.lt).all
      go_wp2_with fail
      exact ⟨_, by rw [HFX.out]; simp [upd, e9, e8], rfl, HS.out, Below.refl _ _⟩
    · intro u W hS hd hp
      have HS := Lib.hid hS
      clear hS
      obtain ⟨d8, -⟩ := hd
      have e8 : u 8 = .bool false := d8 rfl
      rw [HFX.out]
      simp only [e8]
      clear hp d8
      go_wp2_with fail
      exact ⟨_, by rw [HFX.out]; simp [upd, e8], rfl, HS.out, Below.refl _ _⟩
    · intro u W hS hd hp
      have HS := Lib.hid hS
      clear hS
      obtain ⟨d11, d8, -⟩ := hd
      have e11 : u 11 = .pointer (some ⟨w.heap.size + 1, 0, none⟩) := d11 rfl
      have e8 : u 8 = .bool false := d8 rfl
      rw [HFX.out]
      simp only [e11, e8]
      clear hp d11 d8
      obtain ⟨r0, r1, r2⟩ := (K1.out.below HS.out K1.out.lt).all
      go_wp2_with fail
      exact ⟨_, by rw [HFX.out]; simp [upd, e11, e8], rfl, HS.out, Below.refl _ _⟩
    · intro u W hS hd hp
      have HS := Lib.hid hS
      clear hS
      obtain ⟨d10, d12, d8, -⟩ := hd
      have e10 : u 10 = .string atn := d10 rfl
      have e12 : u 12 = .string bfr := d12 rfl
      have e8 : u 8 = .bool false := d8 rfl
      rw [HFX.out]
      simp only [e10, e12, e8]
      clear hp d10 d12 d8
      have es : (atn.toList == bfr.toList) = false := ES.out
      go_wp2_with fail
      exact ⟨_, by rw [HFX.out]; simp [upd, e10, e12, e8], rfl, HS.out, Below.refl _ _⟩
    · intro u W hS hd hp
      have HS := Lib.hid hS
      clear hS
      obtain ⟨d8, d13, -⟩ := hd
      have e8 : u 8 = .bool false := d8 rfl
      have e13 : u 13 = .bool true := d13 rfl
      rw [HFX.out]
      simp only [e8, e13]
      clear hp d8 d13
      go_wp2_with fail
      exact ⟨_, by rw [HFX.out]; simp [upd, e8, e13], rfl, HS.out, Below.refl _ _⟩
    · intro u W hS hd hp
      have HS := Lib.hid hS
      clear hS
      obtain ⟨d14, -⟩ := hd
      have e14 : u 14 = .bool true := d14 rfl
      rw [HFX.out]
      simp only [e14]
      clear hp d14
      go_wp2_with fail
      exact ⟨_, by rw [HFX.out]; simp [upd, e14], rfl, HS.out, Below.refl _ _⟩
    · intro u W hS hd hp
      have HS := Lib.hid hS
      clear hS
      obtain ⟨d15, -⟩ := hd
      have e15 : u 15 = .bool true := d15 rfl
      rw [HFX.out]
      simp only [e15]
      clear hp d15
      go_wp2_with fail
      exact ⟨_, by rw [HFX.out]; simp [upd, e15]; rfl, rfl, HS.out, Below.refl _ _⟩
    · intro u W hS hd hp
      have HS := Lib.hid hS
      clear hS
      obtain ⟨d16, d15, -⟩ := hd
      have e16 : u 16 = .tuple #[] := d16 rfl
      have e15 : u 15 = .bool true := d15 rfl
      rw [HFX.out]
      simp only [e16, e15]
      clear hp d16 d15
      go_wp2_with fail
      exact ⟨_, by rw [HFX.out]; simp [upd, e16, e15]; rfl, rfl, HS.out, Below.refl _ _⟩
    · intro u W hS hd hp
      have HS := Lib.hid hS
      clear hS
      obtain ⟨d17, _, d15, -⟩ := hd
      have e17 : u 17 = .tuple #[] := d17 rfl
      have e15 : u 15 = .bool true := d15 rfl
      rw [HFX.out]
      simp only [e17, e15]
      clear hp d17 d15
      go_wp2_with fail
      exact ⟨_, by rw [HFX.out]; simp [upd, e17, e15]; rfl, rfl, HS.out, Below.refl _ _⟩
    · intro u W hS hd hp
      have HS := Lib.hid hS
      clear hS
      obtain ⟨d15, -⟩ := hd
      have e15 : u 15 = .bool true := d15 rfl
      rw [HFX.out]
      simp only [e15]
      clear hp d15
      go_wp2_with fail
      exact ⟨_, by rw [HFX.out]; simp [upd, e15]; rfl, rfl, HS.out, Below.refl _ _⟩
    · intro u W hS hd hp
      have HS := Lib.hid hS
      clear hS
      obtain ⟨d19, d15, -⟩ := hd
      have e19 : u 19 = .tuple #[] := d19 rfl
      have e15 : u 15 = .bool true := d15 rfl
      rw [HFX.out]
      simp only [e19, e15]
      clear hp d19 d15
      go_wp2_with fail
      exact ⟨_, by rw [HFX.out]; simp [upd, e19, e15]; rfl, rfl, HS.out, Below.refl _ _⟩
    · intro u W hS hd hp
      have HS := Lib.hid hS
      clear hS
      obtain ⟨d20, d15, -⟩ := hd
      have e20 : u 20 = .tuple #[] := d20 rfl
      have e15 : u 15 = .bool true := d15 rfl
      rw [HFX.out]
      simp only [e20, e15]
      clear hp d20 d15
      go_wp2_with fail
      exact ⟨_, by rw [HFX.out]; simp [upd, e20, e15]; rfl, rfl, HS.out, Below.refl _ _⟩
    · intro u W hS hd hp
      have HS := Lib.hid hS
      clear hS
      obtain ⟨d18, d21, d15, -⟩ := hd
      have e18 : u 18 = .tuple #[] := d18 rfl
      have e21 : u 21 = .tuple #[] := d21 rfl
      have e15 : u 15 = .bool true := d15 rfl
      rw [HFX.out]
      simp only [e18, e21, e15]
      clear hp d18 d21 d15
      go_wp2_with fail
      exact ⟨_, by rw [HFX.out]; simp [upd, e18, e21, e15]; rfl, rfl, HS.out, Below.refl _ _⟩
    · intro u W hS hd hp
      have HS := Lib.hid hS
      clear hS
      obtain ⟨d15, d22, -⟩ := hd
      have e15 : u 15 = .bool true := d15 rfl
      have e22 : u 22 = .tuple #[] := d22 rfl
      rw [HFX.out]
      simp only [e15, e22]
      clear hp d15 d22
      go_wp2_with fail
      exact ⟨_, by rw [HFX.out]; simp [upd, e15, e22], rfl, HS.out, Below.refl _ _⟩
    intro u W hS hf
    have eE : u 23 = .bool true := hf 23 (by decide)
    rw [HFX.out]
    simp only [eE]
    clear eE hf HFX F
    have KW := Lib.hid (K2.out.below hS K2.out.lt)
    have HBW := Lib.hid (HB.out.trans (Below.mono hS HB.out.size))
    have HFN := Lib.hid (HFIN.out 1 (by rw [HTE.out]; rw [decide_eq_false HNM.out]; rfl) (by decide))
    have HLV := Lib.hid (row_loadG KW.out #[.string ⟨#[]⟩, .string ⟨#[]⟩, .slice none 0 0, .slice none 0 0, .slice none 0 0] rfl)
    clear hS HB K0 K1 K2 HFIN
    go_wp2_with (refine wp_rowG rfl (.tmp 4) (.tmp 41) rfl (w.heap.size + 1 + 1) #[.string ⟨#[]⟩, .string ⟨#[]⟩, .slice none 0 0, .slice none 0 0, .slice none 0 0] rfl rfl rfl one5 rfl KW.out ?_)
    exact bodyPost_ret (v := .tuple #[.agg #[.string ⟨#[]⟩, .string ⟨#[]⟩, .slice none 0 0, .slice none 0 0, .slice none 0 0], .int .i64 1]) (by simp [results, Tryz.results25, asAddr, HLV.out]) rfl (HFN.out _ (below_row HBW.out (show w.heap.size ≤ w.heap.size + 1 + 1 by omega) #[.string ⟨#[]⟩, .string ⟨#[]⟩, .slice none 0 0, .slice none 0 0, .slice none 0 0]))
  subst hnm
  have ES : Hid ((atn.toList == atn.toList) = true) := Lib.hid (by simp)
  obtain ⟨a0, ha0⟩ : ∃ a0, ast[0]? = some a0 := by
    have := HNE.out (by trivial)
    cases ast with
    | nil => exact absurd rfl this
    | cons s l => exact ⟨s, rfl⟩
  obtain ⟨mx, hmx⟩ : ∃ m, maxI a0 ast = m := ⟨_, rfl⟩
  have hlt : mx < (bn : Int) ↔ ∀ s ∈ ast, s < (bn : Int) := by
    rw [← hmx, maxI_lt]
    exact ⟨fun h => h.2, fun h => ⟨h a0 (List.mem_of_getElem? ha0), h⟩⟩
  have hcm := fun V (hV : PSv W0 V) => HMX.out V (HB.out.trans (Below.mono hV HB.out.size)) a0 ha0
  rw [hmx] at hcm
  have CM : Hid (∀ V, PSv W0 V → Calls Tryz.prog 48 #[.slice a1 an qa1] V fun e w' => e = .returned (.int .i64 mx) ∧ w' = V) := Lib.hid hcm
  have HLT := Lib.hid hlt
  clear HMX hcm hlt hmx ha0
  by_cases hm : mx < (bn : Int)
  case neg =>
    have EM : Hid (decide ((bn : Int) ≤ mx) = true) := Lib.hid (decide_eq_true (by omega))
    have HNM : Hid (¬ ∀ s ∈ ast, s < (bn : Int)) := Lib.hid (fun h => hm (HLT.out.2 h))
    clear hm
    refine wp_region_rg2 (PSv W0) RB ([isV (.agg #[.string afr, .string atn, .slice a1 an qa1, .slice a2 ar qa2, .slice a3 aj qa3]), isV (.bool true), isV (.bool false), isV (.bool false), isV (.agg #[.string atn, .string btn, .slice b1 bn qb1, .slice b2 br qb2, .slice b3 bj qb3]), isV (.bool true), isV (.bool false), isV (.bool false), isV (.bool false), isV (.pointer (some ⟨w.heap.size, 1, none⟩)), isV (.string atn), isV (.pointer (some ⟨w.heap.size + 1, 0, none⟩)), isV (.string atn), isV (.bool false), isV (.bool false), isV (.bool false), isV (.pointer (some ⟨w.heap.size, 2, none⟩)), isV (.slice a1 an qa1), isV (.int .i64 mx), isV (.pointer (some ⟨w.heap.size + 1, 2, none⟩)), isV (.slice b1 bn qb1), isV (.int .i64 (bn : Int)), isV (.bool true), isV (.bool true)]) [0, 1, 2, 3, 4, 5, 6, 7, 8, 9, 10, 11, 12, 13, 14, 15, 16, 17, 18, 19, 20, 21, 22, 23] (by kernel_rfl) (by kernel_rfl) (by kernel_rfl) (below_drewM W0) ⟨isV_mono _, isV_mono _, isV_mono _, isV_mono _, isV_mono _, isV_mono _, isV_mono _, isV_mono _, isV_mono _, isV_mono _, isV_mono _, isV_mono _, isV_mono _, isV_mono _, isV_mono _, isV_mono _, isV_mono _, isV_mono _, isV_mono _, isV_mono _, isV_mono _, isV_mono _, isV_mono _, isV_mono _, trivial⟩ ?_
    intro F hF
    simp only [putAll, List.map_cons, List.map_nil, Act.put, List.setIfInBounds_toArray, List.set_cons_succ, List.set_cons_zero] at hF
    have HFX := Lib.hid hF
    clear hF
    refine ⟨fun Q' => ⟨?_, ?_, ?_, ?_, ?_, ?_, ?_, ?_, ?_, ?_, ?_, ?_, ?_, ?_, ?_, ?_, ?_, ?_, ?_, ?_, ?_, ?_, ?_, ?_, trivial⟩, ?_⟩
    · intro u W hS hd hp
      have HS := Lib.hid hS
      clear hS
      rw [HFX.out]
      clear hd hp 
      obtain ⟨r0, r1, r2⟩ := (K0.out.below HS.out K0.out.lt).all
      go_wp2_with fail
      exact ⟨_, by rw [HFX.out]; simp [upd], rfl, HS.out, Below.refl _ _⟩
    · intro u W hS hd hp
      have HS := Lib.hid hS
      clear hS
      obtain ⟨d0, -⟩ := hd
      have e0 : u 0 = .agg #[.string afr, .string atn, .slice a1 an qa1, .slice a2 ar qa2, .slice a3 aj qa3] := d0 rfl
      rw [HFX.out]
      simp only [e0]
      clear hp d0
      have HC := Lib.hid (CA.out W HS.out)
      go_wp2_with fail
      refine HC.out.mono ?_
      rintro e W2 ⟨rfl, b2⟩
      go_wp2_with fail
      exact ⟨_, by rw [HFX.out]; simp [upd, e0], rfl, PSv.go HS.out b2, b2⟩
    · intro u W hS hd hp
      have HS := Lib.hid hS
      clear hS
      obtain ⟨d1, -⟩ := hd
      have e1 : u 1 = .bool true := d1 rfl
      rw [HFX.out]
      simp only [e1]
      clear hp d1
      go_wp2_with fail
      exact ⟨_, by rw [HFX.out]; simp [upd, e1], rfl, HS.out, Below.refl _ _⟩
    · intro u W hS hd hp
      have HS := Lib.hid hS
      clear hS
      obtain ⟨d2, -⟩ := hd
      have e2 : u 2 = .bool false := d2 rfl
      rw [HFX.out]
      simp only [e2]
      clear hp d2
      go_wp2_with fail
      exact ⟨_, by rw [HFX.out]; simp [upd, e2], rfl, HS.out, Below.refl _ _⟩
    · intro u W hS hd hp
      have HS := Lib.hid hS
      clear hS
      obtain ⟨d3, -⟩ := hd
      have e3 : u 3 = .bool false := d3 rfl
      rw [HFX.out]
      simp only [e3]
      clear hp d3
      obtain ⟨r0, r1, r2⟩ := (K1.out.below HS.out K1.out.lt).all
      go_wp2_with fail
      exact ⟨_, by rw [HFX.out]; simp [upd, e3], rfl, HS.out, Below.refl _ _⟩
    · intro u W hS hd hp
      have HS := Lib.hid hS
      clear hS
      obtain ⟨d4, _, d3, -⟩ := hd
      have e4 : u 4 = .agg #[.string atn, .string btn, .slice b1 bn qb1, .slice b2 br qb2, .slice b3 bj qb3] := d4 rfl
      have e3 : u 3 = .bool false := d3 rfl
      rw [HFX.out]
      simp only [e4, e3]
      clear hp d4 d3
      have HC := Lib.hid (CB.out W HS.out)
      go_wp2_with fail
      refine HC.out.mono ?_
      rintro e W2 ⟨rfl, b2⟩
      go_wp2_with fail
      exact ⟨_, by rw [HFX.out]; simp [upd, e4, e3], rfl, PSv.go HS.out b2, b2⟩
    · intro u W hS hd hp
      have HS := Lib.hid hS
      clear hS
      obtain ⟨d5, d3, -⟩ := hd
      have e5 : u 5 = .bool true := d5 rfl
      have e3 : u 3 = .bool false := d3 rfl
      rw [HFX.out]
      simp only [e5, e3]
      clear hp d5 d3
      go_wp2_with fail
      exact ⟨_, by rw [HFX.out]; simp [upd, e5, e3], rfl, HS.out, Below.refl _ _⟩
    · intro u W hS hd hp
      have HS := Lib.hid hS
      clear hS
      obtain ⟨d3, d6, -⟩ := hd
      have e3 : u 3 = .bool false := d3 rfl
      have e6 : u 6 = .bool false := d6 rfl
      rw [HFX.out]
      simp only [e3, e6]
      clear hp d3 d6
      go_wp2_with fail
      exact ⟨_, by rw [HFX.out]; simp [upd, e3, e6], rfl, HS.out, Below.refl _ _⟩
    · intro u W hS hd hp
      have HS := Lib.hid hS
      clear hS
      obtain ⟨d7, -⟩ := hd
      have e7 : u 7 = .bool false := d7 rfl
      rw [HFX.out]
      simp only [e7]
      clear hp d7
      go_wp2_with fail
      exact ⟨_, by rw [HFX.out]; simp [upd, e7], rfl, HS.out, Below.refl _ _⟩
    · intro u W hS hd hp
      have HS := Lib.hid hS
      clear hS
      obtain ⟨d8, -⟩ := hd
      have e8 : u 8 = .bool false := d8 rfl
      rw [HFX.out]
      simp only [e8]
      clear hp d8
      go_wp2_with fail
      exact ⟨_, by rw [HFX.out]; simp [upd, e8], rfl, HS.out, Below.refl _ _⟩
    · intro u W hS hd hp
      have HS := Lib.hid hS
      clear hS
      obtain ⟨d9, d8, -⟩ := hd
      have e9 : u 9 = .pointer (some ⟨w.heap.size, 1, none⟩) := d9 rfl
      have e8 : u 8 = .bool false := d8 rfl
      rw [HFX.out]
      simp only [e9, e8]
      clear hp d9 d8
      obtain ⟨r0, r1, r2⟩ := (K0.out.below HS.out K0.out.lt).all
      go_wp2_with fail
      exact ⟨_, by rw [HFX.out]; simp [upd, e9, e8], rfl, HS.out, Below.refl _ _⟩
    · intro u W hS hd hp
      have HS := Lib.hid hS
      clear hS
      obtain ⟨d8, -⟩ := hd
      have e8 : u 8 = .bool false := d8 rfl
      rw [HFX.out]
      simp only [e8]
      clear hp d8
      go_wp2_with fail
      exact ⟨_, by rw [HFX.out]; simp [upd, e8], rfl, HS.out, Below.refl _ _⟩
    · intro u W hS hd hp
      have HS := Lib.hid hS
      clear hS
      obtain ⟨d11, d8, -⟩ := hd
      have e11 : u 11 = .pointer (some ⟨w.heap.size + 1, 0, none⟩) := d11 rfl
      have e8 : u 8 = .bool false := d8 rfl
      rw [HFX.out]
      simp only [e11, e8]
      clear hp d11 d8
      obtain ⟨r0, r1, r2⟩ := (K1.out.below HS.out K1.out.lt).all
      go_wp2_with fail
      exact ⟨_, by rw [HFX.out]; simp [upd, e11, e8], rfl, HS.out, Below.refl _ _⟩
    · intro u W hS hd hp
      have HS := Lib.hid hS
      clear hS
      obtain ⟨d10, d12, d8, -⟩ := hd
      have e10 : u 10 = .string atn := d10 rfl
      have e12 : u 12 = .string atn := d12 rfl
      have e8 : u 8 = .bool false := d8 rfl
      rw [HFX.out]
      simp only [e10, e12, e8]
      clear hp d10 d12 d8
      have es : (atn.toList == atn.toList) = true := ES.out
      go_wp2_with fail
      exact ⟨_, by rw [HFX.out]; simp [upd, e10, e12, e8], rfl, HS.out, Below.refl _ _⟩
    · intro u W hS hd hp
      have HS := Lib.hid hS
      clear hS
      obtain ⟨d8, d13, -⟩ := hd
      have e8 : u 8 = .bool false := d8 rfl
      have e13 : u 13 = .bool false := d13 rfl
      rw [HFX.out]
      simp only [e8, e13]
      clear hp d8 d13
      go_wp2_with fail
      exact ⟨_, by rw [HFX.out]; simp [upd, e8, e13], rfl, HS.out, Below.refl _ _⟩
    · intro u W hS hd hp
      have HS := Lib.hid hS
      clear hS
      obtain ⟨d14, -⟩ := hd
      have e14 : u 14 = .bool false := d14 rfl
      rw [HFX.out]
      simp only [e14]
      clear hp d14
      go_wp2_with fail
      exact ⟨_, by rw [HFX.out]; simp [upd, e14], rfl, HS.out, Below.refl _ _⟩
    · intro u W hS hd hp
      have HS := Lib.hid hS
      clear hS
      obtain ⟨d15, -⟩ := hd
      have e15 : u 15 = .bool false := d15 rfl
      rw [HFX.out]
      simp only [e15]
      clear hp d15
      go_wp2_with fail
      exact ⟨_, by rw [HFX.out]; simp [upd, e15], rfl, HS.out, Below.refl _ _⟩
    · intro u W hS hd hp
      have HS := Lib.hid hS
      clear hS
      obtain ⟨d16, d15, -⟩ := hd
      have e16 : u 16 = .pointer (some ⟨w.heap.size, 2, none⟩) := d16 rfl
      have e15 : u 15 = .bool false := d15 rfl
      rw [HFX.out]
      simp only [e16, e15]
      clear hp d16 d15
      obtain ⟨r0, r1, r2⟩ := (K0.out.below HS.out K0.out.lt).all
      go_wp2_with fail
      exact ⟨_, by rw [HFX.out]; simp [upd, e16, e15], rfl, HS.out, Below.refl _ _⟩
    · intro u W hS hd hp
      have HS := Lib.hid hS
      clear hS
      obtain ⟨d17, _, d15, -⟩ := hd
      have e17 : u 17 = .slice a1 an qa1 := d17 rfl
      have e15 : u 15 = .bool false := d15 rfl
      rw [HFX.out]
      simp only [e17, e15]
      clear hp d17 d15
      have HC := Lib.hid (CM.out W HS.out)
      go_wp2_with fail
      refine HC.out.mono ?_
      rintro e W2 ⟨rfl, rfl⟩
      go_wp2_with fail
      exact ⟨_, by rw [HFX.out]; simp [upd, e17, e15], rfl, HS.out, Below.refl _ _⟩
    · intro u W hS hd hp
      have HS := Lib.hid hS
      clear hS
      obtain ⟨d15, -⟩ := hd
      have e15 : u 15 = .bool false := d15 rfl
      rw [HFX.out]
      simp only [e15]
      clear hp d15
      go_wp2_with fail
      exact ⟨_, by rw [HFX.out]; simp [upd, e15], rfl, HS.out, Below.refl _ _⟩
    · intro u W hS hd hp
      have HS := Lib.hid hS
      clear hS
      obtain ⟨d19, d15, -⟩ := hd
      have e19 : u 19 = .pointer (some ⟨w.heap.size + 1, 2, none⟩) := d19 rfl
      have e15 : u 15 = .bool false := d15 rfl
      rw [HFX.out]
      simp only [e19, e15]
      clear hp d19 d15
      obtain ⟨r0, r1, r2⟩ := (K1.out.below HS.out K1.out.lt).all
      go_wp2_with fail
      exact ⟨_, by rw [HFX.out]; simp [upd, e19, e15], rfl, HS.out, Below.refl _ _⟩
    · intro u W hS hd hp
      have HS := Lib.hid hS
      clear hS
      obtain ⟨d20, d15, -⟩ := hd
      have e20 : u 20 = .slice b1 bn qb1 := d20 rfl
      have e15 : u 15 = .bool false := d15 rfl
      rw [HFX.out]
      simp only [e20, e15]
      clear hp d20 d15
      go_wp2_with fail
      exact ⟨_, by rw [HFX.out]; simp [upd, e20, e15], rfl, HS.out, Below.refl _ _⟩
    · intro u W hS hd hp
      have HS := Lib.hid hS
      clear hS
      obtain ⟨d18, d21, d15, -⟩ := hd
      have e18 : u 18 = .int .i64 mx := d18 rfl
      have e21 : u 21 = .int .i64 (bn : Int) := d21 rfl
      have e15 : u 15 = .bool false := d15 rfl
      rw [HFX.out]
      simp only [e18, e21, e15]
      clear hp d18 d21 d15
      have es : decide ((bn : Int) ≤ mx) = true := EM.out
      go_wp2_with fail
      exact ⟨_, by rw [HFX.out]; simp [upd, e18, e21, e15], rfl, HS.out, Below.refl _ _⟩
    · intro u W hS hd hp
      have HS := Lib.hid hS
      clear hS
      obtain ⟨d15, d22, -⟩ := hd
      have e15 : u 15 = .bool false := d15 rfl
      have e22 : u 22 = .bool true := d22 rfl
      rw [HFX.out]
      simp only [e15, e22]
      clear hp d15 d22
      go_wp2_with fail
      exact ⟨_, by rw [HFX.out]; simp [upd, e15, e22], rfl, HS.out, Below.refl _ _⟩
    intro u W hS hf
    have eE : u 23 = .bool true := hf 23 (by decide)
    rw [HFX.out]
    simp only [eE]
    clear eE hf HFX F
    have KW := Lib.hid (K2.out.below hS K2.out.lt)
    have HBW := Lib.hid (HB.out.trans (Below.mono hS HB.out.size))
    have HFN := Lib.hid (HFIN.out 1 (by rw [HTE.out]; rw [if_pos]; simpa using HNM.out) (by decide))
    have HLV := Lib.hid (row_loadG KW.out #[.string ⟨#[]⟩, .string ⟨#[]⟩, .slice none 0 0, .slice none 0 0, .slice none 0 0] rfl)
    clear hS HB K0 K1 K2 HFIN
    go_wp2_with (refine wp_rowG rfl (.tmp 4) (.tmp 41) rfl (w.heap.size + 1 + 1) #[.string ⟨#[]⟩, .string ⟨#[]⟩, .slice none 0 0, .slice none 0 0, .slice none 0 0] rfl rfl rfl one5 rfl KW.out ?_)
    exact bodyPost_ret (v := .tuple #[.agg #[.string ⟨#[]⟩, .string ⟨#[]⟩, .slice none 0 0, .slice none 0 0, .slice none 0 0], .int .i64 1]) (by simp [results, Tryz.results25, asAddr, HLV.out]) rfl (HFN.out _ (below_row HBW.out (show w.heap.size ≤ w.heap.size + 1 + 1 by omega) #[.string ⟨#[]⟩, .string ⟨#[]⟩, .slice none 0 0, .slice none 0 0, .slice none 0 0]))
  have EM : Hid (decide ((bn : Int) ≤ mx) = false) := Lib.hid (decide_eq_false (by omega))
  have HALL := Lib.hid (HLT.out.1 hm)
  clear hm HLT
  refine wp_region_rg2 (PSv W0) RB ([isV (.agg #[.string afr, .string atn, .slice a1 an qa1, .slice a2 ar qa2, .slice a3 aj qa3]), isV (.bool true), isV (.bool false), isV (.bool false), isV (.agg #[.string atn, .string btn, .slice b1 bn qb1, .slice b2 br qb2, .slice b3 bj qb3]), isV (.bool true), isV (.bool false), isV (.bool false), isV (.bool false), isV (.pointer (some ⟨w.heap.size, 1, none⟩)), isV (.string atn), isV (.pointer (some ⟨w.heap.size + 1, 0, none⟩)), isV (.string atn), isV (.bool false), isV (.bool false), isV (.bool false), isV (.pointer (some ⟨w.heap.size, 2, none⟩)), isV (.slice a1 an qa1), isV (.int .i64 mx), isV (.pointer (some ⟨w.heap.size + 1, 2, none⟩)), isV (.slice b1 bn qb1), isV (.int .i64 (bn : Int)), isV (.bool false), isV (.bool false)]) [0, 1, 2, 3, 4, 5, 6, 7, 8, 9, 10, 11, 12, 13, 14, 15, 16, 17, 18, 19, 20, 21, 22, 23] (by kernel_rfl) (by kernel_rfl) (by kernel_rfl) (below_drewM W0) ⟨isV_mono _, isV_mono _, isV_mono _, isV_mono _, isV_mono _, isV_mono _, isV_mono _, isV_mono _, isV_mono _, isV_mono _, isV_mono _, isV_mono _, isV_mono _, isV_mono _, isV_mono _, isV_mono _, isV_mono _, isV_mono _, isV_mono _, isV_mono _, isV_mono _, isV_mono _, isV_mono _, isV_mono _, trivial⟩ ?_
  intro F hF
  simp only [putAll, List.map_cons, List.map_nil, Act.put, List.setIfInBounds_toArray, List.set_cons_succ, List.set_cons_zero] at hF
  have HFX := Lib.hid hF
  clear hF
  refine ⟨fun Q' => ⟨?_, ?_, ?_, ?_, ?_, ?_, ?_, ?_, ?_, ?_, ?_, ?_, ?_, ?_, ?_, ?_, ?_, ?_, ?_, ?_, ?_, ?_, ?_, ?_, trivial⟩, ?_⟩
  · intro u W hS hd hp
    have HS := Lib.hid hS
    clear hS
    rw [HFX.out]
    clear hd hp 
    obtain ⟨r0, r1, r2⟩ := (K0.out.below HS.out K0.out.lt).all
    go_wp2_with fail
    exact ⟨_, by rw [HFX.out]; simp [upd], rfl, HS.out, Below.refl _ _⟩
  · intro u W hS hd hp
    have HS := Lib.hid hS
    clear hS
    obtain ⟨d0, -⟩ := hd
    have e0 : u 0 = .agg #[.string afr, .string atn, .slice a1 an qa1, .slice a2 ar qa2, .slice a3 aj qa3] := d0 rfl
    rw [HFX.out]
    simp only [e0]
    clear hp d0
    have HC := Lib.hid (CA.out W HS.out)
    go_wp2_with fail
    refine HC.out.mono ?_
    rintro e W2 ⟨rfl, b2⟩
    go_wp2_with fail
    exact ⟨_, by rw [HFX.out]; simp [upd, e0], rfl, PSv.go HS.out b2, b2⟩
  · intro u W hS hd hp
    have HS := Lib.hid hS
    clear hS
    obtain ⟨d1, -⟩ := hd
    have e1 : u 1 = .bool true := d1 rfl
    rw [HFX.out]
    simp only [e1]
    clear hp d1
    go_wp2_with fail
    exact ⟨_, by rw [HFX.out]; simp [upd, e1], rfl, HS.out, Below.refl _ _⟩
  · intro u W hS hd hp
    have HS := Lib.hid hS
    clear hS
    obtain ⟨d2, -⟩ := hd
    have e2 : u 2 = .bool false := d2 rfl
    rw [HFX.out]
    simp only [e2]
    clear hp d2
    go_wp2_with fail
    exact ⟨_, by rw [HFX.out]; simp [upd, e2], rfl, HS.out, Below.refl _ _⟩
  · intro u W hS hd hp
    have HS := Lib.hid hS
    clear hS
    obtain ⟨d3, -⟩ := hd
    have e3 : u 3 = .bool false := d3 rfl
    rw [HFX.out]
    simp only [e3]
    clear hp d3
    obtain ⟨r0, r1, r2⟩ := (K1.out.below HS.out K1.out.lt).all
    go_wp2_with fail
    exact ⟨_, by rw [HFX.out]; simp [upd, e3], rfl, HS.out, Below.refl _ _⟩
  · intro u W hS hd hp
    have HS := Lib.hid hS
    clear hS
    obtain ⟨d4, _, d3, -⟩ := hd
    have e4 : u 4 = .agg #[.string atn, .string btn, .slice b1 bn qb1, .slice b2 br qb2, .slice b3 bj qb3] := d4 rfl
    have e3 : u 3 = .bool false := d3 rfl
    rw [HFX.out]
    simp only [e4, e3]
    clear hp d4 d3
    have HC := Lib.hid (CB.out W HS.out)
    go_wp2_with fail
    refine HC.out.mono ?_
    rintro e W2 ⟨rfl, b2⟩
    go_wp2_with fail
    exact ⟨_, by rw [HFX.out]; simp [upd, e4, e3], rfl, PSv.go HS.out b2, b2⟩
  · intro u W hS hd hp
    have HS := Lib.hid hS
    clear hS
    obtain ⟨d5, d3, -⟩ := hd
    have e5 : u 5 = .bool true := d5 rfl
    have e3 : u 3 = .bool false := d3 rfl
    rw [HFX.out]
    simp only [e5, e3]
    clear hp d5 d3
    go_wp2_with fail
    exact ⟨_, by rw [HFX.out]; simp [upd, e5, e3], rfl, HS.out, Below.refl _ _⟩
  · intro u W hS hd hp
    have HS := Lib.hid hS
    clear hS
    obtain ⟨d3, d6, -⟩ := hd
    have e3 : u 3 = .bool false := d3 rfl
    have e6 : u 6 = .bool false := d6 rfl
    rw [HFX.out]
    simp only [e3, e6]
    clear hp d3 d6
    go_wp2_with fail
    exact ⟨_, by rw [HFX.out]; simp [upd, e3, e6], rfl, HS.out, Below.refl _ _⟩
  · intro u W hS hd hp
    have HS := Lib.hid hS
    clear hS
    obtain ⟨d7, -⟩ := hd
    have e7 : u 7 = .bool false := d7 rfl
    rw [HFX.out]
    simp only [e7]
    clear hp d7
    go_wp2_with fail
    exact ⟨_, by rw [HFX.out]; simp [upd, e7], rfl, HS.out, Below.refl _ _⟩
  · intro u W hS hd hp
    have HS := Lib.hid hS
    clear hS
    obtain ⟨d8, -⟩ := hd
    have e8 : u 8 = .bool false := d8 rfl
    rw [HFX.out]
    simp only [e8]
    clear hp d8
    go_wp2_with fail
    exact ⟨_, by rw [HFX.out]; simp [upd, e8], rfl, HS.out, Below.refl _ _⟩
  · intro u W hS hd hp
    have HS := Lib.hid hS
    clear hS
    obtain ⟨d9, d8, -⟩ := hd
    have e9 : u 9 = .pointer (some ⟨w.heap.size, 1, none⟩) := d9 rfl
    have e8 : u 8 = .bool false := d8 rfl
    rw [HFX.out]
    simp only [e9, e8]
    clear hp d9 d8
    obtain ⟨r0, r1, r2⟩ := (K0.out.below HS.out K0.out.lt).all
    go_wp2_with fail
    exact ⟨_, by rw [HFX.out]; simp [upd, e9, e8], rfl, HS.out, Below.refl _ _⟩
  · intro u W hS hd hp
    have HS := Lib.hid hS
    clear hS
    obtain ⟨d8, -⟩ := hd
    have e8 : u 8 = .bool false := d8 rfl
    rw [HFX.out]
    simp only [e8]
    clear hp d8
    go_wp2_with fail
    exact ⟨_, by rw [HFX.out]; simp [upd, e8], rfl, HS.out, Below.refl _ _⟩
  · intro u W hS hd hp
    have HS := Lib.hid hS
    clear hS
    obtain ⟨d11, d8, -⟩ := hd
    have e11 : u 11 = .pointer (some ⟨w.heap.size + 1, 0, none⟩) := d11 rfl
    have e8 : u 8 = .bool false := d8 rfl
    rw [HFX.out]
    simp only [e11, e8]
    clear hp d11 d8
    obtain ⟨r0, r1, r2⟩ := (K1.out.below HS.out K1.out.lt).all
    go_wp2_with fail
    exact ⟨_, by rw [HFX.out]; simp [upd, e11, e8], rfl, HS.out, Below.refl _ _⟩
  · intro u W hS hd hp
    have HS := Lib.hid hS
    clear hS
    obtain ⟨d10, d12, d8, -⟩ := hd
    have e10 : u 10 = .string atn := d10 rfl
    have e12 : u 12 = .string atn := d12 rfl
    have e8 : u 8 = .bool false := d8 rfl
    rw [HFX.out]
    simp only [e10, e12, e8]
    clear hp d10 d12 d8
    have es : (atn.toList == atn.toList) = true := ES.out
    go_wp2_with fail
    exact ⟨_, by rw [HFX.out]; simp [upd, e10, e12, e8], rfl, HS.out, Below.refl _ _⟩
  · intro u W hS hd hp
    have HS := Lib.hid hS
    clear hS
    obtain ⟨d8, d13, -⟩ := hd
    have e8 : u 8 = .bool false := d8 rfl
    have e13 : u 13 = .bool false := d13 rfl
    rw [HFX.out]
    simp only [e8, e13]
    clear hp d8 d13
    go_wp2_with fail
    exact ⟨_, by rw [HFX.out]; simp [upd, e8, e13], rfl, HS.out, Below.refl _ _⟩
  · intro u W hS hd hp
    have HS := Lib.hid hS
    clear hS
    obtain ⟨d14, -⟩ := hd
    have e14 : u 14 = .bool false := d14 rfl
    rw [HFX.out]
    simp only [e14]
    clear hp d14
    go_wp2_with fail
    exact ⟨_, by rw [HFX.out]; simp [upd, e14], rfl, HS.out, Below.refl _ _⟩
  · intro u W hS hd hp
    have HS := Lib.hid hS
    clear hS
    obtain ⟨d15, -⟩ := hd
    have e15 : u 15 = .bool false := d15 rfl
    rw [HFX.out]
    simp only [e15]
    clear hp d15
    go_wp2_with fail
    exact ⟨_, by rw [HFX.out]; simp [upd, e15], rfl, HS.out, Below.refl _ _⟩
  · intro u W hS hd hp
    have HS := Lib.hid hS
    clear hS
    obtain ⟨d16, d15, -⟩ := hd
    have e16 : u 16 = .pointer (some ⟨w.heap.size, 2, none⟩) := d16 rfl
    have e15 : u 15 = .bool false := d15 rfl
    rw [HFX.out]
    simp only [e16, e15]
    clear hp d16 d15
    obtain ⟨r0, r1, r2⟩ := (K0.out.below HS.out K0.out.lt).all
    go_wp2_with fail
    exact ⟨_, by rw [HFX.out]; simp [upd, e16, e15], rfl, HS.out, Below.refl _ _⟩
  · intro u W hS hd hp
    have HS := Lib.hid hS
    clear hS
    obtain ⟨d17, _, d15, -⟩ := hd
    have e17 : u 17 = .slice a1 an qa1 := d17 rfl
    have e15 : u 15 = .bool false := d15 rfl
    rw [HFX.out]
    simp only [e17, e15]
    clear hp d17 d15
    have HC := Lib.hid (CM.out W HS.out)
    go_wp2_with fail
    refine HC.out.mono ?_
    rintro e W2 ⟨rfl, rfl⟩
    go_wp2_with fail
    exact ⟨_, by rw [HFX.out]; simp [upd, e17, e15], rfl, HS.out, Below.refl _ _⟩
  · intro u W hS hd hp
    have HS := Lib.hid hS
    clear hS
    obtain ⟨d15, -⟩ := hd
    have e15 : u 15 = .bool false := d15 rfl
    rw [HFX.out]
    simp only [e15]
    clear hp d15
    go_wp2_with fail
    exact ⟨_, by rw [HFX.out]; simp [upd, e15], rfl, HS.out, Below.refl _ _⟩
  · intro u W hS hd hp
    have HS := Lib.hid hS
    clear hS
    obtain ⟨d19, d15, -⟩ := hd
    have e19 : u 19 = .pointer (some ⟨w.heap.size + 1, 2, none⟩) := d19 rfl
    have e15 : u 15 = .bool false := d15 rfl
    rw [HFX.out]
    simp only [e19, e15]
    clear hp d19 d15
    obtain ⟨r0, r1, r2⟩ := (K1.out.below HS.out K1.out.lt).all
    go_wp2_with fail
    exact ⟨_, by rw [HFX.out]; simp [upd, e19, e15], rfl, HS.out, Below.refl _ _⟩
  · intro u W hS hd hp
    have HS := Lib.hid hS
    clear hS
    obtain ⟨d20, d15, -⟩ := hd
    have e20 : u 20 = .slice b1 bn qb1 := d20 rfl
    have e15 : u 15 = .bool false := d15 rfl
    rw [HFX.out]
    simp only [e20, e15]
    clear hp d20 d15
    go_wp2_with fail
    exact ⟨_, by rw [HFX.out]; simp [upd, e20, e15], rfl, HS.out, Below.refl _ _⟩
  · intro u W hS hd hp
    have HS := Lib.hid hS
    clear hS
    obtain ⟨d18, d21, d15, -⟩ := hd
    have e18 : u 18 = .int .i64 mx := d18 rfl
    have e21 : u 21 = .int .i64 (bn : Int) := d21 rfl
    have e15 : u 15 = .bool false := d15 rfl
    rw [HFX.out]
    simp only [e18, e21, e15]
    clear hp d18 d21 d15
    have es : decide ((bn : Int) ≤ mx) = false := EM.out
    go_wp2_with fail
    exact ⟨_, by rw [HFX.out]; simp [upd, e18, e21, e15], rfl, HS.out, Below.refl _ _⟩
  · intro u W hS hd hp
    have HS := Lib.hid hS
    clear hS
    obtain ⟨d15, d22, -⟩ := hd
    have e15 : u 15 = .bool false := d15 rfl
    have e22 : u 22 = .bool false := d22 rfl
    rw [HFX.out]
    simp only [e15, e22]
    clear hp d15 d22
    go_wp2_with fail
    exact ⟨_, by rw [HFX.out]; simp [upd, e15, e22], rfl, HS.out, Below.refl _ _⟩
  intro u W hS hf
  have eE : u 23 = .bool false := hf 23 (by decide)
  rw [HFX.out]
  simp only [eE]
  clear eE hf HFX F
  replace K0 := Lib.hid (K0.out.below hS K0.out.lt)
  replace K1 := Lib.hid (K1.out.below hS K1.out.lt)
  replace K2 := Lib.hid (K2.out.below hS K2.out.lt)
  replace HB := Lib.hid (HB.out.trans (Below.mono hS HB.out.size))
  clear hS CA CB CM ES EM
  obtain ⟨wq, rfl⟩ : ∃ q, q = W := ⟨W, rfl⟩

  have hmga := mgB_iff.1 HFA1.out
  have hmgb := mgB_iff.1 HFB1.out
  have hda := (difB_iff.1 hmga.2.2.2.2.1).2
  have hdb := (difB_iff.1 hmgb.2.2.2.2.1).2
  have hta := (difB_iff.1 hmga.2.2.2.2.2).2.2
  have htb := (difB_iff.1 hmgb.2.2.2.2.2).2.2
  have hsta := hmga.2.2.2.1
  have hl60 := hmga.2.2.1.2
  simp only at hda hdb hta htb hsta hl60
  rw [HAJ.out] at hta
  rw [HBJ.out] at htb
  rw [HAN.out] at hl60
  have HDA := Lib.hid hda
  have HDB := Lib.hid hdb
  have HSTA := Lib.hid hsta
  have han0 : 0 < an := by
    rw [← HAN.out]
    exact List.length_pos_iff.2 (HNE.out (by trivial))
  have hatl : atv.length = aj := by have := congrArg List.length HH.out.tv; simp only [List.length_map] at this; rw [this]; exact HAJ.out
  have hbtl : btv.length = bj := by have := congrArg List.length HHB.out.tv; simp only [List.length_map] at this; rw [this]; exact HBJ.out
  have HATL := Lib.hid hatl
  have HBTL := Lib.hid hbtl
  have hcc := fun V (hV : PSv wq V) => HCL.out V (HB.out.trans (Below.mono hV HB.out.size))
  have hco := fun V (hV : PSv wq V) bk (kb : Blk V bk 25 #[.slice a3 atv.length qa3, .slice b3 btv.length qb3]) => concatL_any V B (Nat.le_trans HBH.out (HB.out.trans (Below.mono hV HB.out.size)).size) a3 atv qa3 ((HH.out.below ((HB.out.trans (Below.mono hV HB.out.size)).mono HBH.out)).ts) b3 btv qb3 ((HHB.out.below ((HB.out.trans (Below.mono hV HB.out.size)).mono HBH.out)).ts) (by omega) (by omega) bk kb
  rw [hatl, hbtl] at hco
  have HCC := Lib.hid hcc
  have HCO := Lib.hid hco
  obtain ⟨LV, hLV⟩ : ∃ L, atv ++ btv = L := ⟨_, rfl⟩
  have hLVl : LV.length = aj + bj := by rw [← hLV, List.length_append, hatl, hbtl]
  rw [hLV] at HCO
  have HLV := Lib.hid hLV
  have HLVL := Lib.hid hLVl
  have hRD : ∀ V, PSv wq V → Blk V w.heap.size 30 #[.string afr, .string atn, .slice a1 an qa1, .slice a2 ar qa2, .slice a3 aj qa3] ∧ Blk V (w.heap.size + 1) 30 #[.string atn, .string btn, .slice b1 bn qb1, .slice b2 br qb2, .slice b3 bj qb3] := fun V hV => ⟨K0.out.below hV K0.out.lt, K1.out.below hV K1.out.lt⟩
  have RD := Lib.hid hRD
  clear hmga hmgb hda hdb hsta hatl hbtl hcc hco hLV hLVl hRD HCL
  go_upto_region 3 with fail
  refine wp_region_rg2 (PSv wq) (R3 wq.heap.size afr btn an ast (aj + bj) LV) ([isV (.pointer (some ⟨w.heap.size, 0, none⟩)), isV (.string afr), isV (.pointer (some ⟨w.heap.size + 1, 1, none⟩)), isV (.string btn), isV (.pointer (some ⟨w.heap.size, 2, none⟩)), isV (.slice a1 an qa1), ownI wq.heap.size an ast, isV (.pointer (some ⟨w.heap.size, 4, none⟩)), isV (.slice a3 aj qa3), isV (.pointer (some ⟨w.heap.size + 1, 4, none⟩)), isV (.slice b3 bj qb3), rowK wq.heap.size 25 #[.slice a3 aj qa3, .slice b3 bj qb3] 2 2, ownL wq.heap.size (aj + bj) LV, aggT wq.heap.size afr btn an ast (aj + bj) LV, ptrT wq.heap.size, finV wq.heap.size afr btn an ast (aj + bj) LV 14]) [0, 1, 2, 3, 4, 5, 6, 7, 8, 9, 10, 11, 12, 13, 14, 15] (by kernel_rfl) (by kernel_rfl) (by kernel_rfl) (below_drewM wq) ⟨isV_mono _, isV_mono _, isV_mono _, isV_mono _, isV_mono _, isV_mono _, ownI_mono wq.heap.size afr btn an ast (aj + bj) LV _ _ _, isV_mono _, isV_mono _, isV_mono _, isV_mono _, rowK_mono wq.heap.size afr btn an ast (aj + bj) LV _ _ _ _ _ (by decide), ownL_mono wq.heap.size afr btn an ast (aj + bj) LV _ _ _, aggT_mono wq.heap.size afr btn an ast (aj + bj) LV, ptrT_mono wq.heap.size afr btn an ast (aj + bj) LV, finV_mono wq.heap.size afr btn an ast (aj + bj) LV 14, trivial⟩ ?_
  intro F hF
  simp only [putAll, List.map_cons, List.map_nil, Act.put, List.setIfInBounds_toArray, List.set_cons_succ, List.set_cons_zero] at hF
  have HFX := Lib.hid hF
  clear hF
  refine ⟨fun Q' => ⟨?_, ?_, ?_, ?_, ?_, ?_, ?_, ?_, ?_, ?_, ?_, ?_, ?_, ?_, ?_, ?_, trivial⟩, ?_⟩
  · intro u W hS hd hp
    have HS := Lib.hid hS
    clear hS
    rw [HFX.out]
    clear hd hp 
    go_wp2_with fail
    exact ⟨_, by rw [HFX.out]; simp [upd], rfl, HS.out, R3.of_below (Below.refl _ _)⟩
  · intro u W hS hd hp
    have HS := Lib.hid hS
    clear hS
    obtain ⟨d0, -⟩ := hd
    have e0 : u 0 = .pointer (some ⟨w.heap.size, 0, none⟩) := d0 rfl
    rw [HFX.out]
    simp only [e0]
    clear hp d0
    obtain ⟨r0, r1, r2⟩ := (RD.out W HS.out).1.all
    go_wp2_with fail
    exact ⟨_, by rw [HFX.out]; simp [upd, e0], rfl, HS.out, R3.of_below (Below.refl _ _)⟩
  · intro u W hS hd hp
    have HS := Lib.hid hS
    clear hS
    rw [HFX.out]
    clear hd hp 
    go_wp2_with fail
    exact ⟨_, by rw [HFX.out]; simp [upd], rfl, HS.out, R3.of_below (Below.refl _ _)⟩
  · intro u W hS hd hp
    have HS := Lib.hid hS
    clear hS
    obtain ⟨d2, -⟩ := hd
    have e2 : u 2 = .pointer (some ⟨w.heap.size + 1, 1, none⟩) := d2 rfl
    rw [HFX.out]
    simp only [e2]
    clear hp d2
    obtain ⟨r0, r1, r2⟩ := (RD.out W HS.out).2.all
    go_wp2_with fail
    exact ⟨_, by rw [HFX.out]; simp [upd, e2], rfl, HS.out, R3.of_below (Below.refl _ _)⟩
  · intro u W hS hd hp
    have HS := Lib.hid hS
    clear hS
    rw [HFX.out]
    clear hd hp 
    go_wp2_with fail
    exact ⟨_, by rw [HFX.out]; simp [upd], rfl, HS.out, R3.of_below (Below.refl _ _)⟩
  · intro u W hS hd hp
    have HS := Lib.hid hS
    clear hS
    obtain ⟨d4, -⟩ := hd
    have e4 : u 4 = .pointer (some ⟨w.heap.size, 2, none⟩) := d4 rfl
    rw [HFX.out]
    simp only [e4]
    clear hp d4
    obtain ⟨r0, r1, r2⟩ := (RD.out W HS.out).1.all
    go_wp2_with fail
    exact ⟨_, by rw [HFX.out]; simp [upd, e4], rfl, HS.out, R3.of_below (Below.refl _ _)⟩
  · intro u W hS hd hp
    have HS := Lib.hid hS
    clear hS
    obtain ⟨d5, -⟩ := hd
    have e5 : u 5 = .slice a1 an qa1 := d5 rfl
    rw [HFX.out]
    simp only [e5]
    clear hp d5
    have HC := Lib.hid (HCC.out W HS.out)
    go_wp2_with fail
    refine HC.out.mono ?_
    rintro e W2 ⟨A, c, rfl, ho, b2⟩
    go_wp2_with fail
    exact ⟨_, by rw [HFX.out]; simp [upd, e5], ⟨A, c, rfl, owns_base ho (Below.size HS.out)⟩, PSv.go HS.out b2, R3.of_below b2⟩
  · intro u W hS hd hp
    have HS := Lib.hid hS
    clear hS
    rw [HFX.out]
    clear hd hp 
    go_wp2_with fail
    exact ⟨_, by rw [HFX.out]; simp [upd], rfl, HS.out, R3.of_below (Below.refl _ _)⟩
  · intro u W hS hd hp
    have HS := Lib.hid hS
    clear hS
    obtain ⟨d7, -⟩ := hd
    have e7 : u 7 = .pointer (some ⟨w.heap.size, 4, none⟩) := d7 rfl
    rw [HFX.out]
    simp only [e7]
    clear hp d7
    obtain ⟨r0, r1, r2⟩ := (RD.out W HS.out).1.all
    go_wp2_with fail
    exact ⟨_, by rw [HFX.out]; simp [upd, e7], rfl, HS.out, R3.of_below (Below.refl _ _)⟩
  · intro u W hS hd hp
    have HS := Lib.hid hS
    clear hS
    rw [HFX.out]
    clear hd hp 
    go_wp2_with fail
    exact ⟨_, by rw [HFX.out]; simp [upd], rfl, HS.out, R3.of_below (Below.refl _ _)⟩
  · intro u W hS hd hp
    have HS := Lib.hid hS
    clear hS
    obtain ⟨d9, -⟩ := hd
    have e9 : u 9 = .pointer (some ⟨w.heap.size + 1, 4, none⟩) := d9 rfl
    rw [HFX.out]
    simp only [e9]
    clear hp d9
    obtain ⟨r0, r1, r2⟩ := (RD.out W HS.out).2.all
    go_wp2_with fail
    exact ⟨_, by rw [HFX.out]; simp [upd, e9], rfl, HS.out, R3.of_below (Below.refl _ _)⟩
  · intro u W hS hd hp
    have HS := Lib.hid hS
    clear hS
    obtain ⟨d8, d10, -⟩ := hd
    have e8 : u 8 = .slice a3 aj qa3 := d8 rfl
    have e10 : u 10 = .slice b3 bj qb3 := d10 rfl
    rw [HFX.out]
    simp only [e8, e10]
    clear hp d8 d10
    have kn := Blk.new W 25 #[.slice a3 aj qa3, .slice b3 bj qb3]
    have bn0 := below_self_alloc W (.cells #[.slice a3 aj qa3, .slice b3 bj qb3] 25)
    go_wp2_with fail
    exact ⟨_, by rw [HFX.out]; simp [upd, e8, e10], ⟨_, rfl, Below.size HS.out, kn⟩, PSv.go HS.out bn0, R3.of_below bn0⟩
  · intro u W hS hd hp
    have HS := Lib.hid hS
    clear hS
    obtain ⟨d11, -⟩ := hd
    obtain ⟨g11, e11, gb11, gk11⟩ : (rowK wq.heap.size 25 #[.slice a3 aj qa3, .slice b3 bj qb3] 2 2).p (u 11) (u 11) W := d11 rfl
    rw [HFX.out]
    simp only [e11]
    clear hp d11
    have HC := Lib.hid (HCO.out W HS.out _ gk11)
    go_wp2_with fail
    refine HC.out.mono ?_
    rintro e W2 ⟨vv, rfl, ho, b2⟩
    rw [HLVL.out] at ho
    obtain ⟨A, c, rfl⟩ := own_slice ho
    go_wp2_with fail
    exact ⟨_, by rw [HFX.out]; simp [upd, e11], ⟨A, c, rfl, owns_base ho (Below.size HS.out)⟩, PSv.go HS.out b2, R3.of_below b2⟩
  · intro u W hS hd hp
    have HS := Lib.hid hS
    clear hS
    obtain ⟨d1, d3, d6, d12, -⟩ := hd
    have e1 : u 1 = .string afr := d1 rfl
    have e3 : u 3 = .string btn := d3 rfl
    obtain ⟨A6, c6, e6, o6⟩ : (ownI wq.heap.size an ast).p (u 6) (u 6) W := d6 rfl
    obtain ⟨A12, c12, e12, o12⟩ : (ownL wq.heap.size (aj + bj) LV).p (u 12) (u 12) W := d12 rfl
    rw [HFX.out]
    simp only [e1, e3, e6, e12]
    clear hp d1 d3 d6 d12
    go_wp2_with fail
    exact ⟨_, by rw [HFX.out]; simp [upd, e1, e3, e6, e12], ⟨_, _, _, _, rfl, o6, o12⟩, HS.out, R3.of_below (Below.refl _ _)⟩
  · intro u W hS hd hp
    have HS := Lib.hid hS
    clear hS
    rw [HFX.out]
    clear hd hp 
    have kn := Blk.new W 30 #[.string ⟨#[]⟩, .string ⟨#[]⟩, .slice none 0 0, .slice none 0 0, .slice none 0 0]
    have bn0 := below_self_alloc W (.cells #[.string ⟨#[]⟩, .string ⟨#[]⟩, .slice none 0 0, .slice none 0 0, .slice none 0 0] 30)
    go_wp2_with fail
    exact ⟨_, by rw [HFX.out]; simp [upd], ⟨_, rfl, Below.size HS.out, _, kn, rfl⟩, PSv.go HS.out bn0, R3.of_below bn0⟩
  · intro u W hS hd hp
    have HS := Lib.hid hS
    clear hS
    obtain ⟨d14, d13, -⟩ := hd
    obtain ⟨g14, e14, gb14, gm14⟩ : (ptrT wq.heap.size).p (u 14) (u 14) W := d14 rfl
    obtain ⟨A13, c13, A13', c13', e13, o13, o13'⟩ : (aggT wq.heap.size afr btn an ast (aj + bj) LV).p (u 13) (u 13) W := d13 rfl
    rw [HFX.out]
    simp only [e14, e13]
    clear hp d14 d13
    obtain ⟨cs0, km0, ks0⟩ := gm14
    have HST := Lib.hid (R3.store (base := wq.heap.size) (fr := afr) (bn := btn) gb14 ⟨cs0, km0, ks0⟩ row_only (row_blk km0) o13 o13')
    go_wp2_with (refine wp_rowG rfl (.tmp 6) (.tmp 55) rfl g14 #[.string afr, .string btn, .slice A13 an c13, .slice none 0 0, .slice A13' (aj + bj) c13'] rfl rfl rfl one5 ks0 km0 ?_)
    exact ⟨undef, by rw [HFX.out]; simp [upd, e14, e13], ⟨g14, (show upd u 15 undef 14 = _ from by simp [upd, e14]), gb14, HST.out.2⟩, PSv.go2 HS.out gb14, HST.out.1⟩
  intro u W hS hf
  obtain ⟨bo, e14, hbo, A, c, A', c', hk, ho, hl⟩ : (finV wq.heap.size afr btn an ast (aj + bj) LV 14).p (u 14) (u 15) W := hf 15 (by decide)
  rw [HFX.out]
  simp only [e14]
  clear e14 hf HFX F
  obtain ⟨gs, hA, hgs, -⟩ := row_some ho han0
  subst hA
  have hw3 : w.heap.size ≤ wq.heap.size := HB.out.size
  have hk2 := K2.out.lt
  have TS := Lib.hid (⟨HB.out.trans (Below.mono hS hw3), K0.out.below hS K0.out.lt, K1.out.below hS K1.out.lt, K2.out.below hS K2.out.lt, hk, owns_base ho hw3, World.ownsRow_nil _ _ _ _, owns_base hl hw3, by omega⟩ : ThS w W #[.string afr, .string atn, .slice a1 an qa1, .slice a2 ar qa2, .slice a3 aj qa3] #[.string atn, .string btn, .slice b1 bn qb1, .slice b2 br qb2, .slice b3 bj qb3] bo #[.string afr, .string btn, .slice (some ⟨gs, 0, none⟩) an c, .slice none 0 0, .slice A' (aj + bj) c'] (.slice (some ⟨gs, 0, none⟩) an c) an ast (.slice none 0 0) 0 [] (.slice A' (aj + bj) c') (aj + bj) LV)
  clear hk ho hl hbo hS hw3 hk2 K0 K1 K2 HB RD HCC HCO
  obtain ⟨t0, t1, t2⟩ := TS.out.ka.all
  go_wp2_with fail
  go_loopw [59] (fun i wr => ∃ k : Nat, k ≤ an ∧ i = .int .i64 (k : Int) ∧ Hid (ThS w wr #[.string afr, .string atn, .slice a1 an qa1, .slice a2 ar qa2, .slice a3 aj qa3] #[.string atn, .string btn, .slice b1 bn qb1, .slice b2 br qb2, .slice b3 bj qb3] bo #[.string afr, .string btn, .slice (some ⟨gs, 0, none⟩) an c, .slice none 0 0, .slice A' (aj + bj) c'] (.slice (some ⟨gs, 0, none⟩) an c) an (stK ⟨atn, btn, bst, brs, bts⟩ ast k) (.slice none 0 0) 0 [] (.slice A' (aj + bj) c') (aj + bj) LV)) (fun i _ => an - (intOf i).toNat)
  case atStart => exact ⟨0, Nat.zero_le _, rfl, TS⟩
  case round =>
    clear TS t0 t1 t2
    obtain ⟨k, hk, rfl, TS⟩ := hrel
    by_cases hlt : k < an
    · obtain ⟨s, hs⟩ : ∃ s, ast[k]? = some s := ⟨_, List.getElem?_eq_getElem (by rw [HAN.out]; exact hlt)⟩
      obtain ⟨ga, oa, hA1, hga, p0⟩ := (HH.out.below (TS.out.hb.mono HBH.out)).st k s hs
      have hA1 : a1 = some ⟨ga, oa, none⟩ := hA1
      subst hA1
      have p0 : wr.cell? ⟨ga, oa + k, none⟩ = some (.int .i64 s) := p0
      have ib0 : (0 : Int) ≤ (k : Int) := by omega
      have ib1 : (k : Int) < (an : Int) := by omega
      by_cases hs0 : 0 ≤ s
      case neg =>
        have hnx := stK_skip (b := ⟨atn, btn, bst, brs, bts⟩) hs hs0
        have TS2 : Hid (ThS w wr #[.string afr, .string atn, .slice (some ⟨ga, oa, none⟩) an qa1, .slice a2 ar qa2, .slice a3 aj qa3] #[.string atn, .string btn, .slice b1 bn qb1, .slice b2 br qb2, .slice b3 bj qb3] bo _ _ an (stK ⟨atn, btn, bst, brs, bts⟩ ast (k + 1)) _ 0 [] _ (aj + bj) LV) := Lib.hid (by rw [hnx]; exact TS.out)
        have c0 : decide (0 ≤ s) = false := decide_eq_false hs0
        clear hs hnx hs0
        go_wp2
        go_roundw
        case rel => exact ⟨k + 1, by omega, by go_num, TS2⟩
        case measure => simp [intOf]; omega
      obtain ⟨sn, rfl⟩ : ∃ n : Nat, s = (n : Int) := ⟨s.toNat, by omega⟩
      have hsn := HALL.out _ (List.mem_of_getElem? hs)
      obtain ⟨ns, hns⟩ : ∃ x, bst[sn]? = some x := ⟨_, List.getElem?_eq_getElem (by rw [HBN.out]; omega)⟩
      obtain ⟨gb, ob, hB1, hgb, p1⟩ := (HHB.out.below (TS.out.hb.mono HBH.out)).st sn ns hns
      have hB1 : b1 = some ⟨gb, ob, none⟩ := hB1
      subst hB1
      have p1 : wr.cell? ⟨gb, ob + sn, none⟩ = some (.int .i64 ns) := p1
      have hth : thenSt ⟨atn, btn, bst, brs, bts⟩ (sn : Int) = ns := by
        unfold thenSt newSt
        rw [if_pos (by omega), Int.toNat_natCast]
        show (bst[sn]?).getD 0 = ns
        rw [hns]
        rfl
      have hnx := stK_next (b := ⟨atn, btn, bst, brs, bts⟩) hs
      rw [hth] at hnx
      have TS2 : Hid (ThS w (wr.drew.setCell ⟨gs, k, none⟩ (.int .i64 ns)) #[.string afr, .string atn, .slice (some ⟨ga, oa, none⟩) an qa1, .slice a2 ar qa2, .slice a3 aj qa3] #[.string atn, .string btn, .slice (some ⟨gb, ob, none⟩) bn qb1, .slice b2 br qb2, .slice b3 bj qb3] bo _ _ an (stK ⟨atn, btn, bst, brs, bts⟩ ast (k + 1)) _ 0 [] _ (aj + bj) LV) := Lib.hid (by rw [hnx]; exact (TS.out.below (below_drewM wr)).stage k ns)
      have c0 : decide (0 ≤ (sn : Int)) = true := decide_eq_true hs0
      have cs := TS.out.os.cellAt k (by omega)
      obtain ⟨v0, hv0⟩ : ∃ v, (intCells (stK ⟨atn, btn, bst, brs, bts⟩ ast k))[k]? = some v := ⟨_, List.getElem?_eq_getElem (by rw [intCells_len, stK_len, HAN.out]; omega)⟩
      rw [hv0] at cs
      have fz := TS.out.os.frozenAt k
      have ic0 : (0 : Int) ≤ (sn : Int) := by omega
      have jk : k < an * 1 := by omega
      obtain ⟨t0, t1, t2⟩ := TS.out.kb.all
      obtain ⟨u0, u1, u2⟩ := TS.out.ko.all
      clear hs hns hth hnx hv0 TS
      go_upto_region 8 with fail
      refine wp_region_tail 8 (by kernel_rfl) (by kernel_rfl) ?_
      simp only [List.take_succ_cons, List.take_zero, List.drop_succ_cons, List.drop_zero]
      repeat still_step
      refine wpStill_nil ?_
      go_wp2
      go_roundw
      case rel => exact ⟨k + 1, by omega, by go_num, TS2⟩
      case measure => simp [intOf]; omega
    · obtain rfl : k = an := by omega
      have nb : ¬ (k : Int) < (k : Int) := by omega
      rw [show stK ⟨atn, btn, bst, brs, bts⟩ ast k = ast.map (thenSt ⟨atn, btn, bst, brs, bts⟩) from by rw [← HAN.out]; exact stK_all _ _] at TS
      obtain ⟨SS, hSS⟩ : ∃ S, ast.map (thenSt ⟨atn, btn, bst, brs, bts⟩) = S := ⟨_, rfl⟩
      rw [hSS] at TS
      have HSS := Lib.hid hSS
      clear hSS nb hlt hk
      obtain ⟨i0, hi0, hz0, hz1, hz2⟩ := info_parts Tryz.infoPair
      have hna := fun V (hV : PSv wr V) => gnamed_any V B ⟨afr, atn, ast, ars, ats⟩ ⟨a1, qa1, a2, qa2, a3, qa3, atv⟩ ((HH.out.below ((TS.out.hb.trans (Below.mono hV TS.out.hb.size)).mono HBH.out)).rs) (Nat.le_trans HBH.out (Nat.le_trans TS.out.hb.size (Below.size hV))) (by have := HDA.out.2; simp only at this ⊢; omega) HDA.out.1
      have hnb := fun V (hV : PSv wr V) => gnamed_any V B ⟨atn, btn, bst, brs, bts⟩ ⟨b1, qb1, b2, qb2, b3, qb3, btv⟩ ((HHB.out.below ((TS.out.hb.trans (Below.mono hV TS.out.hb.size)).mono HBH.out)).rs) (Nat.le_trans HBH.out (Nat.le_trans TS.out.hb.size (Below.size hV))) (by have := HDB.out.2; simp only at this ⊢; omega) HDB.out.1
      rw [show mgC ⟨afr, atn, ast, ars, ats⟩ ⟨a1, qa1, a2, qa2, a3, qa3, atv⟩ = #[.string afr, .string atn, .slice a1 k qa1, .slice a2 ar qa2, .slice a3 aj qa3] from by unfold mgC; simp only [HAN.out, HAR.out, HAJ.out]] at hna
      rw [show mgC ⟨atn, btn, bst, brs, bts⟩ ⟨b1, qb1, b2, qb2, b3, qb3, btv⟩ = #[.string atn, .string btn, .slice b1 bn qb1, .slice b2 br qb2, .slice b3 bj qb3] from by unfold mgC; simp only [HBN.out, HBR.out, HBJ.out]] at hnb
      have CNA := Lib.hid hna
      have CNB := Lib.hid hnb
      clear hna hnb
      go_upto_region 10 with fail
      refine wp_region_rg2 (PSv wr) RB ([isV (.agg #[.string afr, .string atn, .slice a1 k qa1, .slice a2 ar qa2, .slice a3 aj qa3]), mapNV wr.heap.size ars, isV (.agg #[.string atn, .string btn, .slice b1 bn qb1, .slice b2 br qb2, .slice b3 bj qb3]), mapNV wr.heap.size brs, mapNV wr.heap.size ars, mapNV wr.heap.size brs]) [0, 1, 2, 3, 4, 5] (by kernel_rfl) (by kernel_rfl) (by kernel_rfl) (below_drewM wr) ⟨isV_mono _, mapNV_mono _ _, isV_mono _, mapNV_mono _ _, mapNV_mono _ _, mapNV_mono _ _, trivial⟩ ?_
      intro F hF
      simp only [putAll, List.map_cons, List.map_nil, Act.put, List.setIfInBounds_toArray, List.set_cons_succ, List.set_cons_zero] at hF
      have HFX := Lib.hid hF
      clear hF
      refine ⟨fun Q' => ⟨?_, ?_, ?_, ?_, ?_, ?_, trivial⟩, ?_⟩
      · intro u W hS hd hp
        have HS := Lib.hid hS
        clear hS
        rw [HFX.out]
        clear hd hp 
        obtain ⟨r0, r1, r2⟩ := (TS.out.below HS.out).ka.all
        go_wp2_with fail
        exact ⟨_, by rw [HFX.out]; simp [upd], rfl, HS.out, Below.refl _ _⟩
      · intro u W hS hd hp
        have HS := Lib.hid hS
        clear hS
        obtain ⟨d0, -⟩ := hd
        have e0 : u 0 = .agg #[.string afr, .string atn, .slice a1 k qa1, .slice a2 ar qa2, .slice a3 aj qa3] := d0 rfl
        rw [HFX.out]
        simp only [e0]
        clear hp d0
        have HC := Lib.hid (CNA.out W HS.out)
        go_wp2_with fail
        refine HC.out.mono ?_
        rintro e W2 ⟨bq, rfl, hbq, hmq, b2⟩
        go_wp2_with fail
        exact ⟨_, by rw [HFX.out]; simp [upd, e0], ⟨bq, rfl, Nat.le_trans (Below.size HS.out) hbq, hmq⟩, PSv.go HS.out b2, b2⟩
      · intro u W hS hd hp
        have HS := Lib.hid hS
        clear hS
        rw [HFX.out]
        clear hd hp 
        obtain ⟨r0, r1, r2⟩ := (TS.out.below HS.out).kb.all
        go_wp2_with fail
        exact ⟨_, by rw [HFX.out]; simp [upd], rfl, HS.out, Below.refl _ _⟩
      · intro u W hS hd hp
        have HS := Lib.hid hS
        clear hS
        obtain ⟨d2, -⟩ := hd
        have e2 : u 2 = .agg #[.string atn, .string btn, .slice b1 bn qb1, .slice b2 br qb2, .slice b3 bj qb3] := d2 rfl
        rw [HFX.out]
        simp only [e2]
        clear hp d2
        have HC := Lib.hid (CNB.out W HS.out)
        go_wp2_with fail
        refine HC.out.mono ?_
        rintro e W2 ⟨bq, rfl, hbq, hmq, b2⟩
        go_wp2_with fail
        exact ⟨_, by rw [HFX.out]; simp [upd, e2], ⟨bq, rfl, Nat.le_trans (Below.size HS.out) hbq, hmq⟩, PSv.go HS.out b2, b2⟩
      · intro u W hS hd hp
        have HS := Lib.hid hS
        clear hS
        obtain ⟨d1, -⟩ := hd
        obtain ⟨z1, e1, gb1, gm1⟩ : (mapNV wr.heap.size ars).p (u 1) (u 1) W := d1 rfl
        rw [HFX.out]
        simp only [e1]
        clear hp d1
        go_wp2_with fail
        exact ⟨_, by rw [HFX.out]; simp [upd, e1], ⟨z1, rfl, gb1, gm1⟩, HS.out, Below.refl _ _⟩
      · intro u W hS hd hp
        have HS := Lib.hid hS
        clear hS
        obtain ⟨d3, -⟩ := hd
        obtain ⟨z3, e3, gb3, gm3⟩ : (mapNV wr.heap.size brs).p (u 3) (u 3) W := d3 rfl
        rw [HFX.out]
        simp only [e3]
        clear hp d3
        go_wp2_with fail
        exact ⟨_, by rw [HFX.out]; simp [upd, e3], ⟨z3, rfl, gb3, gm3⟩, HS.out, Below.refl _ _⟩
      intro u W hS hf
      obtain ⟨n1, e4, -, hm1⟩ : (mapNV wr.heap.size ars).p (u 4) (u 4) W := hf 4 (by decide)
      obtain ⟨n2, e5, -, hm2⟩ : (mapNV wr.heap.size brs).p (u 5) (u 5) W := hf 5 (by decide)
      rw [HFX.out]
      simp only [e4, e5]
      clear e4 e5 hf HFX F
      replace TS := Lib.hid (TS.out.below hS)
      have M1 := Lib.hid hm1
      have M2 := Lib.hid hm2
      clear hm1 hm2 hS CNA CNB
      obtain ⟨t0, t1, t2⟩ := TS.out.ka.all
      go_wp2_with fail
      go_loopg [83] ar (fun n i wr => ∃ (j : Nat) (A2 : Option Addr) (q2 : Nat), j + n = ar ∧ i = .int .i64 (j : Int) ∧ Hid (ThS w wr #[.string afr, .string atn, .slice a1 k qa1, .slice a2 ar qa2, .slice a3 aj qa3] #[.string atn, .string btn, .slice b1 bn qb1, .slice b2 br qb2, .slice b3 bj qb3] bo #[.string afr, .string btn, .slice (some ⟨gs, 0, none⟩) k c, .slice A2 (rrK ⟨afr, atn, ast, ars, ats⟩ ⟨atn, btn, bst, brs, bts⟩ j).length q2, .slice A' (aj + bj) c'] (.slice (some ⟨gs, 0, none⟩) k c) k SS (.slice A2 (rrK ⟨afr, atn, ast, ars, ats⟩ ⟨atn, btn, bst, brs, bts⟩ j).length q2) ((rrK ⟨afr, atn, ast, ars, ats⟩ ⟨atn, btn, bst, brs, bts⟩ j).length) (rrK ⟨afr, atn, ast, ars, ats⟩ ⟨atn, btn, bst, brs, bts⟩ j) (.slice A' (aj + bj) c') (aj + bj) LV) ∧ Hid (MapV wr n1 (nmL ars)) ∧ Hid (MapV wr n2 (nmL brs)))
      case atStart => exact ⟨0, none, 0, Nat.zero_add _, rfl, TS, M1, M2⟩
      case round =>
        clear TS M1 M2 t0 t1 t2
        obtain ⟨j, A2, q2, hj, rfl, TS, M1, M2⟩ := hrel
        by_cases hlt : j < ar
        · obtain ⟨mm, rfl⟩ : ∃ m, gk = m + 1 := ⟨gk - 1, by omega⟩
          obtain ⟨r, hr⟩ : ∃ r, ars[j]? = some r := ⟨_, List.getElem?_eq_getElem (by rw [HAR.out]; exact hlt)⟩
          obtain ⟨rn, rm⟩ := r
          obtain ⟨g5, o5, hA5, hg5, p0, p1⟩ := (HH.out.below (TS.out.hb.mono HBH.out)).rs j _ hr
          have hA5 : a2 = some ⟨g5, o5, none⟩ := hA5
          subst hA5
          have p0 : wr.cell? ⟨g5, o5 + j * 2, none⟩ = some (.string rn) := p0
          have p1 : wr.cell? ⟨g5, o5 + j * 2 + 1, none⟩ = some (.string rm) := p1
          have hnx := rrK_next (a := ⟨afr, atn, ast, ars, ats⟩) (b := ⟨atn, btn, bst, brs, bts⟩) hr
          have hln := rrK_len ⟨afr, atn, ast, ars, ats⟩ ⟨atn, btn, bst, brs, bts⟩ j
          simp only at hnx hln
          rw [HAR.out] at hln
          have hda2 : ar ≤ 60 := by have := HDA.out.2; rw [HAR.out] at this; exact this
          obtain ⟨rr, hrr⟩ : ∃ rr, rrK ⟨afr, atn, ast, ars, ats⟩ ⟨atn, btn, bst, brs, bts⟩ j = rr := ⟨_, rfl⟩
          rw [hrr] at hnx hln TS
          obtain ⟨nn, hnn⟩ : ∃ n, namedL brs rm = n := ⟨_, rfl⟩
          have ka := Blk.new wr 75 #[.string rn, .string rm]
          have b0 := below_self_alloc wr (.cells #[.string rn, .string rm] 75)
          rw [hnn] at hnx
          have HNX := Lib.hid hnx
          have HNN := Lib.hid hnn
          have ib0 : (0 : Int) ≤ (j : Int) := by omega
          have ib1 : (j : Int) < (ar : Int) := by omega
          clear hr hnx hrr hnn
          go_upto_region 14 with fail
          have ts1 := TS.out.below b0
          have m1 := M1.out.below b0 M1.out.lt
          have m2 := M2.out.below b0 M2.out.lt
          replace TS := Lib.hid ts1
          replace M1 := Lib.hid m1
          replace M2 := Lib.hid m2
          have KA := Lib.hid ka
          clear ts1 m1 m2 ka b0 p0 p1
          generalize wr.alloc (.cells #[.string rn, .string rm] 75) = W1 at *
          generalize wr.heap.size = gp at *
          have HREN : Hid (∀ V, PSv W1 V → Calls Tryz.prog 38 #[.map (some n2), .string rm] V fun e w' => e = .returned (.string nn) ∧ Below V.heap.size V w') := Lib.hid (fun V hV => by have := grenamed_any V n2 brs (M2.out.below hV M2.out.lt) rm; rw [HNN.out] at this; exact this)
          refine wp_region_hold (fun V => PSv W1 V) [0, 1, 2, 3, 4, 5, 6] [7, 8, 9] [10, 11, 12] (by kernel_rfl) (by kernel_rfl) (fun _ d _ _ _ h => by cases d <;> exact h) (below_drewM W1) ?_
          simp only [pick, List.drop_succ_cons, List.drop_zero, List.head?_cons, Option.toList_some, List.cons_append, List.nil_append, List.append_nil]
          repeat (refine wpHeld_step ?_ rfl ?_ ?_; rotate_left; · (intro V hV; obtain ⟨y0, y1, y2⟩ := (TS.out.below hV).ko.all; obtain ⟨v0, v1, v2⟩ := (KA.out.below hV KA.out.lt).all; go_simp; with_reducible rfl))
          refine wpHeld_nil ?_
          simp only [wpEarly]
          have HC := Lib.hid (HREN.out _ (below_drewM W1))
          go_wp2_with fail
          refine HC.out.mono ?_
          rintro e W2 ⟨rfl, b2⟩
          have HS2 := Lib.hid (PSv.go (below_drewM W1) b2)
          clear b2 HC HREN
          go_wp2_with fail
          refine ⟨HS2.out, ?_⟩
          go_wp2_with fail
          refine ⟨HS2.out, ?_⟩
          have kn := Blk.new W2 75 #[.string rn, .string nn]
          have HS3 := Lib.hid (PSv.go HS2.out (below_self_alloc W2 (.cells #[.string rn, .string nn] 75)))
          go_wp2_with fail
          refine ⟨HS3.out, ?_⟩
          have TS3 := Lib.hid (TS.out.below HS3.out)
          have M13 := Lib.hid (M1.out.below HS3.out M1.out.lt)
          have M23 := Lib.hid (M2.out.below HS3.out M2.out.lt)
          have own3 := TS3.out.or_
          have hba := TS3.out.hb.size
          clear TS M1 M2 KA
          go_wp2_with (at_builtin; refine wpList_append_lies _ rfl _ _ 28 rfl w.heap.size 75 i0 _ 2 32 Tryz.underlying28 hi0 hz0 hz1 hz2 rfl (by omega) (.slice A2 rr.length q2) rr.length (prCells rr) rfl own3 ⟨W2.heap.size, 0, none⟩ 1 1 [.string rn, .string nn] rfl rfl (World.news_of_block kn) (prCells_one [(rn, nn)]) (by omega) (by unfold maxLen; omega) (by omega) hba _ rfl ?_; intro gz cz Y own4 gr4 l4 z4; have ts4 := TS3.out.right (rr' := rr ++ [(rn, nn)]) (by rw [prCells_app]; exact own4) gr4; have m14 := M13.out.grown gr4 (fun f => M13.out.ne_own own3 f.symm); have m24 := M23.out.grown gr4 (fun f => M23.out.ne_own own3 f.symm); have TS4 := Lib.hid ts4; have M14 := Lib.hid m14; have M24 := Lib.hid m24; obtain ⟨y0, y1, y2⟩ := ts4.ko.all; clear ts4 m14 m24 own4 gr4 l4 own3 kn)
          have TS5 := Lib.hid (TS4.out.set 3 (.slice (some ⟨gz, 0, none⟩) (rr.length + 1) cz))
          have M15 := Lib.hid (M14.out.only (only_set3 (g := bo) (i := 3) (v := .slice (some ⟨gz, 0, none⟩) (rr.length + 1) cz)) (fun f => M14.out.ne_blk TS4.out.ko f))
          have M25 := Lib.hid (M24.out.only (only_set3 (g := bo) (i := 3) (v := .slice (some ⟨gz, 0, none⟩) (rr.length + 1) cz)) (fun f => M24.out.ne_blk TS4.out.ko f))
          clear TS3 M13 M23 TS4 M14 M24 y0 y1 y2 HS2 HS3 hba
          go_wp2
          go_roundg mm
          case rel => exact ⟨j + 1, some ⟨gz, 0, none⟩, cz, by omega, by go_num, by rw [HNX.out, List.length_append]; exact TS5, M15, M25⟩
          case measure => omega
        · obtain rfl : gk = 0 := by omega
          obtain rfl : j = ar := by omega
          have nb : ¬ (j : Int) < (j : Int) := by omega
          rw [show rrK ⟨afr, atn, ast, ars, ats⟩ ⟨atn, btn, bst, brs, bts⟩ j = rrL ⟨afr, atn, ast, ars, ats⟩ ⟨atn, btn, bst, brs, bts⟩ 0 from by rw [← HAR.out]; exact rrK_all _ _] at TS
          obtain ⟨t0, t1, t2⟩ := TS.out.kb.all
          clear hlt hj
          go_wp2_with fail
          clear nb
          go_loopg [103] br (fun n i wr => ∃ (j2 : Nat) (A3 : Option Addr) (q3 : Nat), j2 + n = br ∧ i = .int .i64 (j2 : Int) ∧ Hid (ThS w wr #[.string afr, .string atn, .slice a1 k qa1, .slice a2 j qa2, .slice a3 aj qa3] #[.string atn, .string btn, .slice b1 bn qb1, .slice b2 br qb2, .slice b3 bj qb3] bo #[.string afr, .string btn, .slice (some ⟨gs, 0, none⟩) k c, .slice A3 (rrL ⟨afr, atn, ast, ars, ats⟩ ⟨atn, btn, bst, brs, bts⟩ j2).length q3, .slice A' (aj + bj) c'] (.slice (some ⟨gs, 0, none⟩) k c) k SS (.slice A3 (rrL ⟨afr, atn, ast, ars, ats⟩ ⟨atn, btn, bst, brs, bts⟩ j2).length q3) ((rrL ⟨afr, atn, ast, ars, ats⟩ ⟨atn, btn, bst, brs, bts⟩ j2).length) (rrL ⟨afr, atn, ast, ars, ats⟩ ⟨atn, btn, bst, brs, bts⟩ j2) (.slice A' (aj + bj) c') (aj + bj) LV) ∧ Hid (MapV wr n1 (nmL ars)))
          case atStart => exact ⟨0, A2, q2, Nat.zero_add _, rfl, TS, M1⟩
          case round =>
            clear TS M1 M2 t0 t1 t2
            obtain ⟨j2, A3, q3, hj, rfl, TS, M1⟩ := hrel
            by_cases hlt : j2 < br
            · obtain ⟨mm, rfl⟩ : ∃ m, gk = m + 1 := ⟨gk - 1, by omega⟩
              obtain ⟨r, hr⟩ : ∃ r, brs[j2]? = some r := ⟨_, List.getElem?_eq_getElem (by rw [HBR.out]; exact hlt)⟩
              obtain ⟨rn, rm⟩ := r
              obtain ⟨g5, o5, hA5, hg5, p0, p1⟩ := (HHB.out.below (TS.out.hb.mono HBH.out)).rs j2 _ hr
              have hA5 : b2 = some ⟨g5, o5, none⟩ := hA5
              subst hA5
              have p0 : wr.cell? ⟨g5, o5 + j2 * 2, none⟩ = some (.string rn) := p0
              have p1 : wr.cell? ⟨g5, o5 + j2 * 2 + 1, none⟩ = some (.string rm) := p1
              have hln := rrL_len ⟨afr, atn, ast, ars, ats⟩ ⟨atn, btn, bst, brs, bts⟩ j2
              have hni : rn ∈ ars.map (·.1) → rrL ⟨afr, atn, ast, ars, ats⟩ ⟨atn, btn, bst, brs, bts⟩ (j2 + 1) = rrL ⟨afr, atn, ast, ars, ats⟩ ⟨atn, btn, bst, brs, bts⟩ j2 := fun h => rrL_in (a := ⟨afr, atn, ast, ars, ats⟩) (b := ⟨atn, btn, bst, brs, bts⟩) hr h
              have hno : rn ∉ ars.map (·.1) → rrL ⟨afr, atn, ast, ars, ats⟩ ⟨atn, btn, bst, brs, bts⟩ (j2 + 1) = rrL ⟨afr, atn, ast, ars, ats⟩ ⟨atn, btn, bst, brs, bts⟩ j2 ++ [(rn, rm)] := fun h => rrL_out (a := ⟨afr, atn, ast, ars, ats⟩) (b := ⟨atn, btn, bst, brs, bts⟩) hr h
              simp only at hln
              rw [HAR.out, HBR.out] at hln
              have hda2 : j ≤ 60 := by have := HDA.out.2; rw [HAR.out] at this; exact this
              have hdb2 : br ≤ 60 := by have := HDB.out.2; rw [HBR.out] at this; exact this
              obtain ⟨rr, hrr⟩ : ∃ rr, rrL ⟨afr, atn, ast, ars, ats⟩ ⟨atn, btn, bst, brs, bts⟩ j2 = rr := ⟨_, rfl⟩
              rw [hrr] at hni hno hln TS
              have ka := Blk.new wr 75 #[.string rn, .string rm]
              have b0 := below_self_alloc wr (.cells #[.string rn, .string rm] 75)
              have HNI := Lib.hid hni
              have HNO := Lib.hid hno
              have ib0 : (0 : Int) ≤ (j2 : Int) := by omega
              have ib1 : (j2 : Int) < (br : Int) := by omega
              clear hr hni hno hrr
              go_upto_region 19 with fail
              have ts1 := TS.out.below b0
              have m1 := M1.out.below b0 M1.out.lt
              replace TS := Lib.hid ts1
              replace M1 := Lib.hid m1
              have KA := Lib.hid ka
              clear ts1 m1 b0 p0 p1
              generalize wr.alloc (.cells #[.string rn, .string rm] 75) = W1 at *
              generalize wr.heap.size = gp at *
              obtain ⟨v0, v1, v2⟩ := ka.all
              clear ka
              by_cases hin : rn ∈ ars.map (·.1)
              · obtain ⟨y, hy, hye⟩ := List.mem_map.1 hin
                have hmm : ((.string rn : Value), (.string y.2 : Value)) ∈ nmL ars := List.mem_map.2 ⟨y, hy, by rw [← hye]⟩
                have lk := M1.out.look_some kysStr Tryz.underlying83 (nmL_G _) hmm true
                rw [if_pos rfl] at lk
                have HNX := Lib.hid (HNI.out hin)
                clear hin hy hye hmm HNI HNO
                go_wp2
                go_roundg mm
                case rel => exact ⟨j2 + 1, A3, q3, by omega, by go_num, by rw [HNX.out]; exact TS, M1⟩
                case measure => omega
              · have lk := M1.out.look_none kysStr Tryz.underlying83 (nmL_G _) (x := .string rn) ⟨_, rfl⟩ (nmL_ne hin) (Tryz.zeroValue9 W1) true
                rw [if_pos rfl] at lk
                have HNX := Lib.hid (HNO.out hin)
                clear hin HNI HNO
                go_upto_region 21 with fail
                clear lk
                have kn := Blk.new W1 75 #[.string rn, .string rm]
                have TS3 := Lib.hid (TS.out.below (below_self_alloc W1 (.cells #[.string rn, .string rm] 75)))
                have M13 := Lib.hid (M1.out.below (below_self_alloc W1 (.cells #[.string rn, .string rm] 75)) M1.out.lt)
                have own3 := TS3.out.or_
                have hba := TS3.out.hb.size
                obtain ⟨x0, x1, x2⟩ := TS.out.ko.all
                clear TS M1 KA
                go_upto_region 22 with (at_builtin; refine wpList_append_lies _ rfl _ _ 28 rfl w.heap.size 75 i0 _ 2 32 Tryz.underlying28 hi0 hz0 hz1 hz2 rfl (by omega) (.slice A3 rr.length q3) rr.length (prCells rr) rfl own3 ⟨W1.heap.size, 0, none⟩ 1 1 [.string rn, .string rm] rfl rfl (World.news_of_block kn) (prCells_one [(rn, rm)]) (by omega) (by unfold maxLen; omega) (by omega) hba _ rfl ?_; intro gz cz Y own4 gr4 l4 z4; have ts4 := TS3.out.right (rr' := rr ++ [(rn, rm)]) (by rw [prCells_app]; exact own4) gr4; have m14 := M13.out.grown gr4 (fun f => M13.out.ne_own own3 f.symm); have TS4 := Lib.hid ts4; have M14 := Lib.hid m14; obtain ⟨y0, y1, y2⟩ := ts4.ko.all; clear ts4 m14 own4 gr4 l4 own3 kn)
                have TS5 := Lib.hid (TS4.out.set 3 (.slice (some ⟨gz, 0, none⟩) (rr.length + 1) cz))
                have M15 := Lib.hid (M14.out.only (only_set3 (g := bo) (i := 3) (v := .slice (some ⟨gz, 0, none⟩) (rr.length + 1) cz)) (fun f => M14.out.ne_blk TS4.out.ko f))
                clear TS3 M13 TS4 M14 hba y0 y1 y2 x0 x1 x2 v0 v1 v2
                go_wp2
                go_roundg mm
                case rel => exact ⟨j2 + 1, some ⟨gz, 0, none⟩, cz, by omega, by go_num, by rw [HNX.out, List.length_append]; exact TS5, M15⟩
                case measure => omega
            · obtain rfl : gk = 0 := by omega
              obtain rfl : j2 = br := by omega
              have nb : ¬ (j2 : Int) < (j2 : Int) := by omega
              rw [show rrL ⟨afr, atn, ast, ars, ats⟩ ⟨atn, btn, bst, brs, bts⟩ j2 = thenRs ⟨afr, atn, ast, ars, ats⟩ ⟨atn, btn, bst, brs, bts⟩ from by rw [← HBR.out]; exact rrL_all _ _] at TS
              clear M1 hlt hj i0 hi0 hz0 hz1 hz2
              obtain ⟨RR, hRR⟩ : ∃ R, thenRs ⟨afr, atn, ast, ars, ats⟩ ⟨atn, btn, bst, brs, bts⟩ = R := ⟨_, rfl⟩
              obtain ⟨NR, hNR⟩ : ∃ n, RR.length = n := ⟨_, rfl⟩
              obtain ⟨NJ, hNJ⟩ : ∃ n, aj + bj = n := ⟨_, rfl⟩
              have hpo := fun W5 (hE : thenE ⟨afr, atn, ast, ars, ats⟩ ⟨atn, btn, bst, brs, bts⟩ = 0) ts => then_post (W := W5) (bo := bo) (gs := gs) (c := c) (A3 := A3) (q3 := q3) (A' := A') (c' := c') (n := k) (nr := NR) (nj := NJ) (LV := LV) (Ca := #[.string afr, .string atn, .slice a1 k qa1, .slice a2 j qa2, .slice a3 aj qa3]) (Cb := #[.string atn, .string btn, .slice b1 bn qb1, .slice b2 j2 qb2, .slice b3 bj qb3]) (C := #[.string afr, .string btn, .slice (some ⟨gs, 0, none⟩) k c, .slice A3 NR q3, .slice A' NJ c']) HH.out HHB.out HBH.out hE ts HAN.out (by rw [hRR]; exact hNR) (by rw [HLVL.out]; exact hNJ) HLV.out
              simp only at hpo
              have hlv := LmsAt.of_row2 HLVL.out TS.out.ol (by rw [← HLV.out]; exact then_lms HH.out HHB.out TS.out.hb HBH.out)
              have hids := then_ids HH.out.tv HHB.out.tv
              rw [HLV.out] at hids
              simp only at hids
              have hon := onceL_any wr wr.heap.size A' LV c' hlv (Nat.le_refl _) (by rw [HLVL.out]; omega) 61 (enters_of Tryz.func61 (by kernel_rfl) rfl) keyT_any
              rw [hids, HLVL.out, hNJ] at hon
              have hal : (ats ++ bts).length = NJ := by rw [List.length_append, HAJ.out, HBJ.out]; exact hNJ
              obtain ⟨od, hod⟩ : ∃ r, decide (((ats ++ bts).map (·.id)).Nodup) = r := ⟨_, rfl⟩
              rw [hod] at hon
              have hte := HTE.out
              rw [if_neg (by simpa using HALL.out), hRR, hNR, hal] at hte
              have HPO := Lib.hid hpo
              have HON := Lib.hid hon
              have HTE2 := Lib.hid hte
              have HOD := Lib.hid hod
              have HSR := Lib.hid hRR
              rw [hRR, hNR, hNJ] at TS
              clear hpo hlv hids hon hte hod hRR hNR hal HTE nb
              obtain ⟨t0, t1, t2⟩ := TS.out.ko.all
              go_wp2_with fail
              refine HON.out.mono ?_
              rintro e W5 ⟨rfl, b5⟩
              replace TS := Lib.hid (TS.out.below b5)
              clear t0 t1 t2 HON b5 hNJ
              obtain ⟨t0, t1, t2⟩ := TS.out.ko.all
              have hlx := row_loadG TS.out.kz #[.string ⟨#[]⟩, .string ⟨#[]⟩, .slice none 0 0, .slice none 0 0, .slice none 0 0] rfl
              have HLX := Lib.hid hlx
              clear hlx
              cases od with
              | false =>
                have HFN := Lib.hid (HFIN.out 9 (by rw [HTE2.out, if_pos (of_decide_eq_false HOD.out)]) (by decide))
                go_upto_region 24 with fail
                clear t0 t1 t2
                go_wp2_with (refine wp_rowG rfl (.tmp 4) (.tmp 128) rfl (w.heap.size + 1 + 1) #[.string ⟨#[]⟩, .string ⟨#[]⟩, .slice none 0 0, .slice none 0 0, .slice none 0 0] rfl rfl rfl one5 rfl TS.out.kz ?_)
                exact bodyPost_ret (v := .tuple #[.agg #[.string ⟨#[]⟩, .string ⟨#[]⟩, .slice none 0 0, .slice none 0 0, .slice none 0 0], .int .i64 9]) (by simp [results, Tryz.results25, asAddr, HLX.out]) rfl (HFN.out _ (below_row TS.out.hb (show w.heap.size ≤ w.heap.size + 1 + 1 by omega) #[.string ⟨#[]⟩, .string ⟨#[]⟩, .slice none 0 0, .slice none 0 0, .slice none 0 0]))
              | true =>
                have hte := HTE2.out
                rw [if_neg (fun h => h (of_decide_eq_true HOD.out))] at hte
                obtain ⟨M, hM⟩ : ∃ M : Int, M = max (NR : Int) (NJ : Int) := ⟨_, rfl⟩
                have hmx := run_max2 (P := Tryz.prog) (NR : Int) (NJ : Int) M hM
                by_cases hb60 : 60 < NR ∨ 60 < NJ
                · have c0 : decide (60 < M) = true := decide_eq_true (by omega)
                  have HFN := Lib.hid (HFIN.out 2 (by rw [hte, if_pos hb60]) (by decide))
                  clear hM hte hb60
                  go_upto_region 26 with fail
                  clear t0 t1 t2
                  go_wp2_with (refine wp_rowG rfl (.tmp 4) (.tmp 138) rfl (w.heap.size + 1 + 1) #[.string ⟨#[]⟩, .string ⟨#[]⟩, .slice none 0 0, .slice none 0 0, .slice none 0 0] rfl rfl rfl one5 rfl TS.out.kz ?_)
                  exact bodyPost_ret (v := .tuple #[.agg #[.string ⟨#[]⟩, .string ⟨#[]⟩, .slice none 0 0, .slice none 0 0, .slice none 0 0], .int .i64 2]) (by simp [results, Tryz.results25, asAddr, HLX.out]) rfl (HFN.out _ (below_row TS.out.hb (show w.heap.size ≤ w.heap.size + 1 + 1 by omega) #[.string ⟨#[]⟩, .string ⟨#[]⟩, .slice none 0 0, .slice none 0 0, .slice none 0 0]))
                · have c0 : decide (60 < M) = false := decide_eq_false (by omega)
                  rw [if_neg hb60] at hte
                  have HTE3 := Lib.hid hte
                  have HP := Lib.hid (HPO.out W5 HTE3.out (by rw [HSS.out, HSR.out]; exact TS.out))
                  have HLY := Lib.hid (row_loadG TS.out.kz #[.string afr, .string btn, .slice (some ⟨gs, 0, none⟩) k c, .slice A3 NR q3, .slice A' NJ c'] rfl)
                  clear hM hte hb60
                  go_upto_region 27 with fail
                  go_wp2_with (refine wp_rowG rfl (.tmp 4) (.tmp 139) rfl (w.heap.size + 1 + 1) #[.string afr, .string btn, .slice (some ⟨gs, 0, none⟩) k c, .slice A3 NR q3, .slice A' NJ c'] rfl rfl rfl one5 rfl TS.out.kz ?_)
                  exact bodyPost_ret (v := .tuple #[.agg #[.string afr, .string btn, .slice (some ⟨gs, 0, none⟩) k c, .slice A3 NR q3, .slice A' NJ c'], .int .i64 0]) (by simp [results, Tryz.results25, asAddr, HLY.out]) rfl HP.out
end Go.Proofs.YtknchlpcpgflkaaGreatDoor

namespace Go.Proofs.YtknchlpcpgflkaaGreatDoor
open Go.RowKit Go.Shelf

theorem apply_sml {m : Mt} {g : Mg} {p q : Pc} {day : Int} {l : List Int} (h : Sml m) : Sml (applyM m g p q day l) := by
  by_cases h0 : applyE m g p q day l = 0
  · obtain ⟨-, -, -, -, -, he⟩ := apply_ok h0
    rw [he]
    refine ⟨h.1, h.2.1, Nat.le_trans (mergeR_len _ _) h.2.2.1, ?_⟩
    show (chgL g.ts day l m.ls).length ≤ _
    unfold chgL
    rw [List.length_map]
    exact h.2.2.2
  · rw [apply_no h0]
    exact ⟨Nat.zero_le _, Nat.zero_le _, Nat.zero_le _, Nat.zero_le _⟩
theorem then_sml {a b : Mg} (h : SmlG a) : SmlG (thenM a b) := by
  by_cases h0 : thenE a b = 0
  · obtain ⟨he, -, -, -, -, -, h1, h2⟩ := then_ok h0
    rw [he]
    refine ⟨?_, Nat.le_trans h1 (by decide), Nat.le_trans h2 (by decide)⟩
    show (a.st.map (thenSt b)).length ≤ _
    rw [List.length_map]
    exact h.1
  · rw [show thenM a b = Mg.zero from if_neg h0]
    exact ⟨Nat.zero_le _, Nat.zero_le _, Nat.zero_le _⟩
end Go.Proofs.YtknchlpcpgflkaaGreatDoor
