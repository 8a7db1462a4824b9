/- pandectlaw32's few: what it promises. Migrations, plain laws on Apply and Then. -/
import Derived.Test.YtknchlpcpgflkaaGreatDoorKGBV
import Derived.Test.YtknchlpcpgflkaaGreatDoorKWv
import Derived.Test.YtknchlpcpgflkaaGreatDoorKGBS
import Derived.Test.YtknchlpcpgflkaaGreatDoorKGBF
namespace Go.Proofs.YtknchlpcpgflkaaGreatDoor
open Go.RowKit Go.Shelf

def FewL (m : Mt) (g : Mg) (p q : Pc) (n : Nat) : Prop := FewM m ∧ FewG g ∧ FewP p ∧ FewP q ∧ n ≤ 100
set_option maxRecDepth 100000 in
set_option maxHeartbeats 8000000 in
theorem lfew_any (w : World) (B : Nat) (hB : B ≤ w.heap.size) (m : Mt) (x : MtX) (h : MtAt w B m x) (zm : m.cs.length ≤ 9223372036854775807 ∧ m.mv.length ≤ 9223372036854775807 ∧ m.rs.length ≤ 9223372036854775807 ∧ m.ls.length ≤ 9223372036854775807) (g : Mg) (z : MgX) (hg : MgAt w B g z) (zg : g.st.length ≤ 9223372036854775807 ∧ g.rs.length ≤ 9223372036854775807 ∧ g.ts.length ≤ 9223372036854775807) (p : Pc) (y : PcX) (hp : PcAt w B p y) (zp : p.ss.length ≤ 9223372036854775807 ∧ p.ms.length ≤ 9223372036854775807) (q : Pc) (v : PcX) (hq : PcAt w B q v) (zq : q.ss.length ≤ 9223372036854775807 ∧ q.ms.length ≤ 9223372036854775807) (D : Option Addr) (dn dc : Nat) (hdn : dn ≤ 9223372036854775807) :
    Calls Tryz.prog 11 #[.agg (mtC m x), .agg (mgC g z), .agg (pcC p y), .agg (pcC q v), .slice D dn dc] w (FewPost w (FewL m g p q dn)) := by
  have hf1 := fun W (hW : Below w.heap.size w W) => few_any W B m x (h.below (hW.mono hB)) (Nat.le_trans hB hW.size) zm.1 zm.2.1 zm.2.2.1 zm.2.2.2
  have hf2 := fun W (hW : Below w.heap.size w W) => short_any W B p y (hp.below (hW.mono hB)) (Nat.le_trans hB hW.size) zp.1 zp.2
  have hf3 := fun W (hW : Below w.heap.size w W) => short_any W B q v (hq.below (hW.mono hB)) (Nat.le_trans hB hW.size) zq.1 zq.2
  have hf4 := fun W (hW : Below w.heap.size w W) => gfew_any W B g z (hg.below (hW.mono hB)) (Nat.le_trans hB hW.size) zg.1 zg.2.1 zg.2.2
  have hll := h.len
  have hls := h.ls
  have zl := zm.2.2.2
  have hfin : ∀ (r : Bool) W, (r = true → FewM m ∧ FewP p ∧ FewP q ∧ FewG g ∧ dn ≤ 100) → Below w.heap.size w W → FewPost w (FewL m g p q dn) (.returned (.bool r)) W := fun r W hr hb => ⟨r, rfl, fun e => ⟨(hr e).1, (hr e).2.2.2.1, (hr e).2.1, (hr e).2.2.1, (hr e).2.2.2.2⟩, hb⟩
  obtain ⟨PP, hPP⟩ : ∃ P, FewL m g p q dn = P := ⟨_, rfl⟩
  obtain ⟨P1, hP1⟩ : ∃ P, FewM m = P := ⟨_, rfl⟩
  obtain ⟨P2, hP2⟩ : ∃ P, FewP p = P := ⟨_, rfl⟩
  obtain ⟨P3, hP3⟩ : ∃ P, FewP q = P := ⟨_, rfl⟩
  obtain ⟨P4, hP4⟩ : ∃ P, FewG g = P := ⟨_, rfl⟩
  rw [hP1] at hf1
  rw [hP2] at hf2
  rw [hP3] at hf3
  rw [hP4] at hf4
  rw [hPP, hP1, hP2, hP3, hP4] at hfin
  rw [hPP]
  clear hPP hP1 hP2 hP3 hP4 h hg hp hq zm zg zp zq
  obtain ⟨id, o, cs, pr, st, mv, rs, ls⟩ := m
  obtain ⟨a1, c1, a2, c2, a3, c3, a4, c4, lv⟩ := x
  obtain ⟨fr, tn, gst, grs, gts⟩ := g
  obtain ⟨b1, d1, b2, d2, b3, d3, tv⟩ := z
  obtain ⟨pn, pss, pms⟩ := p
  obtain ⟨e1, f1, e2, f2⟩ := y
  obtain ⟨qn, qss, qms⟩ := q
  obtain ⟨i1, j1, i2, j2⟩ := v
  simp only at hll hls zl
  obtain ⟨nl, hnl⟩ : ∃ k, ls.length = k := ⟨_, rfl⟩
  rw [hnl] at zl hll
  have eM : mtC ⟨id, o, cs, pr, st, mv, rs, ls⟩ ⟨a1, c1, a2, c2, a3, c3, a4, c4, lv⟩ = #[.string id, .int .i64 o, .slice a1 cs.length c1, .string pr, .int .i64 st, .slice a2 mv.length c2, .slice a3 rs.length c3, .slice a4 nl c4] := by unfold mtC; simp only [hnl]
  have eG : mgC ⟨fr, tn, gst, grs, gts⟩ ⟨b1, d1, b2, d2, b3, d3, tv⟩ = #[.string fr, .string tn, .slice b1 gst.length d1, .slice b2 grs.length d2, .slice b3 gts.length d3] := rfl
  have eP : pcC ⟨pn, pss, pms⟩ ⟨e1, f1, e2, f2⟩ = #[.string pn, .slice e1 pss.length f1, .slice e2 pms.length f2] := rfl
  have eQ : pcC ⟨qn, qss, qms⟩ ⟨i1, j1, i2, j2⟩ = #[.string qn, .slice i1 qss.length j1, .slice i2 qms.length j2] := rfl
  rw [eM] at hf1
  rw [eP] at hf2
  rw [eQ] at hf3
  rw [eG] at hf4
  rw [eM, eG, eP, eQ]
  have hb := (((below_self_alloc w (.cells #[.string id, .int .i64 o, .slice a1 cs.length c1, .string pr, .int .i64 st, .slice a2 mv.length c2, .slice a3 rs.length c3, .slice a4 nl c4] 27)).alloc (by simp) (.cells #[.string fr, .string tn, .slice b1 gst.length d1, .slice b2 grs.length d2, .slice b3 gts.length d3] 30)).alloc (by simp; omega) (.cells #[.string pn, .slice e1 pss.length f1, .slice e2 pms.length f2] 34)).alloc (by simp; omega) (.cells #[.string qn, .slice i1 qss.length j1, .slice i2 qms.length j2] 34)
  have s3 : (((w.alloc (.cells #[.string id, .int .i64 o, .slice a1 cs.length c1, .string pr, .int .i64 st, .slice a2 mv.length c2, .slice a3 rs.length c3, .slice a4 nl c4] 27)).alloc (.cells #[.string fr, .string tn, .slice b1 gst.length d1, .slice b2 grs.length d2, .slice b3 gts.length d3] 30)).alloc (.cells #[.string pn, .slice e1 pss.length f1, .slice e2 pms.length f2] 34)).heap.size = w.heap.size + 1 + 1 + 1 := by simp
  have k0 := (((Blk.new w 27 #[.string id, .int .i64 o, .slice a1 cs.length c1, .string pr, .int .i64 st, .slice a2 mv.length c2, .slice a3 rs.length c3, .slice a4 nl c4]).alloc (.cells #[.string fr, .string tn, .slice b1 gst.length d1, .slice b2 grs.length d2, .slice b3 gts.length d3] 30)).alloc (.cells #[.string pn, .slice e1 pss.length f1, .slice e2 pms.length f2] 34)).alloc (.cells #[.string qn, .slice i1 qss.length j1, .slice i2 qms.length j2] 34)
  have k1 := ((Blk.new1 w (.cells #[.string id, .int .i64 o, .slice a1 cs.length c1, .string pr, .int .i64 st, .slice a2 mv.length c2, .slice a3 rs.length c3, .slice a4 nl c4] 27) 30 #[.string fr, .string tn, .slice b1 gst.length d1, .slice b2 grs.length d2, .slice b3 gts.length d3]).alloc (.cells #[.string pn, .slice e1 pss.length f1, .slice e2 pms.length f2] 34)).alloc (.cells #[.string qn, .slice i1 qss.length j1, .slice i2 qms.length j2] 34)
  have k2 := (Blk.new2 w (.cells #[.string id, .int .i64 o, .slice a1 cs.length c1, .string pr, .int .i64 st, .slice a2 mv.length c2, .slice a3 rs.length c3, .slice a4 nl c4] 27) (.cells #[.string fr, .string tn, .slice b1 gst.length d1, .slice b2 grs.length d2, .slice b3 gts.length d3] 30) 34 #[.string pn, .slice e1 pss.length f1, .slice e2 pms.length f2]).alloc (.cells #[.string qn, .slice i1 qss.length j1, .slice i2 qms.length j2] 34)
  have k3 := Blk.new (((w.alloc (.cells #[.string id, .int .i64 o, .slice a1 cs.length c1, .string pr, .int .i64 st, .slice a2 mv.length c2, .slice a3 rs.length c3, .slice a4 nl c4] 27)).alloc (.cells #[.string fr, .string tn, .slice b1 gst.length d1, .slice b2 grs.length d2, .slice b3 gts.length d3] 30)).alloc (.cells #[.string pn, .slice e1 pss.length f1, .slice e2 pms.length f2] 34)) 34 #[.string qn, .slice i1 qss.length j1, .slice i2 qms.length j2]
  rw [s3] at k3
  have HB := Lib.hid hb
  have K0 := Lib.hid k0
  have K1 := Lib.hid k1
  have K2 := Lib.hid k2
  have K3 := Lib.hid k3
  have F1 := Lib.hid hf1
  have F2 := Lib.hid hf2
  have F3 := Lib.hid hf3
  have F4 := Lib.hid hf4
  have HFIN := Lib.hid hfin
  have HLS := Lib.hid hls
  have HLL := Lib.hid hll
  have HBB := Lib.hid hB
  obtain ⟨t0, t1, t2⟩ := k0.all
  clear hb k0 k1 k2 k3 hf1 hf2 hf3 hf4 hfin hls hll hB eM eG eP eQ s3 hnl
  have NO : ∀ W, Below w.heap.size w W → FewPost w PP (.returned (.bool false)) W := fun W hW => HFIN.out false W (fun e => by cases e) hW
  have NO := Lib.hid NO
  by_cases q1 : nl ≤ 10
  case neg =>
    have z1 : decide ((10 : Int) < (nl : Int)) = true := decide_eq_true (by omega)
    go_enter Tryz.func11, Tryz.ntmps11
    go_wp2
    go_ret
    exact NO.out _ HB.out
  have z1 : decide ((10 : Int) < (nl : Int)) = false := decide_eq_false (by omega)
  by_cases q2 : dn ≤ 100
  case neg =>
    have z2 : decide ((100 : Int) < (dn : Int)) = true := decide_eq_true (by omega)
    go_enter Tryz.func11, Tryz.ntmps11
    go_wp2
    go_ret
    exact NO.out _ HB.out
  have z2 : decide ((100 : Int) < (dn : Int)) = false := decide_eq_false (by omega)
  go_enter Tryz.func11, Tryz.ntmps11
  go_wp2_with fail
  clear t0 t1 t2 z1 z2
  generalize (((w.alloc (.cells #[.string id, .int .i64 o, .slice a1 cs.length c1, .string pr, .int .i64 st, .slice a2 mv.length c2, .slice a3 rs.length c3, .slice a4 nl c4] 27)).alloc (.cells #[.string fr, .string tn, .slice b1 gst.length d1, .slice b2 grs.length d2, .slice b3 gts.length d3] 30)).alloc (.cells #[.string pn, .slice e1 pss.length f1, .slice e2 pms.length f2] 34)).alloc (.cells #[.string qn, .slice i1 qss.length j1, .slice i2 qms.length j2] 34) = W0 at *
  go_loopw [11] (fun i wr => ∃ k : Nat, k ≤ nl ∧ i = .int .i64 (k : Int) ∧ Hid (Blk wr w.heap.size 27 #[.string id, .int .i64 o, .slice a1 cs.length c1, .string pr, .int .i64 st, .slice a2 mv.length c2, .slice a3 rs.length c3, .slice a4 nl c4]) ∧ Hid (Blk wr (w.heap.size + 1) 30 #[.string fr, .string tn, .slice b1 gst.length d1, .slice b2 grs.length d2, .slice b3 gts.length d3]) ∧ Hid (Blk wr (w.heap.size + 1 + 1) 34 #[.string pn, .slice e1 pss.length f1, .slice e2 pms.length f2]) ∧ Hid (Blk wr (w.heap.size + 1 + 1 + 1) 34 #[.string qn, .slice i1 qss.length j1, .slice i2 qms.length j2]) ∧ Hid (Below w.heap.size w wr)) (fun i _ => nl - (intOf i).toNat)
  case atStart => exact ⟨0, Nat.zero_le _, rfl, K0, K1, K2, K3, HB⟩
  case round =>
    clear K0 K1 K2 K3 HB
    obtain ⟨k, hk, rfl, K0, K1, K2, K3, HB⟩ := hrel
    obtain ⟨t0, t1, t2⟩ := K0.out.all
    by_cases hlt : k < nl
    · obtain ⟨x, hx⟩ : ∃ x, lv[k]? = some x := ⟨_, List.getElem?_eq_getElem (by rw [HLL.out]; exact hlt)⟩
      obtain ⟨ga, oa, hA, hga, p0, p1, p2, p3, p4, hla⟩ := (HLS.out.below (HB.out.mono HBB.out)) k x hx
      subst hA
      have ib0 : (0 : Int) ≤ (k : Int) := by omega
      have ib1 : (k : Int) < (nl : Int) := by omega
      have hfw : Calls Tryz.prog 33 #[.agg #[.string x.1.id, .int .i64 x.1.n, .int .i64 x.1.u, .int .i64 x.1.f, .slice x.2.1 x.1.S.length x.2.2], .slice D dn dc, .int .i64 10] wr _ := Lim.Few_any wr x.1 B x.2.1 x.2.2 hla (Nat.le_trans HBB.out HB.out.size) D dn dc (by omega)
      obtain ⟨r, hr⟩ : ∃ r, Lim.frB x.1 dn = r := ⟨_, rfl⟩
      rw [hr] at hfw
      have HFW := Lib.hid hfw
      clear hx hfw hr hla
      cases r with
      | false =>
        go_wp2_with fail
        refine HFW.out.mono ?_
        rintro e w2 ⟨rfl, b2⟩
        go_wp2
        go_ret
        exact NO.out _ (HB.out.trans (b2.mono HB.out.size))
      | true =>
        go_wp2_with fail
        refine HFW.out.mono ?_
        rintro e w2 ⟨rfl, b2⟩
        replace HB := Lib.hid (HB.out.trans (b2.mono HB.out.size))
        replace K0 := Lib.hid (K0.out.below b2 K0.out.lt)
        replace K1 := Lib.hid (K1.out.below b2 K1.out.lt)
        replace K2 := Lib.hid (K2.out.below b2 K2.out.lt)
        replace K3 := Lib.hid (K3.out.below b2 K3.out.lt)
        clear b2 t0 t1 t2 p0 p1 p2 p3 p4
        go_wp2
        go_roundw
        case rel => exact ⟨k + 1, by omega, by go_num, K0, K1, K2, K3, HB⟩
        case measure => simp [intOf]; omega
    · obtain rfl : nl = k := by omega
      go_wp2_with fail
      refine (F1.out wr HB.out).mono ?_
      rintro e w1 ⟨r1, rfl, h1, b1⟩
      replace HB := Lib.hid (HB.out.trans (b1.mono HB.out.size))
      replace K1 := Lib.hid (K1.out.below b1 K1.out.lt)
      replace K2 := Lib.hid (K2.out.below b1 K2.out.lt)
      replace K3 := Lib.hid (K3.out.below b1 K3.out.lt)
      clear b1
      have H1 := Lib.hid h1
      clear h1 t0 t1 t2
      cases r1 with
      | false =>
        go_wp2
        go_ret
        exact NO.out _ HB.out
      | true =>
      obtain ⟨v0, v1, v2⟩ := K2.out.all
      go_wp2_with fail
      refine (F2.out w1 HB.out).mono ?_
      rintro e w2 ⟨r2, rfl, h2, b2⟩
      replace HB := Lib.hid (HB.out.trans (b2.mono HB.out.size))
      replace K1 := Lib.hid (K1.out.below b2 K1.out.lt)
      replace K2 := Lib.hid (K2.out.below b2 K2.out.lt)
      replace K3 := Lib.hid (K3.out.below b2 K3.out.lt)
      clear b2
      have H2 := Lib.hid h2
      clear h2 v0 v1 v2
      cases r2 with
      | false =>
        go_wp2
        go_ret
        exact NO.out _ HB.out
      | true =>
      obtain ⟨v0, v1, v2⟩ := K3.out.all
      go_wp2_with fail
      refine (F3.out w2 HB.out).mono ?_
      rintro e w3 ⟨r3, rfl, h3, b3⟩
      replace HB := Lib.hid (HB.out.trans (b3.mono HB.out.size))
      replace K1 := Lib.hid (K1.out.below b3 K1.out.lt)
      replace K2 := Lib.hid (K2.out.below b3 K2.out.lt)
      replace K3 := Lib.hid (K3.out.below b3 K3.out.lt)
      clear b3
      have H3 := Lib.hid h3
      clear h3 v0 v1 v2
      cases r3 with
      | false =>
        go_wp2
        go_ret
        exact NO.out _ HB.out
      | true =>
      obtain ⟨v0, v1, v2⟩ := K1.out.all
      go_wp2_with fail
      refine (F4.out w3 HB.out).mono ?_
      rintro e w4 ⟨r4, rfl, h4, b4⟩
      have HE := Lib.hid (HFIN.out r4 w4 (fun e => ⟨H1.out trivial, H2.out trivial, H3.out trivial, h4 e, q2⟩) (HB.out.trans (b4.mono HB.out.size)))
      clear v0 v1 v2 h4 b4
      go_wp2
      go_ret
      exact HE.out
end Go.Proofs.YtknchlpcpgflkaaGreatDoor

namespace Go.Proofs.YtknchlpcpgflkaaGreatDoor

theorem apB_iff {m : Mt} {g : Mg} {p q : Pc} {day : Int} : apB m g p q day = true ↔ vdB g p q = true ∧ fmB m = true ∧ m.pr = g.fr ∧ m.st < (p.ss.length : Int) ∧ isB day = true := by
  unfold apB
  simp only [Bool.and_eq_true, decide_eq_true_eq]
section
variable {m : Mt} {g : Mg} {p q : Pc} {day : Int} {l : List Int}
/-- What an Apply without an error shows. -/
theorem apply_ok (h : applyE m g p q day l = 0) : apB m g p q day = true ∧ 0 ≤ newSt g m.st ∧ m.o ≤ day ∧ lastI m.o m.mv ≤ day ∧ chgE g.ts day l m.ls = 0 ∧ applyM m g p q day l = ⟨m.id, m.o, m.cs, g.tn, newSt g m.st, m.mv, mergeR g.rs m.rs, chgL g.ts day l m.ls⟩ := by
  have h' := h
  unfold applyE at h
  cases hp : apB m g p q day with
  | false => rw [hp] at h; simp at h
  | true =>
    rw [hp] at h
    simp only [Bool.true_eq_false, if_false] at h
    by_cases h1 : newSt g m.st < 0
    · rw [if_pos h1] at h; simp at h
    · rw [if_neg h1] at h
      by_cases h2 : day < m.o ∨ day < lastI m.o m.mv
      · rw [if_pos h2] at h; simp at h
      · rw [if_neg h2] at h
        refine ⟨rfl, by omega, by omega, by omega, h, ?_⟩
        unfold applyM
        rw [if_pos h']
theorem apply_no (h : applyE m g p q day l ≠ 0) : applyM m g p q day l = Mt.zero := by unfold applyM; rw [if_neg h]
theorem apply_of (hp : apB m g p q day = true) (h1 : 0 ≤ newSt g m.st) (h2 : m.o ≤ day) (h3 : lastI m.o m.mv ≤ day) : applyE m g p q day l = chgE g.ts day l m.ls := by
  unfold applyE
  rw [hp, if_neg (by simp), if_neg (by omega), if_neg (by omega)]
theorem newSt_mem {s : Int} (h0 : 0 ≤ s) (h : s < (g.st.length : Int)) : newSt g s ∈ g.st := by
  have hk : s.toNat < g.st.length := by omega
  unfold newSt
  rw [List.getElem?_eq_getElem hk]
  exact List.getElem_mem hk
/-- A matter that was carried over is formed, and stands at a stage of the new procedure. -/
theorem apply_fm (h : applyE m g p q day l = 0) : fmB (applyM m g p q day l) = true ∧ (applyM m g p q day l).pr = q.name ∧ (applyM m g p q day l).st < (q.ss.length : Int) := by
  obtain ⟨h1, h2, -, -, h5, h6⟩ := apply_ok h
  obtain ⟨hv, hf, -, hs, -⟩ := apB_iff.1 h1
  obtain ⟨hg, -, -, -, ht, hl, hst⟩ := vdB_iff.1 hv
  obtain ⟨-, g2, -, g4, g5, -⟩ := mgB_iff.1 hg
  obtain ⟨f1, -, f3, f4, f5, f6, f7, f8, f9, f10⟩ := fmB_iff.1 hf
  have hm := newSt_mem (g := g) f4.1 (by omega)
  rw [h6]
  exact ⟨fmB_iff.2 ⟨f1, g2, f3, ⟨h2, (g4 _ hm).2⟩, f5, f6, f7, f8, mergeR_dif (difB_iff.1 g5).1 f9, chgL_dif h5 f10⟩, ht, hst _ hm⟩
theorem apply_vld {d : List Fc} (h : applyE m g p q day l = 0) (hv : vldB m p d = true) : vldB (applyM m g p q day l) q d = true := by
  obtain ⟨a, b, c⟩ := apply_fm h
  obtain ⟨h1, -, -, -, -, h6⟩ := apply_ok h
  obtain ⟨hv', -⟩ := apB_iff.1 h1
  obtain ⟨-, -, hq, -⟩ := vdB_iff.1 hv'
  obtain ⟨-, -, hd, -, -, hc⟩ := vldB_iff.1 hv
  refine vldB_iff.2 ⟨a, hq, hd, b, c, ?_⟩
  rw [h6]
  exact hc
/-- Each right has its new name since no later day; each of the new ones comes from an old one. -/
theorem apply_has {n : ByteArray} {on : Int} (h : applyE m g p q day l = 0) (hh : hasB m.rs n on = true) : hasB (applyM m g p q day l).rs (namedL g.rs n) on = true := by
  obtain ⟨-, -, -, -, -, h6⟩ := apply_ok h
  rw [h6]
  unfold hasB at hh ⊢
  obtain ⟨r, hr, he⟩ := List.any_eq_true.1 hh
  simp only [Bool.and_eq_true, decide_eq_true_eq] at he
  obtain ⟨x, hx, e1, e2⟩ := mergeR_all (rs := g.rs) hr
  refine List.any_eq_true.2 ⟨x, hx, ?_⟩
  simp only [Bool.and_eq_true, decide_eq_true_eq]
  exact ⟨e1.trans (by rw [he.1]), by omega⟩
end

/-! Two in a row. -/
theorem termOf_app (a b : List Lm) (id : ByteArray) : termOf (a ++ b) id = (termOf a id).or (termOf b id) := List.find?_append
theorem termOf_mem {ts : List Lm} {id : ByteArray} {t : Lm} (h : termOf ts id = some t) : id ∈ ts.map (·.id) := by
  unfold termOf at h
  exact List.mem_map.2 ⟨t, List.mem_of_find?_eq_some h, of_decide_eq_true (List.find?_some (p := fun t : Lm => decide (t.id = id)) h)⟩
theorem chg_then {a b : List Lm} {day : Int} {l : List Int} {x : Lm} (hd : ((a ++ b).map (·.id)).Nodup) :
    ((chgS a day l x).2 ≠ 0 → (chgS (a ++ b) day l x).2 ≠ 0) ∧ ((chgS a day l x).2 = 0 → chgS (a ++ b) day l x = chgS b day l (chgS a day l x).1) := by
  have hn : ∀ t, termOf a x.id = some t → termOf b x.id = none := by
    intro t ht
    cases hb : termOf b x.id with
    | none => rfl
    | some u =>
      rw [List.map_append, List.nodup_append] at hd
      exact absurd rfl (hd.2.2 _ (termOf_mem ht) _ (termOf_mem hb))
  cases ha : termOf a x.id with
  | none =>
    have e1 : chgS a day l x = (x, 0) := by unfold chgS; rw [ha]
    have e2 : chgS (a ++ b) day l x = chgS b day l x := by unfold chgS; rw [termOf_app, ha, Option.none_or]
    rw [e1]
    exact ⟨fun h => absurd rfl h, fun _ => e2⟩
  | some t =>
    have e2 : chgS (a ++ b) day l x = chgS a day l x := by unfold chgS; rw [termOf_app, ha, Option.some_or]
    rw [e2]
    refine ⟨id, fun h0 => ?_⟩
    have hid := (chgS_ok h0).1
    have e3 : chgS b day l (chgS a day l x).1 = ((chgS a day l x).1, 0) := by unfold chgS at hid ⊢; rw [hid, hn t ha]
    rw [e3]
    exact Prod.ext rfl h0
section
variable {m : Mt} {g h : Mg} {p b q : Pc} {day : Int} {l : List Int}
theorem then_ok (he : thenE g h = 0) : thenM g h = thenG g h ∧ mgB g = true ∧ mgB h = true ∧ g.tn = h.fr ∧ (∀ s ∈ g.st, s < (h.st.length : Int)) ∧ ((g.ts ++ h.ts).map (·.id)).Nodup ∧ (thenRs g h).length ≤ 60 ∧ (g.ts ++ h.ts).length ≤ 60 := by
  have he' := he
  unfold thenE at he
  cases hc : (mgB g && (mgB h && (decide (g.tn = h.fr) && g.st.all fun s => decide (s < (h.st.length : Int))))) with
  | false => rw [hc] at he; simp at he
  | true =>
    rw [hc] at he
    simp only [Bool.true_eq_false, if_false] at he
    simp only [Bool.and_eq_true, decide_eq_true_eq, List.all_eq_true] at hc
    by_cases h1 : ((g.ts ++ h.ts).map (·.id)).Nodup
    · rw [if_neg (by simpa using h1)] at he
      by_cases h2 : 60 < (thenRs g h).length ∨ 60 < (g.ts ++ h.ts).length
      · rw [if_pos h2] at he; simp at he
      · exact ⟨by unfold thenM; rw [if_pos he'], hc.1, hc.2.1, hc.2.2.1, hc.2.2.2, h1, by omega, by omega⟩
    · rw [if_pos h1] at he; simp at he
theorem newSt_then {s : Int} (h0 : 0 ≤ s) (hl : s < (g.st.length : Int)) : newSt (thenG g h) s = thenSt h (newSt g s) := by
  have hk : s.toNat < g.st.length := by omega
  unfold newSt thenG
  simp only [List.getElem?_map, List.getElem?_eq_getElem hk, Option.map_some, Option.getD_some]
theorem thenSt_in {s : Int} (hg : mgB g = true) (hh : mgB h = true) (hs : s ∈ g.st) (hl : s < (h.st.length : Int)) : -1 ≤ thenSt h s ∧ thenSt h s < 60 := by
  unfold thenSt
  by_cases h0 : 0 ≤ s
  · rw [if_pos h0]; exact (mgB_iff.1 hh).2.2.2.1 _ (newSt_mem h0 hl)
  · rw [if_neg h0]; exact (mgB_iff.1 hg).2.2.2.1 _ hs
theorem then_mg (he : thenE g h = 0) : mgB (thenG g h) = true := by
  obtain ⟨-, hg, hh, -, hs, hd, l1, l2⟩ := then_ok he
  obtain ⟨a1, -, a3, a4, a5, a6⟩ := mgB_iff.1 hg
  obtain ⟨-, b2, -, -, b5, b6⟩ := mgB_iff.1 hh
  obtain ⟨a51, a52, -⟩ := difB_iff.1 a5
  obtain ⟨b51, b52, -⟩ := difB_iff.1 b5
  refine mgB_iff.2 ⟨a1, b2, ⟨by simpa [thenG] using a3.1, by simpa [thenG] using a3.2⟩, fun s hs' => ?_, difB_iff.2 ⟨fun r hr => ?_, ?_, l1⟩, difB_iff.2 ⟨fun t ht => ?_, hd, l2⟩⟩
  · obtain ⟨t, ht, rfl⟩ := List.mem_map.1 hs'
    exact thenSt_in hg hh ht (hs t ht)
  · rcases List.mem_append.1 hr with h1 | h1
    · obtain ⟨r0, hr0, rfl⟩ := List.mem_map.1 h1
      have := a51 r0 hr0
      unfold rnB at this ⊢
      rw [Bool.and_eq_true] at this ⊢
      exact ⟨this.1, namedL_good b51 this.2⟩
    · exact b51 r (List.mem_filter.1 h1).1
  · show ((thenRs g h).map (·.1)).Nodup
    unfold thenRs
    rw [List.map_append, List.map_map, List.nodup_append]
    refine ⟨a52, (b52.sublist (List.Sublist.map _ (List.filter_sublist))), fun x hx y hy => ?_⟩
    obtain ⟨r, hr, rfl⟩ := List.mem_map.1 hy
    have hnot := of_decide_eq_true (List.mem_filter.1 hr).2
    rintro rfl
    exact hnot hx
  · rcases List.mem_append.1 ht with h1 | h1
    · exact (difB_iff.1 a6).1 t h1
    · exact (difB_iff.1 b6).1 t h1
theorem then_vd (he : thenE g h = 0) (hg : vdB g p b = true) (hh : vdB h b q = true) : vdB (thenG g h) p q = true := by
  obtain ⟨-, -, -, -, hs, -⟩ := then_ok he
  obtain ⟨-, a2, -, a4, -, a6, -⟩ := vdB_iff.1 hg
  obtain ⟨hmh, -, b3, -, b5, -, b7⟩ := vdB_iff.1 hh
  refine vdB_iff.2 ⟨then_mg he, a2, b3, a4, b5, by simpa [thenG] using a6, fun s hs' => ?_⟩
  obtain ⟨t, ht, rfl⟩ := List.mem_map.1 hs'
  unfold thenSt
  by_cases h0 : 0 ≤ t
  · rw [if_pos h0]; exact b7 _ (newSt_mem h0 (hs t ht))
  · rw [if_neg h0]; omega
/-- One after the other is possible just if both as one are; then with the same result. -/
theorem chains (he : thenE g h = 0) (hg : vdB g p b = true) (hh : vdB h b q = true) :
    (applyE m g p b day l ≠ 0 ∨ applyE (applyM m g p b day l) h b q day l ≠ 0 → applyE m (thenG g h) p q day l ≠ 0) ∧
    (applyE m g p b day l = 0 → applyE (applyM m g p b day l) h b q day l = 0 → applyE m (thenG g h) p q day l = 0 ∧ applyM m (thenG g h) p q day l = applyM (applyM m g p b day l) h b q day l) := by
  obtain ⟨-, -, -, hto, hsl, hdt, -, -⟩ := then_ok he
  obtain ⟨-, -, -, -, -, hlg, -⟩ := vdB_iff.1 hg
  have hvx := then_vd he hg hh
  have key : applyE m (thenG g h) p q day l = 0 → applyE m g p b day l = 0 ∧ applyE (applyM m g p b day l) h b q day l = 0 ∧ applyM m (thenG g h) p q day l = applyM (applyM m g p b day l) h b q day l := by
    intro h0
    obtain ⟨x1, x2, x3, x4, x5, x6⟩ := apply_ok h0
    obtain ⟨-, hf, hpr, hst, hday⟩ := apB_iff.1 x1
    have h4 := (fmB_iff.1 hf).2.2.2.1
    have hsg : m.st < (g.st.length : Int) := by omega
    rw [newSt_then h4.1 hsg] at x2
    have hn0 : 0 ≤ newSt g m.st := by
      unfold thenSt at x2
      by_cases hz : 0 ≤ newSt g m.st
      · exact hz
      · rw [if_neg hz] at x2; exact x2
    have hthen : thenSt h (newSt g m.st) = newSt h (newSt g m.st) := by unfold thenSt; rw [if_pos hn0]
    have hc := chgE_zero.1 x5
    have c1 : chgE g.ts day l m.ls = 0 := chgE_zero.2 fun x hx => by
      by_cases hz : (chgS g.ts day l x).2 = 0
      · exact hz
      · exact absurd (hc x hx) ((chg_then hdt).1 hz)
    have e1 : applyE m g p b day l = 0 := (apply_of (apB_iff.2 ⟨hg, hf, hpr, hst, hday⟩) hn0 x3 x4).trans c1
    obtain ⟨-, -, -, -, -, m6⟩ := apply_ok e1
    obtain ⟨af, apr, ast⟩ := apply_fm e1
    have hbn : b.name = h.fr := by have := (vdB_iff.1 hh).2.2.2.1; exact this.symm
    have c2 : chgE h.ts day l (applyM m g p b day l).ls = 0 := by
      rw [m6]
      refine chgE_zero.2 fun y hy => ?_
      obtain ⟨x, hx, rfl⟩ := List.mem_map.1 hy
      rw [← (chg_then hdt).2 (chgE_zero.1 c1 x hx)]
      exact hc x hx
    have e2 : applyE (applyM m g p b day l) h b q day l = 0 := by
      rw [apply_of (apB_iff.2 ⟨hh, af, apr.trans hbn, ast, hday⟩) (by rw [m6]; show 0 ≤ newSt h (newSt g m.st); rw [← hthen]; exact x2) (by rw [m6]; exact x3) (by rw [m6]; exact x4)]
      exact c2
    refine ⟨e1, e2, ?_⟩
    obtain ⟨-, -, -, -, -, n6⟩ := apply_ok e2
    rw [n6, x6, m6]
    have r1 : mergeR (thenG g h).rs m.rs = mergeR h.rs (mergeR g.rs m.rs) := (merge_then g h m.rs).symm
    have r2 : chgL (thenG g h).ts day l m.ls = chgL h.ts day l (chgL g.ts day l m.ls) := by
      unfold chgL
      rw [List.map_map]
      refine List.map_congr_left fun x hx => ?_
      show (chgS (g.ts ++ h.ts) day l x).1 = (chgS h.ts day l (chgS g.ts day l x).1).1
      rw [(chg_then hdt).2 (chgE_zero.1 c1 x hx)]
    rw [r1, r2, newSt_then h4.1 hsg, hthen]
    rfl
  refine ⟨fun hor h0 => ?_, fun e1 e2 => ?_⟩
  · obtain ⟨k1, k2, -⟩ := key h0
    rcases hor with h1 | h1
    · exact h1 k1
    · exact h1 k2
  · have h0 : applyE m (thenG g h) p q day l = 0 := by
      obtain ⟨x1, x2, x3, x4, x5, x6⟩ := apply_ok e1
      obtain ⟨-, hf, hpr, hst, hday⟩ := apB_iff.1 x1
      obtain ⟨-, y2, -, -, y5, -⟩ := apply_ok e2
      have h4 := (fmB_iff.1 hf).2.2.2.1
      have hsg : m.st < (g.st.length : Int) := by omega
      rw [x6] at y2 y5
      rw [apply_of (apB_iff.2 ⟨hvx, hf, hpr, hst, hday⟩) (by rw [newSt_then h4.1 hsg]; unfold thenSt; rw [if_pos x2]; exact y2) x3 x4]
      refine chgE_zero.2 fun x hx => ?_
      show (chgS (g.ts ++ h.ts) day l x).2 = 0
      rw [(chg_then hdt).2 (chgE_zero.1 x5 x hx)]
      exact chgE_zero.1 y5 _ (List.mem_map.2 ⟨x, hx, rfl⟩)
    exact ⟨h0, (key h0).2.2⟩

/-! One that keeps all. -/
def sameG (p : Pc) : Mg := ⟨p.name, p.name, (List.range p.ss.length).map fun i : Nat => (i : Int), [], []⟩
theorem same_st {s : Int} (h0 : 0 ≤ s) (h1 : s < (p.ss.length : Int)) : newSt (sameG p) s = s := by
  have hk : s.toNat < p.ss.length := by omega
  unfold newSt sameG
  simp only [List.getElem?_map, List.getElem?_range hk, Option.map_some, Option.getD_some]
  omega
theorem chgE_nil (ls : List Lm) : chgE [] day l ls = 0 := chgE_zero.2 fun _ _ => rfl
theorem same_apply : (applyE m (sameG p) p p day l = 0 ∧ applyM m (sameG p) p p day l = m) ∨ applyE m (sameG p) p p day l = 1 ∨ applyE m (sameG p) p p day l = 24 := by
  cases hp : apB m (sameG p) p p day with
  | false => exact .inr (.inl (by unfold applyE; rw [hp, if_pos rfl]))
  | true =>
    obtain ⟨-, hf, hpr, hst, -⟩ := apB_iff.1 hp
    obtain ⟨-, -, -, f4, -, -, -, -, f9, -⟩ := fmB_iff.1 hf
    have hn := same_st f4.1 hst
    by_cases h2 : day < m.o ∨ day < lastI m.o m.mv
    · exact .inr (.inr (by unfold applyE; rw [hp, if_neg (by simp), if_neg (by rw [hn]; omega), if_pos h2]))
    · have h0 : applyE m (sameG p) p p day l = 0 := (apply_of hp (by rw [hn]; omega) (by omega) (by omega)).trans (chgE_nil _)
      refine .inl ⟨h0, ?_⟩
      obtain ⟨-, -, -, -, -, h6⟩ := apply_ok h0
      rw [h6, hn]
      have r1 : mergeR (sameG p).rs m.rs = m.rs := merge_nil _ (difB_iff.1 f9).2.1
      have r2 : chgL (sameG p).ts day l m.ls = m.ls := (List.map_congr_left (g := id) fun _ _ => rfl).trans (List.map_id _)
      have r3 : (sameG p).tn = m.pr := hpr.symm
      rw [r1, r2, r3]
theorem same_then (he : thenE (sameG p) g = 0) (hl : g.st.length = p.ss.length) : thenG (sameG p) g = g := by
  obtain ⟨-, -, -, hto, -⟩ := then_ok he
  have r0 : (sameG p).fr = g.fr := hto
  have r1 : (sameG p).st.map (thenSt g) = g.st := by
    apply List.ext_getElem?
    intro i
    rw [List.getElem?_map]
    unfold sameG
    simp only [List.getElem?_map]
    by_cases hi : i < p.ss.length
    · rw [List.getElem?_range hi, Option.map_some, Option.map_some]
      unfold thenSt newSt
      rw [if_pos (Int.natCast_nonneg i), Int.toNat_natCast, List.getElem?_eq_getElem (by omega)]
      rfl
    · rw [List.getElem?_eq_none (by rw [List.length_range]; omega), List.getElem?_eq_none (by omega)]
      rfl
  have r2 : thenRs (sameG p) g = g.rs := by
    unfold thenRs sameG
    simp
  show (⟨(sameG p).fr, g.tn, (sameG p).st.map (thenSt g), thenRs (sameG p) g, [] ++ g.ts⟩ : Mg) = g
  rw [r0, r1, r2, List.nil_append]
end
end Go.Proofs.YtknchlpcpgflkaaGreatDoor
