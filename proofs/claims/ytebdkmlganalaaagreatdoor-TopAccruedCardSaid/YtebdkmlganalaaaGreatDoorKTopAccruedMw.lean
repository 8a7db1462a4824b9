/- Apply where nothing bars it: the rights under their new names, the limits under their new terms. -/
import Derived.Test.YtebdkmlganalaaaGreatDoorKTopAccruedGBO
import Derived.Test.YtebdkmlganalaaaGreatDoorKTopAccruedMk
import Derived.Test.YtebdkmlganalaaaGreatDoorKTopAccruedWc
import Derived.Test.YtebdkmlganalaaaGreatDoorKTopAccruedTj
import Derived.Test.YtebdkmlganalaaaGreatDoorKTopAccruedQs
import Derived.Test.YtebdkmlganalaaaGreatDoorKTopAccruedYf
import Derived.WalkMore
namespace Go.Proofs.YtebdkmlganalaaaGreatDoor
open Go.RowKit Go.Shelf

/-- One of the new limits: its stops lie where an old one's do. -/
def LaO (w : World) (B : Nat) (lv : List LmV) (x : LmV) : Prop := LmAt w B x.2.1 x.1 ∧ (x.1.S ≠ [] → ∃ y ∈ lv, y.1.S ≠ [] ∧ y.2.1 = x.2.1)
theorem own_ge {w : World} {base size n c : Nat} {e : TypeId} {A : Option Addr} {xs : List Value} (h : w.ownsRow base e size (.slice A n c) n xs) (hn : 0 < n) {a : Addr} (ha : A = some a) : base ≤ a.block := by
  obtain ⟨g, hA, hg, -⟩ := row_some h hn
  rw [hA] at ha
  injection ha with ha
  rw [← ha]
  exact hg

set_option maxRecDepth 100000 in
set_option maxHeartbeats 8000000 in
theorem gapply_ok (w : World) (ht : Tbs w) (B : Nat) (m : Mt) (x : MtX) (h : MtAt w B m x) (hB : B ≤ w.heap.size) (hs : Sml m) (g : Mg) (z : MgX) (hg : MgAt w B g z) (hsg : SmlG g) (p : Pc) (y : PcX) (hp : PcAt w B p y) (hsp : SmlP p) (q : Pc) (v : PcX) (hq : PcAt w B q v) (hsq : SmlP q) (day : Int) (D : Option Addr) (l : List Int) (cl : Nat) (hD : IntsAt w B D l) (hll : l.length ≤ 4611686018427387904) (hw : ∀ n ∈ l, wf64 n)
    (hok : apB m g p q day = true) (hn0 : ¬ newSt g m.st < 0) (hor : ¬ (day < m.o ∨ day < lastI m.o m.mv)) :
    Calls Tryz.prog 11 #[.agg (mtC m x), .agg (mgC g z), .agg (pcC p y), .agg (pcC q v), .int .i64 day, .slice D l.length cl] w (MtPostO w m x (applyE m g p q day l) (applyM m g p q day l)) := by
  obtain ⟨i0, hi0, hz0, hz1, hz2⟩ := info_parts Tryz.infoRight
  obtain ⟨E, hE⟩ : ∃ E, chgE g.ts day l m.ls = E := ⟨_, rfl⟩
  have hE2 : applyE m g p q day l = E := by unfold applyE; rw [if_neg (by rw [hok]; decide), if_neg hn0, if_neg hor]; exact hE
  obtain ⟨Z, hZ⟩ : ∃ Z, applyM m g p q day l = Z := ⟨_, rfl⟩
  rw [hE2, hZ]
  have hM : Z = if E = 0 then ⟨m.id, m.o, m.cs, g.tn, newSt g m.st, m.mv, mergeR g.rs m.rs, chgL g.ts day l m.ls⟩ else Mt.zero := by rw [← hZ]; unfold applyM; rw [hE2]
  clear hE2 hZ
  have hva := fun W (hW : Below w.heap.size w W) => gvalid_any W (ht.below hW) B g z (hg.below (hW.mono hB)) (Nat.le_trans hB hW.size) hsg p y (hp.below (hW.mono hB)) hsp q v (hq.below (hW.mono hB)) hsq
  have htx := fun W (hW : Below w.heap.size w W) => text_any W (ht.below hW) B m x (h.below (hW.mono hB)) (Nat.le_trans hB hW.size) hs
  unfold apB at hok
  simp only [Bool.and_eq_true, decide_eq_true_eq] at hok
  obtain ⟨hv, hf, hpr, hstl, hday⟩ := hok
  rw [hv] at hva
  unfold TextPost at htx
  rw [hf] at htx
  obtain ⟨TX, hTX⟩ : ∃ T, bs (if true = true then textL m else []) = T := ⟨_, rfl⟩
  rw [hTX, if_pos rfl] at htx
  clear hTX
  obtain ⟨-, -, -, ⟨hst0, -⟩, -⟩ := fmB_iff.1 hf
  obtain ⟨hmg, -, -, -, -, hgl, -⟩ := vdB_iff.1 hv
  have hrn := (difB_iff.1 (mgB_iff.1 hmg).2.2.2.2.1).2.1
  obtain ⟨hd0, hd1⟩ := (isB_iff _).1 hday
  have hnd := mergeR_nodup g.rs
  have hnm := fun W (hW : Below w.heap.size w W) => gnamed_any W B g z (hg.below (hW.mono hB)).rs (Nat.le_trans hB hW.size) (by have := hsg.2.1; omega) hrn
  have hcl := fun W (hW : Below w.heap.size w W) => cloneLm_any W B x.a4 x.lv x.c4 (h.below (hW.mono hB)).ls (Nat.le_trans hB hW.size) (by rw [h.len]; exact hs.2.2.2)
  have hch := fun W (hW : Below w.heap.size w W) (X : LmV) (hX : X ∈ x.lv) (n u f : Int) => change_any W X.1 day n u f B X.2.1 X.2.2 (lms_elem (h.below (hW.mono hB)).ls hX) (Nat.le_trans hB hW.size) D l cl (hD.below (hW.mono hB)) hll hw
  have hrl := hs.2.2.1
  have hll2 := hs.2.2.2
  have htl := hsg.2.2
  have hml := hs.2.1
  clear hv hf hmg hp hq ht hrn hs hsg hsp hsq hD hw
  have hKl := h.len
  have hJl : z.tv.length = g.ts.length := by have := congrArg List.length hg.tv; simpa using this
  obtain ⟨id, o, cs, pr, st, mv, rs, ls⟩ := m
  obtain ⟨a1, c1, a2, c2, a3, c3, a4, c4, lv⟩ := x
  obtain ⟨fr, tn, gst, grs, gts⟩ := g
  obtain ⟨b1, d1, b2, d2, b3, d3, tv⟩ := z
  obtain ⟨pn, pss, pms⟩ := p
  obtain ⟨e1, f1, e2, f2⟩ := y
  obtain ⟨qn, qss, qms⟩ := q
  obtain ⟨i1, j1, i2, j2⟩ := v
  simp only at hE hM hn0 hor hpr hstl hst0 hgl hnd hrl hll2 htl hml hKl hJl
  subst hpr
  obtain ⟨sn, rfl⟩ : ∃ n : Nat, st = (n : Int) := ⟨st.toNat, by omega⟩
  obtain ⟨ns, hns⟩ : ∃ s, gst[sn]? = some s := ⟨_, List.getElem?_eq_getElem (by omega)⟩
  have hnw : newSt ⟨pr, tn, gst, grs, gts⟩ (sn : Int) = ns := by show (gst[(sn : Int).toNat]?).getD 0 = ns; rw [Int.toNat_natCast, hns]; rfl
  rw [hnw] at hM hn0
  obtain ⟨ga, oa, hAg, hga, pg⟩ := hg.st sn ns hns
  have hAg : b1 = some ⟨ga, oa, none⟩ := hAg
  subst hAg
  obtain ⟨N, hN⟩ : ∃ N, rs.length = N := ⟨_, rfl⟩
  obtain ⟨K, hK⟩ : ∃ K, ls.length = K := ⟨_, rfl⟩
  obtain ⟨J, hJ⟩ : ∃ J, gts.length = J := ⟨_, rfl⟩
  have hlast : lastI o mv ≤ day := Int.not_lt.1 fun hx => hor (.inr hx)
  have hdo : ¬ day < o := fun hx => hor (.inl hx)
  have e8 : decide (day < o) = false := decide_eq_false hdo
  have e7 : decide (ns < 0) = false := decide_eq_false hn0
  have e5 : decide (day < 0) = false := decide_eq_false (by omega)
  have e6 : decide (1000000 < day) = false := decide_eq_false (by omega)
  obtain ⟨k2, hk2⟩ : ∃ K, mv.length = K := ⟨_, rfl⟩
  obtain ⟨pl, hpl⟩ : ∃ K, pss.length = K := ⟨_, rfl⟩
  obtain ⟨gn, hgn⟩ : ∃ K, gst.length = K := ⟨_, rfl⟩
  rw [hN] at hrl
  rw [hK] at hll2 hKl
  rw [hJ] at htl hJl
  rw [hk2] at hml
  rw [hgn, hpl] at hgl
  rw [hpl] at hstl
  obtain rfl : pl = gn := hgl.symm
  have e4 : decide ((pl : Int) ≤ (sn : Int)) = false := decide_eq_false (by omega)
  have e4n : decide (pl ≤ sn) = false := decide_eq_false (by omega)
  have eM : mtC ⟨id, o, cs, pr, (sn : Int), mv, rs, ls⟩ ⟨a1, c1, a2, c2, a3, c3, a4, c4, lv⟩ = #[.string id, .int .i64 o, .slice a1 cs.length c1, .string pr, .int .i64 (sn : Int), .slice a2 k2 c2, .slice a3 N c3, .slice a4 K c4] := by unfold mtC; simp only [hN, hK, hk2]
  have eG : mgC ⟨pr, tn, gst, grs, gts⟩ ⟨some ⟨ga, oa, none⟩, d1, b2, d2, b3, d3, tv⟩ = #[.string pr, .string tn, .slice (some ⟨ga, oa, none⟩) pl d1, .slice b2 grs.length d2, .slice b3 J d3] := by unfold mgC; simp only [hJ, hgn]
  have eP : pcC ⟨pn, pss, pms⟩ ⟨e1, f1, e2, f2⟩ = #[.string pn, .slice e1 pl f1, .slice e2 pms.length f2] := by unfold pcC; simp only [hpl]
  have eQ : pcC ⟨qn, qss, qms⟩ ⟨i1, j1, i2, j2⟩ = #[.string qn, .slice i1 qss.length j1, .slice i2 qms.length j2] := rfl
  rw [eG, eP, eQ] at hva
  rw [eM] at htx
  rw [eG] at hnm
  unfold ClonePostL at hcl
  simp only at hcl
  rw [hKl] at hcl
  rw [eM, eG, eP, eQ]
  have hb := ((((below_self_alloc w (.cells #[.string id, .int .i64 o, .slice a1 cs.length c1, .string pr, .int .i64 (sn : Int), .slice a2 k2 c2, .slice a3 N c3, .slice a4 K c4] 27)).alloc (by simp) (.cells #[.string pr, .string tn, .slice (some ⟨ga, oa, none⟩) pl d1, .slice b2 grs.length d2, .slice b3 J d3] 30)).alloc (by simp; omega) (.cells #[.string pn, .slice e1 pl f1, .slice e2 pms.length f2] 34)).alloc (by simp; omega) (.cells #[.string qn, .slice i1 qss.length j1, .slice i2 qms.length j2] 34)).alloc (by simp; omega) (.cells #[.string ⟨#[]⟩, .int .i64 0, .slice none 0 0, .string ⟨#[]⟩, .int .i64 0, .slice none 0 0, .slice none 0 0, .slice none 0 0] 27)
  have s1 : (w.alloc (.cells #[.string id, .int .i64 o, .slice a1 cs.length c1, .string pr, .int .i64 (sn : Int), .slice a2 k2 c2, .slice a3 N c3, .slice a4 K c4] 27)).heap.size = w.heap.size + 1 := by simp
  have s2 : ((w.alloc (.cells #[.string id, .int .i64 o, .slice a1 cs.length c1, .string pr, .int .i64 (sn : Int), .slice a2 k2 c2, .slice a3 N c3, .slice a4 K c4] 27)).alloc (.cells #[.string pr, .string tn, .slice (some ⟨ga, oa, none⟩) pl d1, .slice b2 grs.length d2, .slice b3 J d3] 30)).heap.size = w.heap.size + 1 + 1 := by simp
  have s3 : (((w.alloc (.cells #[.string id, .int .i64 o, .slice a1 cs.length c1, .string pr, .int .i64 (sn : Int), .slice a2 k2 c2, .slice a3 N c3, .slice a4 K c4] 27)).alloc (.cells #[.string pr, .string tn, .slice (some ⟨ga, oa, none⟩) pl d1, .slice b2 grs.length d2, .slice b3 J d3] 30)).alloc (.cells #[.string pn, .slice e1 pl f1, .slice e2 pms.length f2] 34)).heap.size = w.heap.size + 1 + 1 + 1 := by simp
  have s4 : ((((w.alloc (.cells #[.string id, .int .i64 o, .slice a1 cs.length c1, .string pr, .int .i64 (sn : Int), .slice a2 k2 c2, .slice a3 N c3, .slice a4 K c4] 27)).alloc (.cells #[.string pr, .string tn, .slice (some ⟨ga, oa, none⟩) pl d1, .slice b2 grs.length d2, .slice b3 J d3] 30)).alloc (.cells #[.string pn, .slice e1 pl f1, .slice e2 pms.length f2] 34)).alloc (.cells #[.string qn, .slice i1 qss.length j1, .slice i2 qms.length j2] 34)).heap.size = w.heap.size + 1 + 1 + 1 + 1 := by simp
  have s5 : (((((w.alloc (.cells #[.string id, .int .i64 o, .slice a1 cs.length c1, .string pr, .int .i64 (sn : Int), .slice a2 k2 c2, .slice a3 N c3, .slice a4 K c4] 27)).alloc (.cells #[.string pr, .string tn, .slice (some ⟨ga, oa, none⟩) pl d1, .slice b2 grs.length d2, .slice b3 J d3] 30)).alloc (.cells #[.string pn, .slice e1 pl f1, .slice e2 pms.length f2] 34)).alloc (.cells #[.string qn, .slice i1 qss.length j1, .slice i2 qms.length j2] 34)).alloc (.cells #[.string ⟨#[]⟩, .int .i64 0, .slice none 0 0, .string ⟨#[]⟩, .int .i64 0, .slice none 0 0, .slice none 0 0, .slice none 0 0] 27)).heap.size = w.heap.size + 1 + 1 + 1 + 1 + 1 := by simp
  have k0 := ((((Blk.new w 27 #[.string id, .int .i64 o, .slice a1 cs.length c1, .string pr, .int .i64 (sn : Int), .slice a2 k2 c2, .slice a3 N c3, .slice a4 K c4]).alloc (.cells #[.string pr, .string tn, .slice (some ⟨ga, oa, none⟩) pl d1, .slice b2 grs.length d2, .slice b3 J d3] 30)).alloc (.cells #[.string pn, .slice e1 pl f1, .slice e2 pms.length f2] 34)).alloc (.cells #[.string qn, .slice i1 qss.length j1, .slice i2 qms.length j2] 34)).alloc (.cells #[.string ⟨#[]⟩, .int .i64 0, .slice none 0 0, .string ⟨#[]⟩, .int .i64 0, .slice none 0 0, .slice none 0 0, .slice none 0 0] 27)
  have k1 := (((Blk.new1 w (.cells #[.string id, .int .i64 o, .slice a1 cs.length c1, .string pr, .int .i64 (sn : Int), .slice a2 k2 c2, .slice a3 N c3, .slice a4 K c4] 27) 30 #[.string pr, .string tn, .slice (some ⟨ga, oa, none⟩) pl d1, .slice b2 grs.length d2, .slice b3 J d3]).alloc (.cells #[.string pn, .slice e1 pl f1, .slice e2 pms.length f2] 34)).alloc (.cells #[.string qn, .slice i1 qss.length j1, .slice i2 qms.length j2] 34)).alloc (.cells #[.string ⟨#[]⟩, .int .i64 0, .slice none 0 0, .string ⟨#[]⟩, .int .i64 0, .slice none 0 0, .slice none 0 0, .slice none 0 0] 27)
  have k2' := ((Blk.new2 w (.cells #[.string id, .int .i64 o, .slice a1 cs.length c1, .string pr, .int .i64 (sn : Int), .slice a2 k2 c2, .slice a3 N c3, .slice a4 K c4] 27) (.cells #[.string pr, .string tn, .slice (some ⟨ga, oa, none⟩) pl d1, .slice b2 grs.length d2, .slice b3 J d3] 30) 34 #[.string pn, .slice e1 pl f1, .slice e2 pms.length f2]).alloc (.cells #[.string qn, .slice i1 qss.length j1, .slice i2 qms.length j2] 34)).alloc (.cells #[.string ⟨#[]⟩, .int .i64 0, .slice none 0 0, .string ⟨#[]⟩, .int .i64 0, .slice none 0 0, .slice none 0 0, .slice none 0 0] 27)
  have k3 := (Blk.new (((w.alloc (.cells #[.string id, .int .i64 o, .slice a1 cs.length c1, .string pr, .int .i64 (sn : Int), .slice a2 k2 c2, .slice a3 N c3, .slice a4 K c4] 27)).alloc (.cells #[.string pr, .string tn, .slice (some ⟨ga, oa, none⟩) pl d1, .slice b2 grs.length d2, .slice b3 J d3] 30)).alloc (.cells #[.string pn, .slice e1 pl f1, .slice e2 pms.length f2] 34)) 34 #[.string qn, .slice i1 qss.length j1, .slice i2 qms.length j2]).alloc (.cells #[.string ⟨#[]⟩, .int .i64 0, .slice none 0 0, .string ⟨#[]⟩, .int .i64 0, .slice none 0 0, .slice none 0 0, .slice none 0 0] 27)
  have k4 := Blk.new ((((w.alloc (.cells #[.string id, .int .i64 o, .slice a1 cs.length c1, .string pr, .int .i64 (sn : Int), .slice a2 k2 c2, .slice a3 N c3, .slice a4 K c4] 27)).alloc (.cells #[.string pr, .string tn, .slice (some ⟨ga, oa, none⟩) pl d1, .slice b2 grs.length d2, .slice b3 J d3] 30)).alloc (.cells #[.string pn, .slice e1 pl f1, .slice e2 pms.length f2] 34)).alloc (.cells #[.string qn, .slice i1 qss.length j1, .slice i2 qms.length j2] 34)) 27 #[.string ⟨#[]⟩, .int .i64 0, .slice none 0 0, .string ⟨#[]⟩, .int .i64 0, .slice none 0 0, .slice none 0 0, .slice none 0 0]
  rw [s3] at k3
  rw [s4] at k4
  have HB := Lib.hid hb
  have K0 := Lib.hid k0
  have K1 := Lib.hid k1
  have K2 := Lib.hid k2'
  have K3 := Lib.hid k3
  have K4 := Lib.hid k4
  have HVA := Lib.hid hva
  have HTX := Lib.hid htx
  have HNM := Lib.hid hnm
  have HCL := Lib.hid hcl
  have HCH := Lib.hid hch
  have HH := Lib.hid h
  have HGG := Lib.hid hg
  have HLV0 : Hid (lv.map (·.1) = ls) := Lib.hid h.lv
  have HTV0 : Hid (tv.map (·.1) = gts) := Lib.hid hg.tv
  have HM := Lib.hid hM
  have HE := Lib.hid hE
  have HND := Lib.hid hnd
  have HL := Lib.hid hlast
  have HBB := Lib.hid hB
  have HN := Lib.hid hN
  have HK := Lib.hid hK
  have HK2 := Lib.hid hk2
  have HJ := Lib.hid hJ
  have HKL := Lib.hid hKl
  have HJL := Lib.hid hJl
  have PG := Lib.hid pg
  obtain ⟨t0, t1, t2⟩ := k0.all
  obtain ⟨u0, u1, u2⟩ := k1.all
  obtain ⟨v0, v1, v2⟩ := k2'.all
  obtain ⟨x0, x1, x2⟩ := k3.all
  clear eM eG eP eQ hb s1 s2 s3 s4 k0 k1 k2' k3 k4 hva htx hnm hcl hch h hg hM hE hnd hns hnw hN hK hk2 hJ hpl hgn hKl hJl pg hor hlast hB hday
  go_enter Tryz.func11, Tryz.ntmps11
  go_upto_region 1 with fail
  generalize ((((w.alloc (.cells #[.string id, .int .i64 o, .slice a1 cs.length c1, .string pr, .int .i64 (sn : Int), .slice a2 k2 c2, .slice a3 N c3, .slice a4 K c4] 27)).alloc (.cells #[.string pr, .string tn, .slice (some ⟨ga, oa, none⟩) pl d1, .slice b2 grs.length d2, .slice b3 J d3] 30)).alloc (.cells #[.string pn, .slice e1 pl f1, .slice e2 pms.length f2] 34)).alloc (.cells #[.string qn, .slice i1 qss.length j1, .slice i2 qms.length j2] 34)).alloc (.cells #[.string ⟨#[]⟩, .int .i64 0, .slice none 0 0, .string ⟨#[]⟩, .int .i64 0, .slice none 0 0, .slice none 0 0, .slice none 0 0] 27) = W0 at *
  apply wp_scope_straight
  go_wp2_with fail
  refine (HTX.out W0 HB.out).mono ?_
  rintro e W1 ⟨rfl, b1'⟩
  replace HB := Lib.hid (HB.out.trans (b1'.mono HB.out.size))
  replace K0 := Lib.hid (K0.out.below b1' K0.out.lt)
  replace K1 := Lib.hid (K1.out.below b1' K1.out.lt)
  replace K2 := Lib.hid (K2.out.below b1' K2.out.lt)
  replace K3 := Lib.hid (K3.out.below b1' K3.out.lt)
  replace K4 := Lib.hid (K4.out.below b1' K4.out.lt)
  clear b1'
  clear t0 t1 t2 u0 u1 u2 v0 v1 v2 x0 x1 x2 s5
  obtain ⟨t0, t1, t2⟩ := K0.out.all
  obtain ⟨u0, u1, u2⟩ := K1.out.all
  obtain ⟨v0, v1, v2⟩ := K2.out.all
  obtain ⟨x0, x1, x2⟩ := K3.out.all
  go_wp2_with fail
  refine (HVA.out W1 HB.out).mono ?_
  rintro e W2 ⟨rfl, b2'⟩
  replace HB := Lib.hid (HB.out.trans (b2'.mono HB.out.size))
  replace K0 := Lib.hid (K0.out.below b2' K0.out.lt)
  replace K1 := Lib.hid (K1.out.below b2' K1.out.lt)
  replace K2 := Lib.hid (K2.out.below b2' K2.out.lt)
  replace K3 := Lib.hid (K3.out.below b2' K3.out.lt)
  replace K4 := Lib.hid (K4.out.below b2' K4.out.lt)
  clear b2'
  clear t0 t1 t2 u0 u1 u2 v0 v1 v2 x0 x1 x2
  obtain ⟨t0, t1, t2⟩ := K0.out.all
  obtain ⟨u0, u1, u2⟩ := K1.out.all
  obtain ⟨v0, v1, v2⟩ := K2.out.all
  obtain ⟨x0, x1, x2⟩ := K3.out.all
  have pgW := ((HB.out.mono HBB.out).cell (p := ⟨ga, oa + sn, none⟩) hga).trans PG.out
  go_upto_region 6 with fail
  go_cut [77] (fun vx wx => vx = .bool false ∧ wx = W2)
  case first =>
    cases mv with
    | nil =>
      have hk2 : k2 = 0 := HK2.out.symm
      subst hk2
      go_wp2_with fail
      go_meet
      exact ⟨rfl, rfl⟩
    | cons v0' mvt =>
      obtain ⟨r, hr⟩ : ∃ r, (v0' :: mvt)[k2 - 1]? = some r := ⟨_, List.getElem?_eq_getElem (by have := HK2.out; simp only [List.length_cons] at this ⊢; omega)⟩
      have hlr : decide (day < r) = false := by have h9 := HL.out; unfold lastI at h9; rw [List.getLast?_eq_getElem?, HK2.out, hr] at h9; have h9 : r ≤ day := h9; exact decide_eq_false (by omega)
      have hk0 : 0 < k2 := by have := HK2.out; simp only [List.length_cons] at this; omega
      obtain ⟨k3, rfl⟩ : ∃ k, k2 = k + 1 := ⟨k2 - 1, by omega⟩
      obtain ⟨gm, om, hAm, hgm, pm⟩ := (HH.out.below (HB.out.mono HBB.out)).mv k3 r hr
      have hAm : a2 = some ⟨gm, om, none⟩ := hAm
      subst hAm
      have pm : W2.cell? ⟨gm, om + k3, none⟩ = some (.int .i64 r) := pm
      have ib : decide ((0 : Int) < ((k3 + 1 : Nat) : Int)) = true := decide_eq_true (by omega)
      have e1 : wrap64 (((k3 + 1 : Nat) : Int) - 1) = (k3 : Int) := by unfold wrap64; omega
      go_wp2_with fail
      go_meet
      exact ⟨rfl, rfl⟩
  case rest =>
  obtain ⟨rfl, rfl⟩ := hcut
  have hbo : w.heap.size + 1 + 1 + 1 + 1 < wc.heap.size := K4.out.lt
  have ko := Blk.new wc 27 #[.string id, .int .i64 o, .slice a1 cs.length c1, .string pr, .int .i64 (sn : Int), .slice a2 k2 c2, .slice a3 N c3, .slice a4 K c4]
  have hba := below_self_alloc wc (.cells #[.string id, .int .i64 o, .slice a1 cs.length c1, .string pr, .int .i64 (sn : Int), .slice a2 k2 c2, .slice a3 N c3, .slice a4 K c4] 27)
  have hba0 := hba
  have pg3 := (hba0.cell (p := ⟨ga, oa + sn, none⟩) (Nat.lt_of_lt_of_le hga (Nat.le_trans HBB.out HB.out.size))).trans pgW
  go_upto_region 9 with fail
  replace HB := Lib.hid (HB.out.trans (hba.mono HB.out.size))
  replace K0 := Lib.hid (K0.out.below hba K0.out.lt)
  replace K1 := Lib.hid (K1.out.below hba K1.out.lt)
  replace K2 := Lib.hid (K2.out.below hba K2.out.lt)
  replace K3 := Lib.hid (K3.out.below hba K3.out.lt)
  replace K4 := Lib.hid (K4.out.below hba K4.out.lt)
  clear hba
  clear hba0 pgW t0 t1 t2 u0 u1 u2 v0 v1 v2 x0 x1 x2
  generalize wc.alloc (.cells #[.string id, .int .i64 o, .slice a1 cs.length c1, .string pr, .int .i64 (sn : Int), .slice a2 k2 c2, .slice a3 N c3, .slice a4 K c4] 27) = W3 at *
  generalize wc.heap.size = bo at *
  obtain ⟨t0, t1, t2⟩ := K0.out.all
  obtain ⟨u0, u1, u2⟩ := K1.out.all
  have KO := Lib.hid ko
  have PG3 := Lib.hid pg3
  clear ko pg3 t0 t1 t2 u0 u1 u2 HVA HTX
  refine wp_region_rg2 (TwoS W3 bo (fun a b => #[.string id, .int .i64 o, .slice a1 cs.length c1, a, b, .slice a2 k2 c2, .slice a3 N c3, .slice a4 K c4])) (TwoR bo 3 4 (.string tn) (.int .i64 ns)) ([isV (.pointer (some ⟨w.heap.size + 1, 1, none⟩)), isV (.string tn), isV (.pointer (some ⟨w.heap.size + 1, 2, none⟩)), isV (.slice (some ⟨ga, oa, none⟩) pl d1), isV (.pointer (some ⟨w.heap.size, 4, none⟩)), isV (.int .i64 (sn : Int)), isV (.pointer (some ⟨ga, oa + sn, none⟩)), isV (.int .i64 ns), isV (.pointer (some ⟨bo, 3, none⟩)), cellV bo 3 (.string tn), isV (.pointer (some ⟨bo, 4, none⟩)), cellV bo 4 (.int .i64 ns)]) [0, 1, 2, 3, 4, 5, 6, 7, 8, 9, 10, 11] (by kernel_rfl) (by kernel_rfl) (by kernel_rfl) (⟨(Only.refl _ _).drew, _, _, KO.out⟩) ⟨isV_mono _, isV_mono _, isV_mono _, isV_mono _, isV_mono _, isV_mono _, isV_mono _, isV_mono _, isV_mono _, fun _ _ w w' hr h => hr.1 h, isV_mono _, fun _ _ w w' hr h => hr.2 h, trivial⟩ ?_
  intro F hF
  simp only [putAll, List.map_cons, List.map_nil, Act.put, List.setIfInBounds_toArray, List.set_cons_succ, List.set_cons_zero] at hF
  have HFX := Lib.hid hF
  clear hF
  refine ⟨fun Q' => ⟨?_, ?_, ?_, ?_, ?_, ?_, ?_, ?_, ?_, ?_, ?_, ?_, trivial⟩, ?_⟩
  · intro u W hS hd hp
    have HS := Lib.hid hS
    clear hS
    rw [HFX.out]
    clear hd hp 
    go_wp2_with fail
    exact ⟨_, by rw [HFX.out]; simp [upd], rfl, HS.out, ⟨fun h => h, fun h => h⟩⟩
  · intro u W hS hd hp
    have HS := Lib.hid hS
    clear hS
    obtain ⟨d0, -⟩ := hd
    have e0 : u 0 = .pointer (some ⟨w.heap.size + 1, 1, none⟩) := d0 rfl
    rw [HFX.out]
    simp only [e0]
    clear hp d0
    obtain ⟨r0, r1, r2⟩ := (HS.out.1.blk K1.out (by omega)).all
    go_wp2_with fail
    exact ⟨_, by rw [HFX.out]; simp [upd, e0], rfl, HS.out, ⟨fun h => h, fun h => h⟩⟩
  · intro u W hS hd hp
    have HS := Lib.hid hS
    clear hS
    rw [HFX.out]
    clear hd hp 
    go_wp2_with fail
    exact ⟨_, by rw [HFX.out]; simp [upd], rfl, HS.out, ⟨fun h => h, fun h => h⟩⟩
  · intro u W hS hd hp
    have HS := Lib.hid hS
    clear hS
    obtain ⟨d2, -⟩ := hd
    have e2 : u 2 = .pointer (some ⟨w.heap.size + 1, 2, none⟩) := d2 rfl
    rw [HFX.out]
    simp only [e2]
    clear hp d2
    obtain ⟨r0, r1, r2⟩ := (HS.out.1.blk K1.out (by omega)).all
    go_wp2_with fail
    exact ⟨_, by rw [HFX.out]; simp [upd, e2], rfl, HS.out, ⟨fun h => h, fun h => h⟩⟩
  · intro u W hS hd hp
    have HS := Lib.hid hS
    clear hS
    rw [HFX.out]
    clear hd hp 
    go_wp2_with fail
    exact ⟨_, by rw [HFX.out]; simp [upd], rfl, HS.out, ⟨fun h => h, fun h => h⟩⟩
  · intro u W hS hd hp
    have HS := Lib.hid hS
    clear hS
    obtain ⟨d4, -⟩ := hd
    have e4 : u 4 = .pointer (some ⟨w.heap.size, 4, none⟩) := d4 rfl
    rw [HFX.out]
    simp only [e4]
    clear hp d4
    obtain ⟨r0, r1, r2⟩ := (HS.out.1.blk K0.out (by omega)).all
    go_wp2_with fail
    exact ⟨_, by rw [HFX.out]; simp [upd, e4], rfl, HS.out, ⟨fun h => h, fun h => h⟩⟩
  · intro u W hS hd hp
    have HS := Lib.hid hS
    clear hS
    obtain ⟨d3, d5, -⟩ := hd
    have e3 : u 3 = .slice (some ⟨ga, oa, none⟩) pl d1 := d3 rfl
    have e5 : u 5 = .int .i64 (sn : Int) := d5 rfl
    rw [HFX.out]
    simp only [e3, e5]
    clear hp d3 d5
    have ib0 : (0 : Int) ≤ (sn : Int) := by omega
    have ib1 : (sn : Int) < (pl : Int) := by omega
    go_wp2_with fail
    exact ⟨_, by rw [HFX.out]; simp [upd, e3, e5], rfl, HS.out, ⟨fun h => h, fun h => h⟩⟩
  · intro u W hS hd hp
    have HS := Lib.hid hS
    clear hS
    obtain ⟨d6, -⟩ := hd
    have e6 : u 6 = .pointer (some ⟨ga, oa + sn, none⟩) := d6 rfl
    rw [HFX.out]
    simp only [e6]
    clear hp d6
    have r0 := ((HS.out.1.below HB.out.size (fun i hi => by omega)).cell (p := ⟨ga, oa + sn, none⟩) (Nat.lt_of_lt_of_le hga HBB.out)).trans PG3.out
    go_wp2_with fail
    exact ⟨_, by rw [HFX.out]; simp [upd, e6], rfl, HS.out, ⟨fun h => h, fun h => h⟩⟩
  · intro u W hS hd hp
    have HS := Lib.hid hS
    clear hS
    rw [HFX.out]
    clear hd hp 
    go_wp2_with fail
    exact ⟨_, by rw [HFX.out]; simp [upd], rfl, HS.out, ⟨fun h => h, fun h => h⟩⟩
  · intro u W hS hd hp
    have HS := Lib.hid hS
    clear hS
    obtain ⟨d8, d1, -⟩ := hd
    have e8 : u 8 = .pointer (some ⟨bo, 3, none⟩) := d8 rfl
    have e1 : u 1 = .string tn := d1 rfl
    rw [HFX.out]
    simp only [e8, e1]
    clear hp d8 d1
    obtain ⟨q1, va, vb, kk⟩ := HS.out
    obtain ⟨r0, r1, r2⟩ := kk.all
    go_wp2_with fail
    exact ⟨undef, by rw [HFX.out]; simp [upd, e8, e1], (kk.set_ 3 (.string tn)).cell 3, ⟨q1.setCell (p := ⟨bo, 3, none⟩) (.inl rfl) _, .string tn, vb, kk.set_ 3 (.string tn)⟩, ⟨fun _ => (kk.set_ 3 (.string tn)).cell 3, fun h => ((kk.set_ 3 (.string tn)).cell 4).trans ((kk.cell 4).symm.trans h)⟩⟩
  · intro u W hS hd hp
    have HS := Lib.hid hS
    clear hS
    rw [HFX.out]
    clear hd hp 
    go_wp2_with fail
    exact ⟨_, by rw [HFX.out]; simp [upd], rfl, HS.out, ⟨fun h => h, fun h => h⟩⟩
  · intro u W hS hd hp
    have HS := Lib.hid hS
    clear hS
    obtain ⟨d10, d7, -⟩ := hd
    have e10 : u 10 = .pointer (some ⟨bo, 4, none⟩) := d10 rfl
    have e7 : u 7 = .int .i64 ns := d7 rfl
    rw [HFX.out]
    simp only [e10, e7]
    clear hp d10 d7
    obtain ⟨q1, va, vb, kk⟩ := HS.out
    obtain ⟨r0, r1, r2⟩ := kk.all
    go_wp2_with fail
    exact ⟨undef, by rw [HFX.out]; simp [upd, e10, e7], (kk.set_ 4 (.int .i64 ns)).cell 4, ⟨q1.setCell (p := ⟨bo, 4, none⟩) (.inl rfl) _, va, .int .i64 ns, kk.set_ 4 (.int .i64 ns)⟩, ⟨fun h => ((kk.set_ 4 (.int .i64 ns)).cell 3).trans ((kk.cell 3).symm.trans h), fun _ => (kk.set_ 4 (.int .i64 ns)).cell 4⟩⟩
  intro u Wd hS hf
  have c3 : Wd.cell? ⟨bo, 3, none⟩ = some (.string tn) := hf 9 (by decide)
  have c4 : Wd.cell? ⟨bo, 4, none⟩ = some (.int .i64 ns) := hf 11 (by decide)
  rw [HFX.out]
  obtain ⟨hO, va, vb, kod⟩ := hS
  rw [kod.cell] at c3 c4
  have hva : va = .string tn := by injection c3
  have hvb : vb = .int .i64 ns := by injection c4
  subst hva hvb
  have hOB : Below w.heap.size w Wd := HB.out.trans (hO.below HB.out.size fun i hi => by omega)
  replace K0 := Lib.hid (hO.blk K0.out (by omega))
  replace K1 := Lib.hid (hO.blk K1.out (by omega))
  replace K4 := Lib.hid (hO.blk K4.out (by omega))
  clear HB K2 K3 hO KO PG3 c3 c4 hf HFX F
  have HB := Lib.hid hOB
  have KO : Hid (Blk Wd bo 27 #[.string id, .int .i64 o, .slice a1 cs.length c1, .string tn, .int .i64 ns, .slice a2 k2 c2, .slice a3 N c3, .slice a4 K c4]) := Lib.hid kod
  clear hOB kod
  obtain ⟨t0, t1, t2⟩ := K0.out.all
  go_wp2_with fail
  refine (HCL.out Wd HB.out).mono ?_
  rintro e W5 ⟨A7, c7, rfl, own5, b5⟩
  have OL := Lib.hid (owns_mono own5 HB.out.size)
  replace HB := Lib.hid (HB.out.trans (b5.mono HB.out.size))
  replace K0 := Lib.hid (K0.out.below b5 K0.out.lt)
  replace K1 := Lib.hid (K1.out.below b5 K1.out.lt)
  replace K4 := Lib.hid (K4.out.below b5 K4.out.lt)
  replace KO := Lib.hid (KO.out.below b5 KO.out.lt)
  clear b5
  clear own5 HCL
  obtain ⟨y0, y1, y2⟩ := KO.out.all
  go_upto_region 11 with fail
  generalize hWd : (W5.setCell ⟨bo, 6, none⟩ (.slice none 0 0)).setCell ⟨bo, 7, none⟩ (.slice A7 K c7) = Wd
  have hO : Only (fun i => i = bo) W5 Wd := by rw [← hWd]; exact ((Only.refl (fun i => i = bo) _).setCell (p := ⟨bo, 6, none⟩) (.inl rfl) _).setCell (p := ⟨bo, 7, none⟩) (.inl rfl) _
  have hOB : Below w.heap.size w Wd := HB.out.trans (hO.below HB.out.size fun i hi => by omega)
  have kod : Blk Wd bo 27 #[.string id, .int .i64 o, .slice a1 cs.length c1, .string tn, .int .i64 ns, .slice a2 k2 c2, .slice none 0 0, .slice A7 K c7] := by rw [← hWd]; exact (KO.out.set_ 6 (.slice none 0 0)).set_ 7 (.slice A7 K c7)
  have hol := hO.owns OL.out (fun b hb f => own_blk_ne OL.out KO.out (by decide) (by rw [hb, f]))
  replace K0 := Lib.hid (hO.blk K0.out (by omega))
  replace K1 := Lib.hid (hO.blk K1.out (by omega))
  replace K4 := Lib.hid (hO.blk K4.out (by omega))
  clear HB hO hWd KO y0 y1 y2 OL
  have HB := Lib.hid hOB
  have KO := Lib.hid kod
  have OL := Lib.hid hol
  clear hOB kod hol
  have hmm := @run_makeMap Tryz.prog
  have mm := MapV.made Wd
  have bm := below_self_alloc Wd (.map #[] 0)
  have hbal : w.heap.size ≤ Wd.heap.size := HB.out.size
  replace HB := Lib.hid (HB.out.trans (bm.mono HB.out.size))
  replace K0 := Lib.hid (K0.out.below bm K0.out.lt)
  replace K1 := Lib.hid (K1.out.below bm K1.out.lt)
  replace K4 := Lib.hid (K4.out.below bm K4.out.lt)
  replace KO := Lib.hid (KO.out.below bm KO.out.lt)
  clear bm
  replace OL := Lib.hid (OL.out.alloc (.map #[] 0))
  obtain ⟨u0, u1, u2⟩ := K1.out.all
  go_upto_region 12 with fail
  generalize Wd.alloc (.map #[] 0) = Wm at *
  generalize Wd.heap.size = ba at *
  have MM := Lib.hid mm
  clear mm hmm
  go_wp2_with fail
  refine (HNM.out Wm HB.out).mono ?_
  rintro e W8 ⟨bn, rfl, hbn, hm8, b8⟩
  have hne : ba ≠ bn := by have := MM.out.lt; omega
  have hbn0 : w.heap.size ≤ bn := Nat.le_trans HB.out.size hbn
  have AP := Lib.hid (⟨HB.out.trans (b8.mono HB.out.size), K0.out.below b8 K0.out.lt, K1.out.below b8 K1.out.lt, K4.out.below b8 K4.out.lt, KO.out.below b8 KO.out.lt, hm8, (Only.of_below b8 (fun _ => False)).owns OL.out (fun _ _ f => f), hbo, hbn0⟩ : ApS w W8 #[.string id, .int .i64 o, .slice a1 cs.length c1, .string pr, .int .i64 (sn : Int), .slice a2 k2 c2, .slice a3 N c3, .slice a4 K c4] #[.string pr, .string tn, .slice (some ⟨ga, oa, none⟩) pl d1, .slice b2 grs.length d2, .slice b3 J d3] bo #[.string id, .int .i64 o, .slice a1 cs.length c1, .string tn, .int .i64 ns, .slice a2 k2 c2, .slice none 0 0, .slice A7 K c7] bn grs (.slice A7 K c7) K lv)
  have MA := Lib.hid (MM.out.below b8 MM.out.lt)
  clear HB K0 K1 K4 KO OL MM hm8 b8 hbn u0 u1 u2
  obtain ⟨t0, t1, t2⟩ := AP.out.km.all
  go_wp2_with fail
  go_loopw [123] (fun i wr => ∃ k : Nat, k ≤ N ∧ i = .int .i64 (k : Int) ∧ ∃ (A : Option Addr) (c : Nat), Hid (ApS w wr #[.string id, .int .i64 o, .slice a1 cs.length c1, .string pr, .int .i64 (sn : Int), .slice a2 k2 c2, .slice a3 N c3, .slice a4 K c4] #[.string pr, .string tn, .slice (some ⟨ga, oa, none⟩) pl d1, .slice b2 grs.length d2, .slice b3 J d3] bo #[.string id, .int .i64 o, .slice a1 cs.length c1, .string tn, .int .i64 ns, .slice a2 k2 c2, .slice A (mergeR grs (rs.take k)).length c, .slice A7 K c7] bn grs (.slice A7 K c7) K lv) ∧ Hid (MapV wr ba (atN ((mergeR grs (rs.take k)).map (·.1)))) ∧ Hid (wr.ownsRow w.heap.size 53 2 (.slice A (mergeR grs (rs.take k)).length c) (mergeR grs (rs.take k)).length (rtCells (mergeR grs (rs.take k))))) (fun i _ => N - (intOf i).toNat)
  case atStart => exact ⟨0, Nat.zero_le _, rfl, none, 0, AP, MA, Lib.hid (World.ownsRow_nil _ _ _ _)⟩
  case round =>
    clear AP MA t0 t1 t2
    obtain ⟨k, hk, rfl, A, c, AP, MA, OW⟩ := hrel
    by_cases hlt : k < N
    · obtain ⟨r, hr⟩ : ∃ r, rs[k]? = some r := ⟨_, List.getElem?_eq_getElem (by rw [HN.out]; exact hlt)⟩
      obtain ⟨rn, rsn⟩ := r
      obtain ⟨g5, o5, hA, hg5, p0, p1⟩ := (HH.out.below (AP.out.hb.mono HBB.out)).rs k _ hr
      have hA : a3 = some ⟨g5, o5, none⟩ := hA
      subst hA
      have p0 : wr.cell? ⟨g5, o5 + k * 2, none⟩ = some (.string rn) := p0
      have p1 : wr.cell? ⟨g5, o5 + k * 2 + 1, none⟩ = some (.int .i64 rsn) := p1
      have hnx := mergeR_take (rs := grs) hr
      have hol := mergeR_len grs (rs.take k)
      rw [List.length_take] at hol
      have hod := mergeR_nodup grs (rs.take k)
      obtain ⟨out, ho⟩ : ∃ out, mergeR grs (rs.take k) = out := ⟨_, rfl⟩
      obtain ⟨nn, hnn⟩ : ∃ nn, namedL grs rn = nn := ⟨_, rfl⟩
      rw [ho] at hnx hol hod AP MA OW
      have kb := Blk.new wr 53 #[.string rn, .int .i64 rsn]
      have b0 := below_self_alloc wr (.cells #[.string rn, .int .i64 rsn] 53)
      have hren := grenamed_any (wr.alloc (.cells #[.string rn, .int .i64 rsn] 53)) bn grs (AP.out.nm.alloc _) rn
      simp only [hnn] at hnx hren
      have HNX := Lib.hid hnx
      have HOD := Lib.hid hod
      have HREN := Lib.hid hren
      have KB := Lib.hid kb
      have B0 := Lib.hid b0
      have ib0 : (0 : Int) ≤ (k : Int) := by omega
      have ib1 : (k : Int) < (N : Int) := by omega
      obtain ⟨y0, y1, y2⟩ := kb.all
      clear hr hnx ho hnn hren hod kb b0
      go_wp2_with fail
      refine HREN.out.mono ?_
      rintro e w2 ⟨rfl, b2⟩
      have kb2 := KB.out.below b2 KB.out.lt
      have b3 := (B0.out.trans (b2.mono B0.out.size)).setCell (p := ⟨wr.heap.size, 0, none⟩) (Nat.le_refl _) (.string nn)
      have kb3 : Blk (w2.setCell ⟨wr.heap.size, 0, none⟩ (.string nn)) wr.heap.size 53 #[.string nn, .int .i64 rsn] := kb2.set_ 0 (.string nn)
      clear p0 p1 b2 HREN KB B0 y0 y1 y2
      obtain ⟨y0, y1, y2⟩ := kb2.all
      go_upto_region 17 with fail
      generalize w2.setCell ⟨wr.heap.size, 0, none⟩ (.string nn) = W3 at *
      have hwr : wr.heap.size < W3.heap.size := kb3.lt
      have AP3 := Lib.hid (AP.out.below b3)
      have MA3 := Lib.hid (MA.out.below b3 MA.out.lt)
      have OW3 := Lib.hid ((Only.of_below b3 (fun _ => False)).owns OW.out (fun _ _ f => f))
      have KB3 := Lib.hid kb3
      have hrnew := AP.out.ko.lt
      have hmnew := MA.out.lt
      clear AP MA OW b3 y0 y1 y2 kb2 kb3
      obtain ⟨y0, y1, y2⟩ := KB3.out.all
      obtain ⟨v0, v1, v2⟩ := AP3.out.ko.all
      by_cases hin : nn ∈ out.map (·.1)
      · obtain ⟨i, hi⟩ := List.getElem?_of_mem hin
        obtain ⟨t, hti, htn⟩ : ∃ t, out[i]? = some t ∧ t.1 = nn := by
          rw [List.getElem?_map] at hi
          cases h1 : out[i]? with
          | none => rw [h1] at hi; cases hi
          | some t => rw [h1] at hi; injection hi with hi; exact ⟨t, rfl, hi⟩
        have hil := (List.getElem?_eq_some_iff.1 hti).1
        have lk := MA3.out.look_some kysStr Tryz.underlying79 (atN_G _) (atN_at hi) true
        rw [if_pos rfl] at lk
        have hput := HNX.out.trans (putR_in HOD.out hti htn)
        obtain ⟨gA, hA, hgA, hgl⟩ := row_some OW3.out (by omega)
        subst hA
        have cv := OW3.out.cellAt (i * 2 + 1) (by omega)
        rw [(rtCells_at out i t hti).2] at cv
        have fz := OW3.out.frozenAt (i * 2 + 1)
        have HPUT := Lib.hid hput
        have HTI := Lib.hid hti
        have hmn := run_min2 (P := Tryz.prog) t.2 rsn _ rfl
        have ic0 : (0 : Int) ≤ (i : Int) := by omega
        have ic1 : (i : Int) < (out.length : Int) := by omega
        clear hi hti htn hput hin
        go_upto_region 21 with fail
        refine wp_region_tail 12 (by kernel_rfl) (by kernel_rfl) ?_
        simp only [List.take_succ_cons, List.take_zero, List.drop_succ_cons, List.drop_zero]
        repeat still_step
        refine wpStill_nil ?_
        go_wp2
        have hstore := OW3.out.stored (i * 2 + 1) (.int .i64 (min t.2 rsn))
        have ap4 := (AP3.out.row OW3.out (by decide) (by decide) (by decide) hstore.2).below (below_drewM _)
        have ma4 := (MA3.out.grown hstore.2 (fun f => MA3.out.ne_own OW3.out f.symm)).below (below_drewM _) (MA3.out.grown hstore.2 (fun f => MA3.out.ne_own OW3.out f.symm)).lt
        have ow4 := (Only.of_below (below_drewM _) (fun _ => False)).owns hstore.1 (fun _ _ f => f)
        rw [← rtCells_set out i t _ HTI.out] at ow4
        have AP4 := Lib.hid ap4
        have MA4 := Lib.hid ma4
        have OW4 := Lib.hid ow4
        clear ap4 ma4 ow4 hstore
        go_roundw
        case rel => exact ⟨k + 1, by omega, by go_num, some ⟨gA, 0, none⟩, c, by rw [HPUT.out, List.length_set]; exact AP4, by rw [HPUT.out]; exact Lib.hid (by rw [setN HTI.out]; exact MA4.out), by rw [HPUT.out, List.length_set]; exact OW4⟩
        case measure => simp [intOf]; omega
      · have lk := MA3.out.look_none kysStr Tryz.underlying79 (atN_G _) (x := .string nn) ⟨_, rfl⟩ (atN_ne hin) (Tryz.zeroValue3 W3) true
        rw [if_pos rfl] at lk
        obtain ⟨W4, hu, hm4, hg4⟩ := MA3.out.upd_none kysStr Tryz.underlying79 (atN_G _) (x := .string nn) ⟨_, rfl⟩ (atN_ne hin) (.int .i64 (out.length : Int))
        have hput := HNX.out.trans (putR_out hin)
        have HPUT := Lib.hid hput
        have ap4 := AP3.out.map MA3.out hbal hne hg4
        have e4 : ∀ i, some ba = some i → ba = i := fun i h => by injection h
        have ow4 := (Only.of_grown hg4).owns OW3.out (fun b hb f => MA3.out.ne_own OW3.out (by rw [hb, e4 _ f]))
        have kb4 := (Only.of_grown hg4).blk KB3.out (fun f => MA3.out.ne_blk KB3.out (e4 _ f))
        have AP4 := Lib.hid ap4
        have MA4 := Lib.hid hm4
        have OW4 := Lib.hid ow4
        have KB4 := Lib.hid kb4
        clear hput hin ap4 hm4 hg4 e4 ow4 kb4 AP3 MA3 OW3
        go_upto_region 20 with fail
        clear lk hu y0 y1 y2 v0 v1 v2 KB3
        have kn := Blk.new W4 53 #[.string nn, .int .i64 rsn]
        have own3 := OW4.out.alloc (.cells #[.string nn, .int .i64 rsn] 53)
        have ap5 := AP4.out.below (below_self_alloc W4 (.cells #[.string nn, .int .i64 rsn] 53))
        have ma5 := MA4.out.alloc (.cells #[.string nn, .int .i64 rsn] 53)
        have AP5 := Lib.hid ap5
        have MA5 := Lib.hid ma5
        obtain ⟨y0, y1, y2⟩ := KB4.out.all
        obtain ⟨v0, v1, v2⟩ := AP4.out.ko.all
        clear ap5 ma5
        go_upto_region 22 with (at_builtin; refine wpList_append_lies _ rfl _ _ 24 rfl w.heap.size 53 i0 _ 2 24 Tryz.underlying24 hi0 hz0 hz1 hz2 rfl (by omega) (.slice A out.length c) out.length (rtCells out) rfl own3 ⟨W4.heap.size, 0, none⟩ 1 1 [.string nn, .int .i64 rsn] rfl rfl (World.news_of_block kn) (rtCells_one [(nn, rsn)]) (by omega) (by unfold maxLen; omega) (by omega) (by simp; omega) (W4.heap.size + 1) (by simp) ?_; intro gz cz Y own9 gr9 l9 z9; have AP6 := Lib.hid (AP5.out.row own3 (by decide) (by decide) (by decide) gr9); have MA6 := Lib.hid (MA5.out.grown gr9 (fun f => MA5.out.ne_own own3 f.symm)); have OW6 := Lib.hid own9; clear y0 y1 y2 v0 v1 v2 own3 kn own9 gr9 l9 z9; obtain ⟨v0, v1, v2⟩ := AP6.out.ko.all)
        have ap7 := AP6.out.set 6 (.slice (some ⟨gz, 0, none⟩) (out.length + 1) cz)
        have ma7 := MA6.out.only (only_set3 (g := bo) (i := 6) (v := .slice (some ⟨gz, 0, none⟩) (out.length + 1) cz)) (fun f => MA6.out.ne_blk AP6.out.ko f)
        have ow7 := (only_set3 (W := Y) (g := bo) (i := 6) (v := .slice (some ⟨gz, 0, none⟩) (out.length + 1) cz)).owns OW6.out (fun b hb f => own_blk_ne OW6.out AP6.out.ko (by decide) (by rw [hb, f]))
        have AP7 := Lib.hid ap7
        have MA7 := Lib.hid ma7
        have OW7 := Lib.hid ow7
        clear ap7 ma7 ow7 AP6 MA6 OW6 AP4 MA4 OW4 KB4 AP5 MA5 v0 v1 v2
        go_wp2
        go_roundw
        case rel => exact ⟨k + 1, by omega, by go_num, some ⟨gz, 0, none⟩, cz, by rw [HPUT.out, List.length_append]; exact AP7, by rw [HPUT.out]; exact Lib.hid (by rw [List.map_append, List.map_cons, List.map_nil, atN_snoc, List.length_map]; exact MA7.out), by rw [HPUT.out, List.length_append, rtCells_app]; exact OW7⟩
        case measure => simp [intOf]; omega
    · obtain rfl : N = k := by omega
      have hown := OW.out
      have hma := mergeR_len grs rs
      rw [List.take_of_length_le (by rw [HN.out]; exact Nat.le_refl _)] at AP OW
      obtain ⟨out, ho⟩ : ∃ out, mergeR grs rs = out := ⟨_, rfl⟩
      rw [ho] at AP OW hma
      have HO := Lib.hid ho
      clear MA ho hown
      obtain ⟨t0, t1, t2⟩ := AP.out.km.all
      go_wp2_with fail
      apply wp_label
      go_wp2_with fail
      go_loopw [171] (fun i wr => ∃ k : Nat, k ≤ K ∧ i = .int .i64 (k : Int) ∧ ∃ lk : List LmV, lk.length = K ∧ Hid (ApS w wr #[.string id, .int .i64 o, .slice a1 cs.length c1, .string pr, .int .i64 (sn : Int), .slice a2 k2 c2, .slice a3 N c3, .slice a4 K c4] #[.string pr, .string tn, .slice (some ⟨ga, oa, none⟩) pl d1, .slice b2 grs.length d2, .slice b3 J d3] bo #[.string id, .int .i64 o, .slice a1 cs.length c1, .string tn, .int .i64 ns, .slice a2 k2 c2, .slice A out.length c, .slice A7 K c7] bn grs (.slice A7 K c7) K lk) ∧ Hid (wr.ownsRow w.heap.size 53 2 (.slice A out.length c) out.length (rtCells out)) ∧ Hid (LimK gts day l lv k lk) ∧ Hid (∀ x ∈ lk, LaO w B lv x) ∧ Hid (∀ y ∈ ls.take k, (chgS gts day l y).2 = 0)) (fun i _ => K - (intOf i).toNat)
      case atStart => exact ⟨0, Nat.zero_le _, rfl, lv, HKL.out, AP, OW, Lib.hid (LimK.zero _ _ _ _), Lib.hid (fun x hx => ⟨lms_elem HH.out.ls hx, fun h0 => ⟨x, hx, h0, rfl⟩⟩), Lib.hid (by simp)⟩
      case round =>
        clear AP OW t0 t1 t2
        obtain ⟨k, hk, rfl, lk, hlk, AP, OW, LK, LA, LE⟩ := hrel
        obtain ⟨wo, rfl⟩ : ∃ q, q = wr := ⟨wr, rfl⟩
        by_cases hlt : k < K
        · obtain ⟨x, hx⟩ : ∃ x, lv[k]? = some x := ⟨_, List.getElem?_eq_getElem (by rw [HKL.out]; exact hlt)⟩
          obtain ⟨g5, o5, hA, hg5, p0, p1, p2, p3, p4, -⟩ := (HH.out.below (AP.out.hb.mono HBB.out)).ls k x hx
          have hA : a4 = some ⟨g5, o5, none⟩ := hA
          subst hA
          have hxl : ls[k]? = some x.1 := by rw [← HLV0.out, List.getElem?_map, hx]; rfl
          have hxm : x ∈ lv := List.mem_of_getElem? hx
          have ib0 : (0 : Int) ≤ (k : Int) := by omega
          have ib1 : (k : Int) < (K : Int) := by omega
          have kb := Blk.new wo 66 #[.string x.1.id, .int .i64 x.1.n, .int .i64 x.1.u, .int .i64 x.1.f, .slice x.2.1 x.1.S.length x.2.2]
          have b0 := below_self_alloc wo (.cells #[.string x.1.id, .int .i64 x.1.n, .int .i64 x.1.u, .int .i64 x.1.f, .slice x.2.1 x.1.S.length x.2.2] 66)
          have HX := Lib.hid hx
          have HXL := Lib.hid hxl
          have HXM := Lib.hid hxm
          have KB := Lib.hid kb
          have B0 := Lib.hid b0
          have AP0 := Lib.hid (AP.out.below b0)
          obtain ⟨u0, u1, u2⟩ := AP0.out.kg.all
          clear hx hxl hxm kb b0
          go_upto_region 26 with fail
          go_wp2_with fail
          go_loopw [179] (fun i wq => ∃ j : Nat, j ≤ J ∧ i = .int .i64 (j : Int) ∧ Hid (∀ t ∈ tv.take j, ¬ t.1.id = x.1.id) ∧ Hid (Below wo.heap.size wo wq) ∧ Hid (Blk wq wo.heap.size 66 #[.string x.1.id, .int .i64 x.1.n, .int .i64 x.1.u, .int .i64 x.1.f, .slice x.2.1 x.1.S.length x.2.2])) (fun i _ => J - (intOf i).toNat)
          case atStart => exact ⟨0, Nat.zero_le _, rfl, Lib.hid (by simp), B0, KB⟩
          case round =>
            clear u0 u1 u2 AP0 B0 KB p0 p1 p2 p3 p4
            obtain ⟨j, hj, rfl, TN, B0, KB⟩ := hrel
            by_cases hjt : j < J
            · obtain ⟨t, htv⟩ : ∃ t, tv[j]? = some t := ⟨_, List.getElem?_eq_getElem (by rw [HJL.out]; exact hjt)⟩
              obtain ⟨g6, o6, hA, hg6, p0, p1, p2, p3, p4, -⟩ := (HGG.out.below ((AP.out.hb.trans (B0.out.mono AP.out.hb.size)).mono HBB.out)).ts j t htv
              have hA : b3 = some ⟨g6, o6, none⟩ := hA
              subst hA
              have htg : gts[j]? = some t.1 := by rw [← HTV0.out, List.getElem?_map, htv]; rfl
              have jb0 : (0 : Int) ≤ (j : Int) := by omega
              have jb1 : (j : Int) < (J : Int) := by omega
              have kt := Blk.new wr 66 #[.string t.1.id, .int .i64 t.1.n, .int .i64 t.1.u, .int .i64 t.1.f, .slice t.2.1 t.1.S.length t.2.2]
              have bt := below_self_alloc wr (.cells #[.string t.1.id, .int .i64 t.1.n, .int .i64 t.1.u, .int .i64 t.1.f, .slice t.2.1 t.1.S.length t.2.2] 66)
              have kb1 := KB.out.alloc (.cells #[.string t.1.id, .int .i64 t.1.n, .int .i64 t.1.u, .int .i64 t.1.f, .slice t.2.1 t.1.S.length t.2.2] 66)
              have HTV := Lib.hid htv
              have HTG := Lib.hid htg
              have KT := Lib.hid kt
              have BT := Lib.hid (B0.out.trans (bt.mono B0.out.size))
              have KB1 := Lib.hid kb1
              obtain ⟨u0, u1, u2⟩ := kt.all
              obtain ⟨v0, v1, v2⟩ := kb1.all
              clear htv htg kt bt kb1
              go_upto_region 29 with fail
              by_cases h1 : t.1.id = x.1.id
              · have hto : termOf gts x.1.id = some t.1 := termOf_found HTG.out h1 (by
                  intro r hr
                  have hr2 : r ∈ (tv.take j).map (·.1) := by rw [List.map_take, HTV0.out]; exact hr
                  obtain ⟨t2, ht2, rfl⟩ := List.mem_map.1 hr2
                  exact TN.out t2 ht2)
                obtain ⟨r, hr⟩ : ∃ r, changeS x.1 day t.1.n t.1.u t.1.f l = r := ⟨_, rfl⟩
                have hcg : chgS gts day l x.1 = r := by unfold chgS; rw [hto]; exact hr
                have hcc := HCH.out (wr.alloc (.cells #[.string t.1.id, .int .i64 t.1.n, .int .i64 t.1.u, .int .i64 t.1.f, .slice t.2.1 t.1.S.length t.2.2] 66)) (AP.out.hb.trans (BT.out.mono AP.out.hb.size)) x HXM.out t.1.n t.1.u t.1.f
                rw [hr] at hcc
                have hcc : Calls Tryz.prog 30 #[.agg #[.string x.1.id, .int .i64 x.1.n, .int .i64 x.1.u, .int .i64 x.1.f, .slice x.2.1 x.1.S.length x.2.2], .int .i64 day, .agg #[.int .i64 t.1.n, .int .i64 t.1.u], .int .i64 t.1.f, .slice D l.length cl] _ _ := hcc
                have HCC := Lib.hid hcc
                have HCG := Lib.hid hcg
                clear hto hr hcg hcc
                have e5 : (t.1.id.toList == x.1.id.toList) = true := by rw [h1]; simp
                clear h1
                go_wp2_with fail
                refine HCC.out.mono ?_
                rintro e w7 ⟨A9, c9, he, ⟨hst9, hA9⟩, b7⟩
                obtain ⟨r1, r2⟩ := r
                obtain rfl : e = .returned (.tuple #[.agg #[.string r1.id, .int .i64 r1.n, .int .i64 r1.u, .int .i64 r1.f, .slice A9 r1.S.length c9], .int .i64 r2]) := he
                have hst9 := hst9.back ((AP.out.hb.trans (BT.out.mono AP.out.hb.size)).mono HBB.out)
                have b8 := BT.out.trans (b7.mono BT.out.size)
                simp only at hst9
                have ap8 := AP.out.below b8
                have ow8 := (Only.of_below b8 (fun _ => False)).owns OW.out (fun _ _ f => f)
                have AP8 := Lib.hid ap8
                have OW8 := Lib.hid ow8
                have HST9 := Lib.hid hst9
                have HAA : Hid (r1.S ≠ [] → A9 = x.2.1) := Lib.hid hA9
                clear hA9
                clear u0 u1 u2 v0 v1 v2 p0 p1 p2 p3 p4 b7 b8 hst9 ap8 ow8 HCC
                go_upto_region 31 with fail
                have kr := Blk.new w7 66 #[.string r1.id, .int .i64 r1.n, .int .i64 r1.u, .int .i64 r1.f, .slice A9 r1.S.length c9]
                have br := below_self_alloc w7 (.cells #[.string r1.id, .int .i64 r1.n, .int .i64 r1.u, .int .i64 r1.f, .slice A9 r1.S.length c9] 66)
                have AP9 := Lib.hid (AP8.out.below br)
                have OW9 := Lib.hid (OW8.out.alloc (.cells #[.string r1.id, .int .i64 r1.n, .int .i64 r1.u, .int .i64 r1.f, .slice A9 r1.S.length c9] 66))
                have KR := Lib.hid kr
                clear AP8 OW8 kr br
                generalize w7.alloc (.cells #[.string r1.id, .int .i64 r1.n, .int .i64 r1.u, .int .i64 r1.f, .slice A9 r1.S.length c9] 66) = w8 at *
                by_cases h2 : r2 = 0
                · subst h2
                  have hk9 := chg_keep (ts := gts) (day := day) (l := l) (x := x.1) (by rw [HCG.out])
                  rw [HCG.out] at hk9
                  have hla : LmAt w B A9 r1 := by
                    have h9 := LA.out
                    have h8 := lms_elem HH.out.ls HXM.out
                    have h7 : x.1.id.size ≤ 9223372036854775807 ∧ x.1.S.length ≤ 9223372036854775807 := h8.2
                    exact ⟨HST9.out, by rw [hk9.1]; exact h7.1, by rw [hk9.2]; exact h7.2⟩
                  have LK2 := Lib.hid (LK.out.step HX.out (y := (r1, A9, c9)) (by rw [HCG.out]))
                  have LA2 : Hid (∀ y ∈ lk.set k (r1, A9, c9), LaO w B lv y) := Lib.hid (fun y hy => by
                    rcases List.mem_or_eq_of_mem_set hy with h | h
                    · exact LA.out y h
                    · rw [h]; exact ⟨hla, fun h0 => ⟨x, HXM.out, fun h1 => h0 (by show r1.S = []; rw [hk9.2]; exact h1), (HAA.out h0).symm⟩⟩)
                  have LE2 : Hid (∀ y ∈ ls.take (k + 1), (chgS gts day l y).2 = 0) := Lib.hid (fun y hy => by
                    rw [take_snoc' HXL.out] at hy
                    rcases List.mem_append.1 hy with h | h
                    · exact LE.out y h
                    · have : y = x.1 := by simpa using h
                      rw [this, HCG.out])
                  go_upto_region 33 with fail
                  obtain ⟨gl, hA, hgl, hgl2⟩ := row_some AP9.out.ol (by omega)
                  subst hA
                  have hrow := row5 AP9.out.ol (r1, A9, c9) (show k < lk.length by omega)
                  obtain ⟨u0, u1, u2⟩ := KR.out.all
                  obtain ⟨v0, v1, v2⟩ := AP9.out.ko.all
                  have f0 := AP9.out.ol.frozenAt (k * 5)
                  have f1 := AP9.out.ol.frozenAt (k * 5 + 1)
                  have f2 := AP9.out.ol.frozenAt (k * 5 + 2)
                  have f3 := AP9.out.ol.frozenAt (k * 5 + 3)
                  have f4 := AP9.out.ol.frozenAt (k * 5 + 4)
                  have hcells : ∀ m, m < 5 → ∃ v, w8.cell? ⟨gl, k * 5 + m, none⟩ = some v := fun m hm => by
                    rw [AP9.out.ol.cellAt (k * 5 + m) (by omega)]
                    exact ⟨_, List.getElem?_eq_getElem (by rw [lmCells_len]; omega)⟩
                  obtain ⟨q0, hq0⟩ := hcells 0 (by omega)
                  obtain ⟨q1, hq1⟩ := hcells 1 (by omega)
                  obtain ⟨q2, hq2⟩ := hcells 2 (by omega)
                  obtain ⟨q3, hq3⟩ := hcells 3 (by omega)
                  obtain ⟨q4, hq4⟩ := hcells 4 (by omega)
                  have hq0 : w8.cell? ⟨gl, k * 5, none⟩ = some q0 := hq0
                  have HROW := Lib.hid hrow
                  have HA9 := Lib.hid hla
                  clear hrow hcells hla hk9
                  go_wp2
                  have ow2 := HROW.out.2.owns OW9.out (fun b hb f => own_own_ne OW9.out AP9.out.ol (by decide) hb (by rw [f]; rfl))
                  have ap2 := (AP9.out.lset HROW.out.1 HROW.out.2)
                  have OW2 := Lib.hid ow2
                  have AP2 := Lib.hid ap2
                  clear ow2 ap2 HROW
                  go_roundw
                  case rel => exact ⟨k + 1, by omega, by go_num, lk.set k (r1, A9, c9), by rw [List.length_set]; exact hlk, AP2, OW2, LK2, LA2, LE2⟩
                  case measure => simp [intOf]; omega
                · have hEE : E = r2 := by rw [← HE.out, chgE_at HXL.out LE.out (by rw [HCG.out]; exact h2), HCG.out]
                  subst hEE
                  have hz : Z = Mt.zero := by rw [HM.out, if_neg h2]
                  subst hz
                  have kz := AP9.out.kz
                  have hlv := row_load kz #[.string ⟨#[]⟩, .int .i64 0, .slice none 0 0, .string ⟨#[]⟩, .int .i64 0, .slice none 0 0, .slice none 0 0, .slice none 0 0] rfl
                  have hfin := mt_errO (w := w) (m0 := ⟨id, o, cs, pr, (sn : Int), mv, rs, ls⟩) (x0 := ⟨a1, c1, a2, c2, a3, c3, some ⟨g5, o5, none⟩, c4, lv⟩) (E := E) (below_row AP9.out.hb (show w.heap.size ≤ w.heap.size + 1 + 1 + 1 + 1 by omega) #[.string ⟨#[]⟩, .int .i64 0, .slice none 0 0, .string ⟨#[]⟩, .int .i64 0, .slice none 0 0, .slice none 0 0, .slice none 0 0])
                  have HLV := Lib.hid hlv
                  have HFIN := Lib.hid hfin
                  have KZ := Lib.hid kz
                  clear hlv hfin kz
                  go_upto_region 32 with fail
                  go_wp2_with (refine wp_row rfl (.tmp 12) (.tmp 201) rfl (w.heap.size + 1 + 1 + 1 + 1) #[.string ⟨#[]⟩, .int .i64 0, .slice none 0 0, .string ⟨#[]⟩, .int .i64 0, .slice none 0 0, .slice none 0 0, .slice none 0 0] rfl rfl rfl one8 rfl KZ.out ?_)
                  rw [Exit.noGoto_ret]
                  exact bodyPost_ret (v := .tuple #[.agg #[.string ⟨#[]⟩, .int .i64 0, .slice none 0 0, .string ⟨#[]⟩, .int .i64 0, .slice none 0 0, .slice none 0 0, .slice none 0 0], .int .i64 E]) (by simp [results, Tryz.results11, asAddr, HLV.out]) rfl HFIN.out
              · have e5 := str_no h1
                have TN2 : Hid (∀ t' ∈ tv.take (j + 1), ¬ t'.1.id = x.1.id) := Lib.hid (by
                  rw [take_snoc' HTV.out]
                  intro y hy
                  rcases List.mem_append.1 hy with h | h
                  · exact TN.out y h
                  · have : y = t := by simpa using h
                    rw [this]; exact h1)
                clear h1
                go_wp2_with fail
                go_roundw
                case rel => exact ⟨j + 1, by omega, by go_num, TN2, BT, KB1⟩
                case measure => simp [intOf]; omega
            · obtain rfl : J = j := by omega
              have hto : termOf gts x.1.id = none := termOf_no (by
                intro r hr
                have hr2 : r ∈ tv.map (·.1) := by rw [HTV0.out]; exact hr
                obtain ⟨t2, ht2, rfl⟩ := List.mem_map.1 hr2
                have := TN.out
                rw [List.take_of_length_le (by rw [HJL.out]; exact Nat.le_refl _)] at this
                exact this t2 ht2)
              have hcg : chgS gts day l x.1 = (x.1, 0) := by unfold chgS; rw [hto]
              have LK2 := Lib.hid (LK.out.same HX.out (by rw [hcg]))
              have LE2 : Hid (∀ y ∈ ls.take (k + 1), (chgS gts day l y).2 = 0) := Lib.hid (fun y hy => by
                rw [take_snoc' HXL.out] at hy
                rcases List.mem_append.1 hy with h | h
                · exact LE.out y h
                · have : y = x.1 := by simpa using h
                  rw [this, hcg])
              have AP2 := Lib.hid (AP.out.below B0.out)
              have OW2 := Lib.hid ((Only.of_below B0.out (fun _ => False)).owns OW.out (fun _ _ f => f))
              clear hto hcg
              go_wp2_with fail
              go_roundw
              case rel => exact ⟨k + 1, by omega, by go_num, lk, hlk, AP2, OW2, LK2, LA, LE2⟩
              case measure => simp [intOf]; omega
        · obtain rfl : K = k := by omega
          have hE0 : E = 0 := by
            rw [← HE.out]
            refine chgE_zero.2 fun y hy => LE.out y ?_
            rw [List.take_of_length_le (by rw [HK.out]; exact Nat.le_refl _)]
            exact hy
          subst hE0
          have hz := HM.out
          rw [if_pos rfl] at hz
          subst hz
          have hmap : lk.map (·.1) = chgL gts day l ls := by
            have := LK.out
            rw [← HKL.out] at this
            rw [this.done, HLV0.out]
          have hlk2 : (chgL gts day l ls).length = K := by unfold chgL; rw [List.length_map]; exact HK.out
          have kz := AP.out.kz
          have hlv := row_load kz #[.string id, .int .i64 o, .slice a1 cs.length c1, .string tn, .int .i64 ns, .slice a2 k2 c2, .slice A out.length c, .slice A7 K c7] rfl
          have ho := (only_setRow wo (w.heap.size + 1 + 1 + 1 + 1) #[.string id, .int .i64 o, .slice a1 cs.length c1, .string tn, .int .i64 ns, .slice a2 k2 c2, .slice A out.length c, .slice A7 K c7])
          have ow9 := ho.owns OW.out (fun b hb f => own_blk_ne OW.out kz (by decide) (by rw [hb, f]))
          have ol9 := ho.owns AP.out.ol (fun b hb f => own_blk_ne AP.out.ol kz (by decide) (by rw [hb, f]))
          have hb9 := below_row AP.out.hb (show w.heap.size ≤ w.heap.size + 1 + 1 + 1 + 1 by omega) #[.string id, .int .i64 o, .slice a1 cs.length c1, .string tn, .int .i64 ns, .slice a2 k2 c2, .slice A out.length c, .slice A7 K c7]
          have HLV := Lib.hid hlv
          have KZ := Lib.hid kz
          have OW9 := Lib.hid ow9
          have OL9 := Lib.hid ol9
          have HB9 := Lib.hid hb9
          have HMAP := Lib.hid hmap
          have HLK2 := Lib.hid hlk2
          obtain ⟨v0, v1, v2⟩ := AP.out.ko.all
          clear hlv kz ow9 ol9 hb9 hmap ho hlk2
          go_wp2_with (refine wp_row rfl (.tmp 12) (.tmp 210) rfl (w.heap.size + 1 + 1 + 1 + 1) #[.string id, .int .i64 o, .slice a1 cs.length c1, .string tn, .int .i64 ns, .slice a2 k2 c2, .slice A out.length c, .slice A7 K c7] rfl rfl rfl one8 rfl KZ.out ?_)
          try rw [Exit.noGoto_ret]
          refine bodyPost_ret (v := .tuple #[.agg #[.string id, .int .i64 o, .slice a1 cs.length c1, .string tn, .int .i64 ns, .slice a2 k2 c2, .slice A out.length c, .slice A7 K c7], .int .i64 0]) (by simp [results, Tryz.results11, asAddr, HLV.out]) rfl ?_
          have hm := HH.out.below (HB9.out.mono HBB.out)
          have hsz := Nat.le_trans HBB.out HB9.out.size
          refine ⟨⟨a1, c1, a2, c2, A, c, A7, c7, lk⟩, ?_, ⟨⟨hm.cs.wide hsz, hm.mv.wide hsz, ?_, ?_, HMAP.out, hm.id, HGG.out.tn, ?_⟩, ?_⟩, HB9.out⟩
          · unfold mtC
            simp only [HO.out, HLK2.out, HK2.out]
          · show RtsAt _ _ A (mergeR grs rs)
            rw [HO.out]
            exact RtsAt.of_row rfl OW9.out
          · exact LmsAt.of_row2 hlk OL9.out (fun y hy => (LmAt.below (LA.out y hy).1 (HB9.out.mono HBB.out)).wide hsz)
          · intro r hr
            obtain ⟨r0, hr0, rfl⟩ := mergeR_mem hr
            rcases named_or grs r0.1 with h | ⟨s, hs, h⟩
            · show (namedL grs r0.1).size ≤ _
              rw [h]; exact HH.out.rn r0 hr0
            · show (namedL grs r0.1).size ≤ _
              rw [h]; exact (HGG.out.rn s hs).2
          · intro g0 hg0 hof
            obtain ⟨f1, f2, f3, f4, f5⟩ := hof
            refine ⟨f1, f2, fun h0 b hb0 => ?_, fun h0 b hb0 => ?_, fun y hy h0 b hb0 => ?_⟩
            · have h1 : 0 < out.length := by rw [← HO.out]; exact List.length_pos_iff.2 h0
              have := own_ge OW9.out h1 hb0
              omega
            · have h1 : 0 < K := by rw [← hlk]; exact List.length_pos_iff.2 h0
              have := own_ge OL9.out h1 hb0
              omega
            · obtain ⟨z0, hz0', hz1', hz2'⟩ := (LA.out y hy).2 h0
              exact f5 z0 hz0' hz1' b (hz2'.trans hb0)
end Go.Proofs.YtebdkmlganalaaaGreatDoor
