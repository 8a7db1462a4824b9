/- Apply where it is barred. Apply. The five listed variables: what the rows' condition gives; a wrap that hands on the world's shape, too. -/
import Derived.Test.YtebdkmlganalaaaGreatDoorKTopAccruedGBO
import Derived.Test.YtebdkmlganalaaaGreatDoorKTopAccruedMk
import Derived.Test.YtebdkmlganalaaaGreatDoorKTopAccruedWc
import Derived.Test.YtebdkmlganalaaaGreatDoorKTopAccruedQs
import Derived.Test.YtebdkmlganalaaaGreatDoorKTopAccruedYf
import Derived.WalkMore
import Derived.Test.YtebdkmlganalaaaGreatDoorKTopAccruedMw
import Derived.Test.YtebdkmlganalaaaGreatDoorRows
import Derived.Test.YtebdkmlganalaaaGreatDoorKTopAccruedQt
import Derived.ProofKit
import Derived.HandedShaped
import Derived.Handed
import Derived.Lay
import Derived.LaidMore
import Derived.LaidOnce
import Derived.Shelf.Vars
import Derived.Stop.Joined
import Derived.Stop.LaidErr
namespace Go.Proofs.YtebdkmlganalaaaGreatDoor
open Go.RowKit Go.Shelf

set_option maxRecDepth 100000 in
set_option maxHeartbeats 8000000 in
theorem gapply_bad (w : World) (ht : Tbs w) (B : Nat) (m : Mt) (x : MtX) (h : MtAt w B m x) (hB : B ≤ w.heap.size) (hs : Sml m) (g : Mg) (z : MgX) (hg : MgAt w B g z) (hsg : SmlG g) (p : Pc) (y : PcX) (hp : PcAt w B p y) (hsp : SmlP p) (q : Pc) (v : PcX) (hq : PcAt w B q v) (hsq : SmlP q) (day : Int) (D : Option Addr) (l : List Int) (cl : Nat)
    (hbad : apB m g p q day = false ∨ newSt g m.st < 0 ∨ day < m.o ∨ day < lastI m.o m.mv) :
    Calls Tryz.prog 11 #[.agg (mtC m x), .agg (mgC g z), .agg (pcC p y), .agg (pcC q v), .int .i64 day, .slice D l.length cl] w (MtPostO w m x (applyE m g p q day l) (applyM m g p q day l)) := by
  obtain ⟨E, hE⟩ : ∃ E, applyE m g p q day l = E := ⟨_, rfl⟩
  have hE0 : E ≠ 0 := by
    rw [← hE]; unfold applyE
    intro he
    split at he
    · simp at he
    · split at he
      · simp at he
      · split at he
        · simp at he
        · rename_i a1 a2 a3
          rcases hbad with h | h | h | h
          · exact a1 h
          · exact a2 h
          · exact a3 (.inl h)
          · exact a3 (.inr h)
  have hM : applyM m g p q day l = Mt.zero := by unfold applyM; rw [hE, if_neg hE0]
  rw [hM, hE]
  unfold applyE at hE
  clear hM hE0
  have hva := fun W (hW : Below w.heap.size w W) => gvalid_any W (ht.below hW) B g z (hg.below (hW.mono hB)) (Nat.le_trans hB hW.size) hsg p y (hp.below (hW.mono hB)) hsp q v (hq.below (hW.mono hB)) hsq
  have htx := fun W (hW : Below w.heap.size w W) => text_any W (ht.below hW) B m x (h.below (hW.mono hB)) (Nat.le_trans hB hW.size) hs
  unfold TextPost at htx
  obtain ⟨TX, hTX⟩ : ∃ T, bs (if fmB m = true then textL m else []) = T := ⟨_, rfl⟩
  obtain ⟨te, hte⟩ : ∃ T : Int, (if fmB m = true then 0 else 1) = T := ⟨_, rfl⟩
  rw [hTX, hte] at htx
  clear hTX
  obtain ⟨vv, hvv⟩ : ∃ b, vdB g p q = b := ⟨_, rfl⟩
  obtain ⟨ff, hff⟩ : ∃ b, fmB m = b := ⟨_, rfl⟩
  rw [hvv] at hva
  rw [hff] at hte
  have hgl : vv = true → g.st.length = p.ss.length := fun e => (vdB_iff.1 (hvv.trans e)).2.2.2.2.2.1
  have hst0 : ff = true → 0 ≤ m.st := fun e => (fmB_iff.1 (hff.trans e)).2.2.2.1.1
  unfold apB at hE hbad
  rw [hvv, hff] at hE hbad
  have hml := hs.2.1
  clear hvv hff hp hq ht hs hsg hsp hsq
  obtain ⟨id, o, cs, pr, st, mv, rs, ls⟩ := m
  obtain ⟨a1, c1, a2, c2, a3, c3, a4, c4, lv⟩ := x
  obtain ⟨fr, tn, gst, grs, gts⟩ := g
  obtain ⟨b1, d1, b2, d2, b3, d3, tv⟩ := z
  obtain ⟨pn, pss, pms⟩ := p
  obtain ⟨e1, f1, e2, f2⟩ := y
  obtain ⟨qn, qss, qms⟩ := q
  obtain ⟨i1, j1, i2, j2⟩ := v
  simp only at hE hbad hgl hst0 hml
  obtain ⟨N, hN⟩ : ∃ N, rs.length = N := ⟨_, rfl⟩
  obtain ⟨K, hK⟩ : ∃ K, ls.length = K := ⟨_, rfl⟩
  obtain ⟨J, hJ⟩ : ∃ J, gts.length = J := ⟨_, rfl⟩
  obtain ⟨k2, hk2⟩ : ∃ K, mv.length = K := ⟨_, rfl⟩
  obtain ⟨pl, hpl⟩ : ∃ K, pss.length = K := ⟨_, rfl⟩
  obtain ⟨gn, hgn⟩ : ∃ K, gst.length = K := ⟨_, rfl⟩
  rw [hk2] at hml
  rw [hgn, hpl] at hgl
  rw [hpl] at hE hbad
  have eM : mtC ⟨id, o, cs, pr, st, mv, rs, ls⟩ ⟨a1, c1, a2, c2, a3, c3, a4, c4, lv⟩ = #[.string id, .int .i64 o, .slice a1 cs.length c1, .string pr, .int .i64 st, .slice a2 k2 c2, .slice a3 N c3, .slice a4 K c4] := by unfold mtC; simp only [hN, hK, hk2]
  have eG : mgC ⟨fr, tn, gst, grs, gts⟩ ⟨b1, d1, b2, d2, b3, d3, tv⟩ = #[.string fr, .string tn, .slice b1 gn d1, .slice b2 grs.length d2, .slice b3 J d3] := by unfold mgC; simp only [hJ, hgn]
  have eP : pcC ⟨pn, pss, pms⟩ ⟨e1, f1, e2, f2⟩ = #[.string pn, .slice e1 pl f1, .slice e2 pms.length f2] := by unfold pcC; simp only [hpl]
  have eQ : pcC ⟨qn, qss, qms⟩ ⟨i1, j1, i2, j2⟩ = #[.string qn, .slice i1 qss.length j1, .slice i2 qms.length j2] := rfl
  rw [eG, eP, eQ] at hva
  rw [eM] at htx
  rw [eM, eG, eP, eQ]
  have hb := ((((below_self_alloc w (.cells #[.string id, .int .i64 o, .slice a1 cs.length c1, .string pr, .int .i64 st, .slice a2 k2 c2, .slice a3 N c3, .slice a4 K c4] 27)).alloc (by simp) (.cells #[.string fr, .string tn, .slice b1 gn d1, .slice b2 grs.length d2, .slice b3 J d3] 30)).alloc (by simp; omega) (.cells #[.string pn, .slice e1 pl f1, .slice e2 pms.length f2] 34)).alloc (by simp; omega) (.cells #[.string qn, .slice i1 qss.length j1, .slice i2 qms.length j2] 34)).alloc (by simp; omega) (.cells #[.string ⟨#[]⟩, .int .i64 0, .slice none 0 0, .string ⟨#[]⟩, .int .i64 0, .slice none 0 0, .slice none 0 0, .slice none 0 0] 27)
  have s3 : (((w.alloc (.cells #[.string id, .int .i64 o, .slice a1 cs.length c1, .string pr, .int .i64 st, .slice a2 k2 c2, .slice a3 N c3, .slice a4 K c4] 27)).alloc (.cells #[.string fr, .string tn, .slice b1 gn d1, .slice b2 grs.length d2, .slice b3 J d3] 30)).alloc (.cells #[.string pn, .slice e1 pl f1, .slice e2 pms.length f2] 34)).heap.size = w.heap.size + 1 + 1 + 1 := by simp
  have s4 : ((((w.alloc (.cells #[.string id, .int .i64 o, .slice a1 cs.length c1, .string pr, .int .i64 st, .slice a2 k2 c2, .slice a3 N c3, .slice a4 K c4] 27)).alloc (.cells #[.string fr, .string tn, .slice b1 gn d1, .slice b2 grs.length d2, .slice b3 J d3] 30)).alloc (.cells #[.string pn, .slice e1 pl f1, .slice e2 pms.length f2] 34)).alloc (.cells #[.string qn, .slice i1 qss.length j1, .slice i2 qms.length j2] 34)).heap.size = w.heap.size + 1 + 1 + 1 + 1 := by simp
  have k0 := ((((Blk.new w 27 #[.string id, .int .i64 o, .slice a1 cs.length c1, .string pr, .int .i64 st, .slice a2 k2 c2, .slice a3 N c3, .slice a4 K c4]).alloc (.cells #[.string fr, .string tn, .slice b1 gn d1, .slice b2 grs.length d2, .slice b3 J d3] 30)).alloc (.cells #[.string pn, .slice e1 pl f1, .slice e2 pms.length f2] 34)).alloc (.cells #[.string qn, .slice i1 qss.length j1, .slice i2 qms.length j2] 34)).alloc (.cells #[.string ⟨#[]⟩, .int .i64 0, .slice none 0 0, .string ⟨#[]⟩, .int .i64 0, .slice none 0 0, .slice none 0 0, .slice none 0 0] 27)
  have k1 := (((Blk.new1 w (.cells #[.string id, .int .i64 o, .slice a1 cs.length c1, .string pr, .int .i64 st, .slice a2 k2 c2, .slice a3 N c3, .slice a4 K c4] 27) 30 #[.string fr, .string tn, .slice b1 gn d1, .slice b2 grs.length d2, .slice b3 J d3]).alloc (.cells #[.string pn, .slice e1 pl f1, .slice e2 pms.length f2] 34)).alloc (.cells #[.string qn, .slice i1 qss.length j1, .slice i2 qms.length j2] 34)).alloc (.cells #[.string ⟨#[]⟩, .int .i64 0, .slice none 0 0, .string ⟨#[]⟩, .int .i64 0, .slice none 0 0, .slice none 0 0, .slice none 0 0] 27)
  have k2' := ((Blk.new2 w (.cells #[.string id, .int .i64 o, .slice a1 cs.length c1, .string pr, .int .i64 st, .slice a2 k2 c2, .slice a3 N c3, .slice a4 K c4] 27) (.cells #[.string fr, .string tn, .slice b1 gn d1, .slice b2 grs.length d2, .slice b3 J d3] 30) 34 #[.string pn, .slice e1 pl f1, .slice e2 pms.length f2]).alloc (.cells #[.string qn, .slice i1 qss.length j1, .slice i2 qms.length j2] 34)).alloc (.cells #[.string ⟨#[]⟩, .int .i64 0, .slice none 0 0, .string ⟨#[]⟩, .int .i64 0, .slice none 0 0, .slice none 0 0, .slice none 0 0] 27)
  have k3 := (Blk.new (((w.alloc (.cells #[.string id, .int .i64 o, .slice a1 cs.length c1, .string pr, .int .i64 st, .slice a2 k2 c2, .slice a3 N c3, .slice a4 K c4] 27)).alloc (.cells #[.string fr, .string tn, .slice b1 gn d1, .slice b2 grs.length d2, .slice b3 J d3] 30)).alloc (.cells #[.string pn, .slice e1 pl f1, .slice e2 pms.length f2] 34)) 34 #[.string qn, .slice i1 qss.length j1, .slice i2 qms.length j2]).alloc (.cells #[.string ⟨#[]⟩, .int .i64 0, .slice none 0 0, .string ⟨#[]⟩, .int .i64 0, .slice none 0 0, .slice none 0 0, .slice none 0 0] 27)
  have k4 := Blk.new ((((w.alloc (.cells #[.string id, .int .i64 o, .slice a1 cs.length c1, .string pr, .int .i64 st, .slice a2 k2 c2, .slice a3 N c3, .slice a4 K c4] 27)).alloc (.cells #[.string fr, .string tn, .slice b1 gn d1, .slice b2 grs.length d2, .slice b3 J d3] 30)).alloc (.cells #[.string pn, .slice e1 pl f1, .slice e2 pms.length f2] 34)).alloc (.cells #[.string qn, .slice i1 qss.length j1, .slice i2 qms.length j2] 34)) 27 #[.string ⟨#[]⟩, .int .i64 0, .slice none 0 0, .string ⟨#[]⟩, .int .i64 0, .slice none 0 0, .slice none 0 0, .slice none 0 0]
  rw [s3] at k3
  rw [s4] at k4
  have HB := Lib.hid hb
  have K0 := Lib.hid k0
  have K1 := Lib.hid k1
  have K2 := Lib.hid k2'
  have K3 := Lib.hid k3
  have K4 := Lib.hid k4
  have HVA := Lib.hid hva
  have HTX := Lib.hid htx
  have HH := Lib.hid h
  have HGG := Lib.hid hg
  have HE := Lib.hid hE
  have HBB := Lib.hid hB
  have HK2 := Lib.hid hk2
  have HGN := Lib.hid hgn
  have HTE := Lib.hid hte
  have HBAD := Lib.hid hbad
  have HGL := Lib.hid hgl
  have HST0 := Lib.hid hst0
  obtain ⟨t0, t1, t2⟩ := k0.all
  obtain ⟨u0, u1, u2⟩ := k1.all
  obtain ⟨v0, v1, v2⟩ := k2'.all
  obtain ⟨x0, x1, x2⟩ := k3.all
  clear hb s3 s4 k0 k1 k2' k3 k4 hva htx h hg hE eM eG eP eQ hN hK hk2 hJ hpl hgn hB hte hbad hgl hst0
  go_enter Tryz.func11, Tryz.ntmps11
  go_upto_region 1 with fail
  generalize ((((w.alloc (.cells #[.string id, .int .i64 o, .slice a1 cs.length c1, .string pr, .int .i64 st, .slice a2 k2 c2, .slice a3 N c3, .slice a4 K c4] 27)).alloc (.cells #[.string fr, .string tn, .slice b1 gn d1, .slice b2 grs.length d2, .slice b3 J d3] 30)).alloc (.cells #[.string pn, .slice e1 pl f1, .slice e2 pms.length f2] 34)).alloc (.cells #[.string qn, .slice i1 qss.length j1, .slice i2 qms.length j2] 34)).alloc (.cells #[.string ⟨#[]⟩, .int .i64 0, .slice none 0 0, .string ⟨#[]⟩, .int .i64 0, .slice none 0 0, .slice none 0 0, .slice none 0 0] 27) = W0 at *
  apply wp_scope_straight
  go_wp2_with fail
  refine (HTX.out W0 HB.out).mono ?_
  rintro e W1 ⟨rfl, b1'⟩
  replace HB := Lib.hid (HB.out.trans (b1'.mono HB.out.size))
  replace K0 := Lib.hid (K0.out.below b1' K0.out.lt)
  replace K1 := Lib.hid (K1.out.below b1' K1.out.lt)
  replace K2 := Lib.hid (K2.out.below b1' K2.out.lt)
  replace K3 := Lib.hid (K3.out.below b1' K3.out.lt)
  replace K4 := Lib.hid (K4.out.below b1' K4.out.lt)
  clear b1'
  clear t0 t1 t2 u0 u1 u2 v0 v1 v2 x0 x1 x2
  obtain ⟨t0, t1, t2⟩ := K0.out.all
  obtain ⟨u0, u1, u2⟩ := K1.out.all
  obtain ⟨v0, v1, v2⟩ := K2.out.all
  obtain ⟨x0, x1, x2⟩ := K3.out.all
  go_wp2_with fail
  refine (HVA.out W1 HB.out).mono ?_
  rintro e W2 ⟨rfl, b2'⟩
  replace HB := Lib.hid (HB.out.trans (b2'.mono HB.out.size))
  replace K0 := Lib.hid (K0.out.below b2' K0.out.lt)
  replace K1 := Lib.hid (K1.out.below b2' K1.out.lt)
  replace K2 := Lib.hid (K2.out.below b2' K2.out.lt)
  replace K3 := Lib.hid (K3.out.below b2' K3.out.lt)
  replace K4 := Lib.hid (K4.out.below b2' K4.out.lt)
  clear b2'
  clear t0 t1 t2 u0 u1 u2 v0 v1 v2 x0 x1 x2
  obtain ⟨t0, t1, t2⟩ := K0.out.all
  obtain ⟨u0, u1, u2⟩ := K1.out.all
  obtain ⟨v0, v1, v2⟩ := K2.out.all
  have hlv := row_load K4.out #[.string ⟨#[]⟩, .int .i64 0, .slice none 0 0, .string ⟨#[]⟩, .int .i64 0, .slice none 0 0, .slice none 0 0, .slice none 0 0] rfl
  have hfin := fun E => mt_errO (w := w) (m0 := ⟨id, o, cs, pr, st, mv, rs, ls⟩) (x0 := ⟨a1, c1, a2, c2, a3, c3, a4, c4, lv⟩) (E := E) (below_row HB.out (show w.heap.size ≤ w.heap.size + 1 + 1 + 1 + 1 by omega) #[.string ⟨#[]⟩, .int .i64 0, .slice none 0 0, .string ⟨#[]⟩, .int .i64 0, .slice none 0 0, .slice none 0 0, .slice none 0 0])
  have HLV := Lib.hid hlv
  have HFIN := Lib.hid hfin
  clear hlv hfin
  cases vv with
  | false =>
    have hEE : E = 1 := by rw [← HE.out]; rw [if_pos (by simp)]
    subst hEE
    clear HE HVA HTX HH HGG HBAD HGL HST0
    go_upto_region 3 with fail
    clear t0 t1 t2 u0 u1 u2 v0 v1 v2
    go_wp2_with (refine wp_row rfl (.tmp 12) (.tmp 67) rfl (w.heap.size + 1 + 1 + 1 + 1) #[.string ⟨#[]⟩, .int .i64 0, .slice none 0 0, .string ⟨#[]⟩, .int .i64 0, .slice none 0 0, .slice none 0 0, .slice none 0 0] rfl rfl rfl one8 rfl K4.out ?_)
    rw [Exit.noGoto_ret]
    exact bodyPost_ret (v := .tuple #[.agg #[.string ⟨#[]⟩, .int .i64 0, .slice none 0 0, .string ⟨#[]⟩, .int .i64 0, .slice none 0 0, .slice none 0 0, .slice none 0 0], .int .i64 1]) (by simp [results, Tryz.results11, asAddr, HLV.out]) rfl (HFIN.out 1)
  | true =>
  cases ff with
  | false =>
    have hte : te = 1 := HTE.out.symm
    subst hte
    have hEE : E = 1 := by rw [← HE.out]; rw [if_pos (by simp)]
    subst hEE
    clear HE HVA HTX HH HGG HBAD HGL HST0
    go_upto_region 3 with fail
    clear t0 t1 t2 u0 u1 u2 v0 v1 v2
    go_wp2_with (refine wp_row rfl (.tmp 12) (.tmp 67) rfl (w.heap.size + 1 + 1 + 1 + 1) #[.string ⟨#[]⟩, .int .i64 0, .slice none 0 0, .string ⟨#[]⟩, .int .i64 0, .slice none 0 0, .slice none 0 0, .slice none 0 0] rfl rfl rfl one8 rfl K4.out ?_)
    rw [Exit.noGoto_ret]
    exact bodyPost_ret (v := .tuple #[.agg #[.string ⟨#[]⟩, .int .i64 0, .slice none 0 0, .string ⟨#[]⟩, .int .i64 0, .slice none 0 0, .slice none 0 0, .slice none 0 0], .int .i64 1]) (by simp [results, Tryz.results11, asAddr, HLV.out]) rfl (HFIN.out 1)
  | true =>
  have hte : te = 0 := HTE.out.symm
  subst hte
  by_cases h3 : pr = fr
  case neg =>
    have e3 := str_no h3
    have hEE : E = 1 := by rw [← HE.out]; rw [if_pos (by simp [h3])]
    subst hEE
    clear HE HVA HTX HH HGG HBAD HGL HST0
    go_upto_region 3 with fail
    clear t0 t1 t2 u0 u1 u2 v0 v1 v2
    go_wp2_with (refine wp_row rfl (.tmp 12) (.tmp 67) rfl (w.heap.size + 1 + 1 + 1 + 1) #[.string ⟨#[]⟩, .int .i64 0, .slice none 0 0, .string ⟨#[]⟩, .int .i64 0, .slice none 0 0, .slice none 0 0, .slice none 0 0] rfl rfl rfl one8 rfl K4.out ?_)
    rw [Exit.noGoto_ret]
    exact bodyPost_ret (v := .tuple #[.agg #[.string ⟨#[]⟩, .int .i64 0, .slice none 0 0, .string ⟨#[]⟩, .int .i64 0, .slice none 0 0, .slice none 0 0, .slice none 0 0], .int .i64 1]) (by simp [results, Tryz.results11, asAddr, HLV.out]) rfl (HFIN.out 1)
  have e3 : (pr.toList == fr.toList) = true := by rw [h3]; simp
  by_cases h4 : st < (pl : Int)
  case neg =>
    have e4 : decide ((pl : Int) ≤ st) = true := decide_eq_true (by omega)
    have hEE : E = 1 := by rw [← HE.out]; rw [if_pos (by simp [h4])]
    subst hEE
    clear HE HVA HTX HH HGG HBAD HGL HST0
    go_upto_region 3 with fail
    clear t0 t1 t2 u0 u1 u2 v0 v1 v2
    go_wp2_with (refine wp_row rfl (.tmp 12) (.tmp 67) rfl (w.heap.size + 1 + 1 + 1 + 1) #[.string ⟨#[]⟩, .int .i64 0, .slice none 0 0, .string ⟨#[]⟩, .int .i64 0, .slice none 0 0, .slice none 0 0, .slice none 0 0] rfl rfl rfl one8 rfl K4.out ?_)
    rw [Exit.noGoto_ret]
    exact bodyPost_ret (v := .tuple #[.agg #[.string ⟨#[]⟩, .int .i64 0, .slice none 0 0, .string ⟨#[]⟩, .int .i64 0, .slice none 0 0, .slice none 0 0, .slice none 0 0], .int .i64 1]) (by simp [results, Tryz.results11, asAddr, HLV.out]) rfl (HFIN.out 1)
  have e4 : decide ((pl : Int) ≤ st) = false := decide_eq_false (by omega)
  by_cases h5 : day < 0
  case pos =>
    have e5 : decide (day < 0) = true := decide_eq_true h5
    have hEE : E = 1 := by rw [← HE.out]; rw [if_pos (by have : isB day = false := by { cases hq : isB day with | false => rfl | true => have := (isB_iff _).1 hq; omega }; simp [this])]
    subst hEE
    clear HE HVA HTX HH HGG HBAD HGL HST0
    go_upto_region 3 with fail
    clear t0 t1 t2 u0 u1 u2 v0 v1 v2
    go_wp2_with (refine wp_row rfl (.tmp 12) (.tmp 67) rfl (w.heap.size + 1 + 1 + 1 + 1) #[.string ⟨#[]⟩, .int .i64 0, .slice none 0 0, .string ⟨#[]⟩, .int .i64 0, .slice none 0 0, .slice none 0 0, .slice none 0 0] rfl rfl rfl one8 rfl K4.out ?_)
    rw [Exit.noGoto_ret]
    exact bodyPost_ret (v := .tuple #[.agg #[.string ⟨#[]⟩, .int .i64 0, .slice none 0 0, .string ⟨#[]⟩, .int .i64 0, .slice none 0 0, .slice none 0 0, .slice none 0 0], .int .i64 1]) (by simp [results, Tryz.results11, asAddr, HLV.out]) rfl (HFIN.out 1)
  have e5 : decide (day < 0) = false := decide_eq_false h5
  by_cases h6 : 1000000 < day
  case pos =>
    have e6 : decide (1000000 < day) = true := decide_eq_true h6
    have hEE : E = 1 := by rw [← HE.out]; rw [if_pos (by have : isB day = false := by { cases hq : isB day with | false => rfl | true => have := (isB_iff _).1 hq; omega }; simp [this])]
    subst hEE
    clear HE HVA HTX HH HGG HBAD HGL HST0
    go_upto_region 3 with fail
    clear t0 t1 t2 u0 u1 u2 v0 v1 v2
    go_wp2_with (refine wp_row rfl (.tmp 12) (.tmp 67) rfl (w.heap.size + 1 + 1 + 1 + 1) #[.string ⟨#[]⟩, .int .i64 0, .slice none 0 0, .string ⟨#[]⟩, .int .i64 0, .slice none 0 0, .slice none 0 0, .slice none 0 0] rfl rfl rfl one8 rfl K4.out ?_)
    rw [Exit.noGoto_ret]
    exact bodyPost_ret (v := .tuple #[.agg #[.string ⟨#[]⟩, .int .i64 0, .slice none 0 0, .string ⟨#[]⟩, .int .i64 0, .slice none 0 0, .slice none 0 0, .slice none 0 0], .int .i64 1]) (by simp [results, Tryz.results11, asAddr, HLV.out]) rfl (HFIN.out 1)
  have e6 : decide (1000000 < day) = false := decide_eq_false h6
  have hday : isB day = true := (isB_iff _).2 ⟨by omega, by omega⟩
  have hall : ¬ ((true && (true && (decide (pr = fr) && (decide (st < (pl : Int)) && isB day)))) = false) := by rw [hday, decide_eq_true h3, decide_eq_true h4]; simp
  have HALL := Lib.hid hall
  have hst0 := HST0.out rfl
  have hgl := HGL.out rfl
  obtain ⟨sn, rfl⟩ : ∃ n : Nat, st = (n : Int) := ⟨st.toNat, by omega⟩
  obtain ⟨ns, hns⟩ : ∃ s, gst[sn]? = some s := ⟨_, List.getElem?_eq_getElem (by rw [HGN.out]; omega)⟩
  have hnw : newSt ⟨fr, tn, gst, grs, gts⟩ (sn : Int) = ns := by show (gst[(sn : Int).toNat]?).getD 0 = ns; rw [Int.toNat_natCast, hns]; rfl
  obtain ⟨ga, oa, hAg, hga, pg⟩ := (HGG.out.below (HB.out.mono HBB.out)).st sn ns hns
  have hAg : b1 = some ⟨ga, oa, none⟩ := hAg
  subst hAg
  have pg : W2.cell? ⟨ga, oa + sn, none⟩ = some (.int .i64 ns) := pg
  have ib0 : (0 : Int) ≤ (sn : Int) := hst0
  have ib1 : (sn : Int) < (gn : Int) := by omega
  have HNW := Lib.hid hnw
  clear hday hall hns hnw hst0 hgl
  by_cases h7 : ns < 0
  case pos =>
    have e7 : decide (ns < 0) = true := decide_eq_true h7
    have hEE : E = 12 := by rw [← HE.out]; rw [if_neg HALL.out, if_pos (by rw [HNW.out]; exact h7)]
    subst hEE
    clear HE HVA HTX HH HGG HBAD HGL HST0
    go_upto_region 5 with fail
    clear t0 t1 t2 u0 u1 u2 v0 v1 v2
    go_wp2_with (refine wp_row rfl (.tmp 12) (.tmp 76) rfl (w.heap.size + 1 + 1 + 1 + 1) #[.string ⟨#[]⟩, .int .i64 0, .slice none 0 0, .string ⟨#[]⟩, .int .i64 0, .slice none 0 0, .slice none 0 0, .slice none 0 0] rfl rfl rfl one8 rfl K4.out ?_)
    rw [Exit.noGoto_ret]
    exact bodyPost_ret (v := .tuple #[.agg #[.string ⟨#[]⟩, .int .i64 0, .slice none 0 0, .string ⟨#[]⟩, .int .i64 0, .slice none 0 0, .slice none 0 0, .slice none 0 0], .int .i64 12]) (by simp [results, Tryz.results11, asAddr, HLV.out]) rfl (HFIN.out 12)
  have e7 : decide (ns < 0) = false := decide_eq_false h7
  by_cases h8 : day < o
  case pos =>
    have e8 : decide (day < o) = true := decide_eq_true h8
    have hEE : E = 24 := by rw [← HE.out]; rw [if_neg HALL.out, if_neg (by rw [HNW.out]; exact h7), if_pos (.inl h8)]
    subst hEE
    clear HE HVA HTX HH HGG HBAD HGL HST0
    go_upto_region 7 with fail
    clear t0 t1 t2 u0 u1 u2 v0 v1 v2
    go_wp2_with (refine wp_row rfl (.tmp 12) (.tmp 100) rfl (w.heap.size + 1 + 1 + 1 + 1) #[.string ⟨#[]⟩, .int .i64 0, .slice none 0 0, .string ⟨#[]⟩, .int .i64 0, .slice none 0 0, .slice none 0 0, .slice none 0 0] rfl rfl rfl one8 rfl K4.out ?_)
    rw [Exit.noGoto_ret]
    exact bodyPost_ret (v := .tuple #[.agg #[.string ⟨#[]⟩, .int .i64 0, .slice none 0 0, .string ⟨#[]⟩, .int .i64 0, .slice none 0 0, .slice none 0 0, .slice none 0 0], .int .i64 24]) (by simp [results, Tryz.results11, asAddr, HLV.out]) rfl (HFIN.out 24)
  have e8 : decide (day < o) = false := decide_eq_false h8
  have hlast : day < lastI o mv := by
    rcases HBAD.out with h | h | h | h
    · exact absurd h HALL.out
    · rw [HNW.out] at h; exact absurd h h7
    · exact absurd h h8
    · exact h
  have hlt : day < lastI o mv := hlast
  have hk0 : 0 < k2 := by
    rw [← HK2.out]
    rcases Nat.eq_zero_or_pos mv.length with h | h
    · rw [List.eq_nil_of_length_eq_zero h] at hlast
      exact absurd hlast h8
    · exact h
  obtain ⟨k3, rfl⟩ : ∃ k, k2 = k + 1 := ⟨k2 - 1, by omega⟩
  obtain ⟨r, hr⟩ : ∃ r, mv[k3]? = some r := ⟨_, List.getElem?_eq_getElem (by rw [HK2.out]; omega)⟩
  unfold lastI at hlt
  rw [List.getLast?_eq_getElem?, HK2.out, show k3 + 1 - 1 = k3 by omega, hr] at hlt
  have hlt : day < r := hlt
  obtain ⟨gm, om, hAm, hgm, pm⟩ := (HH.out.below (HB.out.mono HBB.out)).mv k3 r hr
  have hAm : a2 = some ⟨gm, om, none⟩ := hAm
  subst hAm
  have pm : W2.cell? ⟨gm, om + k3, none⟩ = some (.int .i64 r) := pm
  have ic : decide ((0 : Int) < ((k3 + 1 : Nat) : Int)) = true := decide_eq_true (by omega)
  have ic1 : wrap64 (((k3 + 1 : Nat) : Int) - 1) = (k3 : Int) := by unfold wrap64; omega
  have ic2 : (0 : Int) ≤ (k3 : Int) := by omega
  have ic3 : (k3 : Int) < ((k3 + 1 : Nat) : Int) := by omega
  have e9 : decide (day < r) = true := decide_eq_true hlt
  have HLAST := Lib.hid hlast
  clear hlast hr hk0
  have hEE : E = 24 := by rw [← HE.out]; rw [if_neg HALL.out, if_neg (by rw [HNW.out]; exact h7), if_pos (.inr HLAST.out)]
  subst hEE
  clear HE HVA HTX HH HGG HBAD HGL HST0
  go_upto_region 7 with fail
  clear t0 t1 t2 u0 u1 u2 v0 v1 v2
  go_wp2_with (refine wp_row rfl (.tmp 12) (.tmp 100) rfl (w.heap.size + 1 + 1 + 1 + 1) #[.string ⟨#[]⟩, .int .i64 0, .slice none 0 0, .string ⟨#[]⟩, .int .i64 0, .slice none 0 0, .slice none 0 0, .slice none 0 0] rfl rfl rfl one8 rfl K4.out ?_)
  rw [Exit.noGoto_ret]
  exact bodyPost_ret (v := .tuple #[.agg #[.string ⟨#[]⟩, .int .i64 0, .slice none 0 0, .string ⟨#[]⟩, .int .i64 0, .slice none 0 0, .slice none 0 0, .slice none 0 0], .int .i64 24]) (by simp [results, Tryz.results11, asAddr, HLV.out]) rfl (HFIN.out 24)
end Go.Proofs.YtebdkmlganalaaaGreatDoor

namespace Go.Proofs.YtebdkmlganalaaaGreatDoor
open Go.RowKit Go.Shelf

theorem gapply_any (w : World) (ht : Tbs w) (B : Nat) (m : Mt) (x : MtX) (h : MtAt w B m x) (hB : B ≤ w.heap.size) (hs : Sml m) (g : Mg) (z : MgX) (hg : MgAt w B g z) (hsg : SmlG g) (p : Pc) (y : PcX) (hp : PcAt w B p y) (hsp : SmlP p) (q : Pc) (v : PcX) (hq : PcAt w B q v) (hsq : SmlP q) (day : Int) (D : Option Addr) (l : List Int) (cl : Nat) (hD : IntsAt w B D l) (hll : l.length ≤ 4611686018427387904) (hw : ∀ n ∈ l, wf64 n) :
    Calls Tryz.prog 11 #[.agg (mtC m x), .agg (mgC g z), .agg (pcC p y), .agg (pcC q v), .int .i64 day, .slice D l.length cl] w (MtPostO w m x (applyE m g p q day l) (applyM m g p q day l)) := by
  by_cases hb : apB m g p q day = false ∨ newSt g m.st < 0 ∨ day < m.o ∨ day < lastI m.o m.mv
  · exact gapply_bad w ht B m x h hB hs g z hg hsg p y hp hsp q v hq hsq day D l cl hb
  · refine gapply_ok w ht B m x h hB hs g z hg hsg p y hp hsp q v hq hsq day D l cl hD hll hw ?_ (fun e => hb (.inr (.inl e))) (fun e => hb (.inr (.inr e)))
    cases ha : apB m g p q day with
    | true => rfl
    | false => exact absurd (.inl ha) hb
end Go.Proofs.YtebdkmlganalaaaGreatDoor

namespace Go.Proofs.YtebdkmlganalaaaGreatDoor
open Go.RowKit Go.ChangeShapes

/-- The library's wrap with a condition on the world, the world's shape handed on. -/
theorem returns_and_shaped {H : Type} {enc : TypeId × Value → H} {a : Assume} {C : Checked} {os : Os} {f : FuncId} {fn : Func} {s : ChangeSpec} {conds : List PathCond} {apart fresh handsOn again : Bool} {X : World → Array Value → Prop}
    (hX : ∀ (w w' : World) (args : Array Value), w.heap = w'.heap → X w args → X w' args)
    (own : ownKnob C.prog.godebug = none) (started : os.Started) (noInit : C.prog.inits.idxOf? f = none) (hfn : C.prog.funcs[f]? = some fn)
    (witness : ∃ (w : World) (tape : Tape) (i : Input), w.os = os ∧ (w.forCall tape i).Shaped C.prog ∧ i.vars = [] ∧ Input.okWide C.prog (w.forCall tape i) .any w.heap.size f i ∧
      ((s.pre enc C.prog fn conds apart (w.forCall tape i).memory i.args ∧ X (w.forCall tape i).memory i.args) ∧ sizedMet enc C.prog fn (OpenSpec.ofChange s) apart (w.forCall tape i).memory i.args) ∧ a.holds C.prog (lone (Frame.enter C.prog f i.args .normal) [] (w.forCall tape i)))
    (contract : ∀ (W : World) (base : Nat) (args : Array Value) (ds gs : List (DataW H)) (before : List MemPlace),
      (∀ (j : Nat) t v, fn.params[j]? = some t → args[j]? = some v → Value.okWide C.prog W .any base t v) →
      DataW.Whole enc C.prog fn.params.toList s.vars apart W args.toList ds gs before → X W args → W.ShapedOpen C.prog →
      Calls C.prog f args W fun e W' => ∃ v, e = .returned v ∧ s.post enc C.prog fn apart fresh handsOn again W args v W') :
    ReturnsInHanded a C os f .any (fun w args => (s.pre enc C.prog fn conds apart w args ∧ X w args) ∧ sizedMet enc C.prog fn (OpenSpec.ofChange s) apart w args) (s.post enc C.prog fn apart fresh handsOn again) := by
  refine returnsInHanded_of_calls own started noInit witness ?_
  intro w tape i _ hsh _ hok hpre _
  obtain ⟨_, _, _, fn', hfn', _, _, _, _, hval⟩ := hok
  have e : fn' = fn := Option.some.inj (hfn'.symm.trans hfn)
  subst e
  obtain ⟨⟨⟨ds, gs, before, hw, _⟩, hx⟩, _⟩ := hpre
  have hw' := DataW.Whole.of_heap (w' := w.forCall tape i) (by rfl) hw
  refine (contract (w.forCall tape i) w.heap.size i.args ds gs before hval hw' (hX _ _ _ (by rfl) hx) hsh).mono fun e W' ⟨v, he, hp⟩ => ?_
  subst he
  exact ChangeSpec.post_blind hp

def laid5 : List (String × DataW Unit) := [("math/bits.deBruijn32tab", Rows.laid_math_bits_deBruijn32tab), ("math/bits.deBruijn64tab", Rows.laid_math_bits_deBruijn64tab), ("internal/strconv.uint64pow10", Rows.laid_internal_strconv_uint64pow10), ("strconv.ErrRange", Rows.laid_strconv_ErrRange), ("strconv.ErrSyntax", Rows.laid_strconv_ErrSyntax)]

theorem laid5_met (os : Os) (args : Array Value) : laidMetH Tryz.prog laid5 ((World.laidAll Tryz.prog os laid5).forCall (fun _ _ => 0) ⟨#[], args, []⟩).memory := by
  rw [MakeChecks.laidMetH_plain _ _ _ (by kernel_rfl)]
  exact laidMet_laidAll _ (by kernel_rfl) (by kernel_rfl)

/-- A listed variable of an interface's type holds an interface value. -/
theorem laid_iface {P : Program} {n : String} {le : DataW Unit} {r : List (String × DataW Unit)} {W : World} {g : Nat} {ti : TypeId} {ms : Array (String × TypeId)}
    (h : laidMet P ((n, le) :: r) W) (hg : P.globalNamed n = some g) (ht : (P.globals[g]?).map (·.type) = some ti) (hi : P.underlying ti = some (.interface ms)) :
    ∃ ev, W.cell? ⟨g, 0, none⟩ = some ev ∧ (ev = .nilIface ∨ ∃ te pe, ev = .iface te pe) := by
  obtain ⟨ps, ⟨g0, t0, cs0, f0, p0, q0, hg0, ht0, hv0, hd0, _, e0⟩, _, hrows⟩ := h
  obtain rfl := Option.some.inj (hg.symm.trans hg0)
  obtain rfl := Option.some.inj (ht.symm.trans ht0)
  have hc := World.var?_cell hg hv0 0
  cases f0 with
  | zero => simp [DataW.trod] at hd0
  | succ m =>
    obtain ⟨l0⟩ := cs0
    match l0, hd0, hc with
    | [], hd0, _ => simp [DataW.trod, hi] at hd0
    | [E], hd0, hc =>
      refine ⟨E, by simpa using hc, ?_⟩
      cases E with
      | nilIface => exact .inl rfl
      | iface u v => exact .inr ⟨u, v, rfl⟩
      | _ => simp [DataW.trod, hi] at hd0
    | E :: F :: r0, hd0, _ => simp [DataW.trod, hi] at hd0
theorem tabs_of {W : World} (h : laidMetH Tryz.prog laid5 W) (hs : W.ShapedOpen Tryz.prog) : Tbs W := by
  rw [MakeChecks.laidMetH_plain _ _ _ (by kernel_rfl)] at h
  refine ⟨Lib.tabIs_of_head (g := 0) (t := 213) (e := 199) (n := 20) (by kernel_rfl) (by kernel_rfl) (by kernel_rfl) (by kernel_rfl) (by kernel_rfl) (by kernel_rfl) (laidMet.tail (laidMet.tail h)),
    cell_of_shapedOpen_int (zero := #[.int .i64 0]) (t := 3) hs (of_decide_eq_true (by kernel_rfl)) (by kernel_rfl) rfl (by kernel_rfl) (by kernel_rfl) Tryz.underlying3, ?_, ?_⟩
  · exact laid_iface (laidMet.tail (laidMet.tail (laidMet.tail (laidMet.tail h)))) (by kernel_rfl) (by kernel_rfl) Tryz.underlying121
  · exact laid_iface (laidMet.tail (laidMet.tail (laidMet.tail h))) (by kernel_rfl) (by kernel_rfl) Tryz.underlying121
end Go.Proofs.YtebdkmlganalaaaGreatDoor
