/- TopAccrued. -/
import Derived.Test.YtebdkmlganalaaaGreatDoorKTopAccruedGBQ
import Derived.Test.YtebdkmlganalaaaGreatDoorKTopAccruedGBR
import Derived.Test.YtebdkmlganalaaaGreatDoorKTopAccruedAi
import Derived.Test.YtebdkmlganalaaaGreatDoorKTopAccruedGBU
import Derived.Test.YtebdkmlganalaaaGreatDoorKTopAccruedGBW
import Derived.Test.YtebdkmlganalaaaGreatDoorKTopAccruedGBX
namespace Go.Proofs.YtebdkmlganalaaaGreatDoor
open Go.RowKit Go.Shelf

theorem DmAt.widen {w : World} {B B2 : Nat} {d : List Fc} {A : Option Addr} (h : DmAt w B d A) (hB : B ≤ B2) : DmAt w B2 d A := ⟨h.at_.wide hB, h.nm⟩
theorem vld_sml' {m : Mt} {p : Pc} {d : List Fc} (h : vldB m p d = true) : Sml m := by
  obtain ⟨f1, f2, f3, f4, f5, f6, f7, f8, f9, f10⟩ := fmB_iff.1 (vldB_iff.1 h).1
  have h3 := (difB_iff.1 f9).2.2
  have h4 := (difB_iff.1 f10).2.2
  exact ⟨by omega, by omega, by omega, by omega⟩
theorem boxes5t {w W : World} {c0 c1 c2 c3 c4 : Array Value} {t0 t1 t2 t3 t4 : TypeId} (hW : ((((w.alloc (.cells c0 t0)).alloc (.cells c1 t1)).alloc (.cells c2 t2)).alloc (.cells c3 t3)).alloc (.cells c4 t4) = W) :
    Below w.heap.size w W ∧ Blk W w.heap.size t0 c0 ∧ Blk W (w.heap.size + 1) t1 c1 ∧ Blk W (w.heap.size + 1 + 1) t2 c2 ∧ Blk W (w.heap.size + 1 + 1 + 1) t3 c3 ∧ Blk W (w.heap.size + 1 + 1 + 1 + 1) t4 c4 := by
  subst hW
  have s : ∀ (V : World) (o : Obj), (V.alloc o).heap.size = V.heap.size + 1 := fun V o => by simp
  have b0 := below_self_alloc w (.cells c0 t0)
  have b1 := b0.alloc b0.size (.cells c1 t1)
  have b2 := b1.alloc b1.size (.cells c2 t2)
  have b3 := b2.alloc b2.size (.cells c3 t3)
  have k1 := Blk.new (w.alloc (.cells c0 t0)) t1 c1
  have k2 := Blk.new ((w.alloc (.cells c0 t0)).alloc (.cells c1 t1)) t2 c2
  have k3 := Blk.new (((w.alloc (.cells c0 t0)).alloc (.cells c1 t1)).alloc (.cells c2 t2)) t3 c3
  have k4 := Blk.new ((((w.alloc (.cells c0 t0)).alloc (.cells c1 t1)).alloc (.cells c2 t2)).alloc (.cells c3 t3)) t4 c4
  simp only [s] at k1 k2 k3 k4
  exact ⟨b3.alloc b3.size _, ((((Blk.new w t0 c0).alloc _).alloc _).alloc _).alloc _, ((k1.alloc _).alloc _).alloc _, (k2.alloc _).alloc _, k3.alloc _, k4⟩
set_option maxRecDepth 100000 in
set_option maxHeartbeats 16000000 in
theorem accrued_top (w : World) (ht : Tbs w) (z1 : Mt × MtX) (h1 : MtIn w z1) (z2 : Mg × MgX) (h2 : MgIn w z2) (z3 : Pc × PcX) (h3 : PcIn w z3) (z4 : Pc × PcX) (h4 : PcIn w z4) (z5 : List Fc × Option Addr × Nat) (h5 : DmIn w z5) (LA : Option Addr) (lc : Nat) (l : List Sp) (hl : SpsAt w w.heap.size LA l ∧ l.length ≤ 9223372036854775807) :
    Calls Tryz.prog 3 #[.agg (mtC z1.1 z1.2), .agg (mgC z2.1 z2.2), .agg (pcC z3.1 z3.2), .agg (pcC z4.1 z4.2), .agg #[.slice z5.2.1 z5.1.length z5.2.2], .slice LA l.length lc] w fun e w' => e = .returned (.bool true) ∧ Below w.heap.size w w' := by
  obtain ⟨m, x⟩ := z1
  obtain ⟨g, z⟩ := z2
  obtain ⟨p, y⟩ := z3
  obtain ⟨q, v⟩ := z4
  obtain ⟨d, dA, dc⟩ := z5
  obtain ⟨hm, zm⟩ := h1
  obtain ⟨hg, zg⟩ := h2
  obtain ⟨hp, zp⟩ := h3
  obtain ⟨hq, zq⟩ := h4
  obtain ⟨hd, zd⟩ := h5
  obtain ⟨hl, zl⟩ := hl
  simp only at hm zm hg zg hp zp hq zq hd zd ⊢
  have hhd := fun W (hW : Below w.heap.size w W) => wmoved_any W (ht.below hW)
  have hfm := fun W (hW : Below w.heap.size w W) => few_any W w.heap.size m x (hm.below hW) hW.size zm.1 zm.2.1 zm.2.2.1 zm.2.2.2.1
  have hsp := fun W (hW : Below w.heap.size w W) => short_any W w.heap.size p y (hp.below hW) hW.size zp.1 zp.2
  have hsq := fun W (hW : Below w.heap.size w W) => short_any W w.heap.size q v (hq.below hW) hW.size zq.1 zq.2
  have hfg := fun W (hW : Below w.heap.size w W) => gfew_any W w.heap.size g z (hg.below hW) hW.size zg.1 zg.2.1 zg.2.2
  have hfd : ∀ W (hW : Below w.heap.size w W), Calls Tryz.prog 8 #[.agg #[.slice dA d.length dc], .int .i64 60] W (FewPost W (d.length ≤ 60)) := fun W (hW : Below w.heap.size w W) => few6_any W w.heap.size d dA dc (hd.below hW) hW.size zd 60
  have hli := fun W (hW : Below w.heap.size w W) => wlight_any W w.heap.size x.a4 x.lv x.c4 ((hm.below hW).ls) hW.size (by rw [hm.len]; exact zm.2.2.2.1)
  have hva := fun W (hW : Below w.heap.size w W) (sm : Sml m) (sp : SmlP p) (sd : d.length ≤ 60) => valid_any W w.heap.size m x (hm.below hW) hW.size sm p y (hp.below hW) sp d dA dc (hd.below hW) (by omega)
  rw [hm.len] at hli
  have FM : Hid (FewM m → Sml m) := Lib.hid (fun h => h.sml)
  have FP : Hid (FewP p → SmlP p) := Lib.hid (fun h => h.sml)
  have FQ : Hid (FewP q → SmlP q) := Lib.hid (fun h => h.sml)
  have FG : Hid (FewG g → SmlG g) := Lib.hid (fun h => h.sml)
  obtain ⟨PM, hPM⟩ : ∃ P, FewM m = P := ⟨_, rfl⟩
  obtain ⟨PP, hPP⟩ : ∃ P, FewP p = P := ⟨_, rfl⟩
  obtain ⟨PQ, hPQ⟩ : ∃ P, FewP q = P := ⟨_, rfl⟩
  obtain ⟨PG, hPG⟩ : ∃ P, FewG g = P := ⟨_, rfl⟩
  rw [hPM] at hfm FM
  rw [hPP] at hsp FP
  rw [hPQ] at hsq FQ
  rw [hPG] at hfg FG
  have HM := Lib.hid hm
  have HG := Lib.hid hg
  have HP := Lib.hid hp
  have HQ := Lib.hid hq
  have HD := Lib.hid hd
  have HL := Lib.hid hl
  have HT := Lib.hid ht
  have HHD := Lib.hid hhd
  have HFM := Lib.hid hfm
  have HSP := Lib.hid hsp
  have HSQ := Lib.hid hsq
  have HFG := Lib.hid hfg
  have HFD := Lib.hid hfd
  have HLI := Lib.hid hli
  have HVA := Lib.hid hva
  obtain ⟨n, hn⟩ : ∃ n, l.length = n := ⟨_, rfl⟩
  rw [hn]
  have HN := Lib.hid hn
  rw [hn] at zl
  clear hPM hPP hPQ hPG hm hg hp hq hd hl ht hhd hfm hsp hsq hfg hfd hli hva zm zg zp zq zd hn
  show Calls Tryz.prog 3 #[.agg #[.string m.id, .int .i64 m.o, .slice x.a1 m.cs.length x.c1, .string m.pr, .int .i64 m.st, .slice x.a2 m.mv.length x.c2, .slice x.a3 m.rs.length x.c3, .slice x.a4 m.ls.length x.c4], .agg #[.string g.fr, .string g.tn, .slice z.a1 g.st.length z.c1, .slice z.a2 g.rs.length z.c2, .slice z.a3 g.ts.length z.c3], .agg #[.string p.name, .slice y.a1 p.ss.length y.c1, .slice y.a2 p.ms.length y.c2], .agg #[.string q.name, .slice v.a1 q.ss.length v.c1, .slice v.a2 q.ms.length v.c2], .agg #[.slice dA d.length dc], .slice LA n lc] w _
  go_enter Tryz.func3, Tryz.ntmps3
  go_upto_region 1 with fail
  generalize hW0 : (((((w.alloc (.cells #[.string m.id, .int .i64 m.o, .slice x.a1 m.cs.length x.c1, .string m.pr, .int .i64 m.st, .slice x.a2 m.mv.length x.c2, .slice x.a3 m.rs.length x.c3, .slice x.a4 m.ls.length x.c4] 27)).alloc (.cells #[.string g.fr, .string g.tn, .slice z.a1 g.st.length z.c1, .slice z.a2 g.rs.length z.c2, .slice z.a3 g.ts.length z.c3] 30)).alloc (.cells #[.string p.name, .slice y.a1 p.ss.length y.c1, .slice y.a2 p.ms.length y.c2] 34)).alloc (.cells #[.string q.name, .slice v.a1 q.ss.length v.c1, .slice v.a2 q.ms.length v.c2] 34)).alloc (.cells #[.slice dA d.length dc] 37)) = W0 at *
  obtain ⟨hb, kb0, kb1, kb2, kb3, kb4⟩ := boxes5t hW0
  have HB := Lib.hid hb
  have KB0 := Lib.hid kb0
  have KB1 := Lib.hid kb1
  have KB2 := Lib.hid kb2
  have KB3 := Lib.hid kb3
  have KB4 := Lib.hid kb4
  clear hb kb0 kb1 kb2 kb3 kb4 hW0
  go_wp2_with fail
  refine (HHD.out W0 HB.out).mono ?_
  rintro e W1 ⟨rfl, bb⟩
  replace HB := Lib.hid (HB.out.trans (bb.mono HB.out.size))
  replace KB0 := Lib.hid (KB0.out.below bb KB0.out.lt)
  replace KB1 := Lib.hid (KB1.out.below bb KB1.out.lt)
  replace KB2 := Lib.hid (KB2.out.below bb KB2.out.lt)
  replace KB3 := Lib.hid (KB3.out.below bb KB3.out.lt)
  replace KB4 := Lib.hid (KB4.out.below bb KB4.out.lt)
  clear bb
  obtain ⟨t00, t01, t02⟩ := KB0.out.all
  obtain ⟨t10, t11, t12⟩ := KB1.out.all
  obtain ⟨t20, t21, t22⟩ := KB2.out.all
  obtain ⟨t30, t31, t32⟩ := KB3.out.all
  obtain ⟨t40, t41, t42⟩ := KB4.out.all
  go_wp2_with fail
  refine (HFM.out W1 HB.out).mono ?_
  rintro e W2 ⟨qf, rfl, hqf, bb⟩
  clear t00 t01 t02 t10 t11 t12 t20 t21 t22 t30 t31 t32 t40 t41 t42
  replace HB := Lib.hid (HB.out.trans (bb.mono HB.out.size))
  replace KB0 := Lib.hid (KB0.out.below bb KB0.out.lt)
  replace KB1 := Lib.hid (KB1.out.below bb KB1.out.lt)
  replace KB2 := Lib.hid (KB2.out.below bb KB2.out.lt)
  replace KB3 := Lib.hid (KB3.out.below bb KB3.out.lt)
  replace KB4 := Lib.hid (KB4.out.below bb KB4.out.lt)
  clear bb
  obtain ⟨t00, t01, t02⟩ := KB0.out.all
  obtain ⟨t10, t11, t12⟩ := KB1.out.all
  obtain ⟨t20, t21, t22⟩ := KB2.out.all
  obtain ⟨t30, t31, t32⟩ := KB3.out.all
  obtain ⟨t40, t41, t42⟩ := KB4.out.all
  cases qf with
  | false =>
    go_wp2
    go_ret
    exact ⟨rfl, HB.out⟩
  | true =>
  have SM := Lib.hid (FM.out (hqf rfl))
  clear hqf
  go_wp2_with fail
  refine (HSP.out W2 HB.out).mono ?_
  rintro e W3 ⟨qf, rfl, hqf, bb⟩
  clear t00 t01 t02 t10 t11 t12 t20 t21 t22 t30 t31 t32 t40 t41 t42
  replace HB := Lib.hid (HB.out.trans (bb.mono HB.out.size))
  replace KB0 := Lib.hid (KB0.out.below bb KB0.out.lt)
  replace KB1 := Lib.hid (KB1.out.below bb KB1.out.lt)
  replace KB2 := Lib.hid (KB2.out.below bb KB2.out.lt)
  replace KB3 := Lib.hid (KB3.out.below bb KB3.out.lt)
  replace KB4 := Lib.hid (KB4.out.below bb KB4.out.lt)
  clear bb
  obtain ⟨t00, t01, t02⟩ := KB0.out.all
  obtain ⟨t10, t11, t12⟩ := KB1.out.all
  obtain ⟨t20, t21, t22⟩ := KB2.out.all
  obtain ⟨t30, t31, t32⟩ := KB3.out.all
  obtain ⟨t40, t41, t42⟩ := KB4.out.all
  cases qf with
  | false =>
    go_wp2
    go_ret
    exact ⟨rfl, HB.out⟩
  | true =>
  have SP := Lib.hid (FP.out (hqf rfl))
  clear hqf
  go_wp2_with fail
  refine (HSQ.out W3 HB.out).mono ?_
  rintro e W4 ⟨qf, rfl, hqf, bb⟩
  clear t00 t01 t02 t10 t11 t12 t20 t21 t22 t30 t31 t32 t40 t41 t42
  replace HB := Lib.hid (HB.out.trans (bb.mono HB.out.size))
  replace KB0 := Lib.hid (KB0.out.below bb KB0.out.lt)
  replace KB1 := Lib.hid (KB1.out.below bb KB1.out.lt)
  replace KB2 := Lib.hid (KB2.out.below bb KB2.out.lt)
  replace KB3 := Lib.hid (KB3.out.below bb KB3.out.lt)
  replace KB4 := Lib.hid (KB4.out.below bb KB4.out.lt)
  clear bb
  obtain ⟨t00, t01, t02⟩ := KB0.out.all
  obtain ⟨t10, t11, t12⟩ := KB1.out.all
  obtain ⟨t20, t21, t22⟩ := KB2.out.all
  obtain ⟨t30, t31, t32⟩ := KB3.out.all
  obtain ⟨t40, t41, t42⟩ := KB4.out.all
  cases qf with
  | false =>
    go_wp2
    go_ret
    exact ⟨rfl, HB.out⟩
  | true =>
  have SQ := Lib.hid (FQ.out (hqf rfl))
  clear hqf
  go_wp2_with fail
  refine (HFG.out W4 HB.out).mono ?_
  rintro e W5 ⟨qf, rfl, hqf, bb⟩
  clear t00 t01 t02 t10 t11 t12 t20 t21 t22 t30 t31 t32 t40 t41 t42
  replace HB := Lib.hid (HB.out.trans (bb.mono HB.out.size))
  replace KB0 := Lib.hid (KB0.out.below bb KB0.out.lt)
  replace KB1 := Lib.hid (KB1.out.below bb KB1.out.lt)
  replace KB2 := Lib.hid (KB2.out.below bb KB2.out.lt)
  replace KB3 := Lib.hid (KB3.out.below bb KB3.out.lt)
  replace KB4 := Lib.hid (KB4.out.below bb KB4.out.lt)
  clear bb
  obtain ⟨t00, t01, t02⟩ := KB0.out.all
  obtain ⟨t10, t11, t12⟩ := KB1.out.all
  obtain ⟨t20, t21, t22⟩ := KB2.out.all
  obtain ⟨t30, t31, t32⟩ := KB3.out.all
  obtain ⟨t40, t41, t42⟩ := KB4.out.all
  cases qf with
  | false =>
    go_wp2
    go_ret
    exact ⟨rfl, HB.out⟩
  | true =>
  have SG := Lib.hid (FG.out (hqf rfl))
  clear hqf
  go_wp2_with fail
  refine (HFD.out W5 HB.out).mono ?_
  rintro e W6 ⟨qf, rfl, hqf, bb⟩
  clear t00 t01 t02 t10 t11 t12 t20 t21 t22 t30 t31 t32 t40 t41 t42
  replace HB := Lib.hid (HB.out.trans (bb.mono HB.out.size))
  replace KB0 := Lib.hid (KB0.out.below bb KB0.out.lt)
  replace KB1 := Lib.hid (KB1.out.below bb KB1.out.lt)
  replace KB2 := Lib.hid (KB2.out.below bb KB2.out.lt)
  replace KB3 := Lib.hid (KB3.out.below bb KB3.out.lt)
  replace KB4 := Lib.hid (KB4.out.below bb KB4.out.lt)
  clear bb
  obtain ⟨t00, t01, t02⟩ := KB0.out.all
  obtain ⟨t10, t11, t12⟩ := KB1.out.all
  obtain ⟨t20, t21, t22⟩ := KB2.out.all
  obtain ⟨t30, t31, t32⟩ := KB3.out.all
  obtain ⟨t40, t41, t42⟩ := KB4.out.all
  cases qf with
  | false =>
    go_wp2
    go_ret
    exact ⟨rfl, HB.out⟩
  | true =>
  have SD := Lib.hid (hqf rfl)
  clear hqf
  by_cases h20 : n ≤ 20
  case neg =>
    have c20 : decide ((20 : Int) < (n : Int)) = true := decide_eq_true (by omega)
    go_wp2
    go_ret
    exact ⟨rfl, HB.out⟩
  have c20 : decide ((20 : Int) < (n : Int)) = false := decide_eq_false (by omega)
  go_wp2_with fail
  refine (HLI.out W6 HB.out).mono ?_
  rintro e W7 ⟨qf, rfl, bb⟩
  clear t00 t01 t02 t10 t11 t12 t20 t21 t22 t30 t31 t32 t40 t41 t42
  replace HB := Lib.hid (HB.out.trans (bb.mono HB.out.size))
  replace KB0 := Lib.hid (KB0.out.below bb KB0.out.lt)
  replace KB1 := Lib.hid (KB1.out.below bb KB1.out.lt)
  replace KB2 := Lib.hid (KB2.out.below bb KB2.out.lt)
  replace KB3 := Lib.hid (KB3.out.below bb KB3.out.lt)
  replace KB4 := Lib.hid (KB4.out.below bb KB4.out.lt)
  clear bb
  obtain ⟨t00, t01, t02⟩ := KB0.out.all
  obtain ⟨t10, t11, t12⟩ := KB1.out.all
  obtain ⟨t20, t21, t22⟩ := KB2.out.all
  obtain ⟨t30, t31, t32⟩ := KB3.out.all
  obtain ⟨t40, t41, t42⟩ := KB4.out.all
  cases qf with
  | false =>
    go_wp2
    go_ret
    exact ⟨rfl, HB.out⟩
  | true =>
  clear c20
  obtain ⟨qf, hqf⟩ : ∃ b, vldB m p d = b := ⟨_, rfl⟩
  have hv0 := HVA.out W7 HB.out SM.out SP.out SD.out
  rw [hqf] at hv0
  have HV0 := Lib.hid hv0
  have HQF := Lib.hid hqf
  clear hv0 hqf
  go_wp2_with fail
  refine HV0.out.mono ?_
  rintro e W8 ⟨rfl, bb⟩
  clear t00 t01 t02 t10 t11 t12 t20 t21 t22 t30 t31 t32 t40 t41 t42
  replace HB := Lib.hid (HB.out.trans (bb.mono HB.out.size))
  replace KB0 := Lib.hid (KB0.out.below bb KB0.out.lt)
  replace KB1 := Lib.hid (KB1.out.below bb KB1.out.lt)
  replace KB2 := Lib.hid (KB2.out.below bb KB2.out.lt)
  replace KB3 := Lib.hid (KB3.out.below bb KB3.out.lt)
  replace KB4 := Lib.hid (KB4.out.below bb KB4.out.lt)
  clear bb
  obtain ⟨t00, t01, t02⟩ := KB0.out.all
  obtain ⟨t10, t11, t12⟩ := KB1.out.all
  obtain ⟨t20, t21, t22⟩ := KB2.out.all
  obtain ⟨t30, t31, t32⟩ := KB3.out.all
  obtain ⟨t40, t41, t42⟩ := KB4.out.all
  cases qf with
  | false =>
    go_wp2
    go_ret
    exact ⟨rfl, HB.out⟩
  | true =>
  have AC := Lib.hid (AccI.start HQF.out)
  clear HV0
  go_upto_region 4 with fail
  clear t00 t01 t02 t10 t11 t12 t20 t21 t22 t30 t31 t32 t40 t41 t42
  obtain ⟨i0, hi0, hz0, hz1, hz2⟩ := info_parts Tryz.infoRight
  obtain ⟨t00, t01, t02⟩ := (KB0.out.alloc (.cells #[] 53)).all
  have bz := below_self_alloc W8 (.cells #[] 53)
  have own := World.ownsRow_lit (base := W8.heap.size) (e := 53) (size := 2) W8 #[] 0 (Nat.le_refl _) (by unfold maxLen; omega) rfl
  have hrt := (HM.out.below (HB.out.trans (bz.mono HB.out.size))).rs
  have hsm := SM.out.2.2.1
  go_upto_region 5 with (at_builtin; refine wpList_append_any rfl _ _ 24 rfl W8.heap.size 53 i0 _ 2 24 Tryz.underlying24 hi0 hz0 hz1 hz2 rfl (by omega) (.slice (some ⟨W8.heap.size, 0, none⟩) 0 0) 0 [] rfl own x.a3 m.rs.length x.c3 (rtCells m.rs) rfl (rtCells_len _) (rtCells_news hrt) (rtCells_one _) (by unfold maxLen; omega) (by omega) bz.size ?_; intro v4 w4 own4 gr4 l4; have b4 := bz.grown gr4 bz.size (fun x hx => (own.lt x hx).1); rw [Nat.zero_add, List.nil_append] at own4; obtain ⟨hA, hc, hv4⟩ := own_slice own4; subst hv4; have OH := Lib.hid (owns_mono own4 HB.out.size); have bb := b4; clear own4 gr4 l4 b4 own hrt hsm t00 t01 t02)
  replace HB := Lib.hid (HB.out.trans (bb.mono HB.out.size))
  replace KB0 := Lib.hid (KB0.out.below bb KB0.out.lt)
  replace KB1 := Lib.hid (KB1.out.below bb KB1.out.lt)
  replace KB2 := Lib.hid (KB2.out.below bb KB2.out.lt)
  replace KB3 := Lib.hid (KB3.out.below bb KB3.out.lt)
  replace KB4 := Lib.hid (KB4.out.below bb KB4.out.lt)
  have B4 := Lib.hid bb
  clear bb bz
  obtain ⟨t20, t21, t22⟩ := KB2.out.all
  have kp := Blk.new w4 34 #[.string p.name, .slice y.a1 p.ss.length y.c1, .slice y.a2 p.ms.length y.c2]
  have bb := below_self_alloc w4 (.cells #[.string p.name, .slice y.a1 p.ss.length y.c1, .slice y.a2 p.ms.length y.c2] 34)
  have hlo := KB4.out.lt
  go_upto_region 6 with fail
  clear t20 t21 t22
  replace HB := Lib.hid (HB.out.trans (bb.mono HB.out.size))
  replace KB0 := Lib.hid (KB0.out.below bb KB0.out.lt)
  replace KB1 := Lib.hid (KB1.out.below bb KB1.out.lt)
  replace KB2 := Lib.hid (KB2.out.below bb KB2.out.lt)
  replace KB3 := Lib.hid (KB3.out.below bb KB3.out.lt)
  replace KB4 := Lib.hid (KB4.out.below bb KB4.out.lt)
  have AS : Hid (AcS w (w4.alloc (.cells #[.string p.name, .slice y.a1 p.ss.length y.c1, .slice y.a2 p.ms.length y.c2] 34)) #[.string g.fr, .string g.tn, .slice z.a1 g.st.length z.c1, .slice z.a2 g.rs.length z.c2, .slice z.a3 g.ts.length z.c3] #[.string p.name, .slice y.a1 p.ss.length y.c1, .slice y.a2 p.ms.length y.c2] #[.string q.name, .slice v.a1 q.ss.length v.c1, .slice v.a2 q.ms.length v.c2] #[.slice dA d.length dc] m x w4.heap.size #[.string p.name, .slice y.a1 p.ss.length y.c1, .slice y.a2 p.ms.length y.c2] (.slice hA m.rs.length hc) m.rs.length m.rs) := Lib.hid ⟨HB.out, KB0.out, KB1.out, KB2.out, KB3.out, KB4.out, kp, (Only.of_below bb (fun _ => False)).owns OH.out (fun _ _ f => f), (HM.out.below HB.out).wide HB.out.size, HM.out.off_of (Nat.le_refl _), HM.out.off_of (by omega), fun b hb => HM.out.off_of (OH.out.lt b hb).1, hlo⟩
  clear kp bb hlo HB KB0 KB1 KB2 KB3 KB4 OH B4
  generalize w4.alloc (.cells #[.string p.name, .slice y.a1 p.ss.length y.c1, .slice y.a2 p.ms.length y.c2] 34) = W at *
  generalize w4.heap.size = bp at *
  obtain ⟨t0, t1, t2⟩ := (show Blk W w.heap.size 27 #[.string m.id, .int .i64 m.o, .slice x.a1 m.cs.length x.c1, .string m.pr, .int .i64 m.st, .slice x.a2 m.mv.length x.c2, .slice x.a3 m.rs.length x.c3, .slice x.a4 m.ls.length x.c4] from AS.out.km).all
  have HPY : Hid (PcAt w w.heap.size p y ∧ SmlP p) := Lib.hid ⟨HP.out, SP.out⟩
  have HOV : Hid (false = false → p = p ∧ y = y) := Lib.hid (fun _ => ⟨rfl, rfl⟩)
  have HSZ : Hid (m.rs.length ≤ 60 + 0) := Lib.hid (by
    have := (difB_iff.1 (fmB_iff.1 (vldB_iff.1 AC.out.v).1).2.2.2.2.2.2.2.2.1).2.2
    omega)
  go_wp2_with fail
  go_loopg [14, 16, 17, 18] n (fun nn hv dv ov iv wr => ∃ (k : Nat) (m1 : Mt) (x1 : MtX) (p1 : Pc) (y1 : PcX) (ovb : Bool) (dy : Int) (A1 : Option Addr) (c1 : Nat) (had : List Rt), k + nn = n ∧ hv = .slice A1 had.length c1 ∧ dv = .int .i64 dy ∧ ov = .bool ovb ∧ iv = .int .i64 (k : Int) ∧ Hid (AcS w wr #[.string g.fr, .string g.tn, .slice z.a1 g.st.length z.c1, .slice z.a2 g.rs.length z.c2, .slice z.a3 g.ts.length z.c3] #[.string p.name, .slice y.a1 p.ss.length y.c1, .slice y.a2 p.ms.length y.c2] #[.string q.name, .slice v.a1 q.ss.length v.c1, .slice v.a2 q.ms.length v.c2] #[.slice dA d.length dc] m1 x1 bp #[.string p1.name, .slice y1.a1 p1.ss.length y1.c1, .slice y1.a2 p1.ms.length y1.c2] (.slice A1 had.length c1) had.length had) ∧ Hid (AccI d m1 p1 had) ∧ Hid (PcAt w w.heap.size p1 y1 ∧ SmlP p1) ∧ Hid (ovb = false → p1 = p ∧ y1 = y) ∧ Hid (had.length ≤ 60 + k))
  case atStart => exact ⟨0, m, x, p, y, false, _, hA, hc, m.rs, Nat.zero_add _, rfl, rfl, rfl, rfl, AS, AC, HPY, Lib.hid (fun _ => ⟨rfl, rfl⟩), HSZ⟩
  case round =>
    clear AS AC HPY HOV HSZ t0 t1 t2
    obtain ⟨k, m1, x1, p1, y1, ovb, dy, A1, c1, had, hk, rfl, rfl, rfl, rfl, AS, AC, HPY, HOV, HSZ⟩ := hrel
    obtain ⟨t0, t1, t2⟩ := (show Blk wr w.heap.size 27 #[.string m1.id, .int .i64 m1.o, .slice x1.a1 m1.cs.length x1.c1, .string m1.pr, .int .i64 m1.st, .slice x1.a2 m1.mv.length x1.c2, .slice x1.a3 m1.rs.length x1.c3, .slice x1.a4 m1.ls.length x1.c4] from AS.out.km).all
    by_cases hlt : k < n
    · obtain ⟨mm, rfl⟩ : ∃ m, gk = m + 1 := ⟨gk - 1, by omega⟩
      obtain ⟨⟨sg, lt, nm, rt, ovs⟩, hst⟩ : ∃ s, l[k]? = some s := ⟨_, List.getElem?_eq_getElem (by rw [HN.out]; exact hlt)⟩
      obtain ⟨g5, o5, hLA, hg5, p0, p1c, p2, p3, p4, r0, r1, r2⟩ := (HL.out.below AS.out.hb) k _ hst
      simp only at p0 p1c p2 p3 p4 r0 r1 r2
      have hLA : LA = some ⟨g5, o5, none⟩ := hLA
      subst hLA
      have ib0 : (0 : Int) ≤ (k : Int) := by omega
      have ib1 : (k : Int) < (n : Int) := by omega
      have hw2 : IntKind.i64.wrap lt = lt := IntWalk.i64_in _ (by omega)
      have SC : Hid (∀ V, Below wr.heap.size wr V → V.cell? ⟨g5, o5 + k * 5, none⟩ = some (.int .u8 sg) ∧ V.cell? ⟨g5, o5 + k * 5 + 2, none⟩ = some (.int .u8 nm) ∧ V.cell? ⟨g5, o5 + k * 5 + 3, none⟩ = some (.bool rt) ∧ V.cell? ⟨g5, o5 + k * 5 + 4, none⟩ = some (.bool ovs)) := Lib.hid (fun V hV => by
        have hl5 : g5 < wr.heap.size := Nat.lt_of_lt_of_le hg5 AS.out.hb.size
        exact ⟨(hV.cell (p := ⟨g5, o5 + k * 5, none⟩) hl5).trans p0, (hV.cell (p := ⟨g5, o5 + k * 5 + 2, none⟩) hl5).trans p2, (hV.cell (p := ⟨g5, o5 + k * 5 + 3, none⟩) hl5).trans p3, (hV.cell (p := ⟨g5, o5 + k * 5 + 4, none⟩) hl5).trans p4⟩)
      clear hst
      go_upto_region 12 with fail
      generalize hdy : wrap64 (dy + lt) = dn at *
      clear hdy p0 p1c p2 p3 p4 hw2
      have kn := Blk.new wr 27 #[.string m1.id, .int .i64 m1.o, .slice x1.a1 m1.cs.length x1.c1, .string m1.pr, .int .i64 m1.st, .slice x1.a2 m1.mv.length x1.c2, .slice x1.a3 m1.rs.length x1.c3, .slice x1.a4 m1.ls.length x1.c4]
      have bb := below_self_alloc wr (.cells #[.string m1.id, .int .i64 m1.o, .slice x1.a1 m1.cs.length x1.c1, .string m1.pr, .int .i64 m1.st, .slice x1.a2 m1.mv.length x1.c2, .slice x1.a3 m1.rs.length x1.c3, .slice x1.a4 m1.ls.length x1.c4] 27)
      have HOF := Lib.hid (AS.out.ma.off_of (Nat.le_refl wr.heap.size))
      have hbn : bp < wr.heap.size := AS.out.kp.lt
      have hne : ∀ b, (Value.slice A1 had.length c1).ownBlock = some b → ¬ b = wr.heap.size := fun b hb he => by have := (AS.out.oh.lt b hb).2; omega
      have HNE := Lib.hid hne
      have HBN := Lib.hid hbn
      clear hne hbn
      go_upto_region 13 with fail
      have AS1 := Lib.hid (AS.out.below bb)
      have KN := Lib.hid kn
      have SC1 := Lib.hid (SC.out _ bb)
      clear AS SC kn bb t0 t1 t2
      generalize wr.alloc (.cells #[.string m1.id, .int .i64 m1.o, .slice x1.a1 m1.cs.length x1.c1, .string m1.pr, .int .i64 m1.st, .slice x1.a2 m1.mv.length x1.c2, .slice x1.a3 m1.rs.length x1.c3, .slice x1.a4 m1.ls.length x1.c4] 27) = W1 at *
      generalize wr.heap.size = bn at *
      obtain ⟨s0, s2, s3, s4⟩ := SC1.out
      go_upto_region 14 with fail
      go_cut [97] (fun v wx => ∃ cb : Bool, v = .bool cb ∧ Hid (cb = true → ovb = false) ∧ wx = W1)
      case first =>
        cases ovs with
        | false =>
          go_wp2_with fail
          go_meet
          exact ⟨false, rfl, Lib.hid (by simp), rfl⟩
        | true =>
          cases ovb with
          | false =>
            go_wp2_with fail
            go_meet
            exact ⟨true, rfl, Lib.hid (by simp), rfl⟩
          | true =>
            go_wp2_with fail
            go_meet
            exact ⟨false, rfl, Lib.hid (by simp), rfl⟩
      case rest =>
      obtain ⟨cb, rfl, HCB, rfl⟩ := hcut
      clear s0 s2 s3 s4
      go_upto_if 97 with fail
      go_cut [14, 17, 20] (fun hv ov ev wx => ∃ (E : Int) (m2 : Mt) (x2 : MtX) (p2 : Pc) (y2 : PcX) (ovb2 : Bool) (A2 : Option Addr) (c2 : Nat) (had2 : List Rt), hv = .slice A2 had2.length c2 ∧ ov = .bool ovb2 ∧ ev = .int .i64 E ∧ Hid (AcS w wx #[.string g.fr, .string g.tn, .slice z.a1 g.st.length z.c1, .slice z.a2 g.rs.length z.c2, .slice z.a3 g.ts.length z.c3] #[.string p.name, .slice y.a1 p.ss.length y.c1, .slice y.a2 p.ms.length y.c2] #[.string q.name, .slice v.a1 q.ss.length v.c1, .slice v.a2 q.ms.length v.c2] #[.slice dA d.length dc] m1 x1 bp #[.string p2.name, .slice y2.a1 p2.ss.length y2.c1, .slice y2.a2 p2.ms.length y2.c2] (.slice A2 had2.length c2) had2.length had2) ∧ Hid (Blk wx bn 27 #[.string m2.id, .int .i64 m2.o, .slice x2.a1 m2.cs.length x2.c1, .string m2.pr, .int .i64 m2.st, .slice x2.a2 m2.mv.length x2.c2, .slice x2.a3 m2.rs.length x2.c3, .slice x2.a4 m2.ls.length x2.c4]) ∧ Hid (MtAt wx wx.heap.size m2 x2) ∧ Hid (Off w.heap.size m2 x2 ∧ Off bp m2 x2 ∧ ∀ b, (Value.slice A2 had2.length c2).ownBlock = some b → Off b m2 x2) ∧ Hid (E ≠ 0 → AccI d m1 p2 had2) ∧ Hid (E = 0 → AccI d m2 p2 had2 ∧ m2.id = m1.id ∧ m2.o = m1.o ∧ m2.cs = m1.cs) ∧ Hid (PcAt w w.heap.size p2 y2 ∧ SmlP p2) ∧ Hid (ovb2 = false → p2 = p ∧ y2 = y) ∧ Hid (had2.length ≤ 60 + (k + 1)))
      case first =>
        cases cb with
        | true =>
          have hov := HCB.out rfl
          subst hov
          have hp1 := (HOV.out rfl).1.symm
          have hy1 := (HOV.out rfl).2.symm
          subst hp1 hy1
          have hap := gapply_any wc (HT.out.below AS1.out.hb) wc.heap.size m1 x1 AS1.out.ma (Nat.le_refl _) (vld_sml' AC.out.v) g z ((HG.out.below AS1.out.hb).wide AS1.out.hb.size) SG.out p y ((HP.out.below AS1.out.hb).wide AS1.out.hb.size) SP.out q v ((HQ.out.below AS1.out.hb).wide AS1.out.hb.size) SQ.out dn none [] 0 (IntsAt.nil _ _) (by simp) (by simp)
          have hov := fun (h : applyE m1 g p q dn [] = 0) => AccI.over (d := d) (had := had) AC.out h
          have hsm := fun (h : applyE m1 g p q dn [] = 0) => over_same (m := m1) (g := g) (p := p) (q := q) (day := dn) (l := []) h
          obtain ⟨E, hE⟩ : ∃ E, applyE m1 g p q dn [] = E := ⟨_, rfl⟩
          obtain ⟨M, hM⟩ : ∃ M, applyM m1 g p q dn [] = M := ⟨_, rfl⟩
          rw [hE, hM] at hap hov hsm
          have hap : Calls Tryz.prog 11 #[.agg #[.string m1.id, .int .i64 m1.o, .slice x1.a1 m1.cs.length x1.c1, .string m1.pr, .int .i64 m1.st, .slice x1.a2 m1.mv.length x1.c2, .slice x1.a3 m1.rs.length x1.c3, .slice x1.a4 m1.ls.length x1.c4], .agg #[.string g.fr, .string g.tn, .slice z.a1 g.st.length z.c1, .slice z.a2 g.rs.length z.c2, .slice z.a3 g.ts.length z.c3], .agg #[.string p.name, .slice y.a1 p.ss.length y.c1, .slice y.a2 p.ms.length y.c2], .agg #[.string q.name, .slice v.a1 q.ss.length v.c1, .slice v.a2 q.ms.length v.c2], .int .i64 dn, .slice none 0 0] wc (MtPostO wc m1 x1 E M) := hap
          have HAP := Lib.hid hap
          have HOVR := Lib.hid hov
          have HSAME := Lib.hid hsm
          clear hap hov hsm hE hM
          obtain ⟨t00, t01, t02⟩ := (show Blk wc w.heap.size 27 #[.string m1.id, .int .i64 m1.o, .slice x1.a1 m1.cs.length x1.c1, .string m1.pr, .int .i64 m1.st, .slice x1.a2 m1.mv.length x1.c2, .slice x1.a3 m1.rs.length x1.c3, .slice x1.a4 m1.ls.length x1.c4] from AS1.out.km).all
          obtain ⟨t10, t11, t12⟩ := AS1.out.kg.all
          obtain ⟨t20, t21, t22⟩ := AS1.out.kf.all
          obtain ⟨t30, t31, t32⟩ := AS1.out.kt.all
          go_wp2_with fail
          refine HAP.out.mono ?_
          rintro e W2 ⟨x2, he, ⟨hma, hoff⟩, b2⟩
          obtain rfl : e = .returned (.tuple #[.agg #[.string M.id, .int .i64 M.o, .slice x2.a1 M.cs.length x2.c1, .string M.pr, .int .i64 M.st, .slice x2.a2 M.mv.length x2.c2, .slice x2.a3 M.rs.length x2.c3, .slice x2.a4 M.ls.length x2.c4], .int .i64 E]) := he
          clear t00 t01 t02 t10 t11 t12 t20 t21 t22 t30 t31 t32 HAP
          have AS2 := Lib.hid (AS1.out.below b2)
          have KN2 := Lib.hid (KN.out.below b2 KN.out.lt)
          have HLT := Lib.hid KN.out.lt
          have OA := Lib.hid (hoff _ (by have := AS1.out.km.lt; exact this) AS1.out.om)
          have OB := Lib.hid (hoff _ AS1.out.kp.lt AS1.out.op)
          have OC : Hid (∀ b, (Value.slice A1 had.length c1).ownBlock = some b → Off b M x2) := Lib.hid (fun b hb => hoff _ (AS1.out.oh.lt b hb).2 (AS1.out.oo b hb))
          have ON := Lib.hid (hoff _ KN.out.lt HOF.out)
          have HMA := Lib.hid hma
          clear hma hoff b2 AS1 KN
          go_upto_region 16 with (refine wp_row rfl (.tmp 19) (.tmp 105) rfl bn #[.string M.id, .int .i64 M.o, .slice x2.a1 M.cs.length x2.c1, .string M.pr, .int .i64 M.st, .slice x2.a2 M.mv.length x2.c2, .slice x2.a3 M.rs.length x2.c3, .slice x2.a4 M.ls.length x2.c4] rfl rfl rfl one8 rfl KN2.out ?_)
          have o3 : Only (fun i => i = bn) W2 (W2.setRow bn #[.string M.id, .int .i64 M.o, .slice x2.a1 M.cs.length x2.c1, .string M.pr, .int .i64 M.st, .slice x2.a2 M.mv.length x2.c2, .slice x2.a3 M.rs.length x2.c3, .slice x2.a4 M.ls.length x2.c4]) := only_row
          have AS3 := Lib.hid (AS2.out.fresh o3 HBN.out HNE.out HOF.out)
          have KN3 := Lib.hid (blk_row (cells := #[.string M.id, .int .i64 M.o, .slice x2.a1 M.cs.length x2.c1, .string M.pr, .int .i64 M.st, .slice x2.a2 M.mv.length x2.c2, .slice x2.a3 M.rs.length x2.c3, .slice x2.a4 M.ls.length x2.c4]) KN2.out)
          have HM3 := Lib.hid ((HMA.out.off o3 ON.out).wide o3.size)
          clear o3 AS2 KN2 HMA
          generalize W2.setRow bn #[.string M.id, .int .i64 M.o, .slice x2.a1 M.cs.length x2.c1, .string M.pr, .int .i64 M.st, .slice x2.a2 M.mv.length x2.c2, .slice x2.a3 M.rs.length x2.c3, .slice x2.a4 M.ls.length x2.c4] = W3 at *
          by_cases hE : E = 0
          case neg =>
            have c0 : decide (E = 0) = false := decide_eq_false hE
            go_wp2_with fail
            go_meet
            exact ⟨E, M, x2, p, y, false, A1, c1, had, rfl, rfl, rfl, AS3, KN3, HM3, Lib.hid ⟨OA.out, OB.out, OC.out⟩, Lib.hid (fun _ => AC.out), Lib.hid (fun h => absurd h hE), HPY, Lib.hid (fun _ => ⟨rfl, rfl⟩), Lib.hid (by have := HSZ.out; omega)⟩
          subst hE
          go_wp2_with fail
          go_loopg [21] had.length (fun n2 i wr => ∃ t : Nat, t + n2 = had.length ∧ i = .int .i64 (t : Int) ∧ Hid (AcS w wr #[.string g.fr, .string g.tn, .slice z.a1 g.st.length z.c1, .slice z.a2 g.rs.length z.c2, .slice z.a3 g.ts.length z.c3] #[.string p.name, .slice y.a1 p.ss.length y.c1, .slice y.a2 p.ms.length y.c2] #[.string q.name, .slice v.a1 q.ss.length v.c1, .slice v.a2 q.ms.length v.c2] #[.slice dA d.length dc] m1 x1 bp #[.string p.name, .slice y.a1 p.ss.length y.c1, .slice y.a2 p.ms.length y.c2] (.slice A1 had.length c1) had.length (renT g.rs had t)) ∧ Hid (Blk wr bn 27 #[.string M.id, .int .i64 M.o, .slice x2.a1 M.cs.length x2.c1, .string M.pr, .int .i64 M.st, .slice x2.a2 M.mv.length x2.c2, .slice x2.a3 M.rs.length x2.c3, .slice x2.a4 M.ls.length x2.c4]) ∧ Hid (MtAt wr wr.heap.size M x2))
          case atStart => exact ⟨0, Nat.zero_add _, rfl, AS3, KN3, HM3⟩
          case round =>
            clear AS3 KN3 HM3
            obtain ⟨t, ht, rfl, AS3, KN3, HM3⟩ := hrel
            by_cases hlt2 : t < had.length
            · obtain ⟨m2, rfl⟩ : ∃ m, gk = m + 1 := ⟨gk - 1, by omega⟩
              obtain ⟨⟨rn, rs'⟩, hr⟩ : ∃ r, had[t]? = some r := ⟨_, List.getElem?_eq_getElem hlt2⟩
              obtain ⟨gA, hA2, hgA, hgl⟩ := row_some AS3.out.oh (by omega)
              subst hA2
              have hra := renT_at (rs := g.rs) hr
              have q0 := AS3.out.oh.cellAt (t * 2) (by omega)
              rw [(rtCells_at _ t _ hra).1] at q0
              have Q0 : Hid (wr.cell? ⟨gA, t * 2, none⟩ = some (.string rn)) := Lib.hid q0
              have HRN := Lib.hid (renT_next (rs := g.rs) hr)
              have HRA := Lib.hid hra
              obtain ⟨nn, hnn⟩ : ∃ nn, namedL g.rs rn = nn := ⟨_, rfl⟩
              have hren : ∀ V, PSv wr V → Calls Tryz.prog 12 #[.agg #[.string g.fr, .string g.tn, .slice z.a1 g.st.length z.c1, .slice z.a2 g.rs.length z.c2, .slice z.a3 g.ts.length z.c3], .string rn] V fun e w' => e = .returned (.string nn) ∧ Below V.heap.size V w' := fun V hV => by
                have hbV := AS3.out.hb.trans (Below.mono hV AS3.out.hb.size)
                have := rnamed32_any V w.heap.size g z ((HG.out.below hbV).rs) hbV.size (by have := SG.out.2.1; omega) rn
                rwa [hnn] at this
              have HREN := Lib.hid hren
              have HNN := Lib.hid hnn
              have jb0 : (0 : Int) ≤ (t : Int) := by omega
              have jb1 : (t : Int) < (had.length : Int) := by omega
              clear q0 hr hra hnn hren
              go_upto_region 20 with fail
              refine wp_region_hold (fun V => PSv wr V) [0, 1, 2, 3, 4, 5, 6, 7] [8] [9, 10, 11] (by kernel_rfl) (by kernel_rfl) (fun _ d _ _ _ h => by cases d <;> exact h) (below_drewM wr) ?_
              simp only [pick, List.drop_succ_cons, List.drop_zero, List.head?_cons, Option.toList_some, List.cons_append, List.nil_append, List.append_nil]
              repeat (refine wpHeld_step ?_ rfl ?_ ?_; rotate_left; · (intro V hV; obtain ⟨u0, u1, u2⟩ := (AS3.out.below hV).kg.all; have p0 := (Below.cell hV (p := ⟨gA, t * 2, none⟩) hgl).trans Q0.out; go_simp; with_reducible rfl))
              refine wpHeld_nil ?_
              simp only [wpEarly]
              have HC := Lib.hid (HREN.out _ (below_drewM wr))
              go_wp2_with fail
              refine HC.out.mono ?_
              rintro e W5 ⟨rfl, bb⟩
              have HS2 := Lib.hid (PSv.go (below_drewM wr) bb)
              clear bb HC HREN
              go_wp2_with fail
              refine ⟨HS2.out, ?_⟩
              have AS5 := Lib.hid (AS3.out.below HS2.out)
              have q5 := AS5.out.oh.cellAt (t * 2) (by omega)
              rw [(rtCells_at _ t _ HRA.out).1] at q5
              have fz := AS5.out.oh.frozenAt (t * 2)
              have hstore := AS5.out.oh.stored (t * 2) (.string nn)
              have hoS := Only.of_grown hstore.2
              have AS6 := Lib.hid (AS5.out.hadR (g := gA) (had' := renT g.rs had (t + 1)) (by rw [HRN.out, HNN.out, rtCells_setN _ t (rn, rs') nn HRA.out]; exact hstore.1) (.inl rfl) hstore.2 AS5.out.oo)
              have KN6 := Lib.hid (hoS.blk (KN3.out.below HS2.out KN3.out.lt) (own_blk_ne AS5.out.oh (KN3.out.below HS2.out KN3.out.lt) (by decide)))
              have hoS2 : Only (fun i => i = gA) W5 _ := hoS.mono fun i hi => by injection hi with hi; exact hi.symm
              have HM6 := Lib.hid ((((HM3.out.below HS2.out).wide (Below.size HS2.out)).off hoS2 (OC.out gA rfl)).wide hoS2.size)
              have ht60 : t ≤ 100 := by have := HSZ.out; omega
              clear hstore hoS hoS2 HS2 AS3 KN3 HM3
              go_wp2
              go_roundg m2
              case rel => exact ⟨t + 1, by omega, by go_num, AS6, KN6, HM6⟩
              case measure => omega
            · obtain rfl : gk = 0 := by omega
              obtain rfl : t = had.length := by omega
              have nb2 : ¬ (had.length : Int) < (had.length : Int) := by omega
              clear ht hlt2
              obtain ⟨t30, t31, t32⟩ := AS3.out.kt.all
              go_wp2_with (refine wp_rowP rfl (.tmp 15) (.tmp 126) rfl bp #[.string q.name, .slice v.a1 q.ss.length v.c1, .slice v.a2 q.ms.length v.c2] rfl rfl rfl one3 rfl AS3.out.kp ?_)
              clear t30 t31 t32
              have o7 : Only (fun i => i = bp) wr (wr.setRow bp #[.string q.name, .slice v.a1 q.ss.length v.c1, .slice v.a2 q.ms.length v.c2]) := rowP_only
              have AS7 := Lib.hid (AS3.out.proc o7 (rowP_blk (cells := #[.string q.name, .slice v.a1 q.ss.length v.c1, .slice v.a2 q.ms.length v.c2]) AS3.out.kp))
              have KN7 := Lib.hid (o7.blk KN3.out (by have := HBN.out; omega))
              have HM7 := Lib.hid ((HM3.out.off o7 OB.out).wide o7.size)
              go_meet
              exact ⟨0, M, x2, q, v, true, A1, c1, renT g.rs had had.length, by rw [renT_len], rfl, rfl, by rw [renT_len]; exact AS7, KN7, HM7, Lib.hid ⟨OA.out, OB.out, by rw [renT_len]; exact OC.out⟩, Lib.hid (fun h => absurd rfl h), Lib.hid (fun _ => ⟨by rw [renT_all]; exact HOVR.out (by trivial), HSAME.out (by trivial)⟩), Lib.hid ⟨HQ.out, SQ.out⟩, Lib.hid (fun h => by cases h), Lib.hid (by rw [renT_len]; have := HSZ.out; omega)⟩
        | false =>
          obtain ⟨s0, s2, s3, s4⟩ := SC1.out
          have hn5 : g5 ≠ bn := by have := HBN.out; have := AS1.out.lo; omega
          have HN5 := Lib.hid hn5
          clear s4 hn5
          cases rt with
          | true =>
            have hcl : ∀ V, AcS w V #[.string g.fr, .string g.tn, .slice z.a1 g.st.length z.c1, .slice z.a2 g.rs.length z.c2, .slice z.a3 g.ts.length z.c3] #[.string p.name, .slice y.a1 p.ss.length y.c1, .slice y.a2 p.ms.length y.c2] #[.string q.name, .slice v.a1 q.ss.length v.c1, .slice v.a2 q.ms.length v.c2] #[.slice dA d.length dc] m1 x1 bp #[.string p1.name, .slice y1.a1 p1.ss.length y1.c1, .slice y1.a2 p1.ms.length y1.c2] (.slice A1 had.length c1) had.length had → Calls Tryz.prog 13 #[.agg #[.string m1.id, .int .i64 m1.o, .slice x1.a1 m1.cs.length x1.c1, .string m1.pr, .int .i64 m1.st, .slice x1.a2 m1.mv.length x1.c2, .slice x1.a3 m1.rs.length x1.c3, .slice x1.a4 m1.ls.length x1.c4], .string (nmW nm), .int .i64 dn] V (MtPostO V m1 x1 (grantE m1 (nmW nm) dn) (grantM m1 (nmW nm) dn)) := fun V ha => grant_off V V.heap.size m1 x1 ha.ma (Nat.le_refl _) (vld_sml' AC.out.v) (nmW nm) (nmW_size nm) dn
            have hok := fun (h : grantE m1 (nmW nm) dn = 0) => AccI.grant AC.out h
            have hsm := fun (h : grantE m1 (nmW nm) dn = 0) => grant_same h
            have hnm := fun V => w09Name_any V nm r2.1 r2.2
            obtain ⟨nv, hnv⟩ : ∃ v, nmW nm = v := ⟨_, rfl⟩
            rw [hnv] at hcl hok hsm hnm
            obtain ⟨E, hE⟩ : ∃ E, grantE m1 nv dn = E := ⟨_, rfl⟩
            obtain ⟨M, hM⟩ : ∃ M, grantM m1 nv dn = M := ⟨_, rfl⟩
            rw [hE, hM] at hcl hok hsm
            have HOK := Lib.hid hok
            have HSAME := Lib.hid hsm
            have HNM := Lib.hid hnm
            clear hok hsm hnm hnv hE hM
            have hka : ∃ KK : MtX → Prop, (∀ x, KK x → Off bn M x) ∧ (∀ x, KK x → Off w.heap.size M x ∧ Off bp M x ∧ ∀ b, (Value.slice A1 had.length c1).ownBlock = some b → Off b M x) ∧ ∀ V, StS wc bn V → Calls Tryz.prog 13 #[.agg #[.string m1.id, .int .i64 m1.o, .slice x1.a1 m1.cs.length x1.c1, .string m1.pr, .int .i64 m1.st, .slice x1.a2 m1.mv.length x1.c2, .slice x1.a3 m1.rs.length x1.c3, .slice x1.a4 m1.ls.length x1.c4], .string nv, .int .i64 dn] V (PostX V E M KK) := by
              refine ⟨fun x => Off bn M x ∧ Off w.heap.size M x ∧ Off bp M x ∧ ∀ b, (Value.slice A1 had.length c1).ownBlock = some b → Off b M x, fun _ h => h.1, fun _ h => h.2, fun V hV => ?_⟩
              have ha := AS1.out.fresh hV.1 HBN.out HNE.out HOF.out
              have hlt : bn < V.heap.size := Nat.lt_of_lt_of_le KN.out.lt hV.1.size
              refine (hcl V ha).mono ?_
              rintro e W2 ⟨x2, he, ⟨hma, hoff⟩, b2⟩
              exact ⟨x2, he, hma, ⟨hoff _ hlt HOF.out, hoff _ ha.km.lt ha.om, hoff _ ha.kp.lt ha.op, fun b hb => hoff _ (ha.oh.lt b hb).2 (ha.oo b hb)⟩, b2⟩
            obtain ⟨KK, hkb, hka, hcl2⟩ := hka
            have HKB := Lib.hid hkb
            have HKA := Lib.hid hka
            have HCL := Lib.hid hcl2
            clear hkb hka hcl2 hcl
            go_upto_region 24 with fail
            have S2 := Lib.hid s2
            clear s0 s2 s3
            refine wp_region_rg2 (StS wc bn) (StR bn M KK) ([isV (.agg #[.string m1.id, .int .i64 m1.o, .slice x1.a1 m1.cs.length x1.c1, .string m1.pr, .int .i64 m1.st, .slice x1.a2 m1.mv.length x1.c2, .slice x1.a3 m1.rs.length x1.c3, .slice x1.a4 m1.ls.length x1.c4]), isV (.slice (some ⟨g5, o5, none⟩) n lc), isV (.int .i64 (k : Int)), isV (.pointer (some ⟨g5, o5 + k * 5, none⟩)), isV (.pointer (some ⟨g5, o5 + k * 5 + 2, none⟩)), isV (.int .u8 nm), isV (.string nv), isV (.int .i64 dn), tupX M E KK, tupX M E KK, aggX M KK, isV (.int .i64 E), stX bn M KK, isV (.int .i64 E)]) [0, 1, 2, 3, 4, 5, 6, 7, 8, 9, 10, 11, 12, 13] (by kernel_rfl) (by kernel_rfl) (by kernel_rfl) (StS.start KN.out rfl) ⟨isV_mono _, isV_mono _, isV_mono _, isV_mono _, isV_mono _, isV_mono _, isV_mono _, isV_mono _, tupX_mono HKB.out, tupX_mono HKB.out, aggX_mono HKB.out, isV_mono _, stX_mono, isV_mono _, trivial⟩ ?_
            intro F hF
            simp only [putAll, List.map_cons, List.map_nil, Act.put, List.setIfInBounds_toArray, List.set_cons_succ, List.set_cons_zero] at hF
            have HFX := Lib.hid hF
            clear hF
            refine ⟨fun Q' => ⟨?_, ?_, ?_, ?_, ?_, ?_, ?_, ?_, ?_, ?_, ?_, ?_, ?_, ?_, trivial⟩, ?_⟩
            · intro u W hS hd hp
              have HS := Lib.hid hS
              clear hS
              rw [HFX.out]
              clear hd hp 
              obtain ⟨r0, r1, r2⟩ := (show Blk W w.heap.size 27 #[.string m1.id, .int .i64 m1.o, .slice x1.a1 m1.cs.length x1.c1, .string m1.pr, .int .i64 m1.st, .slice x1.a2 m1.mv.length x1.c2, .slice x1.a3 m1.rs.length x1.c3, .slice x1.a4 m1.ls.length x1.c4] from (AS1.out.fresh HS.out.1 HBN.out HNE.out HOF.out).km).all
              go_wp2_with fail
              exact ⟨_, by rw [HFX.out]; simp [upd], rfl, HS.out, StR.same⟩
            · intro u W hS hd hp
              have HS := Lib.hid hS
              clear hS
              rw [HFX.out]
              clear hd hp 
              go_wp2_with fail
              exact ⟨_, by rw [HFX.out]; simp [upd], rfl, HS.out, StR.same⟩
            · intro u W hS hd hp
              have HS := Lib.hid hS
              clear hS
              rw [HFX.out]
              clear hd hp 
              go_wp2_with fail
              exact ⟨_, by rw [HFX.out]; simp [upd], rfl, HS.out, StR.same⟩
            · intro u W hS hd hp
              have HS := Lib.hid hS
              clear hS
              obtain ⟨d1, d2, -⟩ := hd
              have e1 : u 1 = .slice (some ⟨g5, o5, none⟩) n lc := d1 rfl
              have e2 : u 2 = .int .i64 (k : Int) := d2 rfl
              rw [HFX.out]
              simp only [e1, e2]
              clear hp d1 d2
              have ib0 := ib0
              have ib1 := ib1
              go_wp2_with fail
              exact ⟨_, by rw [HFX.out]; simp [upd, e1, e2], rfl, HS.out, StR.same⟩
            · intro u W hS hd hp
              have HS := Lib.hid hS
              clear hS
              obtain ⟨d3, -⟩ := hd
              have e3 : u 3 = .pointer (some ⟨g5, o5 + k * 5, none⟩) := d3 rfl
              rw [HFX.out]
              simp only [e3]
              clear hp d3
              go_wp2_with fail
              exact ⟨_, by rw [HFX.out]; simp [upd, e3], rfl, HS.out, StR.same⟩
            · intro u W hS hd hp
              have HS := Lib.hid hS
              clear hS
              obtain ⟨d4, -⟩ := hd
              have e4 : u 4 = .pointer (some ⟨g5, o5 + k * 5 + 2, none⟩) := d4 rfl
              rw [HFX.out]
              simp only [e4]
              clear hp d4
              have q0 := HS.out.cell HN5.out S2.out
              go_wp2_with fail
              exact ⟨_, by rw [HFX.out]; simp [upd, e4], rfl, HS.out, StR.same⟩
            · intro u W hS hd hp
              have HS := Lib.hid hS
              clear hS
              obtain ⟨d5, -⟩ := hd
              have e5 : u 5 = .int .u8 nm := d5 rfl
              rw [HFX.out]
              simp only [e5]
              clear hp d5
              have HC := Lib.hid (HNM.out W)
              go_wp2_with fail
              refine HC.out.mono ?_
              rintro e W2 ⟨rfl, b2⟩
              go_wp2_with fail
              exact ⟨_, by rw [HFX.out]; simp [upd, e5], rfl, HS.out.go b2, StR.of_below b2⟩
            · intro u W hS hd hp
              have HS := Lib.hid hS
              clear hS
              rw [HFX.out]
              clear hd hp 
              go_wp2_with fail
              exact ⟨_, by rw [HFX.out]; simp [upd], rfl, HS.out, StR.same⟩
            · intro u W hS hd hp
              have HS := Lib.hid hS
              clear hS
              obtain ⟨d0, d6, d7, -⟩ := hd
              have e0 : u 0 = .agg #[.string m1.id, .int .i64 m1.o, .slice x1.a1 m1.cs.length x1.c1, .string m1.pr, .int .i64 m1.st, .slice x1.a2 m1.mv.length x1.c2, .slice x1.a3 m1.rs.length x1.c3, .slice x1.a4 m1.ls.length x1.c4] := d0 rfl
              have e6 : u 6 = .string nv := d6 rfl
              have e7 : u 7 = .int .i64 dn := d7 rfl
              rw [HFX.out]
              simp only [e0, e6, e7]
              clear hp d0 d6 d7
              have HC := Lib.hid (HCL.out W HS.out)
              go_wp2_with fail
              refine HC.out.mono ?_
              rintro e W2 ⟨x9, he, hm9, hk9, b2⟩
              obtain rfl : e = .returned (.tuple #[.agg (mtC M x9), .int .i64 E]) := he
              go_wp2_with fail
              exact ⟨_, by rw [HFX.out]; simp [upd, e0, e6, e7], ⟨x9, rfl, hm9, hk9⟩, HS.out.go b2, StR.of_below b2⟩
            · intro u W hS hd hp
              have HS := Lib.hid hS
              clear hS
              obtain ⟨d8, -⟩ := hd
              obtain ⟨x8, e8, m8, k8⟩ : (tupX M E KK).p (u 8) (u 8) W := d8 rfl
              rw [HFX.out]
              simp only [e8]
              clear hp d8
              go_wp2_with fail
              exact ⟨_, by rw [HFX.out]; simp [upd, e8], ⟨x8, rfl, m8, k8⟩, HS.out, StR.same⟩
            · intro u W hS hd hp
              have HS := Lib.hid hS
              clear hS
              obtain ⟨d9, -⟩ := hd
              obtain ⟨x9, e9, m9, k9⟩ : (tupX M E KK).p (u 9) (u 9) W := d9 rfl
              rw [HFX.out]
              simp only [e9]
              clear hp d9
              go_wp2_with fail
              exact ⟨_, by rw [HFX.out]; simp [upd, e9], ⟨x9, rfl, m9, k9⟩, HS.out, StR.same⟩
            · intro u W hS hd hp
              have HS := Lib.hid hS
              clear hS
              obtain ⟨d9, -⟩ := hd
              obtain ⟨x9, e9, m9, k9⟩ : (tupX M E KK).p (u 9) (u 9) W := d9 rfl
              rw [HFX.out]
              simp only [e9]
              clear hp d9
              go_wp2_with fail
              exact ⟨_, by rw [HFX.out]; simp [upd, e9], rfl, HS.out, StR.same⟩
            · intro u W hS hd hp
              have HS := Lib.hid hS
              clear hS
              obtain ⟨d10, -⟩ := hd
              obtain ⟨x10, e10, m10, k10⟩ : (aggX M KK).p (u 10) (u 10) W := d10 rfl
              rw [HFX.out]
              simp only [e10]
              clear hp d10
              obtain ⟨cs0, km0, ks0⟩ := HS.out.2
              have HST := Lib.hid (StS.store HKB.out HS.out km0 m10 k10)
              go_wp2_with (refine wp_row rfl (.tmp 19) (.tmp 142) rfl bn (mtC M x10) rfl rfl rfl one8 ks0 km0 ?_)
              exact ⟨undef, by rw [HFX.out]; simp [upd, e10] <;> rfl, HST.out.1, HST.out.2.1, HST.out.2.2⟩
            · intro u W hS hd hp
              have HS := Lib.hid hS
              clear hS
              obtain ⟨d11, -⟩ := hd
              have e11 : u 11 = .int .i64 E := d11 rfl
              rw [HFX.out]
              simp only [e11]
              clear hp d11
              go_wp2_with fail
              exact ⟨_, by rw [HFX.out]; simp [upd, e11], rfl, HS.out, StR.same⟩
            intro u W hS hf
            obtain ⟨x2, kb, hm, hk⟩ : StF bn M KK W := hf 12 (by decide)
            have e13 : u 13 = .int .i64 E := hf 13 (by decide)
            rw [HFX.out]
            simp only [e13]
            clear e13 hf HFX F HCL
            have AS3 := Lib.hid (AS1.out.fresh hS.1 HBN.out HNE.out HOF.out)
            have KN3 := Lib.hid kb
            have HM3 := Lib.hid hm
            have HO3 := Lib.hid (HKA.out x2 hk)
            clear kb hm hk
            by_cases hE : E = 0
            case neg =>
              have c0 : decide (E = 0) = false := decide_eq_false hE
              have c0b : (E == 0) = false := by simpa using hE
              go_wp2_with fail
              go_meet
              exact ⟨E, M, x2, p1, y1, ovb, A1, c1, had, rfl, rfl, rfl, AS3, KN3, HM3, HO3, Lib.hid (fun _ => AC.out), Lib.hid (fun h => absurd h hE), HPY, HOV, Lib.hid (by have := HSZ.out; omega)⟩
            subst hE
            have hg5 := World.block_lt_of_cell? W _ (hS.cell HN5.out S2.out)
            have q2 := hS.cell HN5.out S2.out
            clear hS S2 hg5
            go_wp2_with fail
            have HC := Lib.hid (HNM.out W)
            refine HC.out.mono ?_
            rintro e W5 ⟨rfl, bb⟩
            have HS2 := Lib.hid bb
            clear bb HC HNM q2
            have kn := Blk.new W5 53 #[.string nv, .int .i64 dn]
            have b6 := below_self_alloc W5 (.cells #[.string nv, .int .i64 dn] 53)
            have b7 : Below W.heap.size W (W5.alloc (.cells #[.string nv, .int .i64 dn] 53)) := HS2.out.trans (b6.mono HS2.out.size)
            have AS6 := Lib.hid (AS3.out.below b7)
            have KN6 := Lib.hid (KN3.out.below b7 KN3.out.lt)
            have HM6 := Lib.hid ((HM3.out.below b7).wide b7.size)
            have own3 := AS6.out.oh
            have hba := AS6.out.hb.size
            have h60 : had.length ≤ 80 := by have := HSZ.out; omega
            clear b6 b7 HS2 AS3 KN3 HM3
            go_wp2_with (at_builtin; refine wpList_append_lies _ rfl _ _ 24 rfl w.heap.size 53 i0 _ 2 24 Tryz.underlying24 hi0 hz0 hz1 hz2 rfl (by omega) (.slice A1 had.length c1) had.length (rtCells had) rfl own3 ⟨W5.heap.size, 0, none⟩ 1 1 [.string nv, .int .i64 dn] rfl rfl (World.news_of_block kn) (rtCells_one [(nv, dn)]) (by omega) (by unfold maxLen; omega) (by omega) hba _ rfl ?_; intro gz cz Y own4 gr4 l4 z4; have AP := Lib.hid (AcS.push (r := (nv, dn)) AS6.out own4 gr4 l4 (Nat.le_refl _)); clear own3 hba kn own4 gr4 l4 z4)
            have HM7 := Lib.hid (AP.out.2.2 M x2 HM6.out HO3.out.2.2)
            go_meet
            exact ⟨0, M, x2, p1, y1, ovb, some ⟨gz, 0, none⟩, cz, had ++ [(nv, dn)], by rw [List.length_append]; rfl, rfl, rfl, Lib.hid AP.out.1, Lib.hid (AP.out.2.1 KN6.out), Lib.hid HM7.out.1, Lib.hid ⟨HO3.out.1, HO3.out.2.1, HM7.out.2⟩, Lib.hid (fun h => absurd rfl h), Lib.hid (fun _ => ⟨HOK.out (by trivial), HSAME.out (by trivial)⟩), HPY, HOV, Lib.hid (by rw [List.length_append]; have := HSZ.out; simp only [List.length_cons, List.length_nil]; omega)⟩
          | false =>
            obtain ⟨rm, hrm⟩ : ∃ r : Int, sg % ((p1.ss.length : Int) + 1) = r := ⟨_, rfl⟩
            have hcl : ∀ V, AcS w V #[.string g.fr, .string g.tn, .slice z.a1 g.st.length z.c1, .slice z.a2 g.rs.length z.c2, .slice z.a3 g.ts.length z.c3] #[.string p.name, .slice y.a1 p.ss.length y.c1, .slice y.a2 p.ms.length y.c2] #[.string q.name, .slice v.a1 q.ss.length v.c1, .slice v.a2 q.ms.length v.c2] #[.slice dA d.length dc] m1 x1 bp #[.string p1.name, .slice y1.a1 p1.ss.length y1.c1, .slice y1.a2 p1.ms.length y1.c2] (.slice A1 had.length c1) had.length had → Calls Tryz.prog 15 #[.agg #[.string m1.id, .int .i64 m1.o, .slice x1.a1 m1.cs.length x1.c1, .string m1.pr, .int .i64 m1.st, .slice x1.a2 m1.mv.length x1.c2, .slice x1.a3 m1.rs.length x1.c3, .slice x1.a4 m1.ls.length x1.c4], .agg #[.string p1.name, .slice y1.a1 p1.ss.length y1.c1, .slice y1.a2 p1.ms.length y1.c2], .int .i64 rm, .int .i64 dn] V (MtPostO V m1 x1 (moveE m1 p1 rm dn) (moveM m1 p1 rm dn)) := fun V ha => move_off V V.heap.size m1 x1 ha.ma (Nat.le_refl _) (vld_sml' AC.out.v) p1 y1 ((HPY.out.1.below ha.hb).wide ha.hb.size) HPY.out.2 rm dn
            have hok := fun (h : moveE m1 p1 rm dn = 0) => AccI.move (s := rm) AC.out h
            have hsm := fun (h : moveE m1 p1 rm dn = 0) => move_same h
            obtain ⟨E, hE⟩ : ∃ E, moveE m1 p1 rm dn = E := ⟨_, rfl⟩
            obtain ⟨M, hM⟩ : ∃ M, moveM m1 p1 rm dn = M := ⟨_, rfl⟩
            rw [hE, hM] at hcl hok hsm
            have HOK := Lib.hid hok
            have HSAME := Lib.hid hsm
            have hpl2 : (p1.ss.length : Int) ≤ 1000000 := by have := HPY.out.2.1; omega
            clear hok hsm hE hM
            have hka : ∃ KK : MtX → Prop, (∀ x, KK x → Off bn M x) ∧ (∀ x, KK x → Off w.heap.size M x ∧ Off bp M x ∧ ∀ b, (Value.slice A1 had.length c1).ownBlock = some b → Off b M x) ∧ ∀ V, StS wc bn V → Calls Tryz.prog 15 #[.agg #[.string m1.id, .int .i64 m1.o, .slice x1.a1 m1.cs.length x1.c1, .string m1.pr, .int .i64 m1.st, .slice x1.a2 m1.mv.length x1.c2, .slice x1.a3 m1.rs.length x1.c3, .slice x1.a4 m1.ls.length x1.c4], .agg #[.string p1.name, .slice y1.a1 p1.ss.length y1.c1, .slice y1.a2 p1.ms.length y1.c2], .int .i64 rm, .int .i64 dn] V (PostX V E M KK) := by
              refine ⟨fun x => Off bn M x ∧ Off w.heap.size M x ∧ Off bp M x ∧ ∀ b, (Value.slice A1 had.length c1).ownBlock = some b → Off b M x, fun _ h => h.1, fun _ h => h.2, fun V hV => ?_⟩
              have ha := AS1.out.fresh hV.1 HBN.out HNE.out HOF.out
              have hlt : bn < V.heap.size := Nat.lt_of_lt_of_le KN.out.lt hV.1.size
              refine (hcl V ha).mono ?_
              rintro e W2 ⟨x2, he, ⟨hma, hoff⟩, b2⟩
              exact ⟨x2, he, hma, ⟨hoff _ hlt HOF.out, hoff _ ha.km.lt ha.om, hoff _ ha.kp.lt ha.op, fun b hb => hoff _ (ha.oh.lt b hb).2 (ha.oo b hb)⟩, b2⟩
            obtain ⟨KK, hkb, hka, hcl2⟩ := hka
            have HKB := Lib.hid hkb
            have HKA := Lib.hid hka
            have HCL := Lib.hid hcl2
            clear hkb hka hcl2 hcl
            go_upto_region 27 with fail
            have S0 := Lib.hid s0
            have hsg : IntKind.i64.wrap sg = sg := IntWalk.i64_in _ (by omega)
            have HSG := Lib.hid hsg
            have HRM := Lib.hid hrm
            clear s0 s2 s3 hsg hrm
            refine wp_region_rg2 (StS wc bn) (StR bn M KK) ([isV (.agg #[.string m1.id, .int .i64 m1.o, .slice x1.a1 m1.cs.length x1.c1, .string m1.pr, .int .i64 m1.st, .slice x1.a2 m1.mv.length x1.c2, .slice x1.a3 m1.rs.length x1.c3, .slice x1.a4 m1.ls.length x1.c4]), isV (.agg #[.string p1.name, .slice y1.a1 p1.ss.length y1.c1, .slice y1.a2 p1.ms.length y1.c2]), isV (.slice (some ⟨g5, o5, none⟩) n lc), isV (.int .i64 (k : Int)), isV (.pointer (some ⟨g5, o5 + k * 5, none⟩)), isV (.pointer (some ⟨g5, o5 + k * 5, none⟩)), isV (.int .u8 sg), isV (.int .i64 sg), isV (.pointer (some ⟨bp, 1, none⟩)), isV (.slice y1.a1 p1.ss.length y1.c1), isV (.int .i64 (p1.ss.length : Int)), isV (.int .i64 ((p1.ss.length : Int) + 1)), isV (.int .i64 rm), isV (.int .i64 dn), tupX M E KK, tupX M E KK, aggX M KK, isV (.int .i64 E), stX bn M KK, isV (.int .i64 E)]) [0, 1, 2, 3, 4, 5, 6, 7, 8, 9, 10, 11, 12, 13, 14, 15, 16, 17, 18, 19] (by kernel_rfl) (by kernel_rfl) (by kernel_rfl) (StS.start KN.out rfl) ⟨isV_mono _, isV_mono _, isV_mono _, isV_mono _, isV_mono _, isV_mono _, isV_mono _, isV_mono _, isV_mono _, isV_mono _, isV_mono _, isV_mono _, isV_mono _, isV_mono _, tupX_mono HKB.out, tupX_mono HKB.out, aggX_mono HKB.out, isV_mono _, stX_mono, isV_mono _, trivial⟩ ?_
            intro F hF
            simp only [putAll, List.map_cons, List.map_nil, Act.put, List.setIfInBounds_toArray, List.set_cons_succ, List.set_cons_zero] at hF
            have HFX := Lib.hid hF
            clear hF
            refine ⟨fun Q' => ⟨?_, ?_, ?_, ?_, ?_, ?_, ?_, ?_, ?_, ?_, ?_, ?_, ?_, ?_, ?_, ?_, ?_, ?_, ?_, ?_, trivial⟩, ?_⟩
            · intro u W hS hd hp
              have HS := Lib.hid hS
              clear hS
              rw [HFX.out]
              clear hd hp 
              obtain ⟨r0, r1, r2⟩ := (show Blk W w.heap.size 27 #[.string m1.id, .int .i64 m1.o, .slice x1.a1 m1.cs.length x1.c1, .string m1.pr, .int .i64 m1.st, .slice x1.a2 m1.mv.length x1.c2, .slice x1.a3 m1.rs.length x1.c3, .slice x1.a4 m1.ls.length x1.c4] from (AS1.out.fresh HS.out.1 HBN.out HNE.out HOF.out).km).all
              go_wp2_with fail
              exact ⟨_, by rw [HFX.out]; simp [upd], rfl, HS.out, StR.same⟩
            · intro u W hS hd hp
              have HS := Lib.hid hS
              clear hS
              rw [HFX.out]
              clear hd hp 
              obtain ⟨r0, r1, r2⟩ := (show Blk W bp 34 #[.string p1.name, .slice y1.a1 p1.ss.length y1.c1, .slice y1.a2 p1.ms.length y1.c2] from (AS1.out.fresh HS.out.1 HBN.out HNE.out HOF.out).kp).all
              go_wp2_with fail
              exact ⟨_, by rw [HFX.out]; simp [upd], rfl, HS.out, StR.same⟩
            · intro u W hS hd hp
              have HS := Lib.hid hS
              clear hS
              rw [HFX.out]
              clear hd hp 
              go_wp2_with fail
              exact ⟨_, by rw [HFX.out]; simp [upd], rfl, HS.out, StR.same⟩
            · intro u W hS hd hp
              have HS := Lib.hid hS
              clear hS
              rw [HFX.out]
              clear hd hp 
              go_wp2_with fail
              exact ⟨_, by rw [HFX.out]; simp [upd], rfl, HS.out, StR.same⟩
            · intro u W hS hd hp
              have HS := Lib.hid hS
              clear hS
              obtain ⟨d2, d3, -⟩ := hd
              have e2 : u 2 = .slice (some ⟨g5, o5, none⟩) n lc := d2 rfl
              have e3 : u 3 = .int .i64 (k : Int) := d3 rfl
              rw [HFX.out]
              simp only [e2, e3]
              clear hp d2 d3
              have ib0 := ib0
              have ib1 := ib1
              go_wp2_with fail
              exact ⟨_, by rw [HFX.out]; simp [upd, e2, e3], rfl, HS.out, StR.same⟩
            · intro u W hS hd hp
              have HS := Lib.hid hS
              clear hS
              obtain ⟨d4, -⟩ := hd
              have e4 : u 4 = .pointer (some ⟨g5, o5 + k * 5, none⟩) := d4 rfl
              rw [HFX.out]
              simp only [e4]
              clear hp d4
              go_wp2_with fail
              exact ⟨_, by rw [HFX.out]; simp [upd, e4], rfl, HS.out, StR.same⟩
            · intro u W hS hd hp
              have HS := Lib.hid hS
              clear hS
              obtain ⟨d5, -⟩ := hd
              have e5 : u 5 = .pointer (some ⟨g5, o5 + k * 5, none⟩) := d5 rfl
              rw [HFX.out]
              simp only [e5]
              clear hp d5
              have q0 := HS.out.cell HN5.out S0.out
              go_wp2_with fail
              exact ⟨_, by rw [HFX.out]; simp [upd, e5], rfl, HS.out, StR.same⟩
            · intro u W hS hd hp
              have HS := Lib.hid hS
              clear hS
              obtain ⟨d6, -⟩ := hd
              have e6 : u 6 = .int .u8 sg := d6 rfl
              rw [HFX.out]
              simp only [e6]
              clear hp d6
              have q1 := HSG.out
              go_wp2_with fail
              exact ⟨_, by rw [HFX.out]; simp [upd, e6], rfl, HS.out, StR.same⟩
            · intro u W hS hd hp
              have HS := Lib.hid hS
              clear hS
              rw [HFX.out]
              clear hd hp 
              go_wp2_with fail
              exact ⟨_, by rw [HFX.out]; simp [upd], rfl, HS.out, StR.same⟩
            · intro u W hS hd hp
              have HS := Lib.hid hS
              clear hS
              obtain ⟨d8, -⟩ := hd
              have e8 : u 8 = .pointer (some ⟨bp, 1, none⟩) := d8 rfl
              rw [HFX.out]
              simp only [e8]
              clear hp d8
              obtain ⟨r0, r1, r2⟩ := (show Blk W bp 34 #[.string p1.name, .slice y1.a1 p1.ss.length y1.c1, .slice y1.a2 p1.ms.length y1.c2] from (AS1.out.fresh HS.out.1 HBN.out HNE.out HOF.out).kp).all
              go_wp2_with fail
              exact ⟨_, by rw [HFX.out]; simp [upd, e8], rfl, HS.out, StR.same⟩
            · intro u W hS hd hp
              have HS := Lib.hid hS
              clear hS
              obtain ⟨d9, -⟩ := hd
              have e9 : u 9 = .slice y1.a1 p1.ss.length y1.c1 := d9 rfl
              rw [HFX.out]
              simp only [e9]
              clear hp d9
              go_wp2_with fail
              exact ⟨_, by rw [HFX.out]; simp [upd, e9], rfl, HS.out, StR.same⟩
            · intro u W hS hd hp
              have HS := Lib.hid hS
              clear hS
              obtain ⟨d10, -⟩ := hd
              have e10 : u 10 = .int .i64 (p1.ss.length : Int) := d10 rfl
              rw [HFX.out]
              simp only [e10]
              clear hp d10
              have q1 := hpl2
              go_wp2_with fail
              exact ⟨_, by rw [HFX.out]; simp [upd, e10], rfl, HS.out, StR.same⟩
            · intro u W hS hd hp
              have HS := Lib.hid hS
              clear hS
              obtain ⟨d7, d11, -⟩ := hd
              have e7 : u 7 = .int .i64 sg := d7 rfl
              have e11 : u 11 = .int .i64 ((p1.ss.length : Int) + 1) := d11 rfl
              rw [HFX.out]
              simp only [e7, e11]
              clear hp d7 d11
              have q1 := HRM.out
              have q2 : sg.tmod ((p1.ss.length : Int) + 1) = rm := (Int.tmod_eq_emod_of_nonneg (by omega)).trans HRM.out
              go_wp2_with fail
              exact ⟨_, by rw [HFX.out]; simp [upd, e7, e11], rfl, HS.out, StR.same⟩
            · intro u W hS hd hp
              have HS := Lib.hid hS
              clear hS
              rw [HFX.out]
              clear hd hp 
              go_wp2_with fail
              exact ⟨_, by rw [HFX.out]; simp [upd], rfl, HS.out, StR.same⟩
            · intro u W hS hd hp
              have HS := Lib.hid hS
              clear hS
              obtain ⟨d0, d1, d12, d13, -⟩ := hd
              have e0 : u 0 = .agg #[.string m1.id, .int .i64 m1.o, .slice x1.a1 m1.cs.length x1.c1, .string m1.pr, .int .i64 m1.st, .slice x1.a2 m1.mv.length x1.c2, .slice x1.a3 m1.rs.length x1.c3, .slice x1.a4 m1.ls.length x1.c4] := d0 rfl
              have e1 : u 1 = .agg #[.string p1.name, .slice y1.a1 p1.ss.length y1.c1, .slice y1.a2 p1.ms.length y1.c2] := d1 rfl
              have e12 : u 12 = .int .i64 rm := d12 rfl
              have e13 : u 13 = .int .i64 dn := d13 rfl
              rw [HFX.out]
              simp only [e0, e1, e12, e13]
              clear hp d0 d1 d12 d13
              have HC := Lib.hid (HCL.out W HS.out)
              go_wp2_with fail
              refine HC.out.mono ?_
              rintro e W2 ⟨x9, he, hm9, hk9, b2⟩
              obtain rfl : e = .returned (.tuple #[.agg (mtC M x9), .int .i64 E]) := he
              go_wp2_with fail
              exact ⟨_, by rw [HFX.out]; simp [upd, e0, e1, e12, e13], ⟨x9, rfl, hm9, hk9⟩, HS.out.go b2, StR.of_below b2⟩
            · intro u W hS hd hp
              have HS := Lib.hid hS
              clear hS
              obtain ⟨d14, -⟩ := hd
              obtain ⟨x14, e14, m14, k14⟩ : (tupX M E KK).p (u 14) (u 14) W := d14 rfl
              rw [HFX.out]
              simp only [e14]
              clear hp d14
              go_wp2_with fail
              exact ⟨_, by rw [HFX.out]; simp [upd, e14], ⟨x14, rfl, m14, k14⟩, HS.out, StR.same⟩
            · intro u W hS hd hp
              have HS := Lib.hid hS
              clear hS
              obtain ⟨d15, -⟩ := hd
              obtain ⟨x15, e15, m15, k15⟩ : (tupX M E KK).p (u 15) (u 15) W := d15 rfl
              rw [HFX.out]
              simp only [e15]
              clear hp d15
              go_wp2_with fail
              exact ⟨_, by rw [HFX.out]; simp [upd, e15], ⟨x15, rfl, m15, k15⟩, HS.out, StR.same⟩
            · intro u W hS hd hp
              have HS := Lib.hid hS
              clear hS
              obtain ⟨d15, -⟩ := hd
              obtain ⟨x15, e15, m15, k15⟩ : (tupX M E KK).p (u 15) (u 15) W := d15 rfl
              rw [HFX.out]
              simp only [e15]
              clear hp d15
              go_wp2_with fail
              exact ⟨_, by rw [HFX.out]; simp [upd, e15], rfl, HS.out, StR.same⟩
            · intro u W hS hd hp
              have HS := Lib.hid hS
              clear hS
              obtain ⟨d16, -⟩ := hd
              obtain ⟨x16, e16, m16, k16⟩ : (aggX M KK).p (u 16) (u 16) W := d16 rfl
              rw [HFX.out]
              simp only [e16]
              clear hp d16
              obtain ⟨cs0, km0, ks0⟩ := HS.out.2
              have HST := Lib.hid (StS.store HKB.out HS.out km0 m16 k16)
              go_wp2_with (refine wp_row rfl (.tmp 19) (.tmp 173) rfl bn (mtC M x16) rfl rfl rfl one8 ks0 km0 ?_)
              exact ⟨undef, by rw [HFX.out]; simp [upd, e16] <;> rfl, HST.out.1, HST.out.2.1, HST.out.2.2⟩
            · intro u W hS hd hp
              have HS := Lib.hid hS
              clear hS
              obtain ⟨d17, -⟩ := hd
              have e17 : u 17 = .int .i64 E := d17 rfl
              rw [HFX.out]
              simp only [e17]
              clear hp d17
              go_wp2_with fail
              exact ⟨_, by rw [HFX.out]; simp [upd, e17], rfl, HS.out, StR.same⟩
            intro u W hS hf
            obtain ⟨x2, kb, hm, hk⟩ : StF bn M KK W := hf 18 (by decide)
            have e19 : u 19 = .int .i64 E := hf 19 (by decide)
            rw [HFX.out]
            simp only [e19]
            clear e19 hf HFX F HCL
            have AS3 := Lib.hid (AS1.out.fresh hS.1 HBN.out HNE.out HOF.out)
            have KN3 := Lib.hid kb
            have HM3 := Lib.hid hm
            have HO3 := Lib.hid (HKA.out x2 hk)
            clear kb hm hk
            clear hS
            by_cases hE : E = 0
            case neg =>
              have c0 : decide (E = 0) = false := decide_eq_false hE
              go_wp2_with fail
              go_meet
              exact ⟨E, M, x2, p1, y1, ovb, A1, c1, had, rfl, rfl, rfl, AS3, KN3, HM3, HO3, Lib.hid (fun _ => AC.out), Lib.hid (fun h => absurd h hE), HPY, HOV, Lib.hid (by have := HSZ.out; omega)⟩
            subst hE
            go_wp2_with fail
            go_meet
            exact ⟨0, M, x2, p1, y1, ovb, A1, c1, had, rfl, rfl, rfl, AS3, KN3, HM3, HO3, Lib.hid (fun h => absurd rfl h), Lib.hid (fun _ => ⟨HOK.out (by trivial), HSAME.out (by trivial)⟩), HPY, HOV, Lib.hid (by have := HSZ.out; omega)⟩
      case rest =>
      clear AS1 KN HOV HPY HSZ AC HCB
      obtain ⟨E, m2, x2, p2, y2, ovb2, A2, c2, had2, rfl, rfl, rfl, AS, KN, HM2, HOF2, HNO, HYE, HPY2, HOV2, HSZ2⟩ := hcut
      by_cases hE : E = 0
      case neg =>
        have c0 : decide (E = 0) = false := decide_eq_false hE
        have AC2 := Lib.hid (HNO.out hE)
        clear HNO HYE
        go_wp2
        go_roundg mm
        case rel => exact ⟨k + 1, m1, x1, p2, y2, ovb2, dn, A2, c2, had2, by omega, rfl, rfl, rfl, by go_num, AS, AC2, HPY2, HOV2, HSZ2⟩
        case measure => omega
      obtain ⟨ac2, e1, e2, e3⟩ := HYE.out hE
      subst hE
      have AC2 := Lib.hid ac2
      have es : (m2.id.toList == m1.id.toList) = true := by rw [e1]; simp
      have eo : (m2.o == m1.o) = true := by rw [e2]; simp
      have eo2 : decide (m2.o = m1.o) = true := decide_eq_true e2
      have eo3 : (m2.o != m1.o) = false := by rw [e2]; simp
      have heq : ∀ V, Below wc.heap.size wc V → Calls Tryz.prog 16 #[.slice x2.a1 m2.cs.length x2.c1, .slice x1.a1 m1.cs.length x1.c1] V fun e w' => e = .returned (.bool true) ∧ Below V.heap.size V w' := fun V hV => by
        have := requal_any V V.heap.size x2.a1 x1.a1 m2.cs m1.cs x2.c1 x1.c1 (((HM2.out.below hV).wide hV.size).cs) (((AS.out.ma.below hV).wide hV.size).cs) (Nat.le_refl _) (by have := (vld_sml' AC2.out.v).1; omega)
        rwa [decide_eq_true e3] at this
      have hvl : ∀ V, Below wc.heap.size wc V → Calls Tryz.prog 10 #[.agg #[.string m2.id, .int .i64 m2.o, .slice x2.a1 m2.cs.length x2.c1, .string m2.pr, .int .i64 m2.st, .slice x2.a2 m2.mv.length x2.c2, .slice x2.a3 m2.rs.length x2.c3, .slice x2.a4 m2.ls.length x2.c4], .agg #[.string p2.name, .slice y2.a1 p2.ss.length y2.c1, .slice y2.a2 p2.ms.length y2.c2], .agg #[.slice dA d.length dc]] V fun e w' => e = .returned (.bool true) ∧ Below V.heap.size V w' := fun V hV => by
        have hbV := AS.out.hb.trans (hV.mono AS.out.hb.size)
        have := valid_any V V.heap.size m2 x2 ((HM2.out.below hV).wide hV.size) (Nat.le_refl _) (vld_sml' AC2.out.v) p2 y2 ((HPY2.out.1.below hbV).wide hbV.size) HPY2.out.2 d dA dc (DmAt.widen ((HD.out).below hbV) hbV.size) (by have := SD.out; omega)
        rwa [AC2.out.v] at this
      have HEQ := Lib.hid heq
      have HVL := Lib.hid hvl
      clear ac2 e1 e2 e3 heq hvl HNO HYE
      obtain ⟨t00, t01, t02⟩ := (show Blk wc w.heap.size 27 #[.string m1.id, .int .i64 m1.o, .slice x1.a1 m1.cs.length x1.c1, .string m1.pr, .int .i64 m1.st, .slice x1.a2 m1.mv.length x1.c2, .slice x1.a3 m1.rs.length x1.c3, .slice x1.a4 m1.ls.length x1.c4] from AS.out.km).all
      obtain ⟨u00, u01, u02⟩ := KN.out.all
      go_wp2_with fail
      refine (HEQ.out wc (Below.refl _ _)).mono ?_
      rintro e V1 ⟨rfl, b1⟩
      have HB1 := Lib.hid b1
      clear t00 t01 t02 u00 u01 u02
      obtain ⟨t00, t01, t02⟩ := (AS.out.below b1).kp.all
      obtain ⟨u00, u01, u02⟩ := (KN.out.below b1 KN.out.lt).all
      obtain ⟨v00, v01, v02⟩ := (AS.out.below b1).kd.all
      clear b1
      go_wp2_with fail
      refine (HVL.out V1 HB1.out).mono ?_
      rintro e V2 ⟨rfl, b2⟩
      have b3 := HB1.out.trans (b2.mono HB1.out.size)
      have AS4 := Lib.hid (AS.out.below b3)
      have KN4 := Lib.hid (KN.out.below b3 KN.out.lt)
      have HM4 := Lib.hid ((HM2.out.below b3).wide b3.size)
      clear t00 t01 t02 u00 u01 u02 v00 v01 v02 b2 b3 HB1 AS KN HM2 es eo eo2 eo3
      obtain ⟨u00, u01, u02⟩ := KN4.out.all
      go_wp2_with (refine wp_row rfl (.tmp 6) (.tmp 204) rfl w.heap.size #[.string m2.id, .int .i64 m2.o, .slice x2.a1 m2.cs.length x2.c1, .string m2.pr, .int .i64 m2.st, .slice x2.a2 m2.mv.length x2.c2, .slice x2.a3 m2.rs.length x2.c3, .slice x2.a4 m2.ls.length x2.c4] rfl rfl rfl one8 rfl AS4.out.km ?_)
      have o7 : Only (fun i => i = w.heap.size) V2 (V2.setRow w.heap.size #[.string m2.id, .int .i64 m2.o, .slice x2.a1 m2.cs.length x2.c1, .string m2.pr, .int .i64 m2.st, .slice x2.a2 m2.mv.length x2.c2, .slice x2.a3 m2.rs.length x2.c3, .slice x2.a4 m2.ls.length x2.c4]) := only_row
      have AS5 := Lib.hid (AS4.out.matter (m' := m2) (x' := x2) o7 (blk_row (cells := #[.string m2.id, .int .i64 m2.o, .slice x2.a1 m2.cs.length x2.c1, .string m2.pr, .int .i64 m2.st, .slice x2.a2 m2.mv.length x2.c2, .slice x2.a3 m2.rs.length x2.c3, .slice x2.a4 m2.ls.length x2.c4]) AS4.out.km) HM4.out HOF2.out.1 HOF2.out.2.1 HOF2.out.2.2)
      go_roundg mm
      case rel => exact ⟨k + 1, m2, x2, p2, y2, ovb2, dn, A2, c2, had2, by omega, rfl, rfl, rfl, by go_num, AS5, AC2, HPY2, HOV2, HSZ2⟩
      case measure => omega
    · obtain rfl : gk = 0 := by omega
      obtain rfl : n = k := by omega
      have nb : ¬ (n : Int) < (n : Int) := by omega
      have hmv : upB m1.o m1.mv = true := (fmB_iff.1 (vldB_iff.1 AC.out.v).1).2.2.2.2.2.2.1
      have HMV := Lib.hid hmv
      have h80 : had.length ≤ 100 := by have := HSZ.out; omega
      have hmb : m1.mv.length ≤ 1000000 := (vld_sml' AC.out.v).2.1
      clear hmv HPY HOV HSZ
      go_wp2_with fail
      go_loopg [22] had.length (fun n2 i wr => ∃ t : Nat, t + n2 = had.length ∧ i = .int .i64 (t : Int) ∧ Hid (AcS w wr #[.string g.fr, .string g.tn, .slice z.a1 g.st.length z.c1, .slice z.a2 g.rs.length z.c2, .slice z.a3 g.ts.length z.c3] #[.string p.name, .slice y.a1 p.ss.length y.c1, .slice y.a2 p.ms.length y.c2] #[.string q.name, .slice v.a1 q.ss.length v.c1, .slice v.a2 q.ms.length v.c2] #[.slice dA d.length dc] m1 x1 bp #[.string p1.name, .slice y1.a1 p1.ss.length y1.c1, .slice y1.a2 p1.ms.length y1.c2] (.slice A1 had.length c1) had.length had))
      case atStart => exact ⟨0, Nat.zero_add _, rfl, AS⟩
      case round =>
        clear AS t0 t1 t2
        obtain ⟨t, ht, rfl, AS⟩ := hrel
        by_cases hlt2 : t < had.length
        · obtain ⟨m2, rfl⟩ : ∃ m, gk = m + 1 := ⟨gk - 1, by omega⟩
          obtain ⟨⟨rn, rs'⟩, hr⟩ : ∃ r, had[t]? = some r := ⟨_, List.getElem?_eq_getElem hlt2⟩
          obtain ⟨gA, hA2, hgA, hgl⟩ := row_some AS.out.oh (by omega)
          subst hA2
          have q0 := AS.out.oh.cellAt (t * 2) (by omega)
          rw [(rtCells_at _ t _ hr).1] at q0
          have q1 := AS.out.oh.cellAt (t * 2 + 1) (by omega)
          rw [(rtCells_at _ t _ hr).2] at q1
          have Q0 : Hid (wr.cell? ⟨gA, t * 2, none⟩ = some (.string rn)) := Lib.hid q0
          have Q1 : Hid (wr.cell? ⟨gA, t * 2 + 1, none⟩ = some (.int .i64 rs')) := Lib.hid q1
          have hh := AC.out.h (rn, rs') (List.mem_of_getElem? hr)
          have hhas : ∀ V, PSv wr V → Calls Tryz.prog 17 #[.agg #[.string m1.id, .int .i64 m1.o, .slice x1.a1 m1.cs.length x1.c1, .string m1.pr, .int .i64 m1.st, .slice x1.a2 m1.mv.length x1.c2, .slice x1.a3 m1.rs.length x1.c3, .slice x1.a4 m1.ls.length x1.c4], .string rn, .int .i64 rs'] V fun e w' => e = .returned (.bool true) ∧ Below V.heap.size V w' := fun V hV => by
            have h9 := has_any V V.heap.size m1 x1 (AS.out.below hV).ma.rs (Nat.le_refl _) (by have := (vld_sml' AC.out.v).2.2.1; omega) rn rs'
            rwa [hh] at h9
          have HHAS := Lib.hid hhas
          have jb0 : (0 : Int) ≤ (t : Int) := by omega
          have jb1 : (t : Int) < (had.length : Int) := by omega
          clear q0 q1 hr hh hhas
          go_upto_region 35 with fail
          refine wp_region_hold (fun V => PSv wr V) [0, 1, 2, 3, 4, 5, 6, 7, 8, 9, 10] [11] [12] (by kernel_rfl) (by kernel_rfl) (fun _ d _ _ _ h => by cases d <;> exact h) (below_drewM wr) ?_
          simp only [pick, List.drop_succ_cons, List.drop_zero, List.head?_cons, Option.toList_some, List.cons_append, List.nil_append, List.append_nil]
          repeat (refine wpHeld_step ?_ rfl ?_ ?_; rotate_left; · (intro V hV; obtain ⟨u0, u1, u2⟩ := (show Blk V w.heap.size 27 #[.string m1.id, .int .i64 m1.o, .slice x1.a1 m1.cs.length x1.c1, .string m1.pr, .int .i64 m1.st, .slice x1.a2 m1.mv.length x1.c2, .slice x1.a3 m1.rs.length x1.c3, .slice x1.a4 m1.ls.length x1.c4] from (AS.out.below hV).km).all; have p0 := (Below.cell hV (p := ⟨gA, t * 2, none⟩) hgl).trans Q0.out; have p1 := (Below.cell hV (p := ⟨gA, t * 2 + 1, none⟩) hgl).trans Q1.out; go_simp; with_reducible rfl))
          refine wpHeld_nil ?_
          simp only [wpEarly]
          have HC := Lib.hid (HHAS.out _ (below_drewM wr))
          go_wp2_with fail
          refine HC.out.mono ?_
          rintro e W5 ⟨rfl, bb⟩
          have HS2 := Lib.hid (PSv.go (below_drewM wr) bb)
          clear bb HC HHAS
          go_wp2_with fail
          refine ⟨HS2.out, ?_⟩
          have AS5 := Lib.hid (AS.out.below HS2.out)
          clear HS2 AS
          go_wp2
          go_roundg m2
          case rel => exact ⟨t + 1, by omega, by go_num, AS5⟩
          case measure => omega
        · obtain rfl : gk = 0 := by omega
          obtain rfl : t = had.length := by omega
          have nb2 : ¬ (had.length : Int) < (had.length : Int) := by omega
          obtain ⟨XA, hXA⟩ : ∃ A, x1.a2 = A := ⟨_, rfl⟩
          obtain ⟨N, hNN⟩ : ∃ N, m1.mv.length = N := ⟨_, rfl⟩
          have KM : Hid (Below w.heap.size w wr ∧ Blk wr w.heap.size 27 #[.string m1.id, .int .i64 m1.o, .slice x1.a1 m1.cs.length x1.c1, .string m1.pr, .int .i64 m1.st, .slice XA N x1.c2, .slice x1.a3 m1.rs.length x1.c3, .slice x1.a4 m1.ls.length x1.c4] ∧ IntsAt wr wr.heap.size XA m1.mv) := Lib.hid ⟨AS.out.hb, by rw [← hXA, ← hNN]; exact AS.out.km, by rw [← hXA]; exact AS.out.ma.mv⟩
          have HNN := Lib.hid hNN
          rw [hNN] at hmb
          clear hXA hNN AS
          obtain ⟨t0, t1, t2⟩ := KM.out.2.1.all
          go_wp2_with fail
          go_loopg [23] N (fun n3 i wr => ∃ t : Nat, 1 ≤ t ∧ t + n3 = N + 1 ∧ i = .int .i64 (t : Int) ∧ Hid (Below w.heap.size w wr ∧ Blk wr w.heap.size 27 #[.string m1.id, .int .i64 m1.o, .slice x1.a1 m1.cs.length x1.c1, .string m1.pr, .int .i64 m1.st, .slice XA N x1.c2, .slice x1.a3 m1.rs.length x1.c3, .slice x1.a4 m1.ls.length x1.c4] ∧ IntsAt wr wr.heap.size XA m1.mv))
          case atStart => exact ⟨1, Nat.le_refl _, Nat.add_comm _ _, rfl, KM⟩
          case round =>
            clear KM t0 t1 t2
            obtain ⟨t, ht1, hs, rfl, KM⟩ := hrel
            obtain ⟨t0, t1, t2⟩ := KM.out.2.1.all
            by_cases hlt3 : t < N
            · obtain ⟨m3, rfl⟩ : ∃ m, gk = m + 1 := ⟨gk - 1, by omega⟩
              obtain ⟨s, hst⟩ : ∃ s, t = s + 1 := ⟨t - 1, by omega⟩
              obtain ⟨u, hu⟩ : ∃ u, m1.mv[t]? = some u := ⟨_, List.getElem?_eq_getElem (by rw [HNN.out]; exact hlt3)⟩
              obtain ⟨v', hv⟩ : ∃ u, m1.mv[s]? = some u := ⟨_, List.getElem?_eq_getElem (by rw [HNN.out]; omega)⟩
              have hle : v' ≤ u := upB_next HMV.out hv (by rw [← hst]; exact hu)
              obtain ⟨gm, om, hAm, hgm, pm1⟩ := KM.out.2.2 t u hu
              obtain ⟨gm2, om2, hAm2, -, pm0⟩ := KM.out.2.2 s v' hv
              rw [hAm] at hAm2
              obtain ⟨rfl, rfl⟩ : gm = gm2 ∧ om = om2 := by injection hAm2 with h9; injection h9 with h1 h2 h3; exact ⟨h1, h2⟩
              subst hAm
              have c0 : decide (u < v') = false := decide_eq_false (by omega)
              have jb0 : (0 : Int) ≤ (t : Int) := by omega
              have jb1 : (t : Int) < (N : Int) := by omega
              rw [show s = t - 1 by omega] at pm0
              clear hu hv hle hAm2 hst
              go_upto_region 40 with fail
              go_quiet (fail)
              go_wp2
              go_roundg m3
              case rel => exact ⟨t + 1, by omega, by omega, by go_num, Lib.hid ⟨below_drewN KM.out.1 nq, KM.out.2.1.below (below_drewN (Below.refl _ _) nq) KM.out.2.1.lt, KM.out.2.2.below (below_drewN (Below.refl _ _) nq)⟩⟩
              case measure => omega
            · have nb3 : ¬ (t : Int) < (N : Int) := by omega
              go_wp2
              go_ret
              exact ⟨rfl, KM.out.1⟩
end Go.Proofs.YtebdkmlganalaaaGreatDoor
