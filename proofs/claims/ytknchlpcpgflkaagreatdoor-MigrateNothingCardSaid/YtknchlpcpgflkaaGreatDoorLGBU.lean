/- Package migrate's Stuck. The reference's Named, term, Ints. -/
import Derived.Test.YtknchlpcpgflkaaGreatDoorLGBQ
import Derived.Test.YtknchlpcpgflkaaGreatDoorLGAX
import Derived.Test.YtknchlpcpgflkaaGreatDoorLGBT
import Derived.Test.YtknchlpcpgflkaaGreatDoorLGBG
namespace Go.Proofs.YtknchlpcpgflkaaGreatDoor
open Go.RowKit Go.Shelf

/-- The moves of a proper procedure lie within its stages. -/
theorem pc_in {r : Pc} (h : pcB r = true) : MvIn r.ss.length r.ms := fun m hm => by
  obtain ⟨h1, h2, h3, h4, -⟩ := mvB_iff.1 ((difB_iff.1 (pcB_iff.1 h).2.2.2).1 m hm)
  exact ⟨⟨h1, h2⟩, h3, h4⟩
/-- A map whose keys are the stages that reach an end. -/
def mapEV (base : Nat) (p : Pc) : Phi := ⟨none, fun _ v w => ∃ b V, v = .map (some b) ∧ base ≤ b ∧ MapV w b (kInts V) ∧ ∀ x, x ∈ V ↔ endB p x = true⟩
theorem mapEV_mono (base : Nat) (p : Pc) : ∀ x v w w', RB w w' → (mapEV base p).p x v w → (mapEV base p).p x v w' := fun _ _ _ _ hr ⟨b, V, h1, h2, h3, h4⟩ => ⟨b, V, h1, h2, h3.below hr h3.lt, h4⟩
def psS (w : World) (p q : Pc) (pn : ByteArray) (b1 : Option Addr) (n1 e1 : Nat) (b2 : Option Addr) (n2 e2 : Nat) (qn : ByteArray) (d1 : Option Addr) (m1 f1 : Nat) (d2 : Option Addr) (m2 f2 : Nat) : List Phi := [
  isV (.agg #[.string pn, .slice b1 n1 e1, .slice b2 n2 e2]),
  mapEV (w.heap.size) p,
  isV (.agg #[.string qn, .slice d1 m1 f1, .slice d2 m2 f2]),
  mapEV (w.heap.size) q,
  mapEV (w.heap.size) p,
  mapEV (w.heap.size) q]

set_option maxRecDepth 100000 in
set_option maxHeartbeats 8000000 in
theorem gstuck_any (w : World) (ht : Tbs w) (B : Nat) (g : Mg) (x : MgX) (h : MgAt w B g x) (hB : B ≤ w.heap.size) (hs : SmlG g) (p : Pc) (y : PcX) (hp : PcAt w B p y) (hsp : SmlP p) (q : Pc) (z : PcX) (hq : PcAt w B q z) (hsq : SmlP q) :
    Calls Tryz.prog 17 #[.agg (mgC g x), .agg (pcC p y), .agg (pcC q z)] w fun e w' => ∃ A c, e = .returned (.slice A (stuckL g p q).length c) ∧ IntsAt w' w'.heap.size A (stuckL g p q) ∧ Below w.heap.size w w' := by
  have hva := fun W (hW : Below w.heap.size w W) => gvalid_any W (ht.below hW) B g x (h.below (hW.mono hB)) (Nat.le_trans hB hW.size) hs p y (hp.below (hW.mono hB)) hsp q z (hq.below (hW.mono hB)) hsq
  have hin : vdB g p q = true → MvIn p.ss.length p.ms ∧ MvIn q.ss.length q.ms := fun hv => by
    obtain ⟨-, h1, h2, -⟩ := vdB_iff.1 hv
    exact ⟨pc_in h1, pc_in h2⟩
  have he1 := fun (hv : vdB g p q = true) W (hW : Below w.heap.size w W) => gends_any W B p y (hp.below (hW.mono hB)) (Nat.le_trans hB hW.size) (hin hv).1 hsp.2 hsp.1
  have he2 := fun (hv : vdB g p q = true) W (hW : Below w.heap.size w W) => gends_any W B q z (hq.below (hW.mono hB)) (Nat.le_trans hB hW.size) (hin hv).2 hsq.2 hsq.1
  obtain ⟨v, hv⟩ : ∃ v, vdB g p q = v := ⟨_, rfl⟩
  have hst := h.st
  obtain ⟨L0, hL0⟩ : ∃ L0, stuckL g p q = L0 := ⟨_, rfl⟩
  rw [hL0]
  unfold stuckL at hL0
  rw [hv] at hva he1 he2 hL0
  have HL0 := Lib.hid hL0
  have HVA := Lib.hid hva
  have HE10 := Lib.hid he1
  have HE20 := Lib.hid he2
  have HST := Lib.hid hst
  have HH := Lib.hid h
  clear hva hin he1 he2 hst h hp hq ht hv hL0
  show Calls Tryz.prog 17 #[.agg #[.string g.fr, .string g.tn, .slice x.a1 g.st.length x.c1, .slice x.a2 g.rs.length x.c2, .slice x.a3 g.ts.length x.c3], .agg #[.string p.name, .slice y.a1 p.ss.length y.c1, .slice y.a2 p.ms.length y.c2], .agg #[.string q.name, .slice z.a1 q.ss.length z.c1, .slice z.a2 q.ms.length z.c2]] w _
  have hb := ((below_self_alloc w (.cells #[.string g.fr, .string g.tn, .slice x.a1 g.st.length x.c1, .slice x.a2 g.rs.length x.c2, .slice x.a3 g.ts.length x.c3] 30)).alloc (by simp) (.cells #[.string p.name, .slice y.a1 p.ss.length y.c1, .slice y.a2 p.ms.length y.c2] 34)).alloc (by simp; omega) (.cells #[.string q.name, .slice z.a1 q.ss.length z.c1, .slice z.a2 q.ms.length z.c2] 34)
  have k0 := ((Blk.new w 30 #[.string g.fr, .string g.tn, .slice x.a1 g.st.length x.c1, .slice x.a2 g.rs.length x.c2, .slice x.a3 g.ts.length x.c3]).alloc (.cells #[.string p.name, .slice y.a1 p.ss.length y.c1, .slice y.a2 p.ms.length y.c2] 34)).alloc (.cells #[.string q.name, .slice z.a1 q.ss.length z.c1, .slice z.a2 q.ms.length z.c2] 34)
  have k1 := (Blk.new1 w (.cells #[.string g.fr, .string g.tn, .slice x.a1 g.st.length x.c1, .slice x.a2 g.rs.length x.c2, .slice x.a3 g.ts.length x.c3] 30) 34 #[.string p.name, .slice y.a1 p.ss.length y.c1, .slice y.a2 p.ms.length y.c2]).alloc (.cells #[.string q.name, .slice z.a1 q.ss.length z.c1, .slice z.a2 q.ms.length z.c2] 34)
  have k2 := Blk.new2 w (.cells #[.string g.fr, .string g.tn, .slice x.a1 g.st.length x.c1, .slice x.a2 g.rs.length x.c2, .slice x.a3 g.ts.length x.c3] 30) (.cells #[.string p.name, .slice y.a1 p.ss.length y.c1, .slice y.a2 p.ms.length y.c2] 34) 34 #[.string q.name, .slice z.a1 q.ss.length z.c1, .slice z.a2 q.ms.length z.c2]
  have HB := Lib.hid hb
  have K0 := Lib.hid k0
  have K1 := Lib.hid k1
  have K2 := Lib.hid k2
  clear hb k0 k1 k2
  obtain ⟨t0, t1, t2⟩ := K0.out.all
  obtain ⟨u0, u1, u2⟩ := K1.out.all
  obtain ⟨v0, v1, v2⟩ := K2.out.all
  go_enter Tryz.func17, Tryz.ntmps17
  go_wp2_with fail
  generalize ((w.alloc (.cells #[.string g.fr, .string g.tn, .slice x.a1 g.st.length x.c1, .slice x.a2 g.rs.length x.c2, .slice x.a3 g.ts.length x.c3] 30)).alloc (.cells #[.string p.name, .slice y.a1 p.ss.length y.c1, .slice y.a2 p.ms.length y.c2] 34)).alloc (.cells #[.string q.name, .slice z.a1 q.ss.length z.c1, .slice z.a2 q.ms.length z.c2] 34) = W0 at *
  have HC : Hid (Calls Tryz.prog 18 #[.agg #[.string g.fr, .string g.tn, .slice x.a1 g.st.length x.c1, .slice x.a2 g.rs.length x.c2, .slice x.a3 g.ts.length x.c3], .agg #[.string p.name, .slice y.a1 p.ss.length y.c1, .slice y.a2 p.ms.length y.c2], .agg #[.string q.name, .slice z.a1 q.ss.length z.c1, .slice z.a2 q.ms.length z.c2]] W0 _) := Lib.hid (HVA.out W0 HB.out)
  refine HC.out.mono ?_
  rintro e W1 ⟨rfl, bz⟩
  have HB2 := Lib.hid (HB.out.trans (bz.mono HB.out.size))
  have KX0 := Lib.hid (K0.out.below bz K0.out.lt)
  have KX1 := Lib.hid (K1.out.below bz K1.out.lt)
  have KX2 := Lib.hid (K2.out.below bz K2.out.lt)
  clear bz t0 t1 t2 u0 u1 u2 v0 v1 v2 HB K0 K1 K2 HC HVA
  cases v with
  | false =>
    go_wp2
    go_ret
    have hl : L0 = [] := HL0.out.symm
    subst hl
    exact ⟨none, 0, rfl, fun i x hi => by simp at hi, HB2.out⟩
  | true =>
    have hbv : ∀ V, PSv W1 V → Below w.heap.size w V := fun V hV => HB2.out.trans (Below.mono hV HB2.out.size)
    have hrd : ∀ V, PSv W1 V → (∀ i, V.cell? ⟨w.heap.size + 1, i, none⟩ = (#[.string p.name, .slice y.a1 p.ss.length y.c1, .slice y.a2 p.ms.length y.c2] : Array Value)[i]?) ∧ (∀ i, V.cell? ⟨w.heap.size + 1 + 1, i, none⟩ = (#[.string q.name, .slice z.a1 q.ss.length z.c1, .slice z.a2 q.ms.length z.c2] : Array Value)[i]?) := fun V hV => ⟨(KX1.out.below hV KX1.out.lt).cell, (KX2.out.below hV KX2.out.lt).cell⟩
    have he1 : ∀ V, PSv W1 V → Calls Tryz.prog 46 #[.agg #[.string p.name, .slice y.a1 p.ss.length y.c1, .slice y.a2 p.ms.length y.c2]] V _ := fun V hV => HE10.out (by trivial) V (hbv V hV)
    have he2 : ∀ V, PSv W1 V → Calls Tryz.prog 46 #[.agg #[.string q.name, .slice z.a1 q.ss.length z.c1, .slice z.a2 q.ms.length z.c2]] V _ := fun V hV => HE20.out (by trivial) V (hbv V hV)
    have HBV := Lib.hid hbv
    have HRD := Lib.hid hrd
    have HE1 := Lib.hid he1
    have HE2 := Lib.hid he2
    clear hbv hrd he1 he2 HE10 HE20
    go_wp2_with fail
    refine wp_region_rg2 (PSv W1) RB (psS w p q p.name y.a1 p.ss.length y.c1 y.a2 p.ms.length y.c2 q.name z.a1 q.ss.length z.c1 z.a2 q.ms.length z.c2) [0, 1, 2, 3, 4, 5] (by kernel_rfl) (by kernel_rfl) (by kernel_rfl) (below_drewM W1) ⟨isV_mono _, mapEV_mono _ _, isV_mono _, mapEV_mono _ _, mapEV_mono _ _, mapEV_mono _ _, trivial⟩ ?_
    intro F hF
    simp only [putAll, List.map_cons, List.map_nil, Act.put, List.setIfInBounds_toArray, List.set_cons_succ, List.set_cons_zero] at hF
    have HFX := Lib.hid hF
    clear hF
    refine ⟨fun Q' => ⟨?_, ?_, ?_, ?_, ?_, ?_, trivial⟩, ?_⟩
    · intro u W hS hd hp
      have HS := Lib.hid hS
      clear hS
      rw [HFX.out]
      clear hd hp 
      obtain ⟨r1, r2⟩ := HRD.out W HS.out
      go_wp2_with fail
      exact ⟨_, by rw [HFX.out]; simp [upd], rfl, HS.out, Below.refl _ _⟩
    · intro u W hS hd hp
      have HS := Lib.hid hS
      clear hS
      obtain ⟨d0, -⟩ := hd
      have e0 : u 0 = .agg #[.string p.name, .slice y.a1 p.ss.length y.c1, .slice y.a2 p.ms.length y.c2] := d0 rfl
      rw [HFX.out]
      simp only [e0]
      clear hp d0
      go_wp2_with fail
      refine (HE1.out W HS.out).mono ?_
      rintro e W2 ⟨b, V, rfl, hb, hm, hx, b2⟩
      go_wp2_with fail
      exact ⟨_, by rw [HFX.out]; simp [upd, e0], ⟨b, V, rfl, by have := (HBV.out W HS.out).size; omega, hm, hx⟩, PSv.go HS.out b2, b2⟩
    · intro u W hS hd hp
      have HS := Lib.hid hS
      clear hS
      rw [HFX.out]
      clear hd hp 
      obtain ⟨r1, r2⟩ := HRD.out W HS.out
      go_wp2_with fail
      exact ⟨_, by rw [HFX.out]; simp [upd], rfl, HS.out, Below.refl _ _⟩
    · intro u W hS hd hp
      have HS := Lib.hid hS
      clear hS
      obtain ⟨d2, -⟩ := hd
      have e2 : u 2 = .agg #[.string q.name, .slice z.a1 q.ss.length z.c1, .slice z.a2 q.ms.length z.c2] := d2 rfl
      rw [HFX.out]
      simp only [e2]
      clear hp d2
      go_wp2_with fail
      refine (HE2.out W HS.out).mono ?_
      rintro e W2 ⟨b, V, rfl, hb, hm, hx, b2⟩
      go_wp2_with fail
      exact ⟨_, by rw [HFX.out]; simp [upd, e2], ⟨b, V, rfl, by have := (HBV.out W HS.out).size; omega, hm, hx⟩, PSv.go HS.out b2, b2⟩
    · intro u W hS hd hp
      have HS := Lib.hid hS
      clear hS
      obtain ⟨d1, -⟩ := hd
      obtain ⟨z1, V1, e1, gb1, gm1, gx1⟩ : (mapEV w.heap.size p).p (u 1) (u 1) W := d1 rfl
      rw [HFX.out]
      simp only [e1]
      clear hp d1
      go_wp2_with fail
      exact ⟨_, by rw [HFX.out]; simp [upd, e1], ⟨z1, V1, rfl, gb1, gm1, gx1⟩, HS.out, Below.refl _ _⟩
    · intro u W hS hd hp
      have HS := Lib.hid hS
      clear hS
      obtain ⟨d3, -⟩ := hd
      obtain ⟨z3, V3, e3, gb3, gm3, gx3⟩ : (mapEV w.heap.size q).p (u 3) (u 3) W := d3 rfl
      rw [HFX.out]
      simp only [e3]
      clear hp d3
      go_wp2_with fail
      exact ⟨_, by rw [HFX.out]; simp [upd, e3], ⟨z3, V3, rfl, gb3, gm3, gx3⟩, HS.out, Below.refl _ _⟩
    intro u W hS hf
    obtain ⟨z4, V4, e4, gb4, gm4, gx4⟩ : (mapEV w.heap.size p).p (u 4) (u 4) W := hf 4 (by decide)
    obtain ⟨z5, V5, e5, gb5, gm5, gx5⟩ : (mapEV w.heap.size q).p (u 5) (u 5) W := hf 5 (by decide)
    rw [HFX.out]
    simp only [e4, e5]
    obtain ⟨i0, hi0, hz0, hz1, hz2⟩ := info_parts Tryz.infoInt
    have hbw := HBV.out W hS
    have kx := KX0.out.below hS KX0.out.lt
    have hstw := HST.out.below (hbw.mono hB)
    have hl0 : L0 = stuckTo g p q g.st.length := HL0.out.symm
    subst hl0
    have hx4 : ∀ x, decide (x ∈ V4) = endB p x := fun x => by rw [Bool.eq_iff_iff, decide_eq_true_eq]; exact gx4 x
    have hx5 : ∀ x, decide (x ∈ V5) = endB q x := fun x => by rw [Bool.eq_iff_iff, decide_eq_true_eq]; exact gx5 x
    have m4 := fun V (hV : Below W.heap.size W V) (x : Int) => (hx4 x) ▸ kInts_look (gm4.below hV gm4.lt) x
    have m5 := fun V (hV : Below W.heap.size W V) (x : Int) => (hx5 x) ▸ kInts_look (gm5.below hV gm5.lt) x
    have hlen := hs.1
    have hbz := Nat.le_trans hB hbw.size
    obtain ⟨X1, hX1⟩ : ∃ X, x.a1 = X := ⟨_, rfl⟩
    rw [hX1] at kx hstw ⊢
    obtain ⟨N, hN⟩ : ∃ N, g.st.length = N := ⟨_, rfl⟩
    rw [hN] at kx hlen ⊢
    have HBW := Lib.hid hbw
    have HBZ := Lib.hid hbz
    have HSTW := Lib.hid hstw
    have M4 := Lib.hid m4
    have M5 := Lib.hid m5
    have HN := Lib.hid hN
    obtain ⟨t0, t1, t2⟩ := kx.all
    clear hf HFX F hS e4 e5 HRD HBV HE1 HE2 hbw hbz hstw hx4 hx5 gx4 gx5 gm4 gm5 gb4 gb5 m4 m5 kx hX1 hN HST HL0 HH HB2 KX0 KX1 KX2 hs hsp hsq hB
    go_wp2_with fail
    go_loopg [9, 24] N (fun n v i wr => ∃ (k : Nat) (A : Option Addr) (c : Nat), k + n = N ∧ v = .slice A (stuckTo g p q k).length c ∧ i = .int .i64 (k : Int) ∧ Hid (wr.ownsRow W.heap.size 3 1 (.slice A (stuckTo g p q k).length c) (stuckTo g p q k).length (intCells (stuckTo g p q k))) ∧ Hid (Below W.heap.size W wr))
    case atStart => exact ⟨0, none, 0, Nat.zero_add _, rfl, rfl, Lib.hid (World.ownsRow_nil _ _ _ _), Lib.hid (Below.refl _ _)⟩
    case round =>
      obtain ⟨k, A, c, hk, rfl, rfl, OW, HB⟩ := hrel
      have hLk := stuckTo_len g p q k
      by_cases hlt : k < N
      · obtain ⟨m, rfl⟩ : ∃ m, gk = m + 1 := ⟨gk - 1, by omega⟩
        obtain ⟨s, hx⟩ : ∃ s, g.st[k]? = some s := ⟨_, List.getElem?_eq_getElem (by rw [HN.out]; exact hlt)⟩
        have hst := HSTW.out.below (HB.out.mono HBZ.out)
        obtain ⟨ga, oa, hA, hga, p0⟩ := hst k s hx
        subst hA
        have hnw : newSt g (k : Int) = s := by unfold newSt; rw [Int.toNat_natCast, hx]; rfl
        obtain ⟨r4, hr4⟩ : ∃ r, endB p (k : Int) = r := ⟨_, rfl⟩
        obtain ⟨r5, hr5⟩ : ∃ r, endB q s = r := ⟨_, rfl⟩
        have q4 := hr4 ▸ M4.out wr HB.out (k : Int)
        have q5 := hr5 ▸ M5.out wr HB.out s
        have hstk : stkB g p q k = (decide (0 ≤ s) && (r4 && !r5)) := by unfold stkB; rw [hnw, hr4, hr5]
        have hnx : stuckTo g p q (k + 1) = stuckTo g p q k ++ if (decide (0 ≤ s) && (r4 && !r5)) = true then [(k : Int)] else [] := by rw [← hstk]; rfl
        have ib0 : (0 : Int) ≤ (k : Int) := by omega
        have ib1 : (k : Int) < (N : Int) := by omega
        obtain ⟨L, hL⟩ : ∃ L, stuckTo g p q k = L := ⟨_, rfl⟩
        rw [hL] at hnx OW hLk ⊢
        have HNX := Lib.hid hnx
        clear hx hst hnw hr4 hr5 hstk hnx hL
        by_cases hs0 : 0 ≤ s
        · have d0 : decide (0 ≤ s) = true := decide_eq_true hs0
          cases r4 with
          | true =>
            cases r5 with
            | false =>
              have hnx : stuckTo g p q (k + 1) = L ++ [(k : Int)] := by rw [HNX.out, d0]; rfl
              have HNX := Lib.hid hnx
              have kn := Blk.new wr 3 #[.int .i64 (k : Int)]
              have own3 := OW.out.alloc (.cells #[.int .i64 (k : Int)] 3)
              have o3 := HB.out.alloc HB.out.size (.cells #[.int .i64 (k : Int)] 3)
              have hsz := o3.size
              have O3 := Lib.hid o3
              clear o3 hnx
              go_wp2_with (at_builtin; refine wpList_append_lies _ rfl _ _ 22 rfl W.heap.size 3 i0 _ 1 8 Tryz.underlying22 hi0 hz0 hz1 hz2 rfl (by omega) (.slice A L.length c) L.length _ rfl own3 ⟨wr.heap.size, 0, none⟩ 1 1 [.int .i64 (k : Int)] rfl rfl (World.news_of_block kn) (intCells_one [(k : Int)]) (by omega) (by unfold maxLen; omega) (by omega) (by omega) _ rfl ?_; intro gz cz Y own4 gr4 l4 z4)
              have o4 := O3.out.grown gr4 O3.out.size (fun i hi => (World.ownsRow.lt own3 i hi).1)
              have OW4 := Lib.hid own4
              have O4 := Lib.hid o4
              clear o4 own4 own3 gr4 l4 kn
              go_wp2
              go_roundg m
              case rel => exact ⟨k + 1, _, _, by omega, by rw [HNX.out, List.length_append]; rfl, by go_num, Lib.hid (by rw [HNX.out, List.length_append, intCells_app]; exact OW4.out), O4⟩
              case measure => omega
            | true =>
              have hnx : stuckTo g p q (k + 1) = L := by rw [HNX.out]; simp
              have HNX := Lib.hid hnx
              clear hnx
              go_wp2
              go_roundg m
              case rel => exact ⟨k + 1, A, c, by omega, by rw [HNX.out], by go_num, Lib.hid (by rw [HNX.out]; exact OW.out), HB⟩
              case measure => omega
          | false =>
            have hnx : stuckTo g p q (k + 1) = L := by rw [HNX.out]; simp
            have HNX := Lib.hid hnx
            clear hnx
            go_wp2
            go_roundg m
            case rel => exact ⟨k + 1, A, c, by omega, by rw [HNX.out], by go_num, Lib.hid (by rw [HNX.out]; exact OW.out), HB⟩
            case measure => omega
        · have d0 : decide (0 ≤ s) = false := decide_eq_false hs0
          have hnx : stuckTo g p q (k + 1) = L := by rw [HNX.out]; rw [d0]; simp
          have HNX := Lib.hid hnx
          clear hnx
          go_wp2
          go_roundg m
          case rel => exact ⟨k + 1, A, c, by omega, by rw [HNX.out], by go_num, Lib.hid (by rw [HNX.out]; exact OW.out), HB⟩
          case measure => omega
      · obtain rfl : gk = 0 := by omega
        obtain rfl : k = N := by omega
        have nb : ¬ (k : Int) < (k : Int) := by omega
        clear M4 M5 HSTW
        go_wp2
        go_ret
        have hown := OW.out
        exact ⟨A, ⟨c, by rw [HN.out]; rfl⟩, by rw [HN.out]; exact IntsAt.of_row rfl hown, HBW.out.trans (HB.out.mono HBW.out.size)⟩
end Go.Proofs.YtknchlpcpgflkaaGreatDoor

namespace Go.Proofs.YtknchlpcpgflkaaGreatDoor
open Go.RowKit Go.Shelf

set_option maxRecDepth 100000 in
set_option maxHeartbeats 2000000 in
/-- The reference's Ints. -/
theorem rints32_any (w : World) (B : Nat) (A A' : Option Addr) (l l' : List Int) (c c' : Nat) (h : IntsAt w B A l) (h' : IntsAt w B A' l') (hB : B ≤ w.heap.size) (hs : l.length ≤ 4611686018427387904) :
    Calls Tryz.prog 22 #[.slice A l.length c, .slice A' l'.length c'] w fun e w' => e = .returned (.bool (decide (l = l'))) ∧ Below w.heap.size w w' := by
  obtain ⟨q, hq⟩ : ∃ q, decide (l = l') = q := ⟨_, rfl⟩
  rw [hq]
  have HQ := Lib.hid hq
  have HH := Lib.hid h
  have HH' := Lib.hid h'
  clear hq h h'
  by_cases hl : l.length = l'.length
  case neg =>
    obtain rfl : false = q := by
      rw [← HQ.out]
      exact (decide_eq_false fun e => hl (by rw [e])).symm
    have d0 : ((l.length : Int) == (l'.length : Int)) = false := beq_eq_false_iff_ne.2 (by omega)
    go_enter Tryz.func22, Tryz.ntmps22
    go_wp2
    go_ret
    exact ⟨rfl, Below.refl _ _⟩
  obtain ⟨n, hn⟩ : ∃ n, l'.length = n := ⟨_, rfl⟩
  rw [hn]
  have hln : l.length = n := hl.trans hn
  have HN := Lib.hid hn
  have HL := Lib.hid hln
  rw [hln] at hs ⊢
  clear hn hln hl
  go_enter Tryz.func22, Tryz.ntmps22
  go_wp2_with fail
  go_loopw [5] (fun i wr => ∃ k : Nat, k ≤ n ∧ i = .int .i64 (k : Int) ∧ Hid (l.take k = l'.take k) ∧ Below w.heap.size w wr) (fun i _ => n - (intOf i).toNat)
  case atStart => exact ⟨0, Nat.zero_le _, rfl, Lib.hid rfl, Below.refl _ _⟩
  case round =>
    obtain ⟨k, hk, rfl, HT, hb⟩ := hrel
    by_cases hlt : k < n
    · obtain ⟨x, hx⟩ : ∃ x, l[k]? = some x := ⟨_, List.getElem?_eq_getElem (by have := HL.out; omega)⟩
      obtain ⟨y, hy⟩ : ∃ y, l'[k]? = some y := ⟨_, List.getElem?_eq_getElem (by have := HN.out; omega)⟩
      obtain ⟨g, off, hA, hg, p0⟩ := (HH.out.below (hb.mono hB)) k x hx
      obtain ⟨g', off', hA', hg', p0'⟩ := (HH'.out.below (hb.mono hB)) k y hy
      subst hA hA'
      have HX := Lib.hid hx
      have HY := Lib.hid hy
      clear hx hy
      have HBB := Lib.hid hb
      clear hb
      by_cases h1 : x = y
      · have HT2 : Hid (l.take (k + 1) = l'.take (k + 1)) := Lib.hid (by rw [take_snoc' HX.out, take_snoc' HY.out, HT.out, h1])
        subst h1
        go_wp2_with fail
        go_quiet (fail)
        go_wp2
        go_roundw
        case rel => exact ⟨k + 1, by omega, by go_num, HT2, below_dN HBB.out _⟩
        case measure => simp [intOf]; omega
      · have d0 : (x == y) = false := beq_eq_false_iff_ne.2 h1
        obtain rfl : false = q := by
          rw [← HQ.out]
          refine (decide_eq_false fun e => h1 ?_).symm
          have h2 := HX.out
          rw [e, HY.out] at h2
          exact (Option.some.inj h2).symm
        clear h1
        go_wp2_with fail
        go_quiet (fail)
        go_wp2
        go_ret
        exact ⟨rfl, below_dN HBB.out _⟩
    · obtain rfl : k = n := by omega
      obtain rfl : true = q := by
        rw [← HQ.out]
        refine (decide_eq_true ?_).symm
        have h1 := HT.out
        rw [List.take_of_length_le (by have := HL.out; omega), List.take_of_length_le (by have := HN.out; omega)] at h1
        exact h1
      go_wp2
      go_ret
      exact ⟨rfl, hb⟩
end Go.Proofs.YtknchlpcpgflkaaGreatDoor
