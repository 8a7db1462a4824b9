/- Package migrate's Valid. -/
import Derived.Test.YtebdkmlganalaaaGreatDoorKTopAccruedGBD
import Derived.Test.YtebdkmlganalaaaGreatDoorKTopAccruedGAS
import Derived.Test.YtebdkmlganalaaaGreatDoorKTopAccruedGBE
namespace Go.Proofs.YtebdkmlganalaaaGreatDoor
open Go.RowKit Go.Shelf

def PSv (w V : World) : Prop := Below w.heap.size w V
theorem PSv.go {w V V2 : World} (h : PSv w V) (hb : Below V.heap.size V V2) : PSv w V2 := Below.trans h (hb.mono (Below.size h))
theorem below_drewM (W : World) : Below W.heap.size W W.drew := ⟨rfl, rfl, rfl, Nat.le_refl _, fun _ _ => rfl⟩
theorem vd_no {g : Mg} {p q : Pc} (h : mgB g = false ∨ pcB p = false ∨ pcB q = false ∨ ¬ g.fr = p.name ∨ ¬ g.tn = q.name ∨ ¬ g.st.length = p.ss.length) : vdB g p q = false := by
  cases hv : vdB g p q with
  | false => rfl
  | true =>
    obtain ⟨h1, h2, h3, h4, h5, h6, -⟩ := vdB_iff.1 hv
    exfalso
    rcases h with h | h | h | h | h | h
    · rw [h1] at h; cases h
    · rw [h2] at h; cases h
    · rw [h3] at h; cases h
    · exact h h4
    · exact h h5
    · exact h h6
theorem vd_yes {g : Mg} {p q : Pc} {a : Int} (h1 : mgB g = true) (h2 : pcB p = true) (h3 : pcB q = true) (h4 : g.fr = p.name) (h5 : g.tn = q.name) (h6 : g.st.length = p.ss.length) (ha : g.st[0]? = some a) : vdB g p q = decide (maxI a g.st < (q.ss.length : Int)) := by
  rw [Bool.eq_iff_iff, vdB_iff, decide_eq_true_eq, maxI_lt]
  exact ⟨fun h => ⟨h.2.2.2.2.2.2 a (List.mem_of_getElem? ha), h.2.2.2.2.2.2⟩, fun h => ⟨h1, h2, h3, h4, h5, h6, h.2⟩⟩

def psV (fr tn : ByteArray) (a1 : Option Addr) (l1 c1 : Nat) (b1 : Option Addr) (e1 : Nat) (d1 : Option Addr) (m1 f1 : Nat) (g0 g1 g2 : Nat) (M : Int) : List Phi := [
  isV (.pointer (some ⟨g0, 0, none⟩)),
  isV (.string fr),
  isV (.pointer (some ⟨g1, 0, none⟩)),
  isV (.string fr),
  isV (.bool true),
  isV (.bool true),
  isV (.pointer (some ⟨g0, 1, none⟩)),
  isV (.string tn),
  isV (.pointer (some ⟨g2, 0, none⟩)),
  isV (.string tn),
  isV (.bool true),
  isV (.bool true),
  isV (.bool true),
  isV (.pointer (some ⟨g0, 2, none⟩)),
  isV (.slice a1 l1 c1),
  isV (.int .i64 (l1 : Int)),
  isV (.pointer (some ⟨g1, 1, none⟩)),
  isV (.slice b1 l1 e1),
  isV (.int .i64 (l1 : Int)),
  isV (.bool true),
  isV (.bool true),
  isV (.bool true),
  isV (.pointer (some ⟨g0, 2, none⟩)),
  isV (.slice a1 l1 c1),
  isV (.int .i64 M),
  isV (.pointer (some ⟨g2, 1, none⟩)),
  isV (.slice d1 m1 f1),
  isV (.int .i64 (m1 : Int)),
  isV (.bool (decide (M < (m1 : Int)))),
  isV (.bool (decide (M < (m1 : Int)))),
  isV (.bool (decide (M < (m1 : Int))))]


set_option maxRecDepth 100000 in
set_option maxHeartbeats 16000000 in
theorem gvalid_any (w : World) (ht : Tbs w) (B : Nat) (g : Mg) (x : MgX) (h : MgAt w B g x) (hB : B ≤ w.heap.size) (hs : SmlG g) (p : Pc) (y : PcX) (hp : PcAt w B p y) (hsp : SmlP p) (q : Pc) (z : PcX) (hq : PcAt w B q z) (hsq : SmlP q) :
    Calls Tryz.prog 26 #[.agg (mgC g x), .agg (pcC p y), .agg (pcC q z)] w fun e w' => e = .returned (.bool (vdB g p q)) ∧ Below w.heap.size w w' := by
  have hfm := fun W (hW : Below w.heap.size w W) => gformed_any W (ht.below hW) B g x (h.below (hW.mono hB)) (Nat.le_trans hB hW.size) hs
  have hp1 := fun W (hW : Below w.heap.size w W) => proper_p W B p y (hp.below (hW.mono hB)) (Nat.le_trans hB hW.size) hsp
  have hp2 := fun W (hW : Below w.heap.size w W) => proper_p W B q z (hq.below (hW.mono hB)) (Nat.le_trans hB hW.size) hsq
  have hmx := fun W (hW : Below w.heap.size w W) a (ha : g.st[0]? = some a) => max_any W B x.a1 a g.st x.c1 (h.st.below (hW.mono hB)) ha (Nat.le_trans hB hW.size) (by have := hs.1; omega)
  have hne : mgB g = true → ∃ a, g.st[0]? = some a := fun h1 => by
    obtain ⟨-, -, h3, -⟩ := mgB_iff.1 h1
    have : 0 < g.st.length := List.length_pos_iff.2 h3.1
    exact ⟨_, List.getElem?_eq_getElem this⟩
  have hno := @vd_no g p q
  have hyes := @vd_yes g p q
  obtain ⟨Q, hQ⟩ : ∃ Q, vdB g p q = Q := ⟨_, rfl⟩
  rw [hQ] at hno hyes ⊢
  obtain ⟨q1, hq1⟩ : ∃ b, mgB g = b := ⟨_, rfl⟩
  obtain ⟨q2, hq2⟩ : ∃ b, pcB p = b := ⟨_, rfl⟩
  obtain ⟨q3, hq3⟩ : ∃ b, pcB q = b := ⟨_, rfl⟩
  rw [hq1] at hfm hne
  rw [hq2] at hp1
  rw [hq3] at hp2
  rw [hq1, hq2, hq3] at hno hyes
  clear hQ hq1 hq2 hq3 h hp hq ht
  obtain ⟨s1, s2, s3⟩ := hs
  obtain ⟨fr, tn, st, rs, ts⟩ := g
  obtain ⟨a1, c1, a2, c2, a3, c3, tv⟩ := x
  obtain ⟨pn, ss, ms⟩ := p
  obtain ⟨b1, e1, b2, e2⟩ := y
  obtain ⟨qn, rr, nn⟩ := q
  obtain ⟨d1, f1, d2, f2⟩ := z
  simp only [mgC, pcC] at *
  generalize hk1 : ss.length = n1 at *
  generalize hk2 : ms.length = n2 at *
  generalize hk3 : rr.length = m1 at *
  generalize hk4 : nn.length = m2 at *
  generalize hk5 : rs.length = l2 at *
  generalize hk6 : ts.length = l3 at *
  generalize hk7 : st.length = l1 at *
  clear hk1 hk2 hk3 hk4 hk5 hk6 hk7 hsp hsq
  have hb := ((below_self_alloc w (.cells #[.string fr, .string tn, .slice a1 l1 c1, .slice a2 l2 c2, .slice a3 l3 c3] 30)).alloc (by simp) (.cells #[.string pn, .slice b1 n1 e1, .slice b2 n2 e2] 34)).alloc (by simp; omega) (.cells #[.string qn, .slice d1 m1 f1, .slice d2 m2 f2] 34)
  have k0 := ((Blk.new w 30 #[.string fr, .string tn, .slice a1 l1 c1, .slice a2 l2 c2, .slice a3 l3 c3]).alloc (.cells #[.string pn, .slice b1 n1 e1, .slice b2 n2 e2] 34)).alloc (.cells #[.string qn, .slice d1 m1 f1, .slice d2 m2 f2] 34)
  have k1 := (Blk.new1 w (.cells #[.string fr, .string tn, .slice a1 l1 c1, .slice a2 l2 c2, .slice a3 l3 c3] 30) 34 #[.string pn, .slice b1 n1 e1, .slice b2 n2 e2]).alloc (.cells #[.string qn, .slice d1 m1 f1, .slice d2 m2 f2] 34)
  have k2 := Blk.new2 w (.cells #[.string fr, .string tn, .slice a1 l1 c1, .slice a2 l2 c2, .slice a3 l3 c3] 30) (.cells #[.string pn, .slice b1 n1 e1, .slice b2 n2 e2] 34) 34 #[.string qn, .slice d1 m1 f1, .slice d2 m2 f2]
  have HNO := Lib.hid hno
  have HYES := Lib.hid fun a => @hyes a
  have HNE := Lib.hid hne
  have HC1 := Lib.hid hfm
  have HC2 := Lib.hid hp1
  have HC3 := Lib.hid hp2
  have HMX0 := Lib.hid hmx
  have HB := Lib.hid hb
  have K0 := Lib.hid k0
  have K1 := Lib.hid k1
  have K2 := Lib.hid k2
  clear hno hyes hne hfm hp1 hp2 hmx hb k0 k1 k2
  obtain ⟨t0, t1, t2⟩ := K0.out.all
  go_enter Tryz.func26, Tryz.ntmps26
  go_wp2_with fail
  generalize ((w.alloc (.cells #[.string fr, .string tn, .slice a1 l1 c1, .slice a2 l2 c2, .slice a3 l3 c3] 30)).alloc (.cells #[.string pn, .slice b1 n1 e1, .slice b2 n2 e2] 34)).alloc (.cells #[.string qn, .slice d1 m1 f1, .slice d2 m2 f2] 34) = W0 at *


  have HC := Lib.hid (HC1.out W0 HB.out)
  clear HC1
  refine HC.out.mono ?_
  rintro e W1 ⟨rfl, bz⟩
  have HB2 := Lib.hid (HB.out.trans (bz.mono HB.out.size))
  have KX0 := Lib.hid (K0.out.below bz K0.out.lt)
  have KX1 := Lib.hid (K1.out.below bz K1.out.lt)
  have KX2 := Lib.hid (K2.out.below bz K2.out.lt)
  clear bz t0 t1 t2 HB K0 K1 K2 HC
  have HB := HB2
  have K0 := KX0
  have K1 := KX1
  have K2 := KX2
  clear HB2 KX0 KX1 KX2
  obtain ⟨t0, t1, t2⟩ := K1.out.all
  cases q1 with
  | false =>
    obtain rfl : Q = false := HNO.out (.inl rfl)
    clear HNO HYES HNE HC2 HC3 HMX0
    go_wp2
    go_ret
    exact ⟨rfl, HB.out⟩
  | true =>
  have HC := Lib.hid (HC2.out W1 HB.out)
  clear HC2
  go_wp2_with fail
  refine HC.out.mono ?_
  rintro e W2 ⟨rfl, bz⟩
  have HB2 := Lib.hid (HB.out.trans (bz.mono HB.out.size))
  have KX0 := Lib.hid (K0.out.below bz K0.out.lt)
  have KX1 := Lib.hid (K1.out.below bz K1.out.lt)
  have KX2 := Lib.hid (K2.out.below bz K2.out.lt)
  clear bz t0 t1 t2 HB K0 K1 K2 HC
  have HB := HB2
  have K0 := KX0
  have K1 := KX1
  have K2 := KX2
  clear HB2 KX0 KX1 KX2
  obtain ⟨t0, t1, t2⟩ := K2.out.all
  cases q2 with
  | false =>
    obtain rfl : Q = false := HNO.out (.inr (.inl rfl))
    clear HNO HYES HNE HC3 HMX0
    go_wp2
    go_ret
    exact ⟨rfl, HB.out⟩
  | true =>
  have HC := Lib.hid (HC3.out W2 HB.out)
  clear HC3
  go_wp2_with fail
  refine HC.out.mono ?_
  rintro e W3 ⟨rfl, bz⟩
  have HB2 := Lib.hid (HB.out.trans (bz.mono HB.out.size))
  have KX0 := Lib.hid (K0.out.below bz K0.out.lt)
  have KX1 := Lib.hid (K1.out.below bz K1.out.lt)
  have KX2 := Lib.hid (K2.out.below bz K2.out.lt)
  clear bz t0 t1 t2 HB K0 K1 K2 HC
  have HB := HB2
  have K0 := KX0
  have K1 := KX1
  have K2 := KX2
  clear HB2 KX0 KX1 KX2

  cases q3 with
  | false =>
    obtain rfl : Q = false := HNO.out (.inr (.inr (.inl rfl)))
    clear HNO HYES HNE HMX0
    go_wp2
    go_ret
    exact ⟨rfl, HB.out⟩
  | true =>
  obtain ⟨r0, r1, r2⟩ := K0.out.all
  obtain ⟨u0, u1, u2⟩ := K1.out.all
  obtain ⟨v0, v1, v2⟩ := K2.out.all
  by_cases hx1 : fr = pn
  case neg =>
    obtain rfl : Q = false := HNO.out (.inr (.inr (.inr (.inl hx1))))
    have d1 := str_no hx1
    clear HNO HYES HNE HMX0 hx1
    go_wp2_with fail
    go_quiet (fail)
    go_wp2
    go_ret
    exact ⟨rfl, below_dN HB.out _⟩
  by_cases hx2 : tn = qn
  case neg =>
    obtain rfl : Q = false := HNO.out (.inr (.inr (.inr (.inr (.inl hx2)))))
    have d1 := str_no hx2
    subst hx1
    clear HNO HYES HNE HMX0 hx2
    go_wp2_with fail
    go_quiet (fail)
    go_wp2
    go_ret
    exact ⟨rfl, below_dN HB.out _⟩
  by_cases hx3 : l1 = n1
  case neg =>
    obtain rfl : Q = false := HNO.out (.inr (.inr (.inr (.inr (.inr hx3)))))
    have d1 : ((l1 : Int) == (n1 : Int)) = false := beq_eq_false_iff_ne.2 (by omega)
    subst hx1
    subst hx2
    clear HNO HYES HNE HMX0 hx3
    go_wp2_with fail
    go_quiet (fail)
    go_wp2
    go_ret
    exact ⟨rfl, below_dN HB.out _⟩
  subst hx1
  subst hx2
  subst hx3
  obtain ⟨a, ha⟩ := HNE.out (by trivial)
  have hQ := HYES.out a (by trivial) (by trivial) (by trivial) rfl rfl rfl ha
  obtain ⟨M, hM⟩ : ∃ M, maxI a st = M := ⟨_, rfl⟩
  rw [hM] at hQ
  have hmx : ∀ V, PSv W3 V → Calls Tryz.prog 67 #[.slice a1 l1 c1] V fun e w' => e = .returned (.int .i64 M) ∧ w' = V := fun V hV => by
    have := HMX0.out V (HB.out.trans (Below.mono hV HB.out.size)) a ha
    rw [hM] at this
    exact this
  have hrd : ∀ V, PSv W3 V → (∀ i, V.cell? ⟨w.heap.size, i, none⟩ = (#[.string fr, .string tn, .slice a1 l1 c1, .slice a2 l2 c2, .slice a3 l3 c3] : Array Value)[i]?) ∧ (∀ i, V.cell? ⟨w.heap.size + 1, i, none⟩ = (#[.string fr, .slice b1 l1 e1, .slice b2 n2 e2] : Array Value)[i]?) ∧ (∀ i, V.cell? ⟨w.heap.size + 1 + 1, i, none⟩ = (#[.string tn, .slice d1 m1 f1, .slice d2 m2 f2] : Array Value)[i]?) := fun V hV =>
    ⟨(K0.out.below hV K0.out.lt).cell, (K1.out.below hV K1.out.lt).cell, (K2.out.below hV K2.out.lt).cell⟩
  have hbv : ∀ V, PSv W3 V → Below w.heap.size w V := fun V hV => HB.out.trans (Below.mono hV HB.out.size)
  have HMX := Lib.hid hmx
  have HRD := Lib.hid hrd
  have HBV := Lib.hid hbv
  have HQ := Lib.hid hQ
  clear hmx hrd hbv hQ hM ha r0 r1 r2 u0 u1 u2 v0 v1 v2 HNE HYES HNO HMX0 K0 K1 K2
  go_wp2_with fail
  refine wp_region_rg2 (PSv W3) RB (psV fr tn a1 l1 c1 b1 e1 d1 m1 f1 w.heap.size (w.heap.size + 1) (w.heap.size + 1 + 1) M) [0, 1, 2, 3, 4, 5, 6, 7, 8, 9, 10, 11, 12, 13, 14, 15, 16, 17, 18, 19, 20, 21, 22, 23, 24, 25, 26, 27, 28, 29, 30] (by kernel_rfl) (by kernel_rfl) (by kernel_rfl) (below_drewM W3) ⟨isV_mono _, isV_mono _, isV_mono _, isV_mono _, isV_mono _, isV_mono _, isV_mono _, isV_mono _, isV_mono _, isV_mono _, isV_mono _, isV_mono _, isV_mono _, isV_mono _, isV_mono _, isV_mono _, isV_mono _, isV_mono _, isV_mono _, isV_mono _, isV_mono _, isV_mono _, isV_mono _, isV_mono _, isV_mono _, isV_mono _, isV_mono _, isV_mono _, isV_mono _, isV_mono _, isV_mono _, trivial⟩ ?_
  intro F hF
  simp only [putAll, List.map_cons, List.map_nil, Act.put, List.setIfInBounds_toArray, List.set_cons_succ, List.set_cons_zero] at hF
  have HFX := Lib.hid hF
  clear hF
  refine ⟨fun Q' => ⟨?_, ?_, ?_, ?_, ?_, ?_, ?_, ?_, ?_, ?_, ?_, ?_, ?_, ?_, ?_, ?_, ?_, ?_, ?_, ?_, ?_, ?_, ?_, ?_, ?_, ?_, ?_, ?_, ?_, ?_, ?_, trivial⟩, ?_⟩
  · intro u W hS hd hp
    have HS := Lib.hid hS
    clear hS
    rw [HFX.out]
    clear hd hp 
    go_wp2_with fail
    exact ⟨_, by rw [HFX.out]; simp [upd], rfl, HS.out, Below.refl _ _⟩
  · intro u W hS hd hp
    have HS := Lib.hid hS
    clear hS
    obtain ⟨d0, -⟩ := hd
    have e0 : u 0 = .pointer (some ⟨w.heap.size, 0, none⟩) := d0 rfl
    rw [HFX.out]
    simp only [e0]
    clear hp d0
    obtain ⟨r0, r1, r2⟩ := HRD.out W HS.out
    go_wp2_with fail
    exact ⟨_, by rw [HFX.out]; simp [upd, e0], rfl, HS.out, Below.refl _ _⟩
  · intro u W hS hd hp
    have HS := Lib.hid hS
    clear hS
    rw [HFX.out]
    clear hd hp 
    go_wp2_with fail
    exact ⟨_, by rw [HFX.out]; simp [upd], rfl, HS.out, Below.refl _ _⟩
  · intro u W hS hd hp
    have HS := Lib.hid hS
    clear hS
    obtain ⟨d2, -⟩ := hd
    have e2 : u 2 = .pointer (some ⟨w.heap.size + 1, 0, none⟩) := d2 rfl
    rw [HFX.out]
    simp only [e2]
    clear hp d2
    obtain ⟨r0, r1, r2⟩ := HRD.out W HS.out
    go_wp2_with fail
    exact ⟨_, by rw [HFX.out]; simp [upd, e2], rfl, HS.out, Below.refl _ _⟩
  · intro u W hS hd hp
    have HS := Lib.hid hS
    clear hS
    obtain ⟨d1, d3, -⟩ := hd
    have e1 : u 1 = .string fr := d1 rfl
    have e3 : u 3 = .string fr := d3 rfl
    rw [HFX.out]
    simp only [e1, e3]
    clear hp d1 d3
    go_wp2_with fail
    exact ⟨_, by rw [HFX.out]; simp [upd, e1, e3], rfl, HS.out, Below.refl _ _⟩
  · intro u W hS hd hp
    have HS := Lib.hid hS
    clear hS
    obtain ⟨d4, -⟩ := hd
    have e4 : u 4 = .bool true := d4 rfl
    rw [HFX.out]
    simp only [e4]
    clear hp d4
    go_wp2_with fail
    exact ⟨_, by rw [HFX.out]; simp [upd, e4], rfl, HS.out, Below.refl _ _⟩
  · intro u W hS hd hp
    have HS := Lib.hid hS
    clear hS
    obtain ⟨d5, -⟩ := hd
    have e5 : u 5 = .bool true := d5 rfl
    rw [HFX.out]
    simp only [e5]
    clear hp d5
    go_wp2_with fail
    exact ⟨_, by rw [HFX.out]; simp [upd, e5], rfl, HS.out, Below.refl _ _⟩
  · intro u W hS hd hp
    have HS := Lib.hid hS
    clear hS
    obtain ⟨d6, d5, -⟩ := hd
    have e6 : u 6 = .pointer (some ⟨w.heap.size, 1, none⟩) := d6 rfl
    have e5 : u 5 = .bool true := d5 rfl
    rw [HFX.out]
    simp only [e6, e5]
    clear hp d6 d5
    obtain ⟨r0, r1, r2⟩ := HRD.out W HS.out
    go_wp2_with fail
    exact ⟨_, by rw [HFX.out]; simp [upd, e6, e5], rfl, HS.out, Below.refl _ _⟩
  · intro u W hS hd hp
    have HS := Lib.hid hS
    clear hS
    obtain ⟨d5, -⟩ := hd
    have e5 : u 5 = .bool true := d5 rfl
    rw [HFX.out]
    simp only [e5]
    clear hp d5
    go_wp2_with fail
    exact ⟨_, by rw [HFX.out]; simp [upd, e5], rfl, HS.out, Below.refl _ _⟩
  · intro u W hS hd hp
    have HS := Lib.hid hS
    clear hS
    obtain ⟨d8, d5, -⟩ := hd
    have e8 : u 8 = .pointer (some ⟨w.heap.size + 1 + 1, 0, none⟩) := d8 rfl
    have e5 : u 5 = .bool true := d5 rfl
    rw [HFX.out]
    simp only [e8, e5]
    clear hp d8 d5
    obtain ⟨r0, r1, r2⟩ := HRD.out W HS.out
    go_wp2_with fail
    exact ⟨_, by rw [HFX.out]; simp [upd, e8, e5], rfl, HS.out, Below.refl _ _⟩
  · intro u W hS hd hp
    have HS := Lib.hid hS
    clear hS
    obtain ⟨d7, d9, d5, -⟩ := hd
    have e7 : u 7 = .string tn := d7 rfl
    have e9 : u 9 = .string tn := d9 rfl
    have e5 : u 5 = .bool true := d5 rfl
    rw [HFX.out]
    simp only [e7, e9, e5]
    clear hp d7 d9 d5
    go_wp2_with fail
    exact ⟨_, by rw [HFX.out]; simp [upd, e7, e9, e5], rfl, HS.out, Below.refl _ _⟩
  · intro u W hS hd hp
    have HS := Lib.hid hS
    clear hS
    obtain ⟨d5, d10, -⟩ := hd
    have e5 : u 5 = .bool true := d5 rfl
    have e10 : u 10 = .bool true := d10 rfl
    rw [HFX.out]
    simp only [e5, e10]
    clear hp d5 d10
    go_wp2_with fail
    exact ⟨_, by rw [HFX.out]; simp [upd, e5, e10], rfl, HS.out, Below.refl _ _⟩
  · intro u W hS hd hp
    have HS := Lib.hid hS
    clear hS
    obtain ⟨d11, -⟩ := hd
    have e11 : u 11 = .bool true := d11 rfl
    rw [HFX.out]
    simp only [e11]
    clear hp d11
    go_wp2_with fail
    exact ⟨_, by rw [HFX.out]; simp [upd, e11], rfl, HS.out, Below.refl _ _⟩
  · intro u W hS hd hp
    have HS := Lib.hid hS
    clear hS
    obtain ⟨d12, -⟩ := hd
    have e12 : u 12 = .bool true := d12 rfl
    rw [HFX.out]
    simp only [e12]
    clear hp d12
    go_wp2_with fail
    exact ⟨_, by rw [HFX.out]; simp [upd, e12], rfl, HS.out, Below.refl _ _⟩
  · intro u W hS hd hp
    have HS := Lib.hid hS
    clear hS
    obtain ⟨d13, d12, -⟩ := hd
    have e13 : u 13 = .pointer (some ⟨w.heap.size, 2, none⟩) := d13 rfl
    have e12 : u 12 = .bool true := d12 rfl
    rw [HFX.out]
    simp only [e13, e12]
    clear hp d13 d12
    obtain ⟨r0, r1, r2⟩ := HRD.out W HS.out
    go_wp2_with fail
    exact ⟨_, by rw [HFX.out]; simp [upd, e13, e12], rfl, HS.out, Below.refl _ _⟩
  · intro u W hS hd hp
    have HS := Lib.hid hS
    clear hS
    obtain ⟨d14, d12, -⟩ := hd
    have e14 : u 14 = .slice a1 l1 c1 := d14 rfl
    have e12 : u 12 = .bool true := d12 rfl
    rw [HFX.out]
    simp only [e14, e12]
    clear hp d14 d12
    go_wp2_with fail
    exact ⟨_, by rw [HFX.out]; simp [upd, e14, e12], rfl, HS.out, Below.refl _ _⟩
  · intro u W hS hd hp
    have HS := Lib.hid hS
    clear hS
    obtain ⟨d12, -⟩ := hd
    have e12 : u 12 = .bool true := d12 rfl
    rw [HFX.out]
    simp only [e12]
    clear hp d12
    go_wp2_with fail
    exact ⟨_, by rw [HFX.out]; simp [upd, e12], rfl, HS.out, Below.refl _ _⟩
  · intro u W hS hd hp
    have HS := Lib.hid hS
    clear hS
    obtain ⟨d16, d12, -⟩ := hd
    have e16 : u 16 = .pointer (some ⟨w.heap.size + 1, 1, none⟩) := d16 rfl
    have e12 : u 12 = .bool true := d12 rfl
    rw [HFX.out]
    simp only [e16, e12]
    clear hp d16 d12
    obtain ⟨r0, r1, r2⟩ := HRD.out W HS.out
    go_wp2_with fail
    exact ⟨_, by rw [HFX.out]; simp [upd, e16, e12], rfl, HS.out, Below.refl _ _⟩
  · intro u W hS hd hp
    have HS := Lib.hid hS
    clear hS
    obtain ⟨d17, d12, -⟩ := hd
    have e17 : u 17 = .slice b1 l1 e1 := d17 rfl
    have e12 : u 12 = .bool true := d12 rfl
    rw [HFX.out]
    simp only [e17, e12]
    clear hp d17 d12
    go_wp2_with fail
    exact ⟨_, by rw [HFX.out]; simp [upd, e17, e12], rfl, HS.out, Below.refl _ _⟩
  · intro u W hS hd hp
    have HS := Lib.hid hS
    clear hS
    obtain ⟨d15, d18, d12, -⟩ := hd
    have e15 : u 15 = .int .i64 (l1 : Int) := d15 rfl
    have e18 : u 18 = .int .i64 (l1 : Int) := d18 rfl
    have e12 : u 12 = .bool true := d12 rfl
    rw [HFX.out]
    simp only [e15, e18, e12]
    clear hp d15 d18 d12
    go_wp2_with fail
    exact ⟨_, by rw [HFX.out]; simp [upd, e15, e18, e12], rfl, HS.out, Below.refl _ _⟩
  · intro u W hS hd hp
    have HS := Lib.hid hS
    clear hS
    obtain ⟨d12, d19, -⟩ := hd
    have e12 : u 12 = .bool true := d12 rfl
    have e19 : u 19 = .bool true := d19 rfl
    rw [HFX.out]
    simp only [e12, e19]
    clear hp d12 d19
    go_wp2_with fail
    exact ⟨_, by rw [HFX.out]; simp [upd, e12, e19], rfl, HS.out, Below.refl _ _⟩
  · intro u W hS hd hp
    have HS := Lib.hid hS
    clear hS
    obtain ⟨d20, -⟩ := hd
    have e20 : u 20 = .bool true := d20 rfl
    rw [HFX.out]
    simp only [e20]
    clear hp d20
    go_wp2_with fail
    exact ⟨_, by rw [HFX.out]; simp [upd, e20], rfl, HS.out, Below.refl _ _⟩
  · intro u W hS hd hp
    have HS := Lib.hid hS
    clear hS
    obtain ⟨d21, -⟩ := hd
    have e21 : u 21 = .bool true := d21 rfl
    rw [HFX.out]
    simp only [e21]
    clear hp d21
    go_wp2_with fail
    exact ⟨_, by rw [HFX.out]; simp [upd, e21], rfl, HS.out, Below.refl _ _⟩
  · intro u W hS hd hp
    have HS := Lib.hid hS
    clear hS
    obtain ⟨d22, d21, -⟩ := hd
    have e22 : u 22 = .pointer (some ⟨w.heap.size, 2, none⟩) := d22 rfl
    have e21 : u 21 = .bool true := d21 rfl
    rw [HFX.out]
    simp only [e22, e21]
    clear hp d22 d21
    obtain ⟨r0, r1, r2⟩ := HRD.out W HS.out
    go_wp2_with fail
    exact ⟨_, by rw [HFX.out]; simp [upd, e22, e21], rfl, HS.out, Below.refl _ _⟩
  · intro u W hS hd hp
    have HS := Lib.hid hS
    clear hS
    obtain ⟨d23, _, d21, -⟩ := hd
    have e23 : u 23 = .slice a1 l1 c1 := d23 rfl
    have e21 : u 21 = .bool true := d21 rfl
    rw [HFX.out]
    simp only [e23, e21]
    clear hp d23 d21
    go_wp2_with fail
    refine (HMX.out W HS.out).mono ?_
    rintro e W2 ⟨rfl, rfl⟩
    go_wp2_with fail
    exact ⟨_, by rw [HFX.out]; simp [upd, e23, e21], rfl, HS.out, Below.refl _ _⟩
  · intro u W hS hd hp
    have HS := Lib.hid hS
    clear hS
    obtain ⟨d21, -⟩ := hd
    have e21 : u 21 = .bool true := d21 rfl
    rw [HFX.out]
    simp only [e21]
    clear hp d21
    go_wp2_with fail
    exact ⟨_, by rw [HFX.out]; simp [upd, e21], rfl, HS.out, Below.refl _ _⟩
  · intro u W hS hd hp
    have HS := Lib.hid hS
    clear hS
    obtain ⟨d25, d21, -⟩ := hd
    have e25 : u 25 = .pointer (some ⟨w.heap.size + 1 + 1, 1, none⟩) := d25 rfl
    have e21 : u 21 = .bool true := d21 rfl
    rw [HFX.out]
    simp only [e25, e21]
    clear hp d25 d21
    obtain ⟨r0, r1, r2⟩ := HRD.out W HS.out
    go_wp2_with fail
    exact ⟨_, by rw [HFX.out]; simp [upd, e25, e21], rfl, HS.out, Below.refl _ _⟩
  · intro u W hS hd hp
    have HS := Lib.hid hS
    clear hS
    obtain ⟨d26, d21, -⟩ := hd
    have e26 : u 26 = .slice d1 m1 f1 := d26 rfl
    have e21 : u 21 = .bool true := d21 rfl
    rw [HFX.out]
    simp only [e26, e21]
    clear hp d26 d21
    go_wp2_with fail
    exact ⟨_, by rw [HFX.out]; simp [upd, e26, e21], rfl, HS.out, Below.refl _ _⟩
  · intro u W hS hd hp
    have HS := Lib.hid hS
    clear hS
    obtain ⟨d24, d27, d21, -⟩ := hd
    have e24 : u 24 = .int .i64 M := d24 rfl
    have e27 : u 27 = .int .i64 (m1 : Int) := d27 rfl
    have e21 : u 21 = .bool true := d21 rfl
    rw [HFX.out]
    simp only [e24, e27, e21]
    clear hp d24 d27 d21
    go_wp2_with fail
    exact ⟨_, by rw [HFX.out]; simp [upd, e24, e27, e21], rfl, HS.out, Below.refl _ _⟩
  · intro u W hS hd hp
    have HS := Lib.hid hS
    clear hS
    obtain ⟨d21, d28, -⟩ := hd
    have e21 : u 21 = .bool true := d21 rfl
    have e28 : u 28 = .bool (decide (M < (m1 : Int))) := d28 rfl
    rw [HFX.out]
    simp only [e21, e28]
    clear hp d21 d28
    go_wp2_with fail
    exact ⟨_, by rw [HFX.out]; simp [upd, e21, e28], rfl, HS.out, Below.refl _ _⟩
  · intro u W hS hd hp
    have HS := Lib.hid hS
    clear hS
    obtain ⟨d29, -⟩ := hd
    have e29 : u 29 = .bool (decide (M < (m1 : Int))) := d29 rfl
    rw [HFX.out]
    simp only [e29]
    clear hp d29
    go_wp2_with fail
    exact ⟨_, by rw [HFX.out]; simp [upd, e29], rfl, HS.out, Below.refl _ _⟩
  intro u W hS hf
  have e30 : u 30 = .bool (decide (M < (m1 : Int))) := hf 30 (by decide)
  have hbf := HBV.out W hS
  have hqq := HQ.out
  rw [HFX.out]
  simp only [e30]
  clear hf HFX F hS e30 HRD HBV HMX HQ
  subst hqq
  go_wp2
  go_ret
  exact ⟨rfl, hbf⟩
end Go.Proofs.YtebdkmlganalaaaGreatDoor
