/- Package matter's Proper. -/
import Derived.Test.YtgfahifdmacmhaaGreatDoorQn
namespace Go.Proofs.YtgfahifdmacmhaaGreatDoor
open Go.RowKit Go.Shelf

/-- A procedure in memory. -/
structure PcX where
  a1 : Option Addr
  c1 : Nat
  a2 : Option Addr
  c2 : Nat
def pcC (p : Pc) (x : PcX) : Array Value := #[.string p.name, .slice x.a1 p.ss.length x.c1, .slice x.a2 p.ms.length x.c2]
structure PcAt (w : World) (B : Nat) (p : Pc) (x : PcX) : Prop where
  ss : BtsAt w B x.a1 p.ss
  ms : StopsAt w B x.a2 p.ms
  nm : p.name.size ≤ 9223372036854775807
  sn : ∀ s ∈ p.ss, s.size ≤ 9223372036854775807
theorem PcAt.below {w w' : World} {B : Nat} {p : Pc} {x : PcX} (h : PcAt w B p x) (hb : Below B w w') : PcAt w' B p x := ⟨h.ss.below hb, h.ms.below hb, h.nm, h.sn⟩
theorem PcAt.wide {w : World} {B B' : Nat} {p : Pc} {x : PcX} (h : PcAt w B p x) (hB : B ≤ B') : PcAt w B' p x := ⟨h.ss.wide hB, h.ms.wide hB, h.nm, h.sn⟩
def SmlP (p : Pc) : Prop := p.ss.length ≤ 1000000 ∧ p.ms.length ≤ 1000000

set_option maxRecDepth 100000 in
set_option maxHeartbeats 4000000 in
theorem proper_p (w : World) (B : Nat) (p : Pc) (x : PcX) (h : PcAt w B p x) (hB : B ≤ w.heap.size) (hs : SmlP p) :
    Calls Tryz.prog 23 #[.agg (pcC p x)] w fun e w' => e = .returned (.bool (pcB p)) ∧ Below w.heap.size w w' := by
  obtain ⟨hss, hms, hnm, hsn⟩ := h
  obtain ⟨s1, s2⟩ := hs
  obtain ⟨name, ss, ms⟩ := p
  obtain ⟨a1, c1, a2, c2⟩ := x
  simp only at *
  show Calls Tryz.prog 23 #[.agg #[.string name, .slice a1 ss.length c1, .slice a2 ms.length c2]] w _
  have hb := (below_self_alloc w (.cells #[.string name, .slice a1 ss.length c1, .slice a2 ms.length c2] 46)).alloc (by simp) (.cells #[.int .i64 (ss.length : Int)] 3)
  have kx := (Blk.new w 46 #[.string name, .slice a1 ss.length c1, .slice a2 ms.length c2]).alloc (.cells #[.int .i64 (ss.length : Int)] 3)
  have kn := Blk.new1 w (.cells #[.string name, .slice a1 ss.length c1, .slice a2 ms.length c2] 46) 3 #[.int .i64 (ss.length : Int)]
  have eg := enters_of Tryz.func52 (by kernel_rfl) rfl
  have em := enters_of Tryz.func64 (by kernel_rfl) rfl
  have hpc : pcB ⟨name, ss, ms⟩ = (nameB name && (decide (0 < ss.length) && (difB id nameB ss && difB id (mvB ss.length) ms))) := rfl
  obtain ⟨RR, hRR⟩ : ∃ RR, pcB ⟨name, ss, ms⟩ = RR := ⟨_, rfl⟩
  rw [hRR] at hpc ⊢
  have HRR := Lib.hid hpc
  have HSS := Lib.hid hss
  have HMS := Lib.hid hms
  have HSN := Lib.hid hsn
  clear hpc hRR hss hms hsn
  go_enter Tryz.func23, Tryz.ntmps23
  go_upto_region 2 with fail
  generalize (w.alloc (.cells #[.string name, .slice a1 ss.length c1, .slice a2 ms.length c2] 46)).alloc (.cells #[.int .i64 (ss.length : Int)] 3) = W0 at *
  have HB0 := Lib.hid hb
  have KX := Lib.hid kx
  have KN := Lib.hid kn
  clear hb kx kn
  obtain ⟨t0, t1, t2⟩ := KX.out.all
  obtain ⟨u0, u1, u2⟩ := KN.out.all
  have n1 := mname_any W0 name hnm
  have hS := fun W (hb : Below W0.heap.size W0 W) => difS_any W B a1 ss c1 (HSS.out.below ((HB0.out.trans (hb.mono HB0.out.size)).mono hB)) (Nat.le_trans hB (Nat.le_trans HB0.out.size hb.size)) (by omega) nameB 52 #[] eg
    (fun W2 x hx _ => mname_any W2 x (HSN.out x hx))
  have hM := fun W (hb : Below W0.heap.size W0 W) => difM_any W B a2 ms c2 (HMS.out.below ((HB0.out.trans (hb.mono HB0.out.size)).mono hB)) (Nat.le_trans hB (Nat.le_trans HB0.out.size hb.size)) (by omega) (mvB ss.length) 64 #[.pointer (some ⟨w.heap.size + 1, 0, none⟩)] em
    (fun W2 x hx hb2 => mgood_any W2 (w.heap.size + 1) ss.length ((KN.out.below (hb.trans (hb2.mono hb.size)) KN.out.lt).cell 0) x (Nat.lt_of_lt_of_le KN.out.lt (Nat.le_trans hb.size hb2.size)))
  have hRR := HRR.out
  clear HRR
  generalize nameB name = N at *
  generalize difB id nameB ss = S1 at *
  generalize difB id (mvB ss.length) ms = M1 at *
  have HN := Lib.hid n1
  have HSD := Lib.hid hS
  have HMD := Lib.hid hM
  clear n1 hS hM
  cases N with
  | false =>
    obtain rfl : RR = false := hRR
    go_wp2_with fail
    refine HN.out.mono ?_
    rintro e w1 ⟨rfl, b1⟩
    have hb1 := HB0.out.trans (b1.mono HB0.out.size)
    clear b1 t0 t1 t2 u0 u1 u2
    go_wp2
    go_ret
    exact ⟨rfl, hb1⟩
  | true =>
    rw [Bool.true_and] at hRR
    go_wp2_with fail
    refine HN.out.mono ?_
    rintro e w1 ⟨rfl, b1⟩
    have HB1 := Lib.hid (HB0.out.trans (b1.mono HB0.out.size))
    have K1 := Lib.hid (KX.out.below b1 KX.out.lt)
    have N1 := Lib.hid (KN.out.below b1 KN.out.lt)
    have HS1 := Lib.hid (HSD.out w1 b1)
    have B1 := Lib.hid b1
    clear b1 t0 t1 t2 u0 u1 u2
    obtain ⟨t0, t1, t2⟩ := K1.out.all
    obtain ⟨u0, u1, u2⟩ := N1.out.all
    by_cases h0 : 0 < ss.length
    · rw [decide_eq_true h0, Bool.true_and] at hRR
      cases S1 with
      | false =>
        obtain rfl : RR = false := hRR
        go_wp2_with fail
        refine HS1.out.mono ?_
        rintro e w2 ⟨rfl, b2⟩
        have hb2 := HB1.out.trans (b2.mono HB1.out.size)
        clear b2 t0 t1 t2 u0 u1 u2
        go_wp2
        go_ret
        exact ⟨rfl, hb2⟩
      | true =>
        rw [Bool.true_and] at hRR
        subst hRR
        go_wp2_with fail
        refine HS1.out.mono ?_
        rintro e w2 ⟨rfl, b2⟩
        have HB2 := Lib.hid (HB1.out.trans (b2.mono HB1.out.size))
        have HM2 := Lib.hid (HMD.out w2 (B1.out.trans (b2.mono B1.out.size)))
        have k2 := K1.out.below b2 K1.out.lt
        have n2 := N1.out.below b2 N1.out.lt
        clear b2 t0 t1 t2 u0 u1 u2
        obtain ⟨t0, t1, t2⟩ := k2.all
        obtain ⟨u0, u1, u2⟩ := n2.all
        go_wp2_with fail
        refine HM2.out.mono ?_
        rintro e w3 ⟨rfl, b3⟩
        have hb3 := HB2.out.trans (b3.mono HB2.out.size)
        clear b3 t0 t1 t2 u0 u1 u2 k2 n2
        go_wp2
        go_ret
        exact ⟨rfl, hb3⟩
    · rw [decide_eq_false h0, Bool.false_and] at hRR
      subst hRR
      have d0 : decide (0 < ss.length) = false := decide_eq_false h0
      have hb1 := HB1.out
      clear h0
      go_wp2
      go_ret
      exact ⟨rfl, hb1⟩
end Go.Proofs.YtgfahifdmacmhaaGreatDoor
