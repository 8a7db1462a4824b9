/- Reading a procedure as an argument. The reference's Proper. -/
import Derived.Test.YtknchlpcpgflkaaGreatDoorKWv
import Derived.Test.YtknchlpcpgflkaaGreatDoorKGAS
import Derived.Test.YtknchlpcpgflkaaGreatDoorKYr
import Derived.BigQuiet
namespace Go.Proofs.YtknchlpcpgflkaaGreatDoor
open Go.RowKit Go.ChangeShapes Go.WideShapes Go.Deep

section
variable {H : Type} {enc : TypeId × Value → H} {w : World} {base : Nat} {spare : Nat → Bool} {held : Bool} {fuel len cap : Nat} {A : Option Addr} {x : DataW H × List MemPlace}
set_option maxRecDepth 100000 in
theorem moves_trod (hf : DataW.trod enc Tryz.prog w base spare held fuel 32 [.slice A len cap] = some x) : ∃ S : List I2, S.length = len ∧ StopsAt w w.heap.size A S ∧ len ≤ 9223372036854775807 := by
  have hlen := slice_len Tryz.underlying32 hf
  have hs := slice_elems Tryz.underlying32 (k := 2) (by kernel_rfl) (by decide) hf
  obtain ⟨l, hl, hp⟩ := list_of (p := fun i (s : I2) => ∃ g off, A = some ⟨g, off, none⟩ ∧ g < w.heap.size ∧ w.cell? ⟨g, off + i * 2, none⟩ = some (.int .i64 s.1) ∧ w.cell? ⟨g, off + i * 2 + 1, none⟩ = some (.int .i64 s.2)) len (fun i hi => by
    obtain ⟨g, off, n, vs, y, hA, hg, hvl, hc, ht'⟩ := hs i hi
    match vs, hvl with
    | [v0, v1], _ =>
      obtain ⟨xs, n, _, hx, hl, hlen, hfl⟩ := DataW.trod_array Tryz.underlying76 ht'
      have c1 : Tryz.prog.cellsOf 3 = 1 := by kernel_rfl
      have gg : ∀ i, i < xs.length → ∃ y, xs[i]? = some y := fun i hi => ⟨_, List.getElem?_eq_getElem hi⟩
      obtain ⟨y0, e0⟩ := gg 0 (by omega)
      obtain ⟨y1, e1⟩ := gg 1 (by omega)
      have t0 := (hfl 0 (by decide)).trans e0
      have t1 := (hfl 1 (by decide)).trans e1
      rw [c1] at t0 t1
      obtain ⟨s, h0, _, _⟩ := DataW.trod_int Tryz.underlying3 t0
      obtain ⟨d, h1, _, _⟩ := DataW.trod_int Tryz.underlying3 t1
      have q0 : v0 = .int .i64 s := by simpa using h0
      have q1 : v1 = .int .i64 d := by simpa using h1
      subst q0 q1
      exact ⟨(s, d), g, off, hA, hg, hc 0 _ rfl, hc 1 _ rfl⟩)
  exact ⟨l, hl, hp, hlen⟩
/-- What a procedure at an argument gives. -/
def PcIn (w : World) (z : Pc × PcX) : Prop := PcAt w w.heap.size z.1 z.2 ∧ z.1.ss.length ≤ 9223372036854775807 ∧ z.1.ms.length ≤ 9223372036854775807
set_option maxRecDepth 100000 in
theorem procedure_at {v : Value} {d : DataW H} {p : List MemPlace} {cs : Array Value} (hv : v = .agg cs) (hsz : cs.size = Tryz.prog.cellsOf 34)
    (h : DataW.Trod enc Tryz.prog w base spare held 34 v d p) : ∃ z : Pc × PcX, v = .agg (pcC z.1 z.2) ∧ PcIn w z := by
  subst hv
  have h2 : Tryz.prog.cellsOf 34 = 3 := by kernel_rfl
  rw [h2] at hsz
  obtain ⟨fuel, hf⟩ := h
  have hc : (Value.agg cs).cells.toList = cs.toList := rfl
  rw [hc] at hf
  obtain ⟨c0, c1, c2, hcs⟩ : ∃ c0 c1 c2, cs = #[c0, c1, c2] := by
    obtain ⟨l⟩ := cs
    match l, hsz with
    | [c0, c1, c2], _ => exact ⟨c0, c1, c2, rfl⟩
  subst hcs
  obtain ⟨xs, n, _, hx, hl, hlen, hfl⟩ := DataW.trod_struct Tryz.underlying34 hf
  have g : ∀ i, i < xs.length → ∃ y, xs[i]? = some y := fun i hi => ⟨_, List.getElem?_eq_getElem hi⟩
  have hlen2 : xs.length = 3 := hlen
  obtain ⟨y0, e0⟩ := g 0 (by omega)
  obtain ⟨y1, e1⟩ := g 1 (by omega)
  obtain ⟨y2, e2⟩ := g 2 (by omega)
  obtain ⟨k0, h0, _, w0⟩ := DataW.trod_string Tryz.underlying9 ((hfl 0 _ rfl).trans e0)
  have t1 : DataW.trod enc Tryz.prog w base spare held n 31 [c1] = some y1 := (hfl 1 _ rfl).trans e1
  have t2 : DataW.trod enc Tryz.prog w base spare held n 32 [c2] = some y2 := (hfl 2 _ rfl).trans e2
  obtain ⟨A1, l1, q1, rfl⟩ := slice_form Tryz.underlying31 t1
  obtain ⟨A2, l2, q2, rfl⟩ := slice_form Tryz.underlying32 t2
  have r0 : c0 = .string k0 := by injection h0
  subst r0
  obtain ⟨ss, hss, b1, n1, m1⟩ := strs_trod Tryz.underlying31 t1
  obtain ⟨ms, hms, b2, m2⟩ := moves_trod t2
  subst hss hms
  exact ⟨(⟨k0, ss, ms⟩, ⟨A1, q1, A2, q2⟩), rfl, ⟨b1, b2, w0, n1⟩, m1, m2⟩
end
end Go.Proofs.YtknchlpcpgflkaaGreatDoor

namespace Go.Proofs.YtknchlpcpgflkaaGreatDoor
open Go.RowKit Go.Shelf

section
open Go.ChangeShapes Go.WideShapes Go.Deep
variable {H : Type} {enc : TypeId × Value → H} {w : World} {base : Nat} {spare : Nat → Bool} {held : Bool} {fuel len cap : Nat} {A : Option Addr} {x : DataW H × List MemPlace}
/-- .. with room for what is there. -/
def PcIn2 (w : World) (z : Pc × PcX) : Prop := PcIn w z ∧ z.1.ss.length ≤ z.2.c1
set_option maxRecDepth 100000 in
theorem procedure_at2 {v : Value} {d : DataW H} {p : List MemPlace} {cs : Array Value} (hv : v = .agg cs) (hsz : cs.size = Tryz.prog.cellsOf 34)
    (h : DataW.Trod enc Tryz.prog w base spare held 34 v d p) : ∃ z : Pc × PcX, v = .agg (pcC z.1 z.2) ∧ PcIn2 w z := by
  obtain ⟨z, hz, hin⟩ := procedure_at hv hsz h
  refine ⟨z, hz, hin, ?_⟩
  subst hz
  obtain ⟨fuel, hf⟩ := h
  obtain ⟨xs, n, _, hx, hl, hlen, hfl⟩ := DataW.trod_struct Tryz.underlying34 hf
  have hlen2 : xs.length = 3 := hlen
  obtain ⟨y1, e1⟩ : ∃ y, xs[1]? = some y := ⟨_, List.getElem?_eq_getElem (by omega)⟩
  have t1 : DataW.trod enc Tryz.prog w base spare held n 31 [.slice z.2.a1 z.1.ss.length z.2.c1] = some y1 := (hfl 1 _ rfl).trans e1
  exact slice_cap Tryz.underlying31 t1
end
theorem pc_false {p : Pc} {R : Bool} (h : pcB p = R) (hn : ¬ pcB p = true) : R = false := by
  rw [← h]
  simpa using hn
theorem pcB_iff {p : Pc} : pcB p = true ↔ nameB p.name = true ∧ 0 < p.ss.length ∧ difB id nameB p.ss = true ∧ difB id (mvB p.ss.length) p.ms = true := by
  unfold pcB
  simp only [Bool.and_eq_true, decide_eq_true_eq]
theorem mvB_iff {n : Nat} {m : I2} : mvB n m = true ↔ 0 ≤ m.1 ∧ m.1 < (n : Int) ∧ 0 ≤ m.2 ∧ m.2 < (n : Int) ∧ m.1 ≠ m.2 := by
  unfold mvB
  rw [decide_eq_true_eq]
  constructor
  · rintro ⟨h1, h2, h3⟩
    exact ⟨by omega, by omega, by omega, by omega, h1⟩
  · rintro ⟨h1, h2, h3, h4, h5⟩
    exact ⟨h5, by omega, by omega⟩
theorem map_id_ {α : Type} (l : List α) : l.map id = l := by simp
set_option maxRecDepth 100000 in
set_option maxHeartbeats 8000000 in
theorem rproper_any (w : World) (B : Nat) (p : Pc) (x : PcX) (h : PcAt w B p x) (hB : B ≤ w.heap.size) (hs : SmlP p) (hcap : p.ss.length ≤ x.c1) :
    Calls Tryz.prog 64 #[.agg (pcC p x)] w fun e w' => e = .returned (.bool (pcB p)) ∧ Below w.heap.size w w' := by
  obtain ⟨R, hR⟩ : ∃ R, pcB p = R := ⟨_, rfl⟩
  rw [hR]
  obtain ⟨hss, hms, hnm, hsn⟩ := h
  obtain ⟨s1, s2⟩ := hs
  obtain ⟨name, ss, ms⟩ := p
  obtain ⟨a1, c1, a2, c2⟩ := x
  simp only at *
  show Calls Tryz.prog 64 #[.agg #[.string name, .slice a1 ss.length c1, .slice a2 ms.length c2]] w _
  have hb := below_self_alloc w (.cells #[.string name, .slice a1 ss.length c1, .slice a2 ms.length c2] 34)
  have kx := Blk.new w 34 #[.string name, .slice a1 ss.length c1, .slice a2 ms.length c2]
  have HR := Lib.hid hR
  have HSS := Lib.hid hss
  have HMS := Lib.hid hms
  have HSN := Lib.hid hsn
  have HBB := Lib.hid hB
  have HB := Lib.hid hb
  have KX := Lib.hid kx
  clear hR hss hms hsn hB
  obtain ⟨t0, t1, t2⟩ := kx.all
  go_enter Tryz.func64, Tryz.ntmps64
  go_upto_region 1 with fail
  generalize w.alloc (.cells #[.string name, .slice a1 ss.length c1, .slice a2 ms.length c2] 34) = W at *
  clear hb kx
  have nm := rname07_any W name hnm
  cases hc0 : nameB name with
  | false =>
    have hx : nmB name.data.toList = false := hc0
    rw [hx] at nm
    obtain rfl : R = false := pc_false HR.out fun e => by have h := (pcB_iff.1 e).1; rw [hc0] at h; cases h
    have NM := Lib.hid nm
    clear nm hc0 hx
    go_wp2_with fail
    refine NM.out.mono ?_
    rintro e w3 ⟨rfl, rfl⟩
    clear NM
    go_wp2
    go_ret
    exact ⟨rfl, HB.out⟩
  | true =>
    have hx : nmB name.data.toList = true := hc0
    rw [hx] at nm
    have NM := Lib.hid nm
    have HC0 := Lib.hid hc0
    clear nm hc0 hx
    go_wp2_with fail
    refine NM.out.mono ?_
    rintro e w3 ⟨rfl, rfl⟩
    clear NM
    by_cases hc1 : 1 ≤ ss.length
    case neg =>
      have dd : decide ((ss.length : Int) < 1) = true := decide_eq_true (by omega)
      obtain rfl : R = false := pc_false HR.out fun e => by have := (pcB_iff.1 e).2.1; simp only at this; omega
      go_wp2
      go_ret
      exact ⟨rfl, HB.out⟩
    have dd1 : decide ((ss.length : Int) < 1) = false := decide_eq_false (by omega)
    by_cases hc2 : ss.length ≤ 60
    case neg =>
      have dd : decide ((60 : Int) < (ss.length : Int)) = true := decide_eq_true (by omega)
      obtain rfl : R = false := pc_false HR.out fun e => by exact hc2 (difB_iff.1 (pcB_iff.1 e).2.2.1).2.2
      go_wp2
      go_ret
      exact ⟨rfl, HB.out⟩
    have dd2 : decide ((60 : Int) < (ss.length : Int)) = false := decide_eq_false (by omega)
    by_cases hc3 : ms.length ≤ 60
    case neg =>
      have dd : decide ((60 : Int) < (ms.length : Int)) = true := decide_eq_true (by omega)
      obtain rfl : R = false := pc_false HR.out fun e => by exact hc3 (difB_iff.1 (pcB_iff.1 e).2.2.2).2.2
      go_wp2
      go_ret
      exact ⟨rfl, HB.out⟩
    have dd3 : decide ((60 : Int) < (ms.length : Int)) = false := decide_eq_false (by omega)
    go_wp2_with fail
    clear dd1 dd2 dd3
    go_loopw [3] (fun i wr => ∃ k : Nat, k ≤ ss.length ∧ i = .int .i64 (k : Int) ∧ Hid (difTo id nameB ss k) ∧ ∃ q, wr = W.drewN q) (fun i _ => ss.length - (intOf i).toNat)
    case atStart => exact ⟨0, Nat.zero_le _, rfl, Lib.hid difTo_zero, 0, rfl⟩
    case round =>
      obtain ⟨k, hk, rfl, HT, q, rfl⟩ := hrel
      have hkq := KX.out.drewN q
      have hbq := below_dN HB.out q
      clear t0 t1 t2
      obtain ⟨t0, t1, t2⟩ := hkq.all
      by_cases hlt : k < ss.length
      · obtain ⟨s, hx⟩ : ∃ n, ss[k]? = some n := ⟨_, List.getElem?_eq_getElem hlt⟩
        obtain ⟨g, off, hA, hg, p0⟩ := (HSS.out.below (hbq.mono HBB.out)) k s hx
        have hrt : BtsAt (W.drewN q) B a1 (ss.take k) := fun i y hi => (HSS.out.below (hbq.mono HBB.out)) i y (by
          have hik : i < k := by have := (List.getElem?_eq_some_iff.1 hi).1; rw [List.length_take] at this; omega
          rw [List.getElem?_take, if_pos hik] at hi
          exact hi)
        have hlk : (ss.take k).length = k := by rw [List.length_take]; omega
        have hszn := HSN.out s (List.mem_of_getElem? hx)
        subst hA
        have ib0 : (0 : Int) ≤ (k : Int) := by omega
        have ib1 : (k : Int) < (ss.length : Int) := by omega
        have HX := Lib.hid hx
        have HRT := Lib.hid hrt
        have HLK := Lib.hid hlk
        have HBQ := Lib.hid hbq
        have KQ := Lib.hid hkq
        clear hx hrt hlk hbq hkq
        go_upto_region 6 with fail
        generalize hWq : W.drewN q = W4 at *
        have hnm2 : ∀ n, Calls Tryz.prog 122 #[.string s] (W4.drewN n) fun e w'' => e = .returned (.bool (nameB s)) ∧ ∃ m, w'' = W4.drewN m := fun n => (rname07_any (W4.drewN n) s hszn).mono fun _ _ ⟨h1, h2⟩ => ⟨h1, n, h2.symm⟩
        cases hn : nameB s with
        | false =>
          rw [hn] at hnm2
          have HNM := Lib.hid hnm2
          obtain rfl : R = false := pc_false HR.out fun e => by have h := (pcB_iff.1 e).2.2.1; rw [difB_bad HX.out hn] at h; cases h
          clear hnm2 hn
          go_quiet ((go_at_call 122; exact HNM.out _))
          go_wp2
          go_ret
          exact ⟨rfl, below_dN HBQ.out nq⟩
        | true =>
          rw [hn] at hnm2
          have HNM := Lib.hid hnm2
          have HN1 := Lib.hid hn
          clear hnm2 hn
          have hsl := fun W => slice_to (P := Tryz.prog) 31 9 1 Tryz.underlying31 (by kernel_rfl) (some ⟨g, off, none⟩) ss.length c1 k (by omega) W
          obtain ⟨b, hq⟩ : ∃ b : Bool, b = true ↔ s ∈ ss.take k := by
            by_cases h : s ∈ ss.take k
            · exact ⟨true, by simp only [h]⟩
            · exact ⟨false, by simp only [h]; decide⟩
          have hri : ∀ n, Calls Tryz.prog 130 #[.slice (some ⟨g, off, none⟩) k c1, .string s] (W4.drewN n) fun e w'' => e = .returned (.bool b) ∧ ∃ m, w'' = W4.drewN m := fun n => by
            have h := rin_any (W4.drewN n) B (some ⟨g, off, none⟩) (ss.take k) c1 (HRT.out.below (below_dN (Below.refl _ _) n)) (by rw [HLK.out]; omega) s b hq
            rw [HLK.out] at h
            exact h.mono fun _ _ ⟨h1, h2⟩ => ⟨h1, n, h2.symm⟩
          have HRI := Lib.hid hri
          have HQ := Lib.hid hq
          clear hri hq
          go_quiet (first | (go_at_call 122; exact HNM.out _) | (go_at_call 130; exact HRI.out _))
          cases b with
          | true =>
            obtain rfl : R = false := pc_false HR.out fun e => by have h := (pcB_iff.1 e).2.2.1; rw [difB_twice (key := id) HX.out (by rw [map_id_]; exact HQ.out.1 rfl)] at h; cases h
            go_wp2
            go_ret
            exact ⟨rfl, below_dN HBQ.out nq⟩
          | false =>
            have HT2 : Hid (difTo id nameB ss (k + 1)) := Lib.hid (difTo_next HT.out HX.out HN1.out (by rw [map_id_]; exact fun h => by have := HQ.out.2 h; cases this))
            subst hWq
            clear t0 t1 t2 HRT
            go_wp2
            go_roundw
            case rel => exact ⟨k + 1, by omega, by go_num, HT2, q + nq, rfl⟩
            case measure => simp [intOf]; omega
      · obtain rfl : k = ss.length := by omega
        have HD1 : Hid (difB id nameB ss = true) := Lib.hid (by rw [difB_end HT.out]; exact decide_eq_true (by omega))
        have HBQ := Lib.hid hbq
        have KQ := Lib.hid hkq
        clear HT hbq hkq
        generalize W.drewN q = W5 at *
        go_wp2_with fail
        go_loopw [4] (fun i wr => ∃ k : Nat, k ≤ ms.length ∧ i = .int .i64 (k : Int) ∧ Hid (difTo id (mvB ss.length) ms k) ∧ Hid (Blk wr w.heap.size 34 #[.string name, .slice a1 ss.length c1, .slice a2 ms.length c2]) ∧ Hid (Below w.heap.size w wr)) (fun i _ => ms.length - (intOf i).toNat)
        case atStart => exact ⟨0, Nat.zero_le _, rfl, Lib.hid difTo_zero, KQ, HBQ⟩
        case round =>
          clear t0 t1 t2 KQ HBQ
          obtain ⟨k, hk, rfl, HT, K5, HB5⟩ := hrel
          obtain ⟨t0, t1, t2⟩ := K5.out.all
          by_cases hlt : k < ms.length
          · obtain ⟨x, hx⟩ : ∃ n, ms[k]? = some n := ⟨_, List.getElem?_eq_getElem hlt⟩
            obtain ⟨g, off, hA, hg, p0, p1⟩ := (HMS.out.below (HB5.out.mono HBB.out)) k x hx
            subst hA
            obtain ⟨z1, z2⟩ := x
            simp only at p0 p1
            have ib0 : (0 : Int) ≤ (k : Int) := by omega
            have ib1 : (k : Int) < (ms.length : Int) := by omega
            have HX := Lib.hid hx
            clear hx
            have hb6 := HB5.out.alloc HB5.out.size (.cells #[.int .i64 z1, .int .i64 z2] 76)
            have k6 := K5.out.alloc (.cells #[.int .i64 z1, .int .i64 z2] 76)
            have kn := Blk.new wr 76 #[.int .i64 z1, .int .i64 z2]
            go_upto_region 12 with fail
            clear t0 t1 t2 p0 p1
            generalize wr.alloc (.cells #[.int .i64 z1, .int .i64 z2] 76) = W6 at *
            generalize wr.heap.size = gx at *
            have HB6 := Lib.hid hb6
            have K6 := Lib.hid k6
            have KN := Lib.hid kn
            clear hb6 k6 kn K5 HB5
            obtain ⟨t0, t1, t2⟩ := K6.out.all
            obtain ⟨u0, u1, u2⟩ := KN.out.all
            by_cases hm0 : 0 ≤ z1
            case neg =>
              have de : decide (z1 < 0) = true := decide_eq_true (by omega)
              have dn : z1 < 0 := by omega
              obtain rfl : R = false := pc_false HR.out fun e => by have h := (pcB_iff.1 e).2.2.2; rw [difB_bad HX.out (by rw [Bool.eq_false_iff]; intro h2; have h3 := mvB_iff.1 h2; simp only at h3; omega)] at h; cases h
              go_wp2
              go_ret
              exact ⟨rfl, HB6.out⟩
            have de0 : decide (z1 < 0) = false := decide_eq_false (by omega)
            have dn0 : ¬ (z1 < 0) := by omega
            by_cases hm1 : z1 < (ss.length : Int)
            case neg =>
              have de : decide ((ss.length : Int) ≤ z1) = true := decide_eq_true (by omega)
              have dn : (ss.length : Int) ≤ z1 := by omega
              obtain rfl : R = false := pc_false HR.out fun e => by have h := (pcB_iff.1 e).2.2.2; rw [difB_bad HX.out (by rw [Bool.eq_false_iff]; intro h2; have h3 := mvB_iff.1 h2; simp only at h3; omega)] at h; cases h
              go_wp2
              go_ret
              exact ⟨rfl, HB6.out⟩
            have de1 : decide ((ss.length : Int) ≤ z1) = false := decide_eq_false (by omega)
            have dn1 : ¬ ((ss.length : Int) ≤ z1) := by omega
            by_cases hm2 : 0 ≤ z2
            case neg =>
              have de : decide (z2 < 0) = true := decide_eq_true (by omega)
              have dn : z2 < 0 := by omega
              obtain rfl : R = false := pc_false HR.out fun e => by have h := (pcB_iff.1 e).2.2.2; rw [difB_bad HX.out (by rw [Bool.eq_false_iff]; intro h2; have h3 := mvB_iff.1 h2; simp only at h3; omega)] at h; cases h
              go_wp2
              go_ret
              exact ⟨rfl, HB6.out⟩
            have de2 : decide (z2 < 0) = false := decide_eq_false (by omega)
            have dn2 : ¬ (z2 < 0) := by omega
            by_cases hm3 : z2 < (ss.length : Int)
            case neg =>
              have de : decide ((ss.length : Int) ≤ z2) = true := decide_eq_true (by omega)
              have dn : (ss.length : Int) ≤ z2 := by omega
              obtain rfl : R = false := pc_false HR.out fun e => by have h := (pcB_iff.1 e).2.2.2; rw [difB_bad HX.out (by rw [Bool.eq_false_iff]; intro h2; have h3 := mvB_iff.1 h2; simp only at h3; omega)] at h; cases h
              go_wp2
              go_ret
              exact ⟨rfl, HB6.out⟩
            have de3 : decide ((ss.length : Int) ≤ z2) = false := decide_eq_false (by omega)
            have dn3 : ¬ ((ss.length : Int) ≤ z2) := by omega
            by_cases hm4 : z1 ≠ z2
            case neg =>
              have de : (z1 == z2) = true := beq_iff_eq.2 (by omega)
              have dn : z1 = z2 := by omega
              obtain rfl : R = false := pc_false HR.out fun e => by have h := (pcB_iff.1 e).2.2.2; rw [difB_bad HX.out (by rw [Bool.eq_false_iff]; intro h2; have h3 := mvB_iff.1 h2; simp only at h3; omega)] at h; cases h
              go_wp2
              go_ret
              exact ⟨rfl, HB6.out⟩
            have de4 : (z1 == z2) = false := beq_eq_false_iff_ne.2 hm4
            have dn4 : ¬ (z1 = z2) := by omega
            go_wp2_with fail
            clear de0 de1 de2 de3 de4 dn0 dn1 dn2 dn3 dn4 t0 t1 t2 u0 u1 u2
            go_loopw [6] (fun i wi => ∃ j : Nat, j ≤ k ∧ i = .int .i64 (j : Int) ∧ Hid ((z1, z2) ∉ ms.take j) ∧ ∃ q, wi = W6.drewN q) (fun i _ => k - (intOf i).toNat)
            case atStart => exact ⟨0, Nat.zero_le _, rfl, Lib.hid (by simp), 0, rfl⟩
            case round =>
              obtain ⟨j, hj, rfl, HI, q, rfl⟩ := hrel
              have hbq := below_dN HB6.out q
              have hkq := K6.out.drewN q
              have hnq := KN.out.drewN q
              obtain ⟨t0, t1, t2⟩ := hkq.all
              obtain ⟨u0, u1, u2⟩ := hnq.all
              by_cases hjk : j < k
              · obtain ⟨z, hz⟩ : ∃ n, ms[j]? = some n := ⟨_, List.getElem?_eq_getElem (by omega)⟩
                obtain ⟨g2, off2, hA2, hg2, q0, q1⟩ := (HMS.out.below (hbq.mono HBB.out)) j z hz
                injection hA2 with hA2
                injection hA2 with r1 r2 r3
                subst r1 r2
                obtain ⟨y1, y2⟩ := z
                simp only at q0 q1
                have jb0 : (0 : Int) ≤ (j : Int) := by omega
                have jb1 : (j : Int) < (ms.length : Int) := by omega
                have HZ := Lib.hid hz
                clear hz hbq hkq hnq
                by_cases hzz : y1 = z1 ∧ y2 = z2
                · have heq : ∀ W, (Op.equalIn 10000 76 (.agg #[.int .i64 y1, .int .i64 y2]) (.agg #[.int .i64 z1, .int .i64 z2])).run Tryz.prog W = .ok true W := fun W => by rw [eq_ky, decide_eq_true hzz]
                  obtain rfl : R = false := pc_false HR.out fun e => by
                    have h := (pcB_iff.1 e).2.2.2
                    rw [difB_twice (key := id) HX.out (by rw [map_id_]; exact List.mem_of_getElem? (i := j) (by rw [List.getElem?_take, if_pos hjk, HZ.out, hzz.1, hzz.2]; rfl))] at h
                    cases h
                  clear hzz
                  go_wp2_with fail
                  generalize hW : W6.drewN q = W7 at *
                  go_quiet (fail)
                  subst hW
                  go_wp2
                  go_ret
                  exact ⟨rfl, below_dN (below_dN HB6.out q) nq⟩
                · have heq : ∀ W, (Op.equalIn 10000 76 (.agg #[.int .i64 y1, .int .i64 y2]) (.agg #[.int .i64 z1, .int .i64 z2])).run Tryz.prog W = .ok false W := fun W => by rw [eq_ky, decide_eq_false hzz]
                  have HI2 : Hid ((z1, z2) ∉ ms.take (j + 1)) := Lib.hid (by
                    rw [take_snoc' HZ.out]
                    simp only [List.mem_append, List.mem_singleton, Prod.mk.injEq, not_or]
                    exact ⟨HI.out, fun h => hzz ⟨h.1.symm, h.2.symm⟩⟩)
                  clear hzz
                  go_wp2_with fail
                  generalize hW : W6.drewN q = W7 at *
                  go_quiet (fail)
                  subst hW
                  clear t0 t1 t2 u0 u1 u2 q0 q1
                  go_wp2
                  go_roundw
                  case rel => exact ⟨j + 1, by omega, by go_num, HI2, q + nq, rfl⟩
                  case measure => simp [intOf]; omega
              · obtain rfl : j = k := by omega
                have HT2 : Hid (difTo id (mvB ss.length) ms (j + 1)) := Lib.hid (difTo_next HT.out HX.out (mvB_iff.2 ⟨hm0, hm1, hm2, hm3, hm4⟩) (by rw [map_id_]; exact HI.out))
                have HBQ := Lib.hid hbq
                have KQ := Lib.hid hkq
                clear hbq hkq hnq t0 t1 t2 u0 u1 u2
                go_wp2
                go_roundw
                case rel => exact ⟨j + 1, by omega, by go_num, HT2, KQ, HBQ⟩
                case measure => simp [intOf]; omega
          · obtain rfl : k = ms.length := by omega
            have hfin : R = true := by
              rw [← HR.out]
              exact pcB_iff.2 ⟨HC0.out, hc1, HD1.out, by rw [difB_end HT.out]; exact decide_eq_true (by omega)⟩
            subst hfin
            go_wp2
            go_ret
            exact ⟨rfl, HB5.out⟩
end Go.Proofs.YtknchlpcpgflkaaGreatDoor
