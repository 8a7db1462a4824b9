/- Reading a domain as an argument; the reference's Few of a domain: what it promises. Reading a procedure as an argument. -/
import Derived.Test.YtebdkmlganalaaaGreatDoorKTopAccruedGBR
import Derived.Test.YtebdkmlganalaaaGreatDoorKTopAccruedGBW
import Derived.Test.YtebdkmlganalaaaGreatDoorKTopAccruedGBA
import Derived.Test.YtebdkmlganalaaaGreatDoorKTopAccruedGAS
namespace Go.Proofs.YtebdkmlganalaaaGreatDoor
open Go.RowKit Go.ChangeShapes Go.WideShapes Go.Deep

section
variable {H : Type} {enc : TypeId × Value → H} {w : World} {base : Nat} {spare : Nat → Bool} {held : Bool} {fuel len cap : Nat} {A : Option Addr} {x : DataW H × List MemPlace}
set_option maxRecDepth 100000 in
theorem facts_trod (hf : DataW.trod enc Tryz.prog w base spare held fuel 35 [.slice A len cap] = some x) : ∃ l : List Fc, l.length = len ∧ FcsAt w w.heap.size A l ∧ (∀ f ∈ l, f.name.size ≤ 9223372036854775807) ∧ len ≤ 9223372036854775807 := by
  have hlen := slice_len Tryz.underlying35 hf
  have hs := slice_elems Tryz.underlying35 (k := 4) (by kernel_rfl) (by decide) hf
  obtain ⟨l, hl, hp⟩ := list_of (p := fun i (v : Fc) => (∃ g off, A = some ⟨g, off, none⟩ ∧ g < w.heap.size ∧ w.cell? ⟨g, off + i * 4, none⟩ = some (.string v.name) ∧ w.cell? ⟨g, off + i * 4 + 1, none⟩ = some (.int .i64 v.kind) ∧ w.cell? ⟨g, off + i * 4 + 2, none⟩ = some (.int .i64 v.lo) ∧ w.cell? ⟨g, off + i * 4 + 3, none⟩ = some (.int .i64 v.hi)) ∧ v.name.size ≤ 9223372036854775807) len (fun i hi => by
    obtain ⟨g, off, n, vs, y, hA, hg, hvl, hc, ht'⟩ := hs i hi
    match vs, hvl with
    | [v0, v1, v2, v3], _ =>
      obtain ⟨xs, n, _, hx, hl, hlen, hfl⟩ := DataW.trod_struct Tryz.underlying72 ht'
      have hlen2 : xs.length = 4 := hlen
      have gg : ∀ i, i < xs.length → ∃ y, xs[i]? = some y := fun i hi => ⟨_, List.getElem?_eq_getElem hi⟩
      obtain ⟨y0, e0⟩ := gg 0 (by omega)
      obtain ⟨y1, e1⟩ := gg 1 (by omega)
      obtain ⟨y2, e2⟩ := gg 2 (by omega)
      obtain ⟨y3, e3⟩ := gg 3 (by omega)
      obtain ⟨s, h0, _, w0⟩ := DataW.trod_string Tryz.underlying9 ((hfl 0 _ rfl).trans e0)
      obtain ⟨k1, h1, _, _⟩ := DataW.trod_int Tryz.underlying3 ((hfl 1 _ rfl).trans e1)
      obtain ⟨k2, h2, _, _⟩ := DataW.trod_int Tryz.underlying3 ((hfl 2 _ rfl).trans e2)
      obtain ⟨k3, h3, _, _⟩ := DataW.trod_int Tryz.underlying3 ((hfl 3 _ rfl).trans e3)
      have q0 : v0 = .string s := by injection h0
      have q1 : v1 = .int .i64 k1 := by injection h1
      have q2 : v2 = .int .i64 k2 := by injection h2
      have q3 : v3 = .int .i64 k3 := by injection h3
      subst q0 q1 q2 q3
      exact ⟨⟨s, k1, k2, k3⟩, ⟨g, off, hA, hg, hc 0 _ rfl, hc 1 _ rfl, hc 2 _ rfl, hc 3 _ rfl⟩, w0⟩)
  exact ⟨l, hl, fun i v h => (hp i v h).1, fun s h => by obtain ⟨i, hi⟩ := List.getElem?_of_mem h; exact (hp i s hi).2, hlen⟩
/-- What a domain at an argument gives. -/
def DmIn (w : World) (z : List Fc × Option Addr × Nat) : Prop := DmAt w w.heap.size z.1 z.2.1 ∧ z.1.length ≤ 9223372036854775807
set_option maxRecDepth 100000 in
theorem domain_at {v : Value} {d : DataW H} {p : List MemPlace} {cs : Array Value} (hv : v = .agg cs) (hsz : cs.size = Tryz.prog.cellsOf 37)
    (h : DataW.Trod enc Tryz.prog w base spare held 37 v d p) : ∃ z : List Fc × Option Addr × Nat, v = .agg #[.slice z.2.1 z.1.length z.2.2] ∧ DmIn w z := by
  subst hv
  have h2 : Tryz.prog.cellsOf 37 = 1 := by kernel_rfl
  rw [h2] at hsz
  obtain ⟨fuel, hf⟩ := h
  have hc : (Value.agg cs).cells.toList = cs.toList := rfl
  rw [hc] at hf
  obtain ⟨c0, hcs⟩ : ∃ c0, cs = #[c0] := by
    obtain ⟨l⟩ := cs
    match l, hsz with
    | [c0], _ => exact ⟨c0, rfl⟩
  subst hcs
  obtain ⟨xs, n, _, hx, hl, hlen, hfl⟩ := DataW.trod_struct Tryz.underlying37 hf
  have g : ∀ i, i < xs.length → ∃ y, xs[i]? = some y := fun i hi => ⟨_, List.getElem?_eq_getElem hi⟩
  have hlen2 : xs.length = 1 := hlen
  obtain ⟨y0, e0⟩ := g 0 (by omega)
  have t0 : DataW.trod enc Tryz.prog w base spare held n 35 [c0] = some y0 := (hfl 0 _ rfl).trans e0
  obtain ⟨A0, l0, q0, rfl⟩ := slice_form Tryz.underlying35 t0
  obtain ⟨fs, hfs, b0, n0, m0⟩ := facts_trod t0
  subst hfs
  exact ⟨(fs, A0, q0), rfl, ⟨b0, n0⟩, m0⟩
end

set_option maxRecDepth 100000 in
set_option maxHeartbeats 4000000 in
theorem few6_any (w : World) (B : Nat) (d : List Fc) (A : Option Addr) (c : Nat) (h : DmAt w B d A) (hB : B ≤ w.heap.size) (z1 : d.length ≤ 9223372036854775807) (most : Nat) :
    Calls Tryz.prog 8 #[.agg #[.slice A d.length c], .int .i64 (most : Int)] w (FewPost w (d.length ≤ most)) := by
  obtain ⟨n, h1⟩ : ∃ k, d.length = k := ⟨_, rfl⟩
  have H := Lib.hid (h.at_)
  have HB := Lib.hid hB
  have HV := Lib.hid h1
  rw [h1] at z1 ⊢
  obtain ⟨PP, hPP⟩ : ∃ P : Prop, (n ≤ most) = P := ⟨_, rfl⟩
  have hpp : n ≤ most → PP := fun h => hPP ▸ h
  rw [hPP]
  have HPP := Lib.hid hpp
  clear h hB h1 hpp hPP
  have hb := below_self_alloc w (.cells #[.slice A n c] 37)
  have k0 := Blk.new w 37 #[.slice A n c]
  have no : ∀ w', Below w.heap.size w w' → FewPost w PP (.returned (.bool false)) w' := fun w' h => ⟨false, rfl, (fun h => by cases h), h⟩
  have NO := Lib.hid no
  have hfs : FcsAt (w.alloc (.cells #[.slice A n c] 37)) B A d := H.out.below (hb.mono HB.out)
  have HR := Lib.hid hfs
  clear no hfs
  obtain ⟨t0, t1, -⟩ := k0.all
  go_enter Tryz.func8, Tryz.ntmps8
  go_wp2_with fail
  have HB0 := Lib.hid hb
  have K0 := Lib.hid k0
  clear t0 t1 hb k0
  generalize w.alloc (.cells #[.slice A n c] 37) = W0 at *
  go_loop [5] (fun i => ∃ k : Nat, k ≤ n ∧ i = .int .i64 (k : Int)) (fun i => n - (intOf i).toNat)
  case atStart => exact ⟨0, Nat.zero_le _, rfl⟩
  case round =>
    obtain ⟨k, hk, rfl⟩ := hrel
    obtain ⟨t0, t1, -⟩ := K0.out.all
    by_cases hlt : k < n
    · by_cases hm : k < most
      · obtain ⟨x, hx⟩ : ∃ x, d[k]? = some x := ⟨_, List.getElem?_eq_getElem (by rw [HV.out]; exact hlt)⟩
        obtain ⟨ga, oa, hA, hga, p0, p1, p2, p3⟩ := HR.out k x hx
        subst hA
        obtain ⟨xn, xk, xl, xh⟩ := x
        simp only at p0
        clear hx p1 p2 p3
        by_cases q5 : (100 : Int) < (xn.size : Int)
        · have d6 : decide ((100 : Int) < (xn.size : Int)) = true := decide_eq_true q5
          go_wp2
          go_ret
          exact NO.out _ HB0.out
        · have d6 : decide ((100 : Int) < (xn.size : Int)) = false := decide_eq_false q5
          go_wp2
          go_round
          case rel => exact ⟨k + 1, by omega, by go_num⟩
          case measure => simp [intOf]; omega
      · have dd : decide ((n : Int) ≤ (most : Int)) = false := decide_eq_false (by omega)
        have _dn : ¬ n ≤ most := by omega
        go_wp2
        go_ret
        exact ⟨_, rfl, (by simp), HB0.out⟩
    · obtain rfl : n = k := by omega
      by_cases hkm : n ≤ most
      · have dd : decide ((n : Int) ≤ (most : Int)) = true := decide_eq_true (by omega)
        go_wp2
        go_ret
        exact ⟨_, rfl, fun _ => HPP.out hkm, HB0.out⟩
      · have dd : decide ((n : Int) ≤ (most : Int)) = false := decide_eq_false (by omega)
        go_wp2
        go_ret
        exact ⟨_, rfl, (by simp), HB0.out⟩
end Go.Proofs.YtebdkmlganalaaaGreatDoor

namespace Go.Proofs.YtebdkmlganalaaaGreatDoor
open Go.RowKit Go.ChangeShapes Go.WideShapes Go.Deep

section
variable {H : Type} {enc : TypeId × Value → H} {w : World} {base : Nat} {spare : Nat → Bool} {held : Bool} {fuel len cap : Nat} {A : Option Addr} {x : DataW H × List MemPlace}
set_option maxRecDepth 100000 in
theorem moves_trod (hf : DataW.trod enc Tryz.prog w base spare held fuel 32 [.slice A len cap] = some x) : ∃ S : List I2, S.length = len ∧ StopsAt w w.heap.size A S ∧ len ≤ 9223372036854775807 := by
  have hlen := slice_len Tryz.underlying32 hf
  have hs := slice_elems Tryz.underlying32 (k := 2) (by kernel_rfl) (by decide) hf
  obtain ⟨l, hl, hp⟩ := list_of (p := fun i (s : I2) => ∃ g off, A = some ⟨g, off, none⟩ ∧ g < w.heap.size ∧ w.cell? ⟨g, off + i * 2, none⟩ = some (.int .i64 s.1) ∧ w.cell? ⟨g, off + i * 2 + 1, none⟩ = some (.int .i64 s.2)) len (fun i hi => by
    obtain ⟨g, off, n, vs, y, hA, hg, hvl, hc, ht'⟩ := hs i hi
    match vs, hvl with
    | [v0, v1], _ =>
      obtain ⟨xs, n, _, hx, hl, hlen, hfl⟩ := DataW.trod_array Tryz.underlying90 ht'
      have c1 : Tryz.prog.cellsOf 3 = 1 := by kernel_rfl
      have gg : ∀ i, i < xs.length → ∃ y, xs[i]? = some y := fun i hi => ⟨_, List.getElem?_eq_getElem hi⟩
      obtain ⟨y0, e0⟩ := gg 0 (by omega)
      obtain ⟨y1, e1⟩ := gg 1 (by omega)
      have t0 := (hfl 0 (by decide)).trans e0
      have t1 := (hfl 1 (by decide)).trans e1
      rw [c1] at t0 t1
      obtain ⟨s, h0, _, _⟩ := DataW.trod_int Tryz.underlying3 t0
      obtain ⟨d, h1, _, _⟩ := DataW.trod_int Tryz.underlying3 t1
      have q0 : v0 = .int .i64 s := by simpa using h0
      have q1 : v1 = .int .i64 d := by simpa using h1
      subst q0 q1
      exact ⟨(s, d), g, off, hA, hg, hc 0 _ rfl, hc 1 _ rfl⟩)
  exact ⟨l, hl, hp, hlen⟩
/-- What a procedure at an argument gives. -/
def PcIn (w : World) (z : Pc × PcX) : Prop := PcAt w w.heap.size z.1 z.2 ∧ z.1.ss.length ≤ 9223372036854775807 ∧ z.1.ms.length ≤ 9223372036854775807
set_option maxRecDepth 100000 in
theorem procedure_at {v : Value} {d : DataW H} {p : List MemPlace} {cs : Array Value} (hv : v = .agg cs) (hsz : cs.size = Tryz.prog.cellsOf 34)
    (h : DataW.Trod enc Tryz.prog w base spare held 34 v d p) : ∃ z : Pc × PcX, v = .agg (pcC z.1 z.2) ∧ PcIn w z := by
  subst hv
  have h2 : Tryz.prog.cellsOf 34 = 3 := by kernel_rfl
  rw [h2] at hsz
  obtain ⟨fuel, hf⟩ := h
  have hc : (Value.agg cs).cells.toList = cs.toList := rfl
  rw [hc] at hf
  obtain ⟨c0, c1, c2, hcs⟩ : ∃ c0 c1 c2, cs = #[c0, c1, c2] := by
    obtain ⟨l⟩ := cs
    match l, hsz with
    | [c0, c1, c2], _ => exact ⟨c0, c1, c2, rfl⟩
  subst hcs
  obtain ⟨xs, n, _, hx, hl, hlen, hfl⟩ := DataW.trod_struct Tryz.underlying34 hf
  have g : ∀ i, i < xs.length → ∃ y, xs[i]? = some y := fun i hi => ⟨_, List.getElem?_eq_getElem hi⟩
  have hlen2 : xs.length = 3 := hlen
  obtain ⟨y0, e0⟩ := g 0 (by omega)
  obtain ⟨y1, e1⟩ := g 1 (by omega)
  obtain ⟨y2, e2⟩ := g 2 (by omega)
  obtain ⟨k0, h0, _, w0⟩ := DataW.trod_string Tryz.underlying9 ((hfl 0 _ rfl).trans e0)
  have t1 : DataW.trod enc Tryz.prog w base spare held n 31 [c1] = some y1 := (hfl 1 _ rfl).trans e1
  have t2 : DataW.trod enc Tryz.prog w base spare held n 32 [c2] = some y2 := (hfl 2 _ rfl).trans e2
  obtain ⟨A1, l1, q1, rfl⟩ := slice_form Tryz.underlying31 t1
  obtain ⟨A2, l2, q2, rfl⟩ := slice_form Tryz.underlying32 t2
  have r0 : c0 = .string k0 := by injection h0
  subst r0
  obtain ⟨ss, hss, b1, n1, m1⟩ := strs_trod Tryz.underlying31 t1
  obtain ⟨ms, hms, b2, m2⟩ := moves_trod t2
  subst hss hms
  exact ⟨(⟨k0, ss, ms⟩, ⟨A1, q1, A2, q2⟩), rfl, ⟨b1, b2, w0, n1⟩, m1, m2⟩
end
end Go.Proofs.YtebdkmlganalaaaGreatDoor
