/- Reading a matter as an argument. TopAccrued: the steps as an argument. TopAccrued: the names of rights. TopAccrued: the look at the limits' sizes. -/
import Derived.Test.YtebdkmlganalaaaGreatDoorKTopAccruedGAR
import Derived.Test.YtebdkmlganalaaaGreatDoorKTopAccruedGBI
import Derived.ProofKit
import Derived.Test.YtebdkmlganalaaaGreatDoorKTopAccruedTy
import Derived.BigQuiet
import Derived.Test.YtebdkmlganalaaaGreatDoorKTopAccruedGBL
namespace Go.Proofs.YtebdkmlganalaaaGreatDoor
open Go.RowKit Go.ChangeShapes Go.WideShapes Go.Deep

section
variable {H : Type} {enc : TypeId × Value → H} {P : Program} {w : World} {base : Nat} {spare : Nat → Bool} {held : Bool}
/-- The elements of a slice, each by its cells. -/
theorem slice_elems {t e : TypeId} {fuel len cap k : Nat} {A : Option Addr} {x : DataW H × List MemPlace} (ht : P.underlying t = some (.slice e)) (hC : P.cellsOf e = k) (hk : 0 < k)
    (h : DataW.trod enc P w base spare held fuel t [.slice A len cap] = some x) :
    ∀ i, i < len → ∃ (g off n : Nat) (vs : List Value) (y : DataW H × List MemPlace), A = some ⟨g, off, none⟩ ∧ g < w.heap.size ∧ vs.length = k ∧ (∀ j v, vs[j]? = some v → w.cell? ⟨g, off + i * k + j, none⟩ = some v) ∧ DataW.trod enc P w base spare held n e vs = some y := by
  intro i hi
  rcases open_slice ht h with ⟨h0, _⟩ | ⟨a, len', cap', m, n, D, Pl, hcs, hb, hl, hm, hmm, hx, hall⟩
  · injection h0 with h0
    injection h0 with _ h1 _
    omega
  · injection hcs with hcs _
    injection hcs with hA hle hca
    subst hA hle hca
    rw [hC] at hall
    obtain ⟨g, off, spot⟩ := a
    have hspot : spot = none := by
      obtain ⟨cs0, hc0, _⟩ := hall 0 (by rw [hmm]; split <;> omega)
      obtain ⟨_, hcl0, hat0⟩ := World.cells?_some hc0
      have h1 := hat0 0 hk
      rw [List.getElem?_eq_getElem (by omega), Go.Deep.add_add] at h1
      simpa [Addr.add] using World.cell?_spot h1
    subst hspot
    obtain ⟨cs', hc, ht'⟩ := hall i (by rw [hmm]; split <;> omega)
    obtain ⟨_, hcl, hat⟩ := World.cells?_some hc
    have hcell : ∀ j v, cs'[j]? = some v → w.cell? ⟨g, off + i * k + j, none⟩ = some v := fun j v hv => by
      have hj : j < k := by rw [← hcl]; exact (List.getElem?_eq_some_iff.1 hv).1
      have h1 := hat j hj
      rw [hv, Go.Deep.add_add] at h1
      have h2 := spot_none h1
      rw [h2] at h1
      have h3 : off + (i * k + j) = off + i * k + j := by omega
      rw [h3] at h1
      exact h1
    have hlt : g < w.heap.size := by
      have h1 := hcell 0 (cs'[0]'(by omega)) (List.getElem?_eq_getElem (by omega))
      exact World.block_lt_of_cell? w ⟨g, off + i * k + 0, none⟩ h1
    exact ⟨g, off, n, cs', _, rfl, hlt, hcl, hcell, ht'⟩
end
section
variable {H : Type} {enc : TypeId × Value → H} {w : World} {base : Nat} {spare : Nat → Bool} {held : Bool} {fuel len cap : Nat} {A : Option Addr} {x : DataW H × List MemPlace}
set_option maxRecDepth 100000 in
theorem ints_trod {t : TypeId} (ht : Tryz.prog.underlying t = some (.slice 3)) (hf : DataW.trod enc Tryz.prog w base spare held fuel t [.slice A len cap] = some x) : ∃ l : List Int, l.length = len ∧ IntsAt w w.heap.size A l ∧ len ≤ 9223372036854775807 := by
  have hlen := slice_len ht hf
  have hs := slice_elems ht (k := 1) (by kernel_rfl) (by decide) hf
  obtain ⟨l, hl, hp⟩ := list_of (p := fun i (v : Int) => ∃ g off, A = some ⟨g, off, none⟩ ∧ g < w.heap.size ∧ w.cell? ⟨g, off + i, none⟩ = some (.int .i64 v)) len (fun i hi => by
    obtain ⟨g, off, n, vs, y, hA, hg, hvl, hc, ht'⟩ := hs i hi
    match vs, hvl with
    | [v0], _ =>
      obtain ⟨v, h0, _, _⟩ := DataW.trod_int Tryz.underlying3 ht'
      have q0 : v0 = .int .i64 v := by injection h0
      subst q0
      have := hc 0 _ rfl
      rw [Nat.mul_one, Nat.add_zero] at this
      exact ⟨v, g, off, hA, hg, this⟩)
  exact ⟨l, hl, hp, hlen⟩
set_option maxRecDepth 100000 in
theorem strs_trod {t : TypeId} (ht : Tryz.prog.underlying t = some (.slice 9)) (hf : DataW.trod enc Tryz.prog w base spare held fuel t [.slice A len cap] = some x) : ∃ l : List ByteArray, l.length = len ∧ BtsAt w w.heap.size A l ∧ (∀ s ∈ l, s.size ≤ 9223372036854775807) ∧ len ≤ 9223372036854775807 := by
  have hlen := slice_len ht hf
  have hs := slice_elems ht (k := 1) (by kernel_rfl) (by decide) hf
  obtain ⟨l, hl, hp⟩ := list_of (p := fun i (v : ByteArray) => (∃ g off, A = some ⟨g, off, none⟩ ∧ g < w.heap.size ∧ w.cell? ⟨g, off + i, none⟩ = some (.string v)) ∧ v.size ≤ 9223372036854775807) len (fun i hi => by
    obtain ⟨g, off, n, vs, y, hA, hg, hvl, hc, ht'⟩ := hs i hi
    match vs, hvl with
    | [v0], _ =>
      obtain ⟨v, h0, _, w0⟩ := DataW.trod_string Tryz.underlying9 ht'
      have q0 : v0 = .string v := by injection h0
      subst q0
      have := hc 0 _ rfl
      rw [Nat.mul_one, Nat.add_zero] at this
      exact ⟨v, ⟨g, off, hA, hg, this⟩, w0⟩)
  exact ⟨l, hl, fun i v h => (hp i v h).1, fun s h => by obtain ⟨i, hi⟩ := List.getElem?_of_mem h; exact (hp i s hi).2, hlen⟩
set_option maxRecDepth 100000 in
theorem rts_trod (hf : DataW.trod enc Tryz.prog w base spare held fuel 24 [.slice A len cap] = some x) : ∃ l : List Rt, l.length = len ∧ RtsAt w w.heap.size A l ∧ (∀ r ∈ l, r.1.size ≤ 9223372036854775807) ∧ len ≤ 9223372036854775807 := by
  have hlen := slice_len Tryz.underlying24 hf
  have hs := slice_elems Tryz.underlying24 (k := 2) (by kernel_rfl) (by decide) hf
  obtain ⟨l, hl, hp⟩ := list_of (p := fun i (v : Rt) => (∃ g off, A = some ⟨g, off, none⟩ ∧ g < w.heap.size ∧ w.cell? ⟨g, off + i * 2, none⟩ = some (.string v.1) ∧ w.cell? ⟨g, off + i * 2 + 1, none⟩ = some (.int .i64 v.2)) ∧ v.1.size ≤ 9223372036854775807) len (fun i hi => by
    obtain ⟨g, off, n, vs, y, hA, hg, hvl, hc, ht'⟩ := hs i hi
    match vs, hvl with
    | [v0, v1], _ =>
      obtain ⟨xs, n, _, hx, hl, hlen, hfl⟩ := DataW.trod_struct Tryz.underlying53 ht'
      have hlen2 : xs.length = 2 := hlen
      have gg : ∀ i, i < xs.length → ∃ y, xs[i]? = some y := fun i hi => ⟨_, List.getElem?_eq_getElem hi⟩
      obtain ⟨y0, e0⟩ := gg 0 (by omega)
      obtain ⟨y1, e1⟩ := gg 1 (by omega)
      obtain ⟨s, h0, _, w0⟩ := DataW.trod_string Tryz.underlying9 ((hfl 0 _ rfl).trans e0)
      obtain ⟨d, h1, _, _⟩ := DataW.trod_int Tryz.underlying3 ((hfl 1 _ rfl).trans e1)
      have q0 : v0 = .string s := by injection h0
      have q1 : v1 = .int .i64 d := by injection h1
      subst q0 q1
      exact ⟨(s, d), ⟨g, off, hA, hg, hc 0 _ rfl, hc 1 _ rfl⟩, w0⟩)
  exact ⟨l, hl, fun i v h => (hp i v h).1, fun s h => by obtain ⟨i, hi⟩ := List.getElem?_of_mem h; exact (hp i s hi).2, hlen⟩
set_option maxRecDepth 100000 in
theorem stops_trod (hf : DataW.trod enc Tryz.prog w base spare held fuel 64 [.slice A len cap] = some x) : ∃ S : List Stp2, S.length = len ∧ StopsAt w w.heap.size A S ∧ len ≤ 9223372036854775807 := by
  have hlen := slice_len Tryz.underlying64 hf
  have hs := slice_elems Tryz.underlying64 (k := 2) (by kernel_rfl) (by decide) hf
  obtain ⟨l, hl, hp⟩ := list_of (p := fun i (s : Stp2) => ∃ g off, A = some ⟨g, off, none⟩ ∧ g < w.heap.size ∧ w.cell? ⟨g, off + i * 2, none⟩ = some (.int .i64 s.1) ∧ w.cell? ⟨g, off + i * 2 + 1, none⟩ = some (.int .i64 s.2)) len (fun i hi => by
    obtain ⟨g, off, n, vs, y, hA, hg, hvl, hc, ht'⟩ := hs i hi
    match vs, hvl with
    | [v0, v1], _ =>
      obtain ⟨xs, n, _, hx, hl, hlen, hfl⟩ := DataW.trod_struct Tryz.underlying102 ht'
      have hlen2 : xs.length = 2 := hlen
      have gg : ∀ i, i < xs.length → ∃ y, xs[i]? = some y := fun i hi => ⟨_, List.getElem?_eq_getElem hi⟩
      obtain ⟨y0, e0⟩ := gg 0 (by omega)
      obtain ⟨y1, e1⟩ := gg 1 (by omega)
      obtain ⟨s, h0, _, _⟩ := DataW.trod_int Tryz.underlying3 ((hfl 0 _ rfl).trans e0)
      obtain ⟨d, h1, _, _⟩ := DataW.trod_int Tryz.underlying3 ((hfl 1 _ rfl).trans e1)
      have q0 : v0 = .int .i64 s := by injection h0
      have q1 : v1 = .int .i64 d := by injection h1
      subst q0 q1
      exact ⟨(s, d), g, off, hA, hg, hc 0 _ rfl, hc 1 _ rfl⟩)
  exact ⟨l, hl, hp, hlen⟩
set_option maxRecDepth 100000 in
theorem limit_trod {cs : List Value} (hc5 : cs.length = 5) (hf : DataW.trod enc Tryz.prog w base spare held fuel 66 cs = some x) : ∃ x : LmV, cs = [.string x.1.id, .int .i64 x.1.n, .int .i64 x.1.u, .int .i64 x.1.f, .slice x.2.1 x.1.S.length x.2.2] ∧ LmAt w w.heap.size x.2.1 x.1 := by
  match cs, hc5 with
  | [c0, c1, c2, c3, c4], _ =>
    obtain ⟨xs, n, _, hx, hl, hlen, hfl⟩ := DataW.trod_struct Tryz.underlying66 hf
    have g : ∀ i, i < xs.length → ∃ y, xs[i]? = some y := fun i hi => ⟨_, List.getElem?_eq_getElem hi⟩
    have hlen2 : xs.length = 4 := hlen
    obtain ⟨y0, e0⟩ := g 0 (by omega)
    obtain ⟨y1, e1⟩ := g 1 (by omega)
    obtain ⟨y2, e2⟩ := g 2 (by omega)
    obtain ⟨y3, e3⟩ := g 3 (by omega)
    have t0 := (hfl 0 _ rfl).trans e0
    have t1 := (hfl 1 _ rfl).trans e1
    have t2 := (hfl 2 _ rfl).trans e2
    have t3 := (hfl 3 _ rfl).trans e3
    have t1' : DataW.trod enc Tryz.prog w base spare held n 63 [c1, c2] = some y1 := t1
    have t3' : DataW.trod enc Tryz.prog w base spare held n 64 [c4] = some y3 := t3
    obtain ⟨k0, h0, _, w0⟩ := DataW.trod_string Tryz.underlying9 t0
    obtain ⟨k2, h2', _, _⟩ := DataW.trod_int Tryz.underlying3 t2
    have q0 : c0 = .string k0 := by injection h0
    have q3 : c3 = .int .i64 k2 := by injection h2'
    obtain ⟨xs1, n1, _, _, _, hlen1, hfl1⟩ := DataW.trod_struct Tryz.underlying63 t1'
    have g1 : ∀ i, i < xs1.length → ∃ y, xs1[i]? = some y := fun i hi => ⟨_, List.getElem?_eq_getElem hi⟩
    have hlen3 : xs1.length = 2 := hlen1
    obtain ⟨z0, f0⟩ := g1 0 (by omega)
    obtain ⟨z1, f1⟩ := g1 1 (by omega)
    obtain ⟨m0, j0, _, _⟩ := DataW.trod_int Tryz.underlying3 ((hfl1 0 _ rfl).trans f0)
    obtain ⟨m1, j1, _, _⟩ := DataW.trod_int Tryz.underlying3 ((hfl1 1 _ rfl).trans f1)
    have q1 : c1 = .int .i64 m0 := by injection j0
    have q2 : c2 = .int .i64 m1 := by injection j1
    obtain ⟨A, len, cap, q4⟩ : ∃ A len cap, c4 = .slice A len cap := by
      rcases open_slice Tryz.underlying64 t3' with ⟨h0, _⟩ | ⟨a, len', cap', m, n, D, Pl, hcs, _⟩
      · exact ⟨none, 0, 0, by injection h0⟩
      · exact ⟨_, _, _, by injection hcs⟩
    subst q0 q1 q2 q3 q4
    obtain ⟨S, hS, hst, hl9⟩ := stops_trod t3'
    subst hS
    exact ⟨(⟨k0, m0, m1, k2, S⟩, A, cap), rfl, hst, w0, hl9⟩
set_option maxRecDepth 100000 in
theorem lms_trod (hf : DataW.trod enc Tryz.prog w base spare held fuel 25 [.slice A len cap] = some x) : ∃ l : List LmV, l.length = len ∧ LmsAt w w.heap.size A l ∧ len ≤ 9223372036854775807 := by
  have hlen := slice_len Tryz.underlying25 hf
  have hs := slice_elems Tryz.underlying25 (k := 5) (by kernel_rfl) (by decide) hf
  obtain ⟨l, hl, hp⟩ := list_of (p := fun i (x : LmV) => ∃ g off, A = some ⟨g, off, none⟩ ∧ g < w.heap.size ∧ w.cell? ⟨g, off + i * 5, none⟩ = some (.string x.1.id) ∧ w.cell? ⟨g, off + i * 5 + 1, none⟩ = some (.int .i64 x.1.n) ∧ w.cell? ⟨g, off + i * 5 + 2, none⟩ = some (.int .i64 x.1.u) ∧ w.cell? ⟨g, off + i * 5 + 3, none⟩ = some (.int .i64 x.1.f) ∧ w.cell? ⟨g, off + i * 5 + 4, none⟩ = some (.slice x.2.1 x.1.S.length x.2.2) ∧ LmAt w w.heap.size x.2.1 x.1) len (fun i hi => by
    obtain ⟨g, off, n, vs, y, hA, hg, hvl, hc, ht'⟩ := hs i hi
    obtain ⟨x, hx, hlm⟩ := limit_trod hvl ht'
    subst hx
    exact ⟨x, g, off, hA, hg, hc 0 _ rfl, hc 1 _ rfl, hc 2 _ rfl, hc 3 _ rfl, hc 4 _ rfl, hlm⟩)
  exact ⟨l, hl, hp, hlen⟩
/-- What a matter at an argument gives. -/
def MtIn (w : World) (z : Mt × MtX) : Prop := MtAt w w.heap.size z.1 z.2 ∧ z.1.cs.length ≤ 9223372036854775807 ∧ z.1.mv.length ≤ 9223372036854775807 ∧ z.1.rs.length ≤ 9223372036854775807 ∧ z.1.ls.length ≤ 9223372036854775807 ∧ wf64 z.1.o ∧ wf64 z.1.st
theorem slice_form {t e : TypeId} {v : Value} (ht : Tryz.prog.underlying t = some (.slice e)) (hf : DataW.trod enc Tryz.prog w base spare held fuel t [v] = some x) : ∃ A len cap, v = .slice A len cap := by
  rcases open_slice ht hf with ⟨h0, _⟩ | ⟨a, len', cap', m, n, D, Pl, hcs, _⟩
  · exact ⟨none, 0, 0, by injection h0⟩
  · exact ⟨_, _, _, by injection hcs⟩
set_option maxRecDepth 100000 in
theorem matter_at {v : Value} {d : DataW H} {p : List MemPlace} {cs : Array Value} (hv : v = .agg cs) (hsz : cs.size = Tryz.prog.cellsOf 27)
    (h : DataW.Trod enc Tryz.prog w base spare held 27 v d p) : ∃ z : Mt × MtX, v = .agg (mtC z.1 z.2) ∧ MtIn w z := by
  subst hv
  have h2 : Tryz.prog.cellsOf 27 = 8 := by kernel_rfl
  rw [h2] at hsz
  obtain ⟨fuel, hf⟩ := h
  have hc : (Value.agg cs).cells.toList = cs.toList := rfl
  rw [hc] at hf
  obtain ⟨c0, c1, c2, c3, c4, c5, c6, c7, hcs⟩ : ∃ c0 c1 c2 c3 c4 c5 c6 c7, cs = #[c0, c1, c2, c3, c4, c5, c6, c7] := by
    obtain ⟨l⟩ := cs
    match l, hsz with
    | [c0, c1, c2, c3, c4, c5, c6, c7], _ => exact ⟨c0, c1, c2, c3, c4, c5, c6, c7, rfl⟩
  subst hcs
  obtain ⟨xs, n, _, hx, hl, hlen, hfl⟩ := DataW.trod_struct Tryz.underlying27 hf
  have g : ∀ i, i < xs.length → ∃ y, xs[i]? = some y := fun i hi => ⟨_, List.getElem?_eq_getElem hi⟩
  have hlen2 : xs.length = 8 := hlen
  obtain ⟨y0, e0⟩ := g 0 (by omega)
  obtain ⟨y1, e1⟩ := g 1 (by omega)
  obtain ⟨y2, e2⟩ := g 2 (by omega)
  obtain ⟨y3, e3⟩ := g 3 (by omega)
  obtain ⟨y4, e4⟩ := g 4 (by omega)
  obtain ⟨y5, e5⟩ := g 5 (by omega)
  obtain ⟨y6, e6⟩ := g 6 (by omega)
  obtain ⟨y7, e7⟩ := g 7 (by omega)
  obtain ⟨k0, h0, _, w0⟩ := DataW.trod_string Tryz.underlying9 ((hfl 0 _ rfl).trans e0)
  obtain ⟨k1, h1, _, w1⟩ := DataW.trod_int Tryz.underlying3 ((hfl 1 _ rfl).trans e1)
  have t2 : DataW.trod enc Tryz.prog w base spare held n 23 [c2] = some y2 := (hfl 2 _ rfl).trans e2
  obtain ⟨k3, h3, _, w3⟩ := DataW.trod_string Tryz.underlying9 ((hfl 3 _ rfl).trans e3)
  obtain ⟨k4, h4, _, w4⟩ := DataW.trod_int Tryz.underlying3 ((hfl 4 _ rfl).trans e4)
  have t5 : DataW.trod enc Tryz.prog w base spare held n 22 [c5] = some y5 := (hfl 5 _ rfl).trans e5
  have t6 : DataW.trod enc Tryz.prog w base spare held n 24 [c6] = some y6 := (hfl 6 _ rfl).trans e6
  have t7 : DataW.trod enc Tryz.prog w base spare held n 25 [c7] = some y7 := (hfl 7 _ rfl).trans e7
  obtain ⟨A2, l2, q2, rfl⟩ := slice_form Tryz.underlying23 t2
  obtain ⟨A5, l5, q5, rfl⟩ := slice_form Tryz.underlying22 t5
  obtain ⟨A6, l6, q6, rfl⟩ := slice_form Tryz.underlying24 t6
  obtain ⟨A7, l7, q7, rfl⟩ := slice_form Tryz.underlying25 t7
  have r0 : c0 = .string k0 := by injection h0
  have r1 : c1 = .int .i64 k1 := by injection h1
  have r3 : c3 = .string k3 := by injection h3
  have r4 : c4 = .int .i64 k4 := by injection h4
  subst r0 r1 r3 r4
  obtain ⟨ics, hcs, b2, m2⟩ := ints_trod Tryz.underlying23 t2
  obtain ⟨mvs, hmv, b5, m5⟩ := ints_trod Tryz.underlying22 t5
  obtain ⟨rs, hrs, b6, n6, m6⟩ := rts_trod t6
  obtain ⟨lv, hls, b7, m7⟩ := lms_trod t7
  subst hcs hmv hrs hls
  refine ⟨(⟨k0, k1, ics, k3, k4, mvs, rs, lv.map (·.1)⟩, ⟨A2, q2, A5, q5, A6, q6, A7, q7, lv⟩), ?_, ⟨b2, b5, b6, b7, rfl, w0, w3, n6⟩, m2, m5, m6, by rw [List.length_map]; exact m7, wf64_lit.1 w1, wf64_lit.1 w4⟩
  simp [mtC]
end
end Go.Proofs.YtebdkmlganalaaaGreatDoor

namespace Go.Proofs.YtebdkmlganalaaaGreatDoor
open Go.RowKit Go.ChangeShapes Go.WideShapes Go.Deep

/-- A step: the stage, the days later, the number of a name; whether a right, whether the migration. -/
structure Sp where
  sg : Int
  lt : Int
  nm : Int
  rt : Bool
  ov : Bool
def SpsAt (w : World) (B : Nat) (A : Option Addr) (l : List Sp) : Prop := ∀ (i : Nat) (s : Sp), l[i]? = some s → ∃ g off, A = some ⟨g, off, none⟩ ∧ g < B ∧ w.cell? ⟨g, off + i * 5, none⟩ = some (.int .u8 s.sg) ∧ w.cell? ⟨g, off + i * 5 + 1, none⟩ = some (.int .u8 s.lt) ∧ w.cell? ⟨g, off + i * 5 + 2, none⟩ = some (.int .u8 s.nm) ∧ w.cell? ⟨g, off + i * 5 + 3, none⟩ = some (.bool s.rt) ∧ w.cell? ⟨g, off + i * 5 + 4, none⟩ = some (.bool s.ov) ∧ (0 ≤ s.sg ∧ s.sg ≤ 255) ∧ (0 ≤ s.lt ∧ s.lt ≤ 255) ∧ (0 ≤ s.nm ∧ s.nm ≤ 255)
theorem SpsAt.below {w w' : World} {B : Nat} {A : Option Addr} {l : List Sp} (h : SpsAt w B A l) (hb : Below B w w') : SpsAt w' B A l := fun i s hi => by
  obtain ⟨g, off, hA, hg, c0, c1, c2, c3, c4, r⟩ := h i s hi
  exact ⟨g, off, hA, hg, (hb.cell (p := ⟨g, off + i * 5, none⟩) hg).trans c0, (hb.cell (p := ⟨g, off + i * 5 + 1, none⟩) hg).trans c1, (hb.cell (p := ⟨g, off + i * 5 + 2, none⟩) hg).trans c2, (hb.cell (p := ⟨g, off + i * 5 + 3, none⟩) hg).trans c3, (hb.cell (p := ⟨g, off + i * 5 + 4, none⟩) hg).trans c4, r⟩
section
variable {H : Type} {enc : TypeId × Value → H} {w : World} {base : Nat} {spare : Nat → Bool} {held : Bool} {len cap : Nat} {A : Option Addr} {d : DataW H} {p : List MemPlace}
theorem u8_of {n : Nat} {y : DataW H × List MemPlace} {v : Value} (h : DataW.trod enc Tryz.prog w base spare held n 5 [v] = some y) : ∃ x : Int, v = .int .u8 x ∧ 0 ≤ x ∧ x ≤ 255 := by
  obtain ⟨x, h0, _, hw⟩ := DataW.trod_int Tryz.underlying5 h
  refine ⟨x, by injection h0, ?_⟩
  have := hw
  simp [Lit.wf, IntKind.min, IntKind.max, IntKind.signed, IntKind.bits] at this
  omega
set_option maxRecDepth 100000 in
theorem sps_at (h : DataW.Trod enc Tryz.prog w base spare held 38 (.slice A len cap) d p) : ∃ l : List Sp, l.length = len ∧ SpsAt w w.heap.size A l ∧ len ≤ 9223372036854775807 := by
  obtain ⟨m, hm0⟩ := h
  have hf : DataW.trod enc Tryz.prog w base spare held m 38 [.slice A len cap] = some (d, p) := hm0
  have hlen := slice_len Tryz.underlying38 hf
  have hs := slice_elems Tryz.underlying38 (k := 5) (by kernel_rfl) (by decide) hf
  obtain ⟨l, hl, hp⟩ := list_of (p := fun i (s : Sp) => ∃ g off, A = some ⟨g, off, none⟩ ∧ g < w.heap.size ∧ w.cell? ⟨g, off + i * 5, none⟩ = some (.int .u8 s.sg) ∧ w.cell? ⟨g, off + i * 5 + 1, none⟩ = some (.int .u8 s.lt) ∧ w.cell? ⟨g, off + i * 5 + 2, none⟩ = some (.int .u8 s.nm) ∧ w.cell? ⟨g, off + i * 5 + 3, none⟩ = some (.bool s.rt) ∧ w.cell? ⟨g, off + i * 5 + 4, none⟩ = some (.bool s.ov) ∧ (0 ≤ s.sg ∧ s.sg ≤ 255) ∧ (0 ≤ s.lt ∧ s.lt ≤ 255) ∧ (0 ≤ s.nm ∧ s.nm ≤ 255)) len (fun i hi => by
    obtain ⟨g, off, n, vs, y, hA, hg, hvl, hc, ht'⟩ := hs i hi
    match vs, hvl with
    | [v0, v1, v2, v3, v4], _ =>
      obtain ⟨xs, n, _, hx, hl, hlen, hfl⟩ := DataW.trod_struct Tryz.underlying47 ht'
      have hlen2 : xs.length = 5 := hlen
      have gg : ∀ i, i < xs.length → ∃ y, xs[i]? = some y := fun i hi => ⟨_, List.getElem?_eq_getElem hi⟩
      obtain ⟨y0, e0⟩ := gg 0 (by omega)
      obtain ⟨y1, e1⟩ := gg 1 (by omega)
      obtain ⟨y2, e2⟩ := gg 2 (by omega)
      obtain ⟨y3, e3⟩ := gg 3 (by omega)
      obtain ⟨y4, e4⟩ := gg 4 (by omega)
      obtain ⟨a0, q0, r0⟩ := u8_of ((hfl 0 _ rfl).trans e0)
      obtain ⟨a1, q1, r1⟩ := u8_of ((hfl 1 _ rfl).trans e1)
      obtain ⟨a2, q2, r2⟩ := u8_of ((hfl 2 _ rfl).trans e2)
      obtain ⟨a3, h3, _⟩ := DataW.trod_bool Tryz.underlying4 ((hfl 3 _ rfl).trans e3)
      obtain ⟨a4, h4, _⟩ := DataW.trod_bool Tryz.underlying4 ((hfl 4 _ rfl).trans e4)
      have q3 : v3 = .bool a3 := by injection h3
      have q4 : v4 = .bool a4 := by injection h4
      subst q0 q1 q2 q3 q4
      exact ⟨⟨a0, a1, a2, a3, a4⟩, g, off, hA, hg, hc 0 _ rfl, hc 1 _ rfl, hc 2 _ rfl, hc 3 _ rfl, hc 4 _ rfl, r0, r1, r2⟩)
  exact ⟨l, hl, hp, hlen⟩
end
end Go.Proofs.YtebdkmlganalaaaGreatDoor

namespace Go.Proofs.YtebdkmlganalaaaGreatDoor
open Go.RowKit Go.Shelf

def nmW (n : Int) : ByteArray := if n % 4 = 0 then ⟨#[97, 112, 112, 101, 97, 108]⟩ else if n % 4 = 1 then ⟨#[97, 105, 100]⟩ else if n % 4 = 2 then ⟨#[104, 101, 108, 112]⟩ else ⟨#[114, 101, 118, 105, 101, 119]⟩
theorem nmW_size (n : Int) : (nmW n).size ≤ 9223372036854775807 := by
  unfold nmW
  split
  · decide
  · split
    · decide
    · split <;> decide
set_option maxRecDepth 100000 in
set_option maxHeartbeats 2000000 in
theorem w09Name_any (w : World) (n : Int) (h0 : 0 ≤ n) (h1 : n ≤ 255) :
    Calls Tryz.prog 14 #[.int .u8 n] w fun e w' => e = .returned (.string (nmW n)) ∧ Below w.heap.size w w' := by
  obtain ⟨s, hs⟩ : ∃ s, nmW n = s := ⟨_, rfl⟩
  rw [hs]
  unfold nmW at hs
  have hb := (Below.refl w.heap.size w).alloc (Nat.le_refl _) (.cells #[.string ⟨#[97, 112, 112, 101, 97, 108]⟩, .string ⟨#[97, 105, 100]⟩, .string ⟨#[104, 101, 108, 112]⟩, .string ⟨#[114, 101, 118, 105, 101, 119]⟩] 9)
  have kx := Blk.new w 9 #[.string ⟨#[97, 112, 112, 101, 97, 108]⟩, .string ⟨#[97, 105, 100]⟩, .string ⟨#[104, 101, 108, 112]⟩, .string ⟨#[114, 101, 118, 105, 101, 119]⟩]
  obtain ⟨t0, t1, t2⟩ := kx.all
  have ht : n.tmod 4 = n % 4 := Int.tmod_eq_emod_of_nonneg h0
  have hr : n % 4 = 0 ∨ n % 4 = 1 ∨ n % 4 = 2 ∨ n % 4 = 3 := by omega
  have HB := Lib.hid hb
  clear hb kx
  go_enter Tryz.func14, Tryz.ntmps14
  rcases hr with h | h | h | h <;> rw [h] at ht hs
  · have HS := Lib.hid hs
    clear hs h
    go_wp2
    go_ret
    exact ⟨by rw [← HS.out]; rfl, HB.out⟩
  · have HS := Lib.hid hs
    clear hs h
    go_wp2
    go_ret
    exact ⟨by rw [← HS.out]; rfl, HB.out⟩
  · have HS := Lib.hid hs
    clear hs h
    go_wp2
    go_ret
    exact ⟨by rw [← HS.out]; rfl, HB.out⟩
  · have HS := Lib.hid hs
    clear hs h
    go_wp2
    go_ret
    exact ⟨by rw [← HS.out]; rfl, HB.out⟩
end Go.Proofs.YtebdkmlganalaaaGreatDoor

namespace Go.Proofs.YtebdkmlganalaaaGreatDoor
open Go.RowKit Go.Shelf

set_option maxRecDepth 100000 in
set_option maxHeartbeats 2000000 in
theorem wlight_any (w : World) (B : Nat) (A : Option Addr) (lv : List LmV) (c : Nat) (h : LmsAt w B A lv) (hB : B ≤ w.heap.size) (hl : lv.length ≤ 9223372036854775807) :
    Calls Tryz.prog 9 #[.slice A lv.length c] w fun e w' => ∃ q : Bool, e = .returned (.bool q) ∧ Below w.heap.size w w' := by
  obtain ⟨n, hn⟩ : ∃ n, lv.length = n := ⟨_, rfl⟩
  rw [hn] at hl ⊢
  have HH := Lib.hid h
  have HN := Lib.hid hn
  clear h hn
  go_enter Tryz.func9, Tryz.ntmps9
  go_wp2_with fail
  go_loopw [3] (fun i wr => ∃ k : Nat, k ≤ n ∧ i = .int .i64 (k : Int) ∧ Hid (Below w.heap.size w wr)) (fun i _ => n - (intOf i).toNat)
  case atStart => exact ⟨0, Nat.zero_le _, rfl, Lib.hid (Below.refl _ _)⟩
  case round =>
    obtain ⟨k, hk, rfl, HB⟩ := hrel
    by_cases hlt : k < n
    · obtain ⟨x, hx⟩ : ∃ x, lv[k]? = some x := ⟨_, List.getElem?_eq_getElem (by rw [HN.out]; exact hlt)⟩
      obtain ⟨g, off, hA, hg, p0, p1, p2, p3, p4, hla⟩ := (HH.out.below (HB.out.mono hB)) k x hx
      subst hA
      obtain ⟨⟨id, m, u, f, S⟩, xa, xc⟩ := x
      simp only at p0 p1 p2 p3 p4 hla
      have hc := Lim.Few20_any wr ⟨id, m, u, f, S⟩ B xa xc hla (Nat.le_trans hB HB.out.size) none 0 0 (Nat.zero_le _)
      obtain ⟨q, hq⟩ : ∃ q, Lim.frB20 ⟨id, m, u, f, S⟩ 0 = q := ⟨_, rfl⟩
      rw [hq] at hc
      have hc : Calls Tryz.prog 20 #[.agg #[.string id, .int .i64 m, .int .i64 u, .int .i64 f, .slice xa S.length xc], .slice none 0 0, .int .i64 20] wr fun e w' => e = .returned (.bool q) ∧ Below wr.heap.size wr w' := hc
      have HC := Lib.hid hc
      have ib0 : (0 : Int) ≤ (k : Int) := by omega
      have ib1 : (k : Int) < (n : Int) := by omega
      clear hx hla hq hc
      go_wp2_with fail
      refine HC.out.mono ?_
      rintro e w2 ⟨rfl, b2⟩
      have HB2 := Lib.hid (HB.out.trans (b2.mono HB.out.size))
      clear p0 p1 p2 p3 p4 b2 HC
      cases q with
      | false =>
        go_wp2
        go_ret
        exact ⟨false, rfl, HB2.out⟩
      | true =>
        go_wp2
        go_roundw
        case rel => exact ⟨k + 1, by omega, by go_num, HB2⟩
        case measure => simp [intOf]; omega
    · obtain rfl : n = k := by omega
      go_wp2
      go_ret
      exact ⟨_, rfl, HB.out⟩
end Go.Proofs.YtebdkmlganalaaaGreatDoor
