/- Reading a procedure as an argument. The reference's Proper. -/
import Derived.Test.YtknchlpcpgflkaaGreatDoorLWv
import Derived.Test.YtknchlpcpgflkaaGreatDoorLGAS
import Derived.Test.YtknchlpcpgflkaaGreatDoorLYr
import Derived.BigQuiet
namespace Go.Proofs.YtknchlpcpgflkaaGreatDoor
open Go.RowKit Go.ChangeShapes Go.WideShapes Go.Deep

section
variable {H : Type} {enc : TypeId × Value → H} {w : World} {base : Nat} {spare : Nat → Bool} {held : Bool} {fuel len cap : Nat} {A : Option Addr} {x : DataW H × List MemPlace}
set_option maxRecDepth 100000 in
theorem moves_trod (hf : DataW.trod enc Tryz.prog w base spare held fuel 32 [.slice A len cap] = some x) : ∃ S : List I2, S.length = len ∧ StopsAt w w.heap.size A S ∧ len ≤ 9223372036854775807 := by
  have hlen := slice_len Tryz.underlying32 hf
  have hs := slice_elems Tryz.underlying32 (k := 2) (by kernel_rfl) (by decide) hf
  obtain ⟨l, hl, hp⟩ := list_of (p := fun i (s : I2) => ∃ g off, A = some ⟨g, off, none⟩ ∧ g < w.heap.size ∧ w.cell? ⟨g, off + i * 2, none⟩ = some (.int .i64 s.1) ∧ w.cell? ⟨g, off + i * 2 + 1, none⟩ = some (.int .i64 s.2)) len (fun i hi => by
    obtain ⟨g, off, n, vs, y, hA, hg, hvl, hc, ht'⟩ := hs i hi
    match vs, hvl with
    | [v0, v1], _ =>
      obtain ⟨xs, n, _, hx, hl, hlen, hfl⟩ := DataW.trod_array Tryz.underlying76 ht'
      have c1 : Tryz.prog.cellsOf 3 = 1 := by kernel_rfl
      have gg : ∀ i, i < xs.length → ∃ y, xs[i]? = some y := fun i hi => ⟨_, List.getElem?_eq_getElem hi⟩
      obtain ⟨y0, e0⟩ := gg 0 (by omega)
      obtain ⟨y1, e1⟩ := gg 1 (by omega)
      have t0 := (hfl 0 (by decide)).trans e0
      have t1 := (hfl 1 (by decide)).trans e1
      rw [c1] at t0 t1
      obtain ⟨s, h0, _, _⟩ := DataW.trod_int Tryz.underlying3 t0
      obtain ⟨d, h1, _, _⟩ := DataW.trod_int Tryz.underlying3 t1
      have q0 : v0 = .int .i64 s := by simpa using h0
      have q1 : v1 = .int .i64 d := by simpa using h1
      subst q0 q1
      exact ⟨(s, d), g, off, hA, hg, hc 0 _ rfl, hc 1 _ rfl⟩)
  exact ⟨l, hl, hp, hlen⟩
/-- What a procedure at an argument gives. -/
def PcIn (w : World) (z : Pc × PcX) : Prop := PcAt w w.heap.size z.1 z.2 ∧ z.1.ss.length ≤ 9223372036854775807 ∧ z.1.ms.length ≤ 9223372036854775807
set_option maxRecDepth 100000 in
theorem procedure_at {v : Value} {d : DataW H} {p : List MemPlace} {cs : Array Value} (hv : v = .agg cs) (hsz : cs.size = Tryz.prog.cellsOf 34)
    (h : DataW.Trod enc Tryz.prog w base spare held 34 v d p) : ∃ z : Pc × PcX, v = .agg (pcC z.1 z.2) ∧ PcIn w z := by
  subst hv
  have h2 : Tryz.prog.cellsOf 34 = 3 := by kernel_rfl
  rw [h2] at hsz
  obtain ⟨fuel, hf⟩ := h
  have hc : (Value.agg cs).cells.toList = cs.toList := rfl
  rw [hc] at hf
  obtain ⟨c0, c1, c2, hcs⟩ : ∃ c0 c1 c2, cs = #[c0, c1, c2] := by
    obtain ⟨l⟩ := cs
    match l, hsz with
    | [c0, c1, c2], _ => exact ⟨c0, c1, c2, rfl⟩
  subst hcs
  obtain ⟨xs, n, _, hx, hl, hlen, hfl⟩ := DataW.trod_struct Tryz.underlying34 hf
  have g : ∀ i, i < xs.length → ∃ y, xs[i]? = some y := fun i hi => ⟨_, List.getElem?_eq_getElem hi⟩
  have hlen2 : xs.length = 3 := hlen
  obtain ⟨y0, e0⟩ := g 0 (by omega)
  obtain ⟨y1, e1⟩ := g 1 (by omega)
  obtain ⟨y2, e2⟩ := g 2 (by omega)
  obtain ⟨k0, h0, _, w0⟩ := DataW.trod_string Tryz.underlying9 ((hfl 0 _ rfl).trans e0)
  have t1 : DataW.trod enc Tryz.prog w base spare held n 31 [c1] = some y1 := (hfl 1 _ rfl).trans e1
  have t2 : DataW.trod enc Tryz.prog w base spare held n 32 [c2] = some y2 := (hfl 2 _ rfl).trans e2
  obtain ⟨A1, l1, q1, rfl⟩ := slice_form Tryz.underlying31 t1
  obtain ⟨A2, l2, q2, rfl⟩ := slice_form Tryz.underlying32 t2
  have r0 : c0 = .string k0 := by injection h0
  subst r0
  obtain ⟨ss, hss, b1, n1, m1⟩ := strs_trod Tryz.underlying31 t1
  obtain ⟨ms, hms, b2, m2⟩ := moves_trod t2
  subst hss hms
  exact ⟨(⟨k0, ss, ms⟩, ⟨A1, q1, A2, q2⟩), rfl, ⟨b1, b2, w0, n1⟩, m1, m2⟩
end
end Go.Proofs.YtknchlpcpgflkaaGreatDoor

namespace Go.Proofs.YtknchlpcpgflkaaGreatDoor
open Go.RowKit Go.Shelf

section
open Go.ChangeShapes Go.WideShapes Go.Deep
variable {H : Type} {enc : TypeId × Value → H} {w : World} {base : Nat} {spare : Nat → Bool} {held : Bool} {fuel len cap : Nat} {A : Option Addr} {x : DataW H × List MemPlace}
end
theorem pcB_iff {p : Pc} : pcB p = true ↔ nameB p.name = true ∧ 0 < p.ss.length ∧ difB id nameB p.ss = true ∧ difB id (mvB p.ss.length) p.ms = true := by
  unfold pcB
  simp only [Bool.and_eq_true, decide_eq_true_eq]
theorem mvB_iff {n : Nat} {m : I2} : mvB n m = true ↔ 0 ≤ m.1 ∧ m.1 < (n : Int) ∧ 0 ≤ m.2 ∧ m.2 < (n : Int) ∧ m.1 ≠ m.2 := by
  unfold mvB
  rw [decide_eq_true_eq]
  constructor
  · rintro ⟨h1, h2, h3⟩
    exact ⟨by omega, by omega, by omega, by omega, h1⟩
  · rintro ⟨h1, h2, h3, h4, h5⟩
    exact ⟨h5, by omega, by omega⟩
end Go.Proofs.YtknchlpcpgflkaaGreatDoor
