/- Reading a limit and a stop as arguments. -/
import Derived.Test.YtogjcejiojmmbaaTr
import Derived.Test.YtogjcejiojmmbaaOi
namespace Go.Proofs.Ytogjcejiojmmbaa
open Go.RowKit Go.Shelf Go.ChangeShapes Go.WideShapes Go.Deep

theorem stops_of_trod {H : Type} {enc : TypeId × Value → H} {w : World} {base : Nat} {spare : Nat → Bool} {held : Bool} {fuel len cap : Nat} {A : Option Addr} {x : DataW H × List MemPlace}
    (hf : DataW.trod enc Try.prog w base spare held fuel 24 [.slice A len cap] = some x) : ∃ S : List Stp2, S.length = len ∧ StopsAt w w.heap.size A S ∧ len ≤ 9223372036854775807 := by
  have hlen := slice_len Try.underlying24 hf
  have hs := slice_structs Try.underlying24 Try.underlying28 (by kernel_rfl) (by kernel_rfl) hf
  obtain ⟨S, hl, hp⟩ := list_of (p := fun i (s : Stp2) => ∃ g off, A = some ⟨g, off, none⟩ ∧ g < w.heap.size ∧ w.cell? ⟨g, off + i * 2, none⟩ = some (.int .i64 s.1) ∧ w.cell? ⟨g, off + i * 2 + 1, none⟩ = some (.int .i64 s.2)) len (fun i hi => by
    obtain ⟨a, n, vs, hA, hvl, hc, hsp, hfl⟩ := hs i hi
    obtain ⟨v0, y0, e0, t0⟩ := hfl 0 _ rfl
    obtain ⟨v1, y1, e1, t1⟩ := hfl 1 _ rfl
    obtain ⟨k0, h0, _, _⟩ := DataW.trod_int Try.underlying3 t0
    obtain ⟨k1, h1, _, _⟩ := DataW.trod_int Try.underlying3 t1
    simp only [List.cons.injEq, and_true] at h0 h1
    subst h0 h1
    obtain ⟨g, off, spot⟩ := a
    have : spot = none := hsp (by decide)
    subst this
    have c0 := hc 0 _ e0
    have c1 := hc 1 _ e1
    exact ⟨(k0, k1), g, off, hA, c0.2, c0.1, c1.1⟩)
  exact ⟨S, hl, hp, hlen⟩

set_option maxRecDepth 100000 in
theorem limit_at {H : Type} {enc : TypeId × Value → H} {w : World} {base : Nat} {spare : Nat → Bool} {held : Bool} {v : Value} {d : DataW H} {p : List MemPlace} {cs : Array Value}
    (hv : v = .agg cs) (hsz : cs.size = Try.prog.cellsOf 26)
    (h : DataW.Trod enc Try.prog w base spare held 26 v d p) : ∃ x : Lm × Option Addr × Nat, v = .agg (x.1.cells x.2.1 x.2.2) ∧ LmAt w w.heap.size x.2.1 x.1 := by
  subst hv
  have h2 : Try.prog.cellsOf 26 = 5 := by kernel_rfl
  rw [h2] at hsz
  obtain ⟨fuel, hf⟩ := h
  have hc : (Value.agg cs).cells.toList = cs.toList := rfl
  rw [hc] at hf
  obtain ⟨c0, c1, c2, c3, c4, hcs⟩ : ∃ c0 c1 c2 c3 c4, cs = #[c0, c1, c2, c3, c4] := by
    obtain ⟨l⟩ := cs
    match l, hsz with
    | [c0, c1, c2, c3, c4], _ => exact ⟨c0, c1, c2, c3, c4, rfl⟩
  subst hcs
  obtain ⟨xs, n, _, hx, hl, hlen, hfl⟩ := DataW.trod_struct Try.underlying26 hf
  have g : ∀ i, i < xs.length → ∃ y, xs[i]? = some y := fun i hi => ⟨_, List.getElem?_eq_getElem hi⟩
  have hlen2 : xs.length = 4 := hlen
  obtain ⟨y0, e0⟩ := g 0 (by omega)
  obtain ⟨y1, e1⟩ := g 1 (by omega)
  obtain ⟨y2, e2⟩ := g 2 (by omega)
  obtain ⟨y3, e3⟩ := g 3 (by omega)
  have t0 := (hfl 0 _ rfl).trans e0
  have t1 := (hfl 1 _ rfl).trans e1
  have t2 := (hfl 2 _ rfl).trans e2
  have t3 := (hfl 3 _ rfl).trans e3
  have t1' : DataW.trod enc Try.prog w base spare held n 23 [c1, c2] = some y1 := t1
  have t3' : DataW.trod enc Try.prog w base spare held n 24 [c4] = some y3 := t3
  obtain ⟨k0, h0, _, w0⟩ := DataW.trod_string Try.underlying9 t0
  obtain ⟨k2, h2', _, _⟩ := DataW.trod_int Try.underlying3 t2
  have q0 : c0 = .string k0 := by injection h0
  have q3 : c3 = .int .i64 k2 := by injection h2'
  obtain ⟨xs1, n1, _, _, _, hlen1, hfl1⟩ := DataW.trod_struct Try.underlying23 t1'
  have g1 : ∀ i, i < xs1.length → ∃ y, xs1[i]? = some y := fun i hi => ⟨_, List.getElem?_eq_getElem hi⟩
  have hlen3 : xs1.length = 2 := hlen1
  obtain ⟨z0, f0⟩ := g1 0 (by omega)
  obtain ⟨z1, f1⟩ := g1 1 (by omega)
  obtain ⟨m0, j0, _, _⟩ := DataW.trod_int Try.underlying3 ((hfl1 0 _ rfl).trans f0)
  obtain ⟨m1, j1, _, _⟩ := DataW.trod_int Try.underlying3 ((hfl1 1 _ rfl).trans f1)
  have q1 : c1 = .int .i64 m0 := by injection j0
  have q2 : c2 = .int .i64 m1 := by injection j1
  obtain ⟨A, len, cap, q4⟩ : ∃ A len cap, c4 = .slice A len cap := by
    rcases open_slice Try.underlying24 t3' with ⟨h0, _⟩ | ⟨a, len', cap', m, n, D, Pl, hcs, _⟩
    · exact ⟨none, 0, 0, by injection h0⟩
    · exact ⟨_, _, _, by injection hcs⟩
  subst q0 q1 q2 q3 q4
  obtain ⟨S, hS, hst, hl9⟩ := stops_of_trod t3'
  subst hS
  exact ⟨(⟨k0, m0, m1, k2, S⟩, A, cap), rfl, hst, w0, hl9⟩
end Go.Proofs.Ytogjcejiojmmbaa
