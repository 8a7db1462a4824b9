/- Reading a domain as an argument; the reference's Few of a domain: what it promises. -/
import Derived.Test.YtknchlpcpgflkaaGreatDoorKWv
import Derived.Test.YtknchlpcpgflkaaGreatDoorKGBV
import Derived.Test.YtknchlpcpgflkaaGreatDoorKGBH
namespace Go.Proofs.YtknchlpcpgflkaaGreatDoor
open Go.RowKit Go.ChangeShapes Go.WideShapes Go.Deep

section
variable {H : Type} {enc : TypeId × Value → H} {w : World} {base : Nat} {spare : Nat → Bool} {held : Bool} {fuel len cap : Nat} {A : Option Addr} {x : DataW H × List MemPlace}
set_option maxRecDepth 100000 in
theorem facts_trod (hf : DataW.trod enc Tryz.prog w base spare held fuel 60 [.slice A len cap] = some x) : ∃ l : List Fc, l.length = len ∧ FcsAt w w.heap.size A l ∧ (∀ f ∈ l, f.name.size ≤ 9223372036854775807) ∧ len ≤ 9223372036854775807 := by
  have hlen := slice_len Tryz.underlying60 hf
  have hs := slice_elems Tryz.underlying60 (k := 4) (by kernel_rfl) (by decide) hf
  obtain ⟨l, hl, hp⟩ := list_of (p := fun i (v : Fc) => (∃ g off, A = some ⟨g, off, none⟩ ∧ g < w.heap.size ∧ w.cell? ⟨g, off + i * 4, none⟩ = some (.string v.name) ∧ w.cell? ⟨g, off + i * 4 + 1, none⟩ = some (.int .i64 v.kind) ∧ w.cell? ⟨g, off + i * 4 + 2, none⟩ = some (.int .i64 v.lo) ∧ w.cell? ⟨g, off + i * 4 + 3, none⟩ = some (.int .i64 v.hi)) ∧ v.name.size ≤ 9223372036854775807) len (fun i hi => by
    obtain ⟨g, off, n, vs, y, hA, hg, hvl, hc, ht'⟩ := hs i hi
    match vs, hvl with
    | [v0, v1, v2, v3], _ =>
      obtain ⟨xs, n, _, hx, hl, hlen, hfl⟩ := DataW.trod_struct Tryz.underlying160 ht'
      have hlen2 : xs.length = 4 := hlen
      have gg : ∀ i, i < xs.length → ∃ y, xs[i]? = some y := fun i hi => ⟨_, List.getElem?_eq_getElem hi⟩
      obtain ⟨y0, e0⟩ := gg 0 (by omega)
      obtain ⟨y1, e1⟩ := gg 1 (by omega)
      obtain ⟨y2, e2⟩ := gg 2 (by omega)
      obtain ⟨y3, e3⟩ := gg 3 (by omega)
      obtain ⟨s, h0, _, w0⟩ := DataW.trod_string Tryz.underlying9 ((hfl 0 _ rfl).trans e0)
      obtain ⟨k1, h1, _, _⟩ := DataW.trod_int Tryz.underlying3 ((hfl 1 _ rfl).trans e1)
      obtain ⟨k2, h2, _, _⟩ := DataW.trod_int Tryz.underlying3 ((hfl 2 _ rfl).trans e2)
      obtain ⟨k3, h3, _, _⟩ := DataW.trod_int Tryz.underlying3 ((hfl 3 _ rfl).trans e3)
      have q0 : v0 = .string s := by injection h0
      have q1 : v1 = .int .i64 k1 := by injection h1
      have q2 : v2 = .int .i64 k2 := by injection h2
      have q3 : v3 = .int .i64 k3 := by injection h3
      subst q0 q1 q2 q3
      exact ⟨⟨s, k1, k2, k3⟩, ⟨g, off, hA, hg, hc 0 _ rfl, hc 1 _ rfl, hc 2 _ rfl, hc 3 _ rfl⟩, w0⟩)
  exact ⟨l, hl, fun i v h => (hp i v h).1, fun s h => by obtain ⟨i, hi⟩ := List.getElem?_of_mem h; exact (hp i s hi).2, hlen⟩
/-- What a domain at an argument gives. -/
def DmIn (w : World) (z : List Fc × Option Addr × Nat) : Prop := DmAt w w.heap.size z.1 z.2.1 ∧ z.1.length ≤ 9223372036854775807
set_option maxRecDepth 100000 in
theorem domain_at {v : Value} {d : DataW H} {p : List MemPlace} {cs : Array Value} (hv : v = .agg cs) (hsz : cs.size = Tryz.prog.cellsOf 62)
    (h : DataW.Trod enc Tryz.prog w base spare held 62 v d p) : ∃ z : List Fc × Option Addr × Nat, v = .agg #[.slice z.2.1 z.1.length z.2.2] ∧ DmIn w z := by
  subst hv
  have h2 : Tryz.prog.cellsOf 62 = 1 := by kernel_rfl
  rw [h2] at hsz
  obtain ⟨fuel, hf⟩ := h
  have hc : (Value.agg cs).cells.toList = cs.toList := rfl
  rw [hc] at hf
  obtain ⟨c0, hcs⟩ : ∃ c0, cs = #[c0] := by
    obtain ⟨l⟩ := cs
    match l, hsz with
    | [c0], _ => exact ⟨c0, rfl⟩
  subst hcs
  obtain ⟨xs, n, _, hx, hl, hlen, hfl⟩ := DataW.trod_struct Tryz.underlying62 hf
  have g : ∀ i, i < xs.length → ∃ y, xs[i]? = some y := fun i hi => ⟨_, List.getElem?_eq_getElem hi⟩
  have hlen2 : xs.length = 1 := hlen
  obtain ⟨y0, e0⟩ := g 0 (by omega)
  have t0 : DataW.trod enc Tryz.prog w base spare held n 60 [c0] = some y0 := (hfl 0 _ rfl).trans e0
  obtain ⟨A0, l0, q0, rfl⟩ := slice_form Tryz.underlying60 t0
  obtain ⟨fs, hfs, b0, n0, m0⟩ := facts_trod t0
  subst hfs
  exact ⟨(fs, A0, q0), rfl, ⟨b0, n0⟩, m0⟩
end

end Go.Proofs.YtknchlpcpgflkaaGreatDoor
