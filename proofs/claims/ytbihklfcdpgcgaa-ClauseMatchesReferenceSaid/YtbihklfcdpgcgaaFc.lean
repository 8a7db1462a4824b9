/- Reading clauses, stamps and operations as arguments. -/
import Derived.Test.YtbihklfcdpgcgaaFb
import Derived.Test.YtbihklfcdpgcgaaOpen
namespace Go.Proofs.Ytbihklfcdpgcgaa
open Go.RowKit Go.ChangeShapes Go.WideShapes Go.Deep

section
variable {H : Type} {enc : TypeId × Value → H} {P : Program} {w : World} {base : Nat} {spare : Nat → Bool} {held : Bool}
/-- The elements of a slice, each by its cells. -/
theorem slice_elems {t e : TypeId} {fuel len cap k : Nat} {A : Option Addr} {x : DataW H × List MemPlace} (ht : P.underlying t = some (.slice e)) (hC : P.cellsOf e = k) (hk : 0 < k)
    (h : DataW.trod enc P w base spare held fuel t [.slice A len cap] = some x) :
    ∀ i, i < len → ∃ (g off n : Nat) (vs : List Value) (y : DataW H × List MemPlace), A = some ⟨g, off, none⟩ ∧ g < w.heap.size ∧ vs.length = k ∧ (∀ j v, vs[j]? = some v → w.cell? ⟨g, off + i * k + j, none⟩ = some v) ∧ DataW.trod enc P w base spare held n e vs = some y := by
  intro i hi
  rcases open_slice ht h with ⟨h0, _⟩ | ⟨a, len', cap', m, n, D, Pl, hcs, hb, hl, hm, hmm, hx, hall⟩
  · injection h0 with h0
    injection h0 with _ h1 _
    omega
  · injection hcs with hcs _
    injection hcs with hA hle hca
    subst hA hle hca
    rw [hC] at hall
    obtain ⟨g, off, spot⟩ := a
    have hspot : spot = none := by
      obtain ⟨cs0, hc0, _⟩ := hall 0 (by rw [hmm]; split <;> omega)
      obtain ⟨_, hcl0, hat0⟩ := World.cells?_some hc0
      have h1 := hat0 0 hk
      rw [List.getElem?_eq_getElem (by omega), Go.Deep.add_add] at h1
      simpa [Addr.add] using World.cell?_spot h1
    subst hspot
    obtain ⟨cs', hc, ht'⟩ := hall i (by rw [hmm]; split <;> omega)
    obtain ⟨_, hcl, hat⟩ := World.cells?_some hc
    have hcell : ∀ j v, cs'[j]? = some v → w.cell? ⟨g, off + i * k + j, none⟩ = some v := fun j v hv => by
      have hj : j < k := by rw [← hcl]; exact (List.getElem?_eq_some_iff.1 hv).1
      have h1 := hat j hj
      rw [hv, Go.Deep.add_add] at h1
      have h2 := spot_none h1
      rw [h2] at h1
      have h3 : off + (i * k + j) = off + i * k + j := by omega
      rw [h3] at h1
      exact h1
    have hlt : g < w.heap.size := by
      have h1 := hcell 0 (cs'[0]'(by omega)) (List.getElem?_eq_getElem (by omega))
      exact World.block_lt_of_cell? w ⟨g, off + i * k + 0, none⟩ h1
    exact ⟨g, off, n, cs', _, rfl, hlt, hcl, hcell, ht'⟩
end
section
variable {H : Type} {enc : TypeId × Value → H} {w : World} {base : Nat} {spare : Nat → Bool} {held : Bool}
set_option maxRecDepth 100000 in
theorem st_of_trod {fuel : Nat} {a b : Value} {x : DataW H × List MemPlace} (hf : DataW.trod enc Try.prog w base spare held fuel 29 [a, b] = some x) : ∃ s : St2, a = .int .i64 s.1 ∧ b = .int .i64 s.2 := by
  obtain ⟨xs, n, _, _, _, hlen, hfl⟩ := DataW.trod_struct Try.underlying29 hf
  have g : ∀ i, i < xs.length → ∃ y, xs[i]? = some y := fun i hi => ⟨_, List.getElem?_eq_getElem hi⟩
  have hl : xs.length = 2 := hlen
  obtain ⟨y0, e0⟩ := g 0 (by omega)
  obtain ⟨y1, e1⟩ := g 1 (by omega)
  obtain ⟨k0, h0, _, _⟩ := DataW.trod_int Try.underlying3 ((hfl 0 _ rfl).trans e0)
  obtain ⟨k1, h1, _, _⟩ := DataW.trod_int Try.underlying3 ((hfl 1 _ rfl).trans e1)
  exact ⟨(k0, k1), by injection h0, by injection h1⟩
set_option maxRecDepth 100000 in
theorem it_of_trod {fuel : Nat} {c0 c1 c2 c3 c4 c5 c6 : Value} {x : DataW H × List MemPlace} (hf : DataW.trod enc Try.prog w base spare held fuel 31 [c0, c1, c2, c3, c4, c5, c6] = some x) :
    ∃ s : Itm, c0 = .int .i64 s.1 ∧ c1 = .string s.2.1 ∧ c2 = .string s.2.2.1 ∧ c3 = .string s.2.2.2.1 ∧ c4 = .string s.2.2.2.2.1 ∧ c5 = .string s.2.2.2.2.2.1 ∧ c6 = .bool s.2.2.2.2.2.2 := by
  obtain ⟨xs, n, _, _, _, hlen, hfl⟩ := DataW.trod_struct Try.underlying31 hf
  have g : ∀ i, i < xs.length → ∃ y, xs[i]? = some y := fun i hi => ⟨_, List.getElem?_eq_getElem hi⟩
  have hl : xs.length = 7 := hlen
  obtain ⟨y0, e0⟩ := g 0 (by omega)
  obtain ⟨y1, e1⟩ := g 1 (by omega)
  obtain ⟨y2, e2⟩ := g 2 (by omega)
  obtain ⟨y3, e3⟩ := g 3 (by omega)
  obtain ⟨y4, e4⟩ := g 4 (by omega)
  obtain ⟨y5, e5⟩ := g 5 (by omega)
  obtain ⟨y6, e6⟩ := g 6 (by omega)
  obtain ⟨k0, h0, _, _⟩ := DataW.trod_int Try.underlying3 ((hfl 0 _ rfl).trans e0)
  obtain ⟨k1, h1, _, _⟩ := DataW.trod_string Try.underlying9 ((hfl 1 _ rfl).trans e1)
  obtain ⟨k2, h2, _, _⟩ := DataW.trod_string Try.underlying9 ((hfl 2 _ rfl).trans e2)
  obtain ⟨k3, h3, _, _⟩ := DataW.trod_string Try.underlying9 ((hfl 3 _ rfl).trans e3)
  obtain ⟨k4, h4, _, _⟩ := DataW.trod_string Try.underlying9 ((hfl 4 _ rfl).trans e4)
  obtain ⟨k5, h5, _, _⟩ := DataW.trod_string Try.underlying9 ((hfl 5 _ rfl).trans e5)
  obtain ⟨k6, h6, _⟩ := DataW.trod_bool Try.underlying4 ((hfl 6 _ rfl).trans e6)
  exact ⟨(k0, k1, k2, k3, k4, k5, k6), by injection h0, by injection h1, by injection h2, by injection h3, by injection h4, by injection h5, by injection h6⟩
set_option maxRecDepth 100000 in
theorem pt_of_trod {fuel : Nat} {c0 c1 c2 c3 c4 c5 c6 c7 c8 c9 ca cb cc cd ce : Value} {x : DataW H × List MemPlace} (hf : DataW.trod enc Try.prog w base spare held fuel 33 [c0, c1, c2, c3, c4, c5, c6, c7, c8, c9, ca, cb, cc, cd, ce] = some x) :
    ∃ p : Pt, [c0, c1, c2, c3, c4, c5, c6, c7, c8, c9, ca, cb, cc, cd, ce] = encP p := by
  obtain ⟨xs, n, _, _, _, hlen, hfl⟩ := DataW.trod_struct Try.underlying33 hf
  have g : ∀ i, i < xs.length → ∃ y, xs[i]? = some y := fun i hi => ⟨_, List.getElem?_eq_getElem hi⟩
  have hl : xs.length = 9 := hlen
  obtain ⟨y0, e0⟩ := g 0 (by omega)
  obtain ⟨y1, e1⟩ := g 1 (by omega)
  obtain ⟨y2, e2⟩ := g 2 (by omega)
  obtain ⟨y3, e3⟩ := g 3 (by omega)
  obtain ⟨y4, e4⟩ := g 4 (by omega)
  obtain ⟨y5, e5⟩ := g 5 (by omega)
  obtain ⟨y6, e6⟩ := g 6 (by omega)
  obtain ⟨y7, e7⟩ := g 7 (by omega)
  obtain ⟨y8, e8⟩ := g 8 (by omega)
  obtain ⟨k0, h0, _, _⟩ := DataW.trod_int Try.underlying3 ((hfl 0 _ rfl).trans e0)
  obtain ⟨k1, h1, _, _⟩ := DataW.trod_string Try.underlying9 ((hfl 1 _ rfl).trans e1)
  obtain ⟨k2, h2, _, _⟩ := DataW.trod_string Try.underlying9 ((hfl 2 _ rfl).trans e2)
  obtain ⟨k3, h3, _, _⟩ := DataW.trod_string Try.underlying9 ((hfl 3 _ rfl).trans e3)
  obtain ⟨k4, h4, _, _⟩ := DataW.trod_string Try.underlying9 ((hfl 4 _ rfl).trans e4)
  obtain ⟨it, i0, i1, i2, i3, i4, i5, i6⟩ := it_of_trod (show DataW.trod enc Try.prog w base spare held n 31 [c5, c6, c7, c8, c9, ca, cb] = some y5 from (hfl 5 _ rfl).trans e5)
  obtain ⟨k6, h6, _, _⟩ := DataW.trod_int Try.underlying3 ((hfl 6 _ rfl).trans e6)
  obtain ⟨k7, h7, _, _⟩ := DataW.trod_string Try.underlying9 ((hfl 7 _ rfl).trans e7)
  obtain ⟨k8, h8, _, _⟩ := DataW.trod_string Try.underlying9 ((hfl 8 _ rfl).trans e8)
  have q0 : c0 = .int .i64 k0 := by injection h0
  have q1 : c1 = .string k1 := by injection h1
  have q2 : c2 = .string k2 := by injection h2
  have q3 : c3 = .string k3 := by injection h3
  have q4 : c4 = .string k4 := by injection h4
  have q6 : cc = .int .i64 k6 := by injection h6
  have q7 : cd = .string k7 := by injection h7
  have q8 : ce = .string k8 := by injection h8
  subst q0 q1 q2 q3 q4 q6 q7 q8 i0 i1 i2 i3 i4 i5 i6
  exact ⟨(k0, k1, k2, k3, k4, it, k6, k7, k8), rfl⟩
set_option maxRecDepth 100000 in
theorem twenty {cs : List Value} (h : cs.length = 20) : ∃ c0 c1 c2 c3 p0 p1 p2 p3 p4 p5 p6 p7 p8 p9 pa pb pc pd pe g, cs = [c0, c1, c2, c3, p0, p1, p2, p3, p4, p5, p6, p7, p8, p9, pa, pb, pc, pd, pe, g] := by
  match cs, h with
  | [c0, c1, c2, c3, p0, p1, p2, p3, p4, p5, p6, p7, p8, p9, pa, pb, pc, pd, pe, g], _ => exact ⟨c0, c1, c2, c3, p0, p1, p2, p3, p4, p5, p6, p7, p8, p9, pa, pb, pc, pd, pe, g, rfl⟩
set_option maxRecDepth 100000 in
theorem cl_of_trod {fuel : Nat} {cs : List Value} (hcl : cs.length = 20) {x : DataW H × List MemPlace} (hf : DataW.trod enc Try.prog w base spare held fuel 35 cs = some x) : ∃ c : Cl, cs = encC c := by
  obtain ⟨c0, c1, c2, c3, p0, p1, p2, p3, p4, p5, p6, p7, p8, p9, pa, pb, pc, pd, pe, gv, rfl⟩ := twenty hcl
  obtain ⟨xs, n, _, _, _, hlen, hfl⟩ := DataW.trod_struct Try.underlying35 hf
  have g : ∀ i, i < xs.length → ∃ y, xs[i]? = some y := fun i hi => ⟨_, List.getElem?_eq_getElem hi⟩
  have hl : xs.length = 4 := hlen
  obtain ⟨y0, e0⟩ := g 0 (by omega)
  obtain ⟨y1, e1⟩ := g 1 (by omega)
  obtain ⟨y2, e2⟩ := g 2 (by omega)
  obtain ⟨y3, e3⟩ := g 3 (by omega)
  obtain ⟨s0, i0, i1⟩ := st_of_trod (show DataW.trod enc Try.prog w base spare held n 29 [c0, c1] = some y0 from (hfl 0 _ rfl).trans e0)
  obtain ⟨s1, i2, i3⟩ := st_of_trod (show DataW.trod enc Try.prog w base spare held n 29 [c2, c3] = some y1 from (hfl 1 _ rfl).trans e1)
  obtain ⟨p, hp⟩ := pt_of_trod (show DataW.trod enc Try.prog w base spare held n 33 [p0, p1, p2, p3, p4, p5, p6, p7, p8, p9, pa, pb, pc, pd, pe] = some y2 from (hfl 2 _ rfl).trans e2)
  obtain ⟨k, h3, _⟩ := DataW.trod_bool Try.underlying4 ((hfl 3 _ rfl).trans e3)
  have q3 : gv = .bool k := by injection h3
  subst i0 i1 i2 i3 q3
  refine ⟨⟨s0, s1, p, k⟩, ?_⟩
  show [_, _, _, _] ++ ([p0, p1, p2, p3, p4, p5, p6, p7, p8, p9, pa, pb, pc, pd, pe] ++ [_]) = _
  rw [hp]
  rfl
set_option maxRecDepth 100000 in
theorem cls_of_trod {fuel len cap : Nat} {A : Option Addr} {x : DataW H × List MemPlace} (hf : DataW.trod enc Try.prog w base spare held fuel 42 [.slice A len cap] = some x) :
    ∃ l : List Cl, l.length = len ∧ ClsAt w w.heap.size A l ∧ len ≤ 9223372036854775807 := by
  have hlen := slice_len Try.underlying42 hf
  have hs := slice_elems (k := 20) Try.underlying42 (by kernel_rfl) (by decide) hf
  obtain ⟨S, hl, hp⟩ := list_of (p := fun i (c : Cl) => ∃ g off, A = some ⟨g, off, none⟩ ∧ g < w.heap.size ∧ ∀ (k : Nat) (v : Value), (encC c)[k]? = some v → w.cell? ⟨g, off + i * 20 + k, none⟩ = some v) len (fun i hi => by
    obtain ⟨g, off, n, vs, y, h1, h2, h3, h4, h5⟩ := hs i hi
    obtain ⟨c, rfl⟩ := cl_of_trod h3 h5
    exact ⟨c, g, off, h1, h2, h4⟩)
  exact ⟨S, hl, hp, hlen⟩
set_option maxRecDepth 100000 in
theorem cls_at {len cap : Nat} {A : Option Addr} {d : DataW H} {p : List MemPlace} (h : DataW.Trod enc Try.prog w base spare held 42 (.slice A len cap) d p) :
    ∃ l : List Cl, l.length = len ∧ ClsAt w w.heap.size A l := by
  obtain ⟨fuel, hf⟩ := h
  obtain ⟨l, h1, h2, _⟩ := cls_of_trod (show DataW.trod enc Try.prog w base spare held fuel 42 [.slice A len cap] = some _ from hf)
  exact ⟨l, h1, h2⟩
set_option maxRecDepth 100000 in
theorem clause_at {v : Value} {d : DataW H} {p : List MemPlace} {cs : Array Value} (hv : v = .agg cs) (hsz : cs.size = Try.prog.cellsOf 35)
    (h : DataW.Trod enc Try.prog w base spare held 35 v d p) : ∃ c : Cl, v = .agg (clA c) := by
  subst hv
  have h2 : Try.prog.cellsOf 35 = 20 := by kernel_rfl
  rw [h2] at hsz
  obtain ⟨fuel, hf⟩ := h
  have hc : (Value.agg cs).cells.toList = cs.toList := rfl
  rw [hc] at hf
  obtain ⟨c, h3⟩ := cl_of_trod (by simpa using hsz) hf
  exact ⟨c, by congr 1; exact Array.toList_inj.1 h3⟩
set_option maxRecDepth 100000 in
theorem stamp_at {v : Value} {d : DataW H} {p : List MemPlace} {cs : Array Value} (hv : v = .agg cs) (hsz : cs.size = Try.prog.cellsOf 29)
    (h : DataW.Trod enc Try.prog w base spare held 29 v d p) : ∃ s : St2, v = .agg (stA s) := by
  subst hv
  have h2 : Try.prog.cellsOf 29 = 2 := by kernel_rfl
  rw [h2] at hsz
  obtain ⟨fuel, hf⟩ := h
  have hc : (Value.agg cs).cells.toList = cs.toList := rfl
  rw [hc] at hf
  obtain ⟨⟨a, b⟩, hcs⟩ : ∃ q : Value × Value, cs = #[q.1, q.2] := by
    obtain ⟨l⟩ := cs
    match l, hsz with
    | [c0, c1], _ => exact ⟨(c0, c1), rfl⟩
  subst hcs
  obtain ⟨s, h3, h4⟩ := st_of_trod hf
  simp only at h3 h4
  subst h3 h4
  exact ⟨s, rfl⟩

/-- The operations of a law: Drop or Put, and the clause. -/
def OpsAt (w : World) (B : Nat) (A : Option Addr) (l : List (Bool × Cl)) : Prop :=
  ∀ (i : Nat) (c : Bool × Cl), l[i]? = some c → ∃ g off, A = some ⟨g, off, none⟩ ∧ g < B ∧ w.cell? ⟨g, off + i * 21, none⟩ = some (.bool c.1) ∧ ∀ (k : Nat) (v : Value), (encC c.2)[k]? = some v → w.cell? ⟨g, off + i * 21 + 1 + k, none⟩ = some v
theorem OpsAt.below {w w' : World} {B : Nat} {A : Option Addr} {l : List (Bool × Cl)} (h : OpsAt w B A l) (hb : Below B w w') : OpsAt w' B A l := fun i c hi => by
  obtain ⟨g, off, h1, h2, h3, h4⟩ := h i c hi
  exact ⟨g, off, h1, h2, (hb.cell (p := ⟨g, off + i * 21, none⟩) h2).trans h3, fun k v hv => (hb.cell (p := ⟨g, off + i * 21 + 1 + k, none⟩) h2).trans (h4 k v hv)⟩
theorem OpsAt.wide {w : World} {B B' : Nat} {A : Option Addr} {l : List (Bool × Cl)} (h : OpsAt w B A l) (hB : B ≤ B') : OpsAt w B' A l := fun i c hi => by
  obtain ⟨g, off, h1, h2, h3⟩ := h i c hi
  exact ⟨g, off, h1, by omega, h3⟩
set_option maxRecDepth 100000 in
theorem ops_at {len cap : Nat} {A : Option Addr} {d : DataW H} {p : List MemPlace} (h : DataW.Trod enc Try.prog w base spare held 22 (.slice A len cap) d p) :
    ∃ l : List (Bool × Cl), l.length = len ∧ OpsAt w w.heap.size A l := by
  obtain ⟨fuel, hf0⟩ := h
  have hf : DataW.trod enc Try.prog w base spare held fuel 22 [.slice A len cap] = some _ := hf0
  have hs := slice_elems (k := 21) Try.underlying22 (by kernel_rfl) (by decide) hf
  obtain ⟨S, hl, hp⟩ := list_of (p := fun i (c : Bool × Cl) => ∃ g off, A = some ⟨g, off, none⟩ ∧ g < w.heap.size ∧ w.cell? ⟨g, off + i * 21, none⟩ = some (.bool c.1) ∧ ∀ (k : Nat) (v : Value), (encC c.2)[k]? = some v → w.cell? ⟨g, off + i * 21 + 1 + k, none⟩ = some v) len (fun i hi => by
    obtain ⟨g, off, n, vs, y, h1, h2, h3, h4, h5⟩ := hs i hi
    obtain ⟨xs, m, _, _, _, hlen, hfl⟩ := DataW.trod_struct Try.underlying37 h5
    have gg : ∀ i, i < xs.length → ∃ y, xs[i]? = some y := fun i hi => ⟨_, List.getElem?_eq_getElem hi⟩
    have hl : xs.length = 2 := hlen
    obtain ⟨y0, e0⟩ := gg 0 (by omega)
    obtain ⟨y1, e1⟩ := gg 1 (by omega)
    obtain ⟨q, vs, rfl⟩ : ∃ q us, vs = q :: us := by
      match vs, h3 with
      | q :: us, _ => exact ⟨q, us, rfl⟩
    have hul : vs.length = 20 := by simpa using h3
    have t1 : DataW.trod enc Try.prog w base spare held m 35 (vs.take 20) = some y1 := (hfl 1 _ rfl).trans e1
    rw [List.take_of_length_le (by omega)] at t1
    obtain ⟨k0, h0, _⟩ := DataW.trod_bool Try.underlying4 ((hfl 0 _ rfl).trans e0)
    have q0 : q = .bool k0 := by injection h0
    subst q0
    obtain ⟨c, rfl⟩ := cl_of_trod hul t1
    refine ⟨(k0, c), g, off, h1, h2, h4 0 _ rfl, fun k v hv => ?_⟩
    have := h4 (k + 1) v (by simpa using hv)
    rwa [show off + i * 21 + (k + 1) = off + i * 21 + 1 + k by omega] at this)
  exact ⟨S, hl, hp⟩
end
end Go.Proofs.Ytbihklfcdpgcgaa
