/- Reading arguments: a slice of structs whose fields are one cell each. Over any program. Reading a matter as an argument. The reference's Few and Short: what they promise. The procedure of the chapter's examples. -/
import Derived.Test.YtgfahifdmacmhaaGreatDoorBase
import Derived.Deep.Slices
import Derived.Deep.Fields
import Derived.ChangeSame
import Derived.ChangeOld
import Derived.ProofKit
import Derived.OpenShut
import Derived.ShutString
import Derived.Test.YtgfahifdmacmhaaGreatDoorQm
import Derived.Test.YtgfahifdmacmhaaGreatDoorQo
import Derived.Deep.LoopGhost
import Derived.Test.YtgfahifdmacmhaaGreatDoorQx
namespace Go.Proofs.YtgfahifdmacmhaaGreatDoor
open Go.RowKit Go.ChangeShapes Go.WideShapes Go.Deep

section
variable {H : Type} {enc : TypeId × Value → H} {P : Program} {w : World} {base : Nat} {spare : Nat → Bool} {held : Bool}

theorem spot_none {w : World} {a : Addr} {k : Nat} {v : Value} (h : w.cell? (a.add k) = some v) : a.add k = ⟨a.block, a.off + k, none⟩ := by
  have hs := World.cell?_spot h
  obtain ⟨b, o, s⟩ := a
  by_cases h0 : k = 0
  · subst h0
    have : s = none := by simpa [Addr.add] using hs
    subst this
    simp [Addr.add]
  · simp [Addr.add, h0]

theorem slice_len {t e : TypeId} {fuel len cap : Nat} {A : Option Addr} {x : DataW H × List MemPlace} (ht : P.underlying t = some (.slice e)) (h : DataW.trod enc P w base spare held fuel t [.slice A len cap] = some x) :
    len ≤ 9223372036854775807 := by
  rcases open_slice ht h with ⟨h0, _⟩ | ⟨a, len', cap', m, n, D, Pl, hcs, hb, hl, hm, _⟩
  · injection h0 with h0
    injection h0 with _ h1 _
    omega
  · injection hcs with hcs _
    injection hcs with hA hle hca
    subst hA hle hca
    unfold maxLen at hm
    omega

/-- The elements of a slice of structs, cell by cell. -/
theorem slice_structs {t e : TypeId} {fs : Array Field} {fuel len cap : Nat} {A : Option Addr} {x : DataW H × List MemPlace} (ht : P.underlying t = some (.slice e)) (he : P.underlying e = some (.struct fs))
    (hone : oneCellFields P fs = true) (hC : P.cellsOf e = fs.size) (h : DataW.trod enc P w base spare held fuel t [.slice A len cap] = some x) :
    ∀ i, i < len → ∃ (a : Addr) (n : Nat) (vs : List Value), A = some a ∧ vs.length = fs.size ∧ (∀ j v, vs[j]? = some v → w.cell? ⟨a.block, a.off + i * fs.size + j, none⟩ = some v ∧ a.block < w.heap.size) ∧
      (0 < fs.size → a.spot = none) ∧
      ∀ (j : Nat) (f : Field), fs[j]? = some f → ∃ v y, vs[j]? = some v ∧ DataW.trod enc P w base spare held n f.type [v] = some y := by
  intro i hi
  rcases open_slice ht h with ⟨h0, _⟩ | ⟨a, len', cap', m, n, D, Pl, hcs, hb, hl, hm, hmm, hx, hall⟩
  · injection h0 with h0
    injection h0 with _ h1 _
    omega
  · injection hcs with hcs _
    injection hcs with hA hle hca
    subst hA hle hca
    obtain ⟨cs', hc, ht'⟩ := hall i (by rw [hmm]; split <;> omega)
    rw [hC] at hc
    obtain ⟨ys, n', _, _, hlen, hyl, hf⟩ := DataW.trod_struct he ht'
    obtain ⟨_, hcl, hat⟩ := World.cells?_some hc
    have hcell : ∀ j v, cs'[j]? = some v → w.cell? ((a.add (i * fs.size)).add j) = some v := fun j v hv => by
      have hj : j < fs.size := by rw [← hcl]; exact (List.getElem?_eq_some_iff.1 hv).1
      rw [hat j hj, hv]
    refine ⟨a, n', cs', rfl, hcl, fun j v hv => ?_, fun h0 => ?_, fun j f hj => ?_⟩
    · have h1 := hcell j v hv
      rw [Go.Deep.add_add] at h1
      have h2 := spot_none h1
      rw [h2] at h1
      have h3 : a.off + (i * fs.size + j) = a.off + i * fs.size + j := by omega
      rw [h3] at h1
      refine ⟨h1, ?_⟩
      exact World.block_lt_of_cell? w ⟨a.block, a.off + i * fs.size + j, none⟩ h1
    · obtain ⟨cs0, hc0, _⟩ := hall 0 (by rw [hmm]; split <;> omega)
      rw [hC] at hc0
      obtain ⟨_, hcl0, hat0⟩ := World.cells?_some hc0
      have h1 := hat0 0 h0
      rw [List.getElem?_eq_getElem (by omega)] at h1
      rw [Go.Deep.add_add] at h1
      simpa [Addr.add] using World.cell?_spot h1
    · obtain ⟨ho, hk⟩ := hone_of hone j f hj
      have hjl : j < fs.size := (Array.getElem?_eq_some_iff.1 hj).1
      have h1 := hf j f hj
      rw [ho, hk] at h1
      have h2 : (cs'.drop j).take 1 = [cs'[j]'(by omega)] := by
        rw [List.drop_eq_getElem_cons (by omega)]
        rfl
      rw [h2] at h1
      exact ⟨_, ys[j]'(by omega), List.getElem?_eq_getElem (by omega), h1.trans (List.getElem?_eq_getElem (by omega))⟩
end

/-- A list made element by element. -/
theorem list_of {α : Type} {p : Nat → α → Prop} (n : Nat) (h : ∀ i, i < n → ∃ a, p i a) : ∃ l : List α, l.length = n ∧ ∀ i a, l[i]? = some a → p i a := by
  induction n with
  | zero => exact ⟨[], rfl, fun i a hi => by simp at hi⟩
  | succ n ih =>
    obtain ⟨l, hl, hp⟩ := ih (fun i hi => h i (by omega))
    obtain ⟨a, ha⟩ := h n (by omega)
    refine ⟨l ++ [a], by simp [hl], fun i b hi => ?_⟩
    rcases Nat.lt_or_ge i l.length with h1 | h1
    · rw [List.getElem?_append_left h1] at hi
      exact hp i b hi
    · have : i = l.length := by
        have := (List.getElem?_eq_some_iff.1 hi).1
        simp at this
        omega
      subst this
      simp at hi
      subst hi
      rw [hl]
      exact ha
end Go.Proofs.YtgfahifdmacmhaaGreatDoor

namespace Go.Proofs.YtgfahifdmacmhaaGreatDoor
open Go.RowKit Go.ChangeShapes Go.WideShapes Go.Deep

section
variable {H : Type} {enc : TypeId × Value → H} {P : Program} {w : World} {base : Nat} {spare : Nat → Bool} {held : Bool}
/-- The elements of a slice, each by its cells. -/
theorem slice_elems {t e : TypeId} {fuel len cap k : Nat} {A : Option Addr} {x : DataW H × List MemPlace} (ht : P.underlying t = some (.slice e)) (hC : P.cellsOf e = k) (hk : 0 < k)
    (h : DataW.trod enc P w base spare held fuel t [.slice A len cap] = some x) :
    ∀ i, i < len → ∃ (g off n : Nat) (vs : List Value) (y : DataW H × List MemPlace), A = some ⟨g, off, none⟩ ∧ g < w.heap.size ∧ vs.length = k ∧ (∀ j v, vs[j]? = some v → w.cell? ⟨g, off + i * k + j, none⟩ = some v) ∧ DataW.trod enc P w base spare held n e vs = some y := by
  intro i hi
  rcases open_slice ht h with ⟨h0, _⟩ | ⟨a, len', cap', m, n, D, Pl, hcs, hb, hl, hm, hmm, hx, hall⟩
  · injection h0 with h0
    injection h0 with _ h1 _
    omega
  · injection hcs with hcs _
    injection hcs with hA hle hca
    subst hA hle hca
    rw [hC] at hall
    obtain ⟨g, off, spot⟩ := a
    have hspot : spot = none := by
      obtain ⟨cs0, hc0, _⟩ := hall 0 (by rw [hmm]; split <;> omega)
      obtain ⟨_, hcl0, hat0⟩ := World.cells?_some hc0
      have h1 := hat0 0 hk
      rw [List.getElem?_eq_getElem (by omega), Go.Deep.add_add] at h1
      simpa [Addr.add] using World.cell?_spot h1
    subst hspot
    obtain ⟨cs', hc, ht'⟩ := hall i (by rw [hmm]; split <;> omega)
    obtain ⟨_, hcl, hat⟩ := World.cells?_some hc
    have hcell : ∀ j v, cs'[j]? = some v → w.cell? ⟨g, off + i * k + j, none⟩ = some v := fun j v hv => by
      have hj : j < k := by rw [← hcl]; exact (List.getElem?_eq_some_iff.1 hv).1
      have h1 := hat j hj
      rw [hv, Go.Deep.add_add] at h1
      have h2 := spot_none h1
      rw [h2] at h1
      have h3 : off + (i * k + j) = off + i * k + j := by omega
      rw [h3] at h1
      exact h1
    have hlt : g < w.heap.size := by
      have h1 := hcell 0 (cs'[0]'(by omega)) (List.getElem?_eq_getElem (by omega))
      exact World.block_lt_of_cell? w ⟨g, off + i * k + 0, none⟩ h1
    exact ⟨g, off, n, cs', _, rfl, hlt, hcl, hcell, ht'⟩
end
section
variable {H : Type} {enc : TypeId × Value → H} {w : World} {base : Nat} {spare : Nat → Bool} {held : Bool} {fuel len cap : Nat} {A : Option Addr} {x : DataW H × List MemPlace}
set_option maxRecDepth 100000 in
theorem ints_trod {t : TypeId} (ht : Tryz.prog.underlying t = some (.slice 3)) (hf : DataW.trod enc Tryz.prog w base spare held fuel t [.slice A len cap] = some x) : ∃ l : List Int, l.length = len ∧ IntsAt w w.heap.size A l ∧ len ≤ 9223372036854775807 := by
  have hlen := slice_len ht hf
  have hs := slice_elems ht (k := 1) (by kernel_rfl) (by decide) hf
  obtain ⟨l, hl, hp⟩ := list_of (p := fun i (v : Int) => ∃ g off, A = some ⟨g, off, none⟩ ∧ g < w.heap.size ∧ w.cell? ⟨g, off + i, none⟩ = some (.int .i64 v)) len (fun i hi => by
    obtain ⟨g, off, n, vs, y, hA, hg, hvl, hc, ht'⟩ := hs i hi
    match vs, hvl with
    | [v0], _ =>
      obtain ⟨v, h0, _, _⟩ := DataW.trod_int Tryz.underlying3 ht'
      have q0 : v0 = .int .i64 v := by injection h0
      subst q0
      have := hc 0 _ rfl
      rw [Nat.mul_one, Nat.add_zero] at this
      exact ⟨v, g, off, hA, hg, this⟩)
  exact ⟨l, hl, hp, hlen⟩
set_option maxRecDepth 100000 in
theorem strs_trod {t : TypeId} (ht : Tryz.prog.underlying t = some (.slice 9)) (hf : DataW.trod enc Tryz.prog w base spare held fuel t [.slice A len cap] = some x) : ∃ l : List ByteArray, l.length = len ∧ BtsAt w w.heap.size A l ∧ (∀ s ∈ l, s.size ≤ 9223372036854775807) ∧ len ≤ 9223372036854775807 := by
  have hlen := slice_len ht hf
  have hs := slice_elems ht (k := 1) (by kernel_rfl) (by decide) hf
  obtain ⟨l, hl, hp⟩ := list_of (p := fun i (v : ByteArray) => (∃ g off, A = some ⟨g, off, none⟩ ∧ g < w.heap.size ∧ w.cell? ⟨g, off + i, none⟩ = some (.string v)) ∧ v.size ≤ 9223372036854775807) len (fun i hi => by
    obtain ⟨g, off, n, vs, y, hA, hg, hvl, hc, ht'⟩ := hs i hi
    match vs, hvl with
    | [v0], _ =>
      obtain ⟨v, h0, _, w0⟩ := DataW.trod_string Tryz.underlying9 ht'
      have q0 : v0 = .string v := by injection h0
      subst q0
      have := hc 0 _ rfl
      rw [Nat.mul_one, Nat.add_zero] at this
      exact ⟨v, ⟨g, off, hA, hg, this⟩, w0⟩)
  exact ⟨l, hl, fun i v h => (hp i v h).1, fun s h => by obtain ⟨i, hi⟩ := List.getElem?_of_mem h; exact (hp i s hi).2, hlen⟩
set_option maxRecDepth 100000 in
theorem rts_trod (hf : DataW.trod enc Tryz.prog w base spare held fuel 24 [.slice A len cap] = some x) : ∃ l : List Rt, l.length = len ∧ RtsAt w w.heap.size A l ∧ (∀ r ∈ l, r.1.size ≤ 9223372036854775807) ∧ len ≤ 9223372036854775807 := by
  have hlen := slice_len Tryz.underlying24 hf
  have hs := slice_elems Tryz.underlying24 (k := 2) (by kernel_rfl) (by decide) hf
  obtain ⟨l, hl, hp⟩ := list_of (p := fun i (v : Rt) => (∃ g off, A = some ⟨g, off, none⟩ ∧ g < w.heap.size ∧ w.cell? ⟨g, off + i * 2, none⟩ = some (.string v.1) ∧ w.cell? ⟨g, off + i * 2 + 1, none⟩ = some (.int .i64 v.2)) ∧ v.1.size ≤ 9223372036854775807) len (fun i hi => by
    obtain ⟨g, off, n, vs, y, hA, hg, hvl, hc, ht'⟩ := hs i hi
    match vs, hvl with
    | [v0, v1], _ =>
      obtain ⟨xs, n, _, hx, hl, hlen, hfl⟩ := DataW.trod_struct Tryz.underlying41 ht'
      have hlen2 : xs.length = 2 := hlen
      have gg : ∀ i, i < xs.length → ∃ y, xs[i]? = some y := fun i hi => ⟨_, List.getElem?_eq_getElem hi⟩
      obtain ⟨y0, e0⟩ := gg 0 (by omega)
      obtain ⟨y1, e1⟩ := gg 1 (by omega)
      obtain ⟨s, h0, _, w0⟩ := DataW.trod_string Tryz.underlying9 ((hfl 0 _ rfl).trans e0)
      obtain ⟨d, h1, _, _⟩ := DataW.trod_int Tryz.underlying3 ((hfl 1 _ rfl).trans e1)
      have q0 : v0 = .string s := by injection h0
      have q1 : v1 = .int .i64 d := by injection h1
      subst q0 q1
      exact ⟨(s, d), ⟨g, off, hA, hg, hc 0 _ rfl, hc 1 _ rfl⟩, w0⟩)
  exact ⟨l, hl, fun i v h => (hp i v h).1, fun s h => by obtain ⟨i, hi⟩ := List.getElem?_of_mem h; exact (hp i s hi).2, hlen⟩
set_option maxRecDepth 100000 in
theorem stops_trod (hf : DataW.trod enc Tryz.prog w base spare held fuel 63 [.slice A len cap] = some x) : ∃ S : List Stp2, S.length = len ∧ StopsAt w w.heap.size A S ∧ len ≤ 9223372036854775807 := by
  have hlen := slice_len Tryz.underlying63 hf
  have hs := slice_elems Tryz.underlying63 (k := 2) (by kernel_rfl) (by decide) hf
  obtain ⟨l, hl, hp⟩ := list_of (p := fun i (s : Stp2) => ∃ g off, A = some ⟨g, off, none⟩ ∧ g < w.heap.size ∧ w.cell? ⟨g, off + i * 2, none⟩ = some (.int .i64 s.1) ∧ w.cell? ⟨g, off + i * 2 + 1, none⟩ = some (.int .i64 s.2)) len (fun i hi => by
    obtain ⟨g, off, n, vs, y, hA, hg, hvl, hc, ht'⟩ := hs i hi
    match vs, hvl with
    | [v0, v1], _ =>
      obtain ⟨xs, n, _, hx, hl, hlen, hfl⟩ := DataW.trod_struct Tryz.underlying77 ht'
      have hlen2 : xs.length = 2 := hlen
      have gg : ∀ i, i < xs.length → ∃ y, xs[i]? = some y := fun i hi => ⟨_, List.getElem?_eq_getElem hi⟩
      obtain ⟨y0, e0⟩ := gg 0 (by omega)
      obtain ⟨y1, e1⟩ := gg 1 (by omega)
      obtain ⟨s, h0, _, _⟩ := DataW.trod_int Tryz.underlying3 ((hfl 0 _ rfl).trans e0)
      obtain ⟨d, h1, _, _⟩ := DataW.trod_int Tryz.underlying3 ((hfl 1 _ rfl).trans e1)
      have q0 : v0 = .int .i64 s := by injection h0
      have q1 : v1 = .int .i64 d := by injection h1
      subst q0 q1
      exact ⟨(s, d), g, off, hA, hg, hc 0 _ rfl, hc 1 _ rfl⟩)
  exact ⟨l, hl, hp, hlen⟩
set_option maxRecDepth 100000 in
theorem limit_trod {cs : List Value} (hc5 : cs.length = 5) (hf : DataW.trod enc Tryz.prog w base spare held fuel 65 cs = some x) : ∃ x : LmV, cs = [.string x.1.id, .int .i64 x.1.n, .int .i64 x.1.u, .int .i64 x.1.f, .slice x.2.1 x.1.S.length x.2.2] ∧ LmAt w w.heap.size x.2.1 x.1 := by
  match cs, hc5 with
  | [c0, c1, c2, c3, c4], _ =>
    obtain ⟨xs, n, _, hx, hl, hlen, hfl⟩ := DataW.trod_struct Tryz.underlying65 hf
    have g : ∀ i, i < xs.length → ∃ y, xs[i]? = some y := fun i hi => ⟨_, List.getElem?_eq_getElem hi⟩
    have hlen2 : xs.length = 4 := hlen
    obtain ⟨y0, e0⟩ := g 0 (by omega)
    obtain ⟨y1, e1⟩ := g 1 (by omega)
    obtain ⟨y2, e2⟩ := g 2 (by omega)
    obtain ⟨y3, e3⟩ := g 3 (by omega)
    have t0 := (hfl 0 _ rfl).trans e0
    have t1 := (hfl 1 _ rfl).trans e1
    have t2 := (hfl 2 _ rfl).trans e2
    have t3 := (hfl 3 _ rfl).trans e3
    have t1' : DataW.trod enc Tryz.prog w base spare held n 62 [c1, c2] = some y1 := t1
    have t3' : DataW.trod enc Tryz.prog w base spare held n 63 [c4] = some y3 := t3
    obtain ⟨k0, h0, _, w0⟩ := DataW.trod_string Tryz.underlying9 t0
    obtain ⟨k2, h2', _, _⟩ := DataW.trod_int Tryz.underlying3 t2
    have q0 : c0 = .string k0 := by injection h0
    have q3 : c3 = .int .i64 k2 := by injection h2'
    obtain ⟨xs1, n1, _, _, _, hlen1, hfl1⟩ := DataW.trod_struct Tryz.underlying62 t1'
    have g1 : ∀ i, i < xs1.length → ∃ y, xs1[i]? = some y := fun i hi => ⟨_, List.getElem?_eq_getElem hi⟩
    have hlen3 : xs1.length = 2 := hlen1
    obtain ⟨z0, f0⟩ := g1 0 (by omega)
    obtain ⟨z1, f1⟩ := g1 1 (by omega)
    obtain ⟨m0, j0, _, _⟩ := DataW.trod_int Tryz.underlying3 ((hfl1 0 _ rfl).trans f0)
    obtain ⟨m1, j1, _, _⟩ := DataW.trod_int Tryz.underlying3 ((hfl1 1 _ rfl).trans f1)
    have q1 : c1 = .int .i64 m0 := by injection j0
    have q2 : c2 = .int .i64 m1 := by injection j1
    obtain ⟨A, len, cap, q4⟩ : ∃ A len cap, c4 = .slice A len cap := by
      rcases open_slice Tryz.underlying63 t3' with ⟨h0, _⟩ | ⟨a, len', cap', m, n, D, Pl, hcs, _⟩
      · exact ⟨none, 0, 0, by injection h0⟩
      · exact ⟨_, _, _, by injection hcs⟩
    subst q0 q1 q2 q3 q4
    obtain ⟨S, hS, hst, hl9⟩ := stops_trod t3'
    subst hS
    exact ⟨(⟨k0, m0, m1, k2, S⟩, A, cap), rfl, hst, w0, hl9⟩
set_option maxRecDepth 100000 in
theorem lms_trod (hf : DataW.trod enc Tryz.prog w base spare held fuel 25 [.slice A len cap] = some x) : ∃ l : List LmV, l.length = len ∧ LmsAt w w.heap.size A l ∧ len ≤ 9223372036854775807 := by
  have hlen := slice_len Tryz.underlying25 hf
  have hs := slice_elems Tryz.underlying25 (k := 5) (by kernel_rfl) (by decide) hf
  obtain ⟨l, hl, hp⟩ := list_of (p := fun i (x : LmV) => ∃ g off, A = some ⟨g, off, none⟩ ∧ g < w.heap.size ∧ w.cell? ⟨g, off + i * 5, none⟩ = some (.string x.1.id) ∧ w.cell? ⟨g, off + i * 5 + 1, none⟩ = some (.int .i64 x.1.n) ∧ w.cell? ⟨g, off + i * 5 + 2, none⟩ = some (.int .i64 x.1.u) ∧ w.cell? ⟨g, off + i * 5 + 3, none⟩ = some (.int .i64 x.1.f) ∧ w.cell? ⟨g, off + i * 5 + 4, none⟩ = some (.slice x.2.1 x.1.S.length x.2.2) ∧ LmAt w w.heap.size x.2.1 x.1) len (fun i hi => by
    obtain ⟨g, off, n, vs, y, hA, hg, hvl, hc, ht'⟩ := hs i hi
    obtain ⟨x, hx, hlm⟩ := limit_trod hvl ht'
    subst hx
    exact ⟨x, g, off, hA, hg, hc 0 _ rfl, hc 1 _ rfl, hc 2 _ rfl, hc 3 _ rfl, hc 4 _ rfl, hlm⟩)
  exact ⟨l, hl, hp, hlen⟩
/-- What a matter at an argument gives. -/
def MtIn (w : World) (z : Mt × MtX) : Prop := MtAt w w.heap.size z.1 z.2 ∧ z.1.cs.length ≤ 9223372036854775807 ∧ z.1.mv.length ≤ 9223372036854775807 ∧ z.1.rs.length ≤ 9223372036854775807 ∧ z.1.ls.length ≤ 9223372036854775807 ∧ wf64 z.1.o ∧ wf64 z.1.st
theorem slice_form {t e : TypeId} {v : Value} (ht : Tryz.prog.underlying t = some (.slice e)) (hf : DataW.trod enc Tryz.prog w base spare held fuel t [v] = some x) : ∃ A len cap, v = .slice A len cap := by
  rcases open_slice ht hf with ⟨h0, _⟩ | ⟨a, len', cap', m, n, D, Pl, hcs, _⟩
  · exact ⟨none, 0, 0, by injection h0⟩
  · exact ⟨_, _, _, by injection hcs⟩
set_option maxRecDepth 100000 in
theorem matter_at {v : Value} {d : DataW H} {p : List MemPlace} {cs : Array Value} (hv : v = .agg cs) (hsz : cs.size = Tryz.prog.cellsOf 27)
    (h : DataW.Trod enc Tryz.prog w base spare held 27 v d p) : ∃ z : Mt × MtX, v = .agg (mtC z.1 z.2) ∧ MtIn w z := by
  subst hv
  have h2 : Tryz.prog.cellsOf 27 = 8 := by kernel_rfl
  rw [h2] at hsz
  obtain ⟨fuel, hf⟩ := h
  have hc : (Value.agg cs).cells.toList = cs.toList := rfl
  rw [hc] at hf
  obtain ⟨c0, c1, c2, c3, c4, c5, c6, c7, hcs⟩ : ∃ c0 c1 c2 c3 c4 c5 c6 c7, cs = #[c0, c1, c2, c3, c4, c5, c6, c7] := by
    obtain ⟨l⟩ := cs
    match l, hsz with
    | [c0, c1, c2, c3, c4, c5, c6, c7], _ => exact ⟨c0, c1, c2, c3, c4, c5, c6, c7, rfl⟩
  subst hcs
  obtain ⟨xs, n, _, hx, hl, hlen, hfl⟩ := DataW.trod_struct Tryz.underlying27 hf
  have g : ∀ i, i < xs.length → ∃ y, xs[i]? = some y := fun i hi => ⟨_, List.getElem?_eq_getElem hi⟩
  have hlen2 : xs.length = 8 := hlen
  obtain ⟨y0, e0⟩ := g 0 (by omega)
  obtain ⟨y1, e1⟩ := g 1 (by omega)
  obtain ⟨y2, e2⟩ := g 2 (by omega)
  obtain ⟨y3, e3⟩ := g 3 (by omega)
  obtain ⟨y4, e4⟩ := g 4 (by omega)
  obtain ⟨y5, e5⟩ := g 5 (by omega)
  obtain ⟨y6, e6⟩ := g 6 (by omega)
  obtain ⟨y7, e7⟩ := g 7 (by omega)
  obtain ⟨k0, h0, _, w0⟩ := DataW.trod_string Tryz.underlying9 ((hfl 0 _ rfl).trans e0)
  obtain ⟨k1, h1, _, w1⟩ := DataW.trod_int Tryz.underlying3 ((hfl 1 _ rfl).trans e1)
  have t2 : DataW.trod enc Tryz.prog w base spare held n 23 [c2] = some y2 := (hfl 2 _ rfl).trans e2
  obtain ⟨k3, h3, _, w3⟩ := DataW.trod_string Tryz.underlying9 ((hfl 3 _ rfl).trans e3)
  obtain ⟨k4, h4, _, w4⟩ := DataW.trod_int Tryz.underlying3 ((hfl 4 _ rfl).trans e4)
  have t5 : DataW.trod enc Tryz.prog w base spare held n 22 [c5] = some y5 := (hfl 5 _ rfl).trans e5
  have t6 : DataW.trod enc Tryz.prog w base spare held n 24 [c6] = some y6 := (hfl 6 _ rfl).trans e6
  have t7 : DataW.trod enc Tryz.prog w base spare held n 25 [c7] = some y7 := (hfl 7 _ rfl).trans e7
  obtain ⟨A2, l2, q2, rfl⟩ := slice_form Tryz.underlying23 t2
  obtain ⟨A5, l5, q5, rfl⟩ := slice_form Tryz.underlying22 t5
  obtain ⟨A6, l6, q6, rfl⟩ := slice_form Tryz.underlying24 t6
  obtain ⟨A7, l7, q7, rfl⟩ := slice_form Tryz.underlying25 t7
  have r0 : c0 = .string k0 := by injection h0
  have r1 : c1 = .int .i64 k1 := by injection h1
  have r3 : c3 = .string k3 := by injection h3
  have r4 : c4 = .int .i64 k4 := by injection h4
  subst r0 r1 r3 r4
  obtain ⟨ics, hcs, b2, m2⟩ := ints_trod Tryz.underlying23 t2
  obtain ⟨mvs, hmv, b5, m5⟩ := ints_trod Tryz.underlying22 t5
  obtain ⟨rs, hrs, b6, n6, m6⟩ := rts_trod t6
  obtain ⟨lv, hls, b7, m7⟩ := lms_trod t7
  subst hcs hmv hrs hls
  refine ⟨(⟨k0, k1, ics, k3, k4, mvs, rs, lv.map (·.1)⟩, ⟨A2, q2, A5, q5, A6, q6, A7, q7, lv⟩), ?_, ⟨b2, b5, b6, b7, rfl, w0, w3, n6⟩, m2, m5, m6, by rw [List.length_map]; exact m7, wf64_lit.1 w1, wf64_lit.1 w4⟩
  simp [mtC]
end
end Go.Proofs.YtgfahifdmacmhaaGreatDoor

namespace Go.Proofs.YtgfahifdmacmhaaGreatDoor
open Go.RowKit Go.Shelf

/-- Few's promise: short lists. -/
def FewM (m : Mt) : Prop := m.cs.length ≤ 70 ∧ m.mv.length ≤ 70 ∧ m.rs.length ≤ 70 ∧ m.ls.length ≤ 70
theorem FewM.sml {m : Mt} (h : FewM m) : Sml m := ⟨by have := h.1; omega, by have := h.2.1; omega, by have := h.2.2.1; omega, by have := h.2.2.2; omega⟩
def FewPost (w : World) (P : Prop) (e : Ending) (w' : World) : Prop := ∃ q : Bool, e = .returned (.bool q) ∧ (q = true → P) ∧ Below w.heap.size w w'

set_option maxRecDepth 100000 in
set_option maxHeartbeats 8000000 in
theorem few_any (w : World) (B : Nat) (m : Mt) (x : MtX) (h : MtAt w B m x) (hB : B ≤ w.heap.size) (z1 : m.cs.length ≤ 9223372036854775807) (z2 : m.mv.length ≤ 9223372036854775807) (z3 : m.rs.length ≤ 9223372036854775807) (z4 : m.ls.length ≤ 9223372036854775807) :
    Calls Tryz.prog 10 #[.agg (mtC m x)] w (FewPost w (FewM m)) := by
  have hll := h.len
  have H := Lib.hid h
  have HB := Lib.hid hB
  clear h hB
  obtain ⟨id, o, cs, pr, st, mv, rs, ls⟩ := m
  obtain ⟨a1, c1, a2, c2, a3, c3, a4, c4, lv⟩ := x
  simp only at z1 z2 z3 z4 hll
  have hf : ∀ nc nm nr nl, cs.length = nc → mv.length = nm → rs.length = nr → ls.length = nl → (FewM ⟨id, o, cs, pr, st, mv, rs, ls⟩ ↔ nc ≤ 70 ∧ nm ≤ 70 ∧ nr ≤ 70 ∧ nl ≤ 70) := by
    intro nc nm nr nl e1 e2 e3 e4
    subst e1 e2 e3 e4
    exact Iff.rfl
  obtain ⟨nc, h1⟩ : ∃ k, cs.length = k := ⟨_, rfl⟩
  obtain ⟨nm, h2⟩ : ∃ k, mv.length = k := ⟨_, rfl⟩
  obtain ⟨nr, h3⟩ : ∃ k, rs.length = k := ⟨_, rfl⟩
  obtain ⟨nl, h4⟩ : ∃ k, ls.length = k := ⟨_, rfl⟩
  have hf := hf nc nm nr nl h1 h2 h3 h4
  obtain ⟨PP, hPP⟩ : ∃ P, FewM ⟨id, o, cs, pr, st, mv, rs, ls⟩ = P := ⟨_, rfl⟩
  rw [hPP] at hf ⊢
  have ec : mtC ⟨id, o, cs, pr, st, mv, rs, ls⟩ ⟨a1, c1, a2, c2, a3, c3, a4, c4, lv⟩ = #[.string id, .int .i64 o, .slice a1 nc c1, .string pr, .int .i64 st, .slice a2 nm c2, .slice a3 nr c3, .slice a4 nl c4] := by simp [mtC, h1, h2, h3, h4]
  rw [ec]
  rw [h1] at z1
  rw [h2] at z2
  rw [h3] at z3
  rw [h4] at z4 hll
  have HF := Lib.hid hf
  have HV3 := Lib.hid h3
  have HLL := Lib.hid hll
  clear ec hf hPP h1 h2 h3 h4 hll
  have hb := below_self_alloc w (.cells #[.string id, .int .i64 o, .slice a1 nc c1, .string pr, .int .i64 st, .slice a2 nm c2, .slice a3 nr c3, .slice a4 nl c4] 27)
  have k0 := Blk.new w 27 #[.string id, .int .i64 o, .slice a1 nc c1, .string pr, .int .i64 st, .slice a2 nm c2, .slice a3 nr c3, .slice a4 nl c4]
  have no : ∀ w', Below w.heap.size w w' → FewPost w PP (.returned (.bool false)) w' := fun w' h => ⟨false, rfl, (fun h => by cases h), h⟩
  have NO := Lib.hid no
  clear no
  cases d1 : decide ((200 : Int) < wrap64 ((id.size : Int) + (pr.size : Int))) with
  | true =>
    obtain ⟨t0, t1, -⟩ := k0.all
    go_enter Tryz.func10, Tryz.ntmps10
    go_wp2
    go_ret
    exact NO.out _ hb
  | false =>
    by_cases q1 : nc ≤ 70
    case neg =>
      have d2 : decide ((70 : Int) < (nc : Int)) = true := decide_eq_true (by omega)
      obtain ⟨t0, t1, -⟩ := k0.all
      go_enter Tryz.func10, Tryz.ntmps10
      go_wp2
      go_ret
      exact NO.out _ hb
    case pos =>
      have d2 : decide ((70 : Int) < (nc : Int)) = false := decide_eq_false (by omega)
      by_cases q2 : nm ≤ 70
      case neg =>
        have d3 : decide ((70 : Int) < (nm : Int)) = true := decide_eq_true (by omega)
        obtain ⟨t0, t1, -⟩ := k0.all
        go_enter Tryz.func10, Tryz.ntmps10
        go_wp2
        go_ret
        exact NO.out _ hb
      case pos =>
        have d3 : decide ((70 : Int) < (nm : Int)) = false := decide_eq_false (by omega)
        by_cases q3 : nr ≤ 70
        case neg =>
          have d4 : decide ((70 : Int) < (nr : Int)) = true := decide_eq_true (by omega)
          obtain ⟨t0, t1, -⟩ := k0.all
          go_enter Tryz.func10, Tryz.ntmps10
          go_wp2
          go_ret
          exact NO.out _ hb
        case pos =>
          have d4 : decide ((70 : Int) < (nr : Int)) = false := decide_eq_false (by omega)
          by_cases q4 : nl ≤ 70
          case neg =>
            have d5 : decide ((70 : Int) < (nl : Int)) = true := decide_eq_true (by omega)
            obtain ⟨t0, t1, -⟩ := k0.all
            go_enter Tryz.func10, Tryz.ntmps10
            go_wp2
            go_ret
            exact NO.out _ hb
          case pos =>
            have d5 : decide ((70 : Int) < (nl : Int)) = false := decide_eq_false (by omega)
            have HP := Lib.hid (HF.out.2 ⟨q1, q2, q3, q4⟩)
            obtain ⟨t0, t1, -⟩ := k0.all
            go_enter Tryz.func10, Tryz.ntmps10
            go_wp2_with fail
            have hrs : RtsAt (w.alloc (.cells #[.string id, .int .i64 o, .slice a1 nc c1, .string pr, .int .i64 st, .slice a2 nm c2, .slice a3 nr c3, .slice a4 nl c4] 27)) B a3 rs := H.out.rs.below (hb.mono HB.out)
            have hls : LmsAt (w.alloc (.cells #[.string id, .int .i64 o, .slice a1 nc c1, .string pr, .int .i64 st, .slice a2 nm c2, .slice a3 nr c3, .slice a4 nl c4] 27)) B a4 lv := H.out.ls.below (hb.mono HB.out)
            have HR := Lib.hid hrs
            have HL := Lib.hid hls
            have HB0 := Lib.hid hb
            have K0 := Lib.hid k0
            clear t0 t1 hb k0 hrs hls HF H d1 d2 d3 d4 d5
            generalize w.alloc (.cells #[.string id, .int .i64 o, .slice a1 nc c1, .string pr, .int .i64 st, .slice a2 nm c2, .slice a3 nr c3, .slice a4 nl c4] 27) = W0 at *
            go_loop [3] (fun i => ∃ k : Nat, k ≤ nr ∧ i = .int .i64 (k : Int)) (fun i => nr - (intOf i).toNat)
            case atStart => exact ⟨0, Nat.zero_le _, rfl⟩
            case round =>
              obtain ⟨k, hk, rfl⟩ := hrel
              obtain ⟨t0, t1, -⟩ := K0.out.all
              by_cases hlt : k < nr
              · obtain ⟨x, hx⟩ : ∃ x, rs[k]? = some x := ⟨_, List.getElem?_eq_getElem (by rw [HV3.out]; exact hlt)⟩
                obtain ⟨ga, oa, hA, hga, p0, p1⟩ := HR.out k x hx
                subst hA
                obtain ⟨x1, x2⟩ := x
                simp only at p0 p1
                clear hx
                by_cases q5 : (60 : Int) < (x1.size : Int)
                · have d6 : decide ((60 : Int) < (x1.size : Int)) = true := decide_eq_true q5
                  go_wp2
                  go_ret
                  exact NO.out _ HB0.out
                · have d6 : decide ((60 : Int) < (x1.size : Int)) = false := decide_eq_false q5
                  go_wp2
                  go_round
                  case rel => exact ⟨k + 1, by omega, by go_num⟩
                  case measure => simp [intOf]; omega
              · obtain rfl : k = nr := by omega
                go_wp2_with fail
                clear t0 t1 HR
                go_loop [4] (fun i => ∃ k : Nat, k ≤ nl ∧ i = .int .i64 (k : Int)) (fun i => nl - (intOf i).toNat)
                case atStart => exact ⟨0, Nat.zero_le _, rfl⟩
                case round =>
                  clear hk
                  obtain ⟨k, hk, rfl⟩ := hrel
                  obtain ⟨t0, t1, -⟩ := K0.out.all
                  by_cases hlt : k < nl
                  · obtain ⟨x, hx⟩ : ∃ x, lv[k]? = some x := ⟨_, List.getElem?_eq_getElem (by rw [HLL.out]; exact hlt)⟩
                    obtain ⟨ga, oa, hA, hga, p0, p1, p2, p3, p4, hLm⟩ := HL.out k x hx
                    subst hA
                    obtain ⟨⟨xi, xn, xu, xf, xS⟩, xA, xc⟩ := x
                    simp only at p0 p1 p2 p3 p4
                    obtain ⟨ns, hns⟩ : ∃ n, xS.length = n := ⟨_, rfl⟩
                    rw [hns] at p4
                    clear hx hLm p1 p2 p3 hns
                    by_cases q5 : (60 : Int) < (xi.size : Int)
                    · have d6 : decide ((60 : Int) < (xi.size : Int)) = true := decide_eq_true q5
                      go_wp2
                      go_ret
                      exact NO.out _ HB0.out
                    · have d6 : decide ((60 : Int) < (xi.size : Int)) = false := decide_eq_false q5
                      by_cases q6 : (70 : Int) < (ns : Int)
                      · have d7 : decide ((70 : Int) < (ns : Int)) = true := decide_eq_true q6
                        go_wp2
                        go_ret
                        exact NO.out _ HB0.out
                      · have d7 : decide ((70 : Int) < (ns : Int)) = false := decide_eq_false q6
                        go_wp2
                        go_round
                        case rel => exact ⟨k + 1, by omega, by go_num⟩
                        case measure => simp [intOf]; omega
                  · obtain rfl : k = nl := by omega
                    go_wp2
                    go_ret
                    exact ⟨true, rfl, fun _ => HP.out, HB0.out⟩

/-- Short's promise. -/
def FewP (p : Pc) : Prop := p.ss.length ≤ 70 ∧ p.ms.length ≤ 70
theorem FewP.sml {p : Pc} (h : FewP p) : SmlP p := ⟨by have := h.1; omega, by have := h.2; omega⟩

set_option maxRecDepth 100000 in
set_option maxHeartbeats 4000000 in
theorem short_any (w : World) (B : Nat) (p : Pc) (x : PcX) (h : PcAt w B p x) (hB : B ≤ w.heap.size) (z1 : p.ss.length ≤ 9223372036854775807) (z2 : p.ms.length ≤ 9223372036854775807) :
    Calls Tryz.prog 18 #[.agg (pcC p x)] w (FewPost w (FewP p)) := by
  have H := Lib.hid h
  have HB := Lib.hid hB
  clear h hB
  obtain ⟨name, ss, ms⟩ := p
  obtain ⟨a1, c1, a2, c2⟩ := x
  simp only at z1 z2
  obtain ⟨n1, h1⟩ : ∃ k, ss.length = k := ⟨_, rfl⟩
  obtain ⟨n2, h2⟩ : ∃ k, ms.length = k := ⟨_, rfl⟩
  have hf : FewP ⟨name, ss, ms⟩ ↔ n1 ≤ 70 ∧ n2 ≤ 70 := by
    unfold FewP
    simp only [h1, h2]
  obtain ⟨PP, hPP⟩ : ∃ P, FewP ⟨name, ss, ms⟩ = P := ⟨_, rfl⟩
  rw [hPP] at hf ⊢
  have ec : pcC ⟨name, ss, ms⟩ ⟨a1, c1, a2, c2⟩ = #[.string name, .slice a1 n1 c1, .slice a2 n2 c2] := by simp [pcC, h1, h2]
  rw [ec]
  rw [h1] at z1
  rw [h2] at z2
  have HF := Lib.hid hf
  have HV1 := Lib.hid h1
  clear ec hf hPP h1 h2
  have hb := below_self_alloc w (.cells #[.string name, .slice a1 n1 c1, .slice a2 n2 c2] 46)
  have k0 := Blk.new w 46 #[.string name, .slice a1 n1 c1, .slice a2 n2 c2]
  have no : ∀ w', Below w.heap.size w w' → FewPost w PP (.returned (.bool false)) w' := fun w' h => ⟨false, rfl, (fun h => by cases h), h⟩
  have NO := Lib.hid no
  clear no
  have hss : BtsAt (w.alloc (.cells #[.string name, .slice a1 n1 c1, .slice a2 n2 c2] 46)) B a1 ss := H.out.ss.below (hb.mono HB.out)
  have HR := Lib.hid hss
  clear hss
  obtain ⟨t0, t1, -⟩ := k0.all
  go_enter Tryz.func18, Tryz.ntmps18
  go_wp2_with fail
  have HB0 := Lib.hid hb
  have K0 := Lib.hid k0
  clear t0 t1 hb k0
  generalize w.alloc (.cells #[.string name, .slice a1 n1 c1, .slice a2 n2 c2] 46) = W0 at *
  go_loop [3] (fun i => ∃ k : Nat, k ≤ n1 ∧ i = .int .i64 (k : Int)) (fun i => n1 - (intOf i).toNat)
  case atStart => exact ⟨0, Nat.zero_le _, rfl⟩
  case round =>
    obtain ⟨k, hk, rfl⟩ := hrel
    obtain ⟨t0, t1, -⟩ := K0.out.all
    by_cases hlt : k < n1
    · obtain ⟨x, hx⟩ : ∃ x, ss[k]? = some x := ⟨_, List.getElem?_eq_getElem (by rw [HV1.out]; exact hlt)⟩
      obtain ⟨ga, oa, hA, hga, p0⟩ := HR.out k x hx
      subst hA
      clear hx
      by_cases q5 : (60 : Int) < (x.size : Int)
      · have d6 : decide ((60 : Int) < (x.size : Int)) = true := decide_eq_true q5
        go_wp2
        go_ret
        exact NO.out _ HB0.out
      · have d6 : decide ((60 : Int) < (x.size : Int)) = false := decide_eq_false q5
        go_wp2
        go_round
        case rel => exact ⟨k + 1, by omega, by go_num⟩
        case measure => simp [intOf]; omega
    · obtain rfl : k = n1 := by omega
      by_cases q0 : (name.size : Int) ≤ 60
      case neg =>
        have d0 : decide ((name.size : Int) ≤ 60) = false := decide_eq_false q0
        go_wp2
        go_ret
        exact NO.out _ HB0.out
      case pos =>
        have d0 : decide ((name.size : Int) ≤ 60) = true := decide_eq_true q0
        by_cases q1 : k ≤ 70
        case neg =>
          have d1 : decide ((k : Int) ≤ 70) = false := decide_eq_false (by omega)
          go_wp2
          go_ret
          exact NO.out _ HB0.out
        case pos =>
          have d1 : decide ((k : Int) ≤ 70) = true := decide_eq_true (by omega)
          by_cases q2 : n2 ≤ 70
          case neg =>
            have d2 : decide ((n2 : Int) ≤ 70) = false := decide_eq_false (by omega)
            go_wp2
            go_ret
            exact NO.out _ HB0.out
          case pos =>
            have d2 : decide ((n2 : Int) ≤ 70) = true := decide_eq_true (by omega)
            go_wp2
            go_ret
            exact ⟨true, rfl, fun _ => HF.out.2 ⟨q1, q2⟩, HB0.out⟩
end Go.Proofs.YtgfahifdmacmhaaGreatDoor

namespace Go.Proofs.YtgfahifdmacmhaaGreatDoor
open Go.RowKit Go.Shelf

def filedS : ByteArray := ⟨#[102, 105, 108, 101, 100]⟩
def heardS : ByteArray := ⟨#[104, 101, 97, 114, 100]⟩
def decidedS : ByteArray := ⟨#[100, 101, 99, 105, 100, 101, 100]⟩
def oldS : ByteArray := ⟨#[111, 108, 100]⟩
def exP : Pc := ⟨oldS, [filedS, heardS, decidedS], [(0, 1), (1, 2)]⟩
set_option maxRecDepth 100000 in
set_option maxHeartbeats 1000000 in
theorem procedure_any (w : World) : Calls Tryz.prog 29 #[] w fun e w' => ∃ y, e = .returned (.agg (pcC exP y)) ∧ PcAt w' w'.heap.size exP y ∧ Below w.heap.size w w' := by
  have hb := ((below_self_alloc w (.cells #[.string ⟨#[111, 108, 100]⟩, .slice (some ⟨w.heap.size + 1, 0, none⟩) 3 3, .slice (some ⟨w.heap.size + 1 + 1, 0, none⟩) 2 2] 46)).alloc (by simp) (.cells #[.string ⟨#[102, 105, 108, 101, 100]⟩, .string ⟨#[104, 101, 97, 114, 100]⟩, .string ⟨#[100, 101, 99, 105, 100, 101, 100]⟩] 9)).alloc (by simp; omega) (.cells #[.int .i64 0, .int .i64 1, .int .i64 1, .int .i64 2] 101)
  have k0 := ((Blk.new w 46  #[.string ⟨#[111, 108, 100]⟩, .slice (some ⟨w.heap.size + 1, 0, none⟩) 3 3, .slice (some ⟨w.heap.size + 1 + 1, 0, none⟩) 2 2]).alloc (.cells #[.string ⟨#[102, 105, 108, 101, 100]⟩, .string ⟨#[104, 101, 97, 114, 100]⟩, .string ⟨#[100, 101, 99, 105, 100, 101, 100]⟩] 9)).alloc (.cells #[.int .i64 0, .int .i64 1, .int .i64 1, .int .i64 2] 101)
  have m1 := (Blk.new1 w (.cells #[.string ⟨#[111, 108, 100]⟩, .slice (some ⟨w.heap.size + 1, 0, none⟩) 3 3, .slice (some ⟨w.heap.size + 1 + 1, 0, none⟩) 2 2] 46) 9  #[.string ⟨#[102, 105, 108, 101, 100]⟩, .string ⟨#[104, 101, 97, 114, 100]⟩, .string ⟨#[100, 101, 99, 105, 100, 101, 100]⟩]).alloc (.cells #[.int .i64 0, .int .i64 1, .int .i64 1, .int .i64 2] 101)
  have m2 := Blk.new2 w (.cells #[.string ⟨#[111, 108, 100]⟩, .slice (some ⟨w.heap.size + 1, 0, none⟩) 3 3, .slice (some ⟨w.heap.size + 1 + 1, 0, none⟩) 2 2] 46) (.cells #[.string ⟨#[102, 105, 108, 101, 100]⟩, .string ⟨#[104, 101, 97, 114, 100]⟩, .string ⟨#[100, 101, 99, 105, 100, 101, 100]⟩] 9) 101  #[.int .i64 0, .int .i64 1, .int .i64 1, .int .i64 2]
  obtain ⟨t0, t1, t2⟩ := k0.all
  go_enter Tryz.func29, Tryz.ntmps29
  go_wp2
  generalize ((w.alloc (.cells #[.string ⟨#[111, 108, 100]⟩, .slice (some ⟨w.heap.size + 1, 0, none⟩) 3 3, .slice (some ⟨w.heap.size + 1 + 1, 0, none⟩) 2 2] 46)).alloc (.cells #[.string ⟨#[102, 105, 108, 101, 100]⟩, .string ⟨#[104, 101, 97, 114, 100]⟩, .string ⟨#[100, 101, 99, 105, 100, 101, 100]⟩] 9)).alloc (.cells #[.int .i64 0, .int .i64 1, .int .i64 1, .int .i64 2] 101) = W3 at *
  have hsz := m2.lt
  refine bodyPost_ret (v := .agg  #[.string ⟨#[111, 108, 100]⟩, .slice (some ⟨w.heap.size + 1, 0, none⟩) 3 3, .slice (some ⟨w.heap.size + 1 + 1, 0, none⟩) 2 2]) (by simp [results, Tryz.results29, go_sem, t0]) rfl ⟨⟨some ⟨w.heap.size + 1, 0, none⟩, 3, some ⟨w.heap.size + 1 + 1, 0, none⟩, 2⟩, rfl, ⟨?_, ?_, by decide, ?_⟩, hb⟩
  · intro i s hi
    refine ⟨w.heap.size + 1, 0, rfl, m1.lt, ?_⟩
    rw [m1.cell]
    match i, hi with
    | 0, hi => simp [exP] at hi; subst hi; rfl
    | 1, hi => simp [exP] at hi; subst hi; rfl
    | 2, hi => simp [exP] at hi; subst hi; rfl
    | i + 3, hi => simp [exP] at hi
  · intro i s hi
    refine ⟨w.heap.size + 1 + 1, 0, rfl, m2.lt, ?_⟩
    rw [m2.cell, m2.cell]
    match i, hi with
    | 0, hi => simp [exP] at hi; subst hi; exact ⟨rfl, rfl⟩
    | 1, hi => simp [exP] at hi; subst hi; exact ⟨rfl, rfl⟩
    | i + 2, hi => simp [exP] at hi
  · intro s hs
    simp only [exP, List.mem_cons, List.not_mem_nil, or_false] at hs
    rcases hs with rfl | rfl | rfl <;> decide
end Go.Proofs.YtgfahifdmacmhaaGreatDoor
