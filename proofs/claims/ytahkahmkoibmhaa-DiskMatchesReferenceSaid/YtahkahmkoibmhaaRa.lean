/- Reading the arguments of the statements about the disk. -/
import Derived.Test.YtahkahmkoibmhaaRows
import Derived.Test.YtahkahmkoibmhaaOpen
import Derived.Test.YtahkahmkoibmhaaLf
namespace Go.Proofs.Ytahkahmkoibmhaa
open Go.RowKit Go.ChangeShapes Go.WideShapes Go.Deep

theorem i64_bd {n : Int} (h : (Lit.int .i64 n).wf = true) : -9223372036854775808 ≤ n ∧ n ≤ 9223372036854775807 := by
  simpa [Lit.wf, IntKind.min, IntKind.max, IntKind.signed, IntKind.bits] using h

theorem acts_of_trod {H : Type} {enc : TypeId × Value → H} {w : World} {base : Nat} {spare : Nat → Bool} {held : Bool} {A : Option Addr} {len cap : Nat} {d : DataW H} {p : List MemPlace}
    (h : DataW.Trod enc Try.prog w base spare held 22 (.slice A len cap) d p) : ∃ l : List Ac, l.length = len ∧ Acts w w.heap.size A l := by
  obtain ⟨fuel, hf⟩ := h
  have hlen := slice_len Try.underlying22 hf
  have hs := slice_structs Try.underlying22 Try.underlying34 (by kernel_rfl) (by kernel_rfl) hf
  obtain ⟨l, hl, hp⟩ := list_of (p := fun i (a : Ac) => (∃ g off, A = some ⟨g, off, none⟩ ∧ g < w.heap.size ∧ ∀ (j : Nat) (v : Value), a.cells[j]? = some v → w.cell? ⟨g, off + i * 6 + j, none⟩ = some v) ∧ a.after ≤ 9223372036854775807) len (fun i hi => by
    obtain ⟨a, n, vs, hA, hvl, hc, hsp, hfl⟩ := hs i hi
    obtain ⟨v0, y0, e0, t0⟩ := hfl 0 _ rfl
    obtain ⟨v1, y1, e1, t1⟩ := hfl 1 _ rfl
    obtain ⟨v2, y2, e2, t2⟩ := hfl 2 _ rfl
    obtain ⟨v3, y3, e3, t3⟩ := hfl 3 _ rfl
    obtain ⟨v4, y4, e4, t4⟩ := hfl 4 _ rfl
    obtain ⟨v5, y5, e5, t5⟩ := hfl 5 _ rfl
    obtain ⟨k0, h0, _, _⟩ := DataW.trod_int Try.underlying3 t0
    obtain ⟨k1, h1, _, _⟩ := DataW.trod_int Try.underlying3 t1
    obtain ⟨k2, h2, _, _⟩ := DataW.trod_int Try.underlying3 t2
    obtain ⟨k3, h3, _, _⟩ := DataW.trod_string Try.underlying9 t3
    obtain ⟨k4, h4, _⟩ := DataW.trod_bool Try.underlying4 t4
    obtain ⟨k5, h5, _, w5⟩ := DataW.trod_int Try.underlying3 t5
    simp only [List.cons.injEq, and_true] at h0 h1 h2 h3 h4 h5
    subst h0 h1 h2 h3 h4 h5
    have hvs : vs = [.int .i64 k0, .int .i64 k1, .int .i64 k2, .string k3, .bool k4, .int .i64 k5] := by
      match vs, hvl, e0, e1, e2, e3, e4, e5 with
      | [u0, u1, u2, u3, u4, u5], _, e0, e1, e2, e3, e4, e5 =>
        simp at e0 e1 e2 e3 e4 e5
        rw [e0, e1, e2, e3, e4, e5]
    subst hvs
    obtain ⟨g, off, spot⟩ := a
    have : spot = none := hsp (by decide)
    subst this
    have hg := (hc 0 _ rfl).2
    exact ⟨⟨k0, k1, k2, k3, k4, k5⟩, ⟨g, off, hA, hg, fun j v hv => (hc j v hv).1⟩, (i64_bd w5).2⟩)
  exact ⟨l, hl, fun i a hi => (hp i a hi).1, by omega, fun a ha => by
    obtain ⟨i, hi⟩ := List.mem_iff_getElem?.1 ha
    exact (hp i a hi).2⟩

theorem u8_nat {n : Int} (h : (Lit.int .u8 n).wf = true) : ∃ k : Nat, n = (k : Int) ∧ k < 256 := by
  have h1 : 0 ≤ n ∧ n ≤ 255 := by simpa [Lit.wf, IntKind.min, IntKind.max, IntKind.signed, IntKind.bits] using h
  exact ⟨n.toNat, by omega, by omega⟩

theorem all_walk (w : World) (r : Int) (wr : (Lit.int .u8 r).wf = true) (A : Option Addr) (c : Nat) (l : List Ac) (h : Acts w w.heap.size A l) (by_ : Int) (_wb : (Lit.int .i64 by_).wf = true) (more : Int) (_wm : (Lit.int .i64 more).wf = true) :
    Calls Try.prog 7 #[.int .u8 r, .slice A l.length c, .int .i64 by_, .int .i64 more] w fun e w' => e = .returned (.bool true) ∧ Below w.heap.size w w' := by
  obtain ⟨k, rfl, hk⟩ := u8_nat wr
  cases hok : okB l with
  | false => exact all_no w k A c l h hok by_ more
  | true => exact all_yes w k hk A c l h hok by_ more
end Go.Proofs.Ytahkahmkoibmhaa
