/- Reading one operation given by value. -/
import Derived.Test.YtahkahmkoibmhaaRa
import Derived.Test.YtahkahmkoibmhaaLh
namespace Go.Proofs.Ytahkahmkoibmhaa
open Go.RowKit Go.ChangeShapes Go.WideShapes Go.Deep

theorem act_of_trod {H : Type} {enc : TypeId × Value → H} {w : World} {base : Nat} {spare : Nat → Bool} {held : Bool} {v : Value} {d : DataW H} {p : List MemPlace} {cs : Array Value}
    (hv : v = .agg cs) (hsz : cs.size = Try.prog.cellsOf 34)
    (h : DataW.Trod enc Try.prog w base spare held 34 v d p) : ∃ x : Ac, v = .agg #[.int .i64 x.kind, .int .i64 x.sector, .int .i64 x.bytes, .string x.text, .bool x.odd, .int .i64 x.after] := by
  subst hv
  have h6 : Try.prog.cellsOf 34 = 6 := by kernel_rfl
  rw [h6] at hsz
  obtain ⟨fuel, hf⟩ := h
  have hc : (Value.agg cs).cells.toList = cs.toList := rfl
  rw [hc] at hf
  obtain ⟨c0, c1, c2, c3, c4, c5, hcs⟩ : ∃ c0 c1 c2 c3 c4 c5, cs = #[c0, c1, c2, c3, c4, c5] := by
    obtain ⟨l⟩ := cs
    match l, hsz with
    | [c0, c1, c2, c3, c4, c5], _ => exact ⟨c0, c1, c2, c3, c4, c5, rfl⟩
  subst hcs
  obtain ⟨xs, n, _, hx, hl, hlen, hfl⟩ := DataW.trod_struct Try.underlying34 hf
  have g : ∀ i, i < xs.length → ∃ y, xs[i]? = some y := fun i hi => ⟨_, List.getElem?_eq_getElem hi⟩
  have hlen6 : xs.length = 6 := hlen
  obtain ⟨y0, e0⟩ := g 0 (by omega)
  obtain ⟨y1, e1⟩ := g 1 (by omega)
  obtain ⟨y2, e2⟩ := g 2 (by omega)
  obtain ⟨y3, e3⟩ := g 3 (by omega)
  obtain ⟨y4, e4⟩ := g 4 (by omega)
  obtain ⟨y5, e5⟩ := g 5 (by omega)
  have t0 := (hfl 0 _ rfl).trans e0
  have t1 := (hfl 1 _ rfl).trans e1
  have t2 := (hfl 2 _ rfl).trans e2
  have t3 := (hfl 3 _ rfl).trans e3
  have t4 := (hfl 4 _ rfl).trans e4
  have t5 := (hfl 5 _ rfl).trans e5
  obtain ⟨k0, h0, _, _⟩ := DataW.trod_int Try.underlying3 t0
  obtain ⟨k1, h1, _, _⟩ := DataW.trod_int Try.underlying3 t1
  obtain ⟨k2, h2, _, _⟩ := DataW.trod_int Try.underlying3 t2
  obtain ⟨k3, h3, _, _⟩ := DataW.trod_string Try.underlying9 t3
  obtain ⟨k4, h4, _⟩ := DataW.trod_bool Try.underlying4 t4
  obtain ⟨k5, h5, _, _⟩ := DataW.trod_int Try.underlying3 t5
  have q0 : c0 = .int .i64 k0 := by injection h0
  have q1 : c1 = .int .i64 k1 := by injection h1
  have q2 : c2 = .int .i64 k2 := by injection h2
  have q3 : c3 = .string k3 := by injection h3
  have q4 : c4 = .bool k4 := by injection h4
  have q5 : c5 = .int .i64 k5 := by injection h5
  exact ⟨⟨k0, k1, k2, k3, k4, k5⟩, by rw [q0, q1, q2, q3, q4, q5]⟩

theorem reads_walk (w : World) (r : Int) (wr : (Lit.int .u8 r).wf = true) (A : Option Addr) (c : Nat) (l : List Ac) (h : Acts w w.heap.size A l) (x : Ac) :
    Calls Try.prog 6 #[.int .u8 r, .slice A l.length c, .agg #[.int .i64 x.kind, .int .i64 x.sector, .int .i64 x.bytes, .string x.text, .bool x.odd, .int .i64 x.after]] w fun e w' => e = .returned (.bool true) ∧ Below w.heap.size w w' := by
  obtain ⟨k, rfl, hk⟩ := u8_nat wr
  cases hok : okB l with
  | false => exact reads_no w k A c l h x hok
  | true =>
    cases hok2 : okB [x] with
    | false => exact reads_no2 w k A c l h x hok hok2
    | true => exact reads_yes w k hk A c l h x hok hok2
end Go.Proofs.Ytahkahmkoibmhaa
