/- Reading an argument: a slice of ints. -/
import Derived.Test.YtfblngdmeliabaaDoorOpen
import Derived.Test.YtfblngdmeliabaaDoorCd
namespace Go.Proofs.YtfblngdmeliabaaDoor
open Go.RowKit Go.ChangeShapes Go.WideShapes Go.Deep

/-- What a slice of ints at an argument gives. -/
def Ints (w : World) (B : Nat) (A : Option Addr) (l : List Int) : Prop := IntsAt w B A l ∧ (∀ x ∈ l, wf64 x) ∧ l.length ≤ 9223372036854775807

theorem ints_of {H : Type} {enc : TypeId × Value → H} {w : World} {base : Nat} {spare : Nat → Bool} {held : Bool} {fuel len cap : Nat} {A : Option Addr} {x : DataW H × List MemPlace}
    (h : DataW.trod enc Tryd.prog w base spare held fuel 24 [.slice A len cap] = some x) : ∃ l : List Int, l.length = len ∧ Ints w w.heap.size A l := by
  have ht := Tryd.underlying24
  have he := Tryd.underlying3
  have c1 : Tryd.prog.cellsOf 3 = 1 := by kernel_rfl
  have key : ∀ i, i < len → ∃ v : Int, (∃ g off, A = some ⟨g, off, none⟩ ∧ g < w.heap.size ∧ w.cell? ⟨g, off + i, none⟩ = some (.int .i64 v)) ∧ wf64 v := by
    intro i hi
    rcases open_slice ht h with ⟨h0, _⟩ | ⟨a, len', cap', m, n, D, Pl, hcs, hb, hl, hm, hmm, hx, hall⟩
    · injection h0 with h0
      injection h0 with _ h1 _
      omega
    · injection hcs with hcs _
      injection hcs with hA hle hca
      subst hA hle hca
      have cell : ∀ i, i < len → ∃ v : Int, w.cell? (a.add i) = some (.int .i64 v) ∧ (Lit.int .i64 v).wf = true := by
        intro i hi
        obtain ⟨cs', hc, ht'⟩ := hall i (by rw [hmm]; split <;> omega)
        rw [c1, Nat.mul_one] at hc
        obtain ⟨v, rfl, -, hw⟩ := DataW.trod_int he ht'
        obtain ⟨_, _, hat⟩ := World.cells?_some hc
        have := hat 0 (by omega)
        rw [add_of_add, Nat.add_zero] at this
        exact ⟨v, by rw [this]; rfl, hw⟩
      obtain ⟨v0, hv0, -⟩ := cell 0 (by omega)
      obtain ⟨v, hv, hw⟩ := cell i hi
      have ha := spot_none hv0
      have ha0 : a.add 0 = a := by obtain ⟨b, o, s⟩ := a; simp [Addr.add]
      rw [ha0, Nat.add_zero] at ha
      have hai := spot_none hv
      rw [hai] at hv
      refine ⟨v, ⟨a.block, a.off, by rw [← ha], World.block_lt_of_cell? w ⟨a.block, a.off + i, none⟩ hv, hv⟩, wf64_lit.1 hw⟩
  obtain ⟨l, hl, hp⟩ := list_of len key
  have hlen : len ≤ 9223372036854775807 := by
    rcases open_slice ht h with ⟨h0, _⟩ | ⟨a, len', cap', m, n, D, Pl, hcs, hb, hl, hm, hmm, hx, hall⟩
    · injection h0 with h0
      injection h0 with _ h1 _
      omega
    · injection hcs with hcs _
      injection hcs with hA hle hca
      subst hA hle hca
      unfold maxLen at hm
      omega
  refine ⟨l, hl, fun i v hi => (hp i v hi).1, fun x hx => ?_, by omega⟩
  obtain ⟨i, hi⟩ := List.getElem?_of_mem hx
  exact (hp i x hi).2
theorem ints_at {H : Type} {enc : TypeId × Value → H} {w : World} {base : Nat} {spare : Nat → Bool} {held : Bool} {len cap : Nat} {A : Option Addr} {d : DataW H} {p : List MemPlace}
    (h : DataW.Trod enc Tryd.prog w base spare held 24 (.slice A len cap) d p) : ∃ l : List Int, l.length = len ∧ Ints w w.heap.size A l := by
  obtain ⟨m, hm⟩ := h
  exact ints_of hm
end Go.Proofs.YtfblngdmeliabaaDoor
