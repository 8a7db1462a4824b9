/- More words and the plain law for DiskReads. -/
import Derived.Test.YtahkahmkoibmhaaLf
namespace Go.Proofs.Ytahkahmkoibmhaa
open Go.RowKit

theorem Keep.blk {G : Foot} {w w' : World} {g : Nat} {t : TypeId} {cs : Array Value} (h : Keep G w w') (hb : Blk w g t cs) (hg : G g) : Blk w' g t cs := (h.block g hg).trans hb
theorem Keep.refl (G : Foot) (w : World) : Keep G w w := ⟨Nat.le_refl _, fun _ _ => rfl⟩
theorem Keep.trans {G : Foot} {a b c : World} (h : Keep G a b) (k : Keep G b c) : Keep G a c := ⟨Nat.le_trans h.size k.size, fun i hi => (k.block i hi).trans (h.block i hi)⟩
theorem Live.of_new' {w0 w w' : World} {a n : Nat} {G : Foot} (h0 : Below w0.heap.size w0 w) (hb : Below w.heap.size w w') (hD : DiskAt w' a (Dk.new n) (fun i => w.heap.size ≤ i ∧ i < w'.heap.size)) (hG : ∀ i, G i → i < w.heap.size) :
    Live w0 w' a (Dk.new n) G :=
  ⟨h0.trans (hb.mono h0.size), ⟨_, hD, fun i hi => by have := h0.size; omega, fun i hi hg => by have := hG i hg; omega⟩, fun i hi => by have := hG i hi; have := hb.size; omega⟩

theorem one_act {w : World} {g : Nat} {x : Ac} {t : TypeId} (hb : Blk w g t x.cells.toArray) : ActsAt w w.heap.size (some ⟨g, 0, none⟩) [x] := by
  intro i a hi
  have h0 : i = 0 := by
    have := (List.getElem?_eq_some_iff.1 hi).1
    simpa using this
  subst h0
  simp at hi
  subst hi
  refine ⟨g, 0, rfl, hb.lt, fun j v hv => ?_⟩
  rw [hb.cell]
  simpa using hv

theorem Dk.write_start (d : Dk) (s : Int) (t : ByteArray) (ho : d.off = false) (ha : d.arm = none) :
    d.write s t = if d.has s = true ∧ t.size = 64 then ({ d with q := d.q ++ [(s.toNat, t)] }, 0) else (d, 1) := by
  unfold Dk.write
  rw [ho]
  cases hs : d.has s with
  | false => simp
  | true =>
    by_cases ht : t.size = 64
    · simp [ht, Dk.count, ha]
    · simp [ht]
theorem lastOf_push (q : List (Nat × ByteArray)) (i j : Nat) (t : ByteArray) : lastOf (q ++ [(i, t)]) j = if i = j then some t else lastOf q j := lastOf_snoc q (i, t) j
theorem Dk.views_push (d : Dk) (i : Nat) (t : ByteArray) : ({ d with q := d.q ++ [(i, t)] } : Dk).views = d.views.set i t := by
  obtain ⟨d2, hd2⟩ : ∃ d2 : Dk, d2 = { d with q := d.q ++ [(i, t)] } := ⟨_, rfl⟩
  rw [← hd2]
  have hn : d2.n = d.n := by rw [hd2]
  apply List.ext_getElem?
  intro j
  by_cases hj : j < d.n
  · rw [Dk.views_at d2 j (by omega), List.getElem?_set]
    have e : d2.view j = if i = j then t else d.view j := by
      rw [hd2]
      unfold Dk.view
      simp only [lastOf_push]
      split <;> rfl
    rw [e, Dk.views_len]
    by_cases h : i = j
    · subst h; simp [hj]
    · simp only [if_neg h]; exact (Dk.views_at d j hj).symm
  · rw [List.getElem?_eq_none (by rw [Dk.views_len]; omega), List.getElem?_eq_none (by rw [List.length_set, Dk.views_len]; omega)]

theorem own_some {w : World} {e : TypeId} {A : Option Addr} {n c : Nat} {xs : List Value} (h : w.ownsRow 0 e 1 (.slice A n c) n xs) (hn : 0 < n) : ∃ g, A = some ⟨g, 0, none⟩ ∧ g < w.heap.size := by
  rcases h.2 with ⟨_, h0⟩ | ⟨g, cap, cur, hv, _, hh, _⟩
  · omega
  · injection hv with hA h2 h3
    exact ⟨g, hA, Blk.lt (w := w) (g := g) (t := e) (cs := cur) hh⟩
theorem Keep.owns {G : Foot} {w w' : World} {e : TypeId} {g n c : Nat} {xs : List Value} (h : Keep G w w') (ho : w.ownsRow 0 e 1 (.slice (some ⟨g, 0, none⟩) n c) n xs) (hg : G g) : w'.ownsRow 0 e 1 (.slice (some ⟨g, 0, none⟩) n c) n xs := by
  refine ⟨ho.1, ?_⟩
  rcases ho.2 with h0 | ⟨k, cap, cur, hv, hb, hh, hr⟩
  · exact .inl h0
  · injection hv with hA h2 h3
    injection hA with hA
    injection hA with hA _ _
    subst hA
    exact .inr ⟨g, cap, cur, by rw [h3], hb, (h.block g hg).trans hh, hr⟩
end Go.Proofs.Ytahkahmkoibmhaa
