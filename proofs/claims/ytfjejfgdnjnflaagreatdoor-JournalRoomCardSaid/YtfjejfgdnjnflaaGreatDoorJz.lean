/- A journal in memory; the end of an Append that went through. -/
import Derived.Test.YtfjejfgdnjnflaaGreatDoorJu
namespace Go.Proofs.YtfjejfgdnjnflaaGreatDoor
open Go.RowKit Go.Shelf

theorem endGood {w0 w W2 w9 : World} {a j p g9 cap9 : Nat} {d D : Dk} {G J GG : Foot} {n nx : Nat} {xrs rs : List (List UInt8)} {b0 b : Bool} {AR : Option Addr} {cR : Nat} {tp : TypeId} {cp : Array Value}
    (L : Live w0 w a d G) (hj : J j) (hrJ : ∀ g, (Value.slice AR xrs.length cR).ownBlock = some g → J g ∧ g ≠ j) (hJG : ∀ i, J i → G i) (hJ0 : ∀ i, J i → w0.heap.size ≤ i)
    (hGG : ∀ i, G i → GG i) (hp : w.heap.size ≤ p) (hpG : GG p) (L2 : Live w0 W2 a D GG)
    (hkW : ∀ i, G i → i ≠ j → W2.heap[i]? = w.heap[i]?) (hws : w.heap.size ≤ W2.heap.size)
    (j2 : Blk W2 j 53 #[.pointer (some ⟨a, 0, none⟩), .int .i64 (n : Int), .int .i64 (nx : Int), .slice AR xrs.length cR, .bool b0])
    (q4 : Blk W2 p tp cp) (htp : tp ≠ 9) (h4r : some p ≠ (Value.slice AR xrs.length cR).ownBlock)
    (o9 : w9.ownsRow w0.heap.size 9 1 (.slice (some ⟨g9, 0, none⟩) (xrs.length + rs.length) cap9) (xrs.length + rs.length) (xrs.map sv ++ rs.map sv))
    (gr9 : W2.drew.grownBy w9 (Value.slice AR xrs.length cR).ownBlock) (l9 : (Value.slice AR xrs.length cR).ownBlock = some g9 ∨ g9 = W2.heap.size) (u : Value) :
    ∃ J', JAt (((w9.setCell ⟨j, 3, none⟩ (.slice (some ⟨g9, 0, none⟩) (xrs.length + rs.length) cap9)).setCell ⟨p, 0, none⟩ u).setCell ⟨j, 4, none⟩ (.bool b)) w0.heap.size a j J' ⟨n, nx, xrs ++ rs, b⟩ ∧
      Live w0 (((w9.setCell ⟨j, 3, none⟩ (.slice (some ⟨g9, 0, none⟩) (xrs.length + rs.length) cap9)).setCell ⟨p, 0, none⟩ u).setCell ⟨j, 4, none⟩ (.bool b)) a D (fun i => G i ∨ J' i) ∧
      Keep (fun i => G i ∧ ¬ J i) w (((w9.setCell ⟨j, 3, none⟩ (.slice (some ⟨g9, 0, none⟩) (xrs.length + rs.length) cap9)).setCell ⟨p, 0, none⟩ u).setCell ⟨j, 4, none⟩ (.bool b)) ∧ (∀ i, J' i → J i ∨ w.heap.size ≤ i) := by
  have hlen : (xrs ++ rs).length = xrs.length + rs.length := by simp
  have hjr : some j ≠ (Value.slice AR xrs.length cR).ownBlock := fun e => (hrJ j e.symm).2 rfl
  have hjp : j ≠ p := by have := L.lt j (hJG j hj); omega
  have j9 := j2.drew.grown gr9 hjr
  have p9 := q4.drew.grown gr9 h4r
  have o9' : OwnStrs w9 w0.heap.size (.slice (some ⟨g9, 0, none⟩) (xrs.length + rs.length) cap9) (xrs ++ rs) := by unfold OwnStrs; rw [hlen, List.map_append]; exact o9
  have hg9l := World.ownsRow.lt o9 g9 rfl
  have hgj : g9 ≠ j := fun e => o9'.ne j9 (by decide) (by rw [← e]; rfl)
  have hgp : g9 ≠ p := fun e => o9'.ne p9 htp (by rw [← e]; rfl)
  generalize hv : Value.slice (some ⟨g9, 0, none⟩) (xrs.length + rs.length) cap9 = v at *
  have hk3 : ∀ i, i ≠ j → i ≠ p → (((w9.setCell ⟨j, 3, none⟩ v).setCell ⟨p, 0, none⟩ u).setCell ⟨j, 4, none⟩ (.bool b)).heap[i]? = w9.heap[i]? := fun i h1 h2 =>
    (Below.heap_setCell _ ⟨j, 4, none⟩ _ i h1).trans ((Below.heap_setCell _ ⟨p, 0, none⟩ _ i h2).trans (Below.heap_setCell _ ⟨j, 3, none⟩ _ i h1))
  have hsz3 : (((w9.setCell ⟨j, 3, none⟩ v).setCell ⟨p, 0, none⟩ u).setCell ⟨j, 4, none⟩ (.bool b)).heap.size = w9.heap.size := by simp [World.setCell]
  have hs9 : W2.heap.size ≤ w9.heap.size := gr9.size
  have hO : Only (fun i => i = j ∨ (Value.slice AR xrs.length cR).ownBlock = some i ∨ i = p) W2 (((w9.setCell ⟨j, 3, none⟩ v).setCell ⟨p, 0, none⟩ u).setCell ⟨j, 4, none⟩ (.bool b)) :=
    ⟨gr9.os, gr9.tape, gr9.output, by rw [hsz3]; exact hs9, fun i hi hn => (hk3 i (fun e => hn (.inl e)) (fun e => hn (.inr (.inr e)))).trans (gr9.block i hi (fun e => hn (.inr (.inl e.symm))))⟩
  refine ⟨fun i => J i ∨ i = g9, ⟨some ⟨g9, 0, none⟩, cap9, ?_, ?_, .inl hj, ?_⟩, ?_, ⟨?_, ?_⟩, ?_⟩
  · rw [hlen, hv]
    exact ((j9.set_ 3 v).far (p := ⟨p, 0, none⟩) hjp u).set_ 4 (.bool b)
  · rw [hlen, hv]
    exact o9'.keepb fun i e => by
      obtain rfl : g9 = i := by rw [← hv] at e; simpa [Value.ownBlock] using e
      exact hk3 g9 hgj hgp
  · intro g e
    obtain rfl : g9 = g := by simpa [Value.ownBlock] using e
    exact ⟨.inr rfl, hgj⟩
  · obtain ⟨F, h1, h2, h3⟩ := L2.disk
    have hHG : ∀ i, (i = j ∨ (Value.slice AR xrs.length cR).ownBlock = some i ∨ i = p) → GG i ∧ w0.heap.size ≤ i := by
      rintro i (rfl | h | rfl)
      · exact ⟨hGG _ (hJG _ hj), hJ0 _ hj⟩
      · exact ⟨hGG _ (hJG _ (hrJ i h).1), hJ0 _ (hrJ i h).1⟩
      · exact ⟨hpG, by have := L.below.size; omega⟩
    refine ⟨L2.below.trans (hO.below L2.below.size (fun i hi => (hHG i hi).2)), ⟨F, h1.only hO (fun i hi hh => h3 i hi (hHG i hh).1), h2, ?_⟩, ?_⟩
    · rintro i hf (hg | hg | rfl)
      · exact h3 i hf (hGG i hg)
      · exact h3 i hf (hGG i (hJG i hg))
      · rcases l9 with h | h
        · exact h3 _ hf (hGG _ (hJG _ (hrJ _ h).1))
        · have := h1.lt _ hf; omega
    · rintro i (hg | hg | rfl)
      · have := L.lt i hg; omega
      · have := L.lt i (hJG i hg); omega
      · omega
  · omega
  · intro i hi
    have hij : i ≠ j := fun e => hi.2 (by rw [e]; exact hj)
    have hil := L.lt i hi.1
    exact (hk3 i hij (by omega)).trans ((gr9.block i (by show i < W2.heap.size; omega) (fun e => hi.2 (hrJ i e.symm).1)).trans (hkW i hi.1 hij))
  · rintro i (hi | rfl)
    · exact .inl hi
    · rcases l9 with h | h
      · exact .inl (hrJ _ h).1
      · right; omega
end Go.Proofs.YtfjejfgdnjnflaaGreatDoor
