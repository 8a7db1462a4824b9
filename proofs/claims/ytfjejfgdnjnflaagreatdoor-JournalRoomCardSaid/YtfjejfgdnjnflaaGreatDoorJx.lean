/- A journal in memory; the two lists of sectors that Append builds. -/
import Derived.Test.YtfjejfgdnjnflaaGreatDoorJw
import Derived.Deep.AppendLies
namespace Go.Proofs.YtfjejfgdnjnflaaGreatDoor
open Go.RowKit Go.Shelf

theorem OwnStrs.keepb {w w' : World} {base : Nat} {v : Value} {l : List (List UInt8)} (h : OwnStrs w base v l) (hk : ∀ b, v.ownBlock = some b → w'.heap[b]? = w.heap[b]?) : OwnStrs w' base v l := by
  refine ⟨h.1, ?_⟩
  rcases h.2 with h0 | ⟨g, cap, cur, rfl, h1, h2, h3⟩
  · exact .inl h0
  · exact .inr ⟨g, cap, cur, rfl, h1, (hk g rfl).trans h2, h3⟩
theorem OwnStrs.row {w : World} {base : Nat} {v : Value} {l : List (List UInt8)} (h : OwnStrs w base v l) {g : Nat} (hg : v.ownBlock = some g) : ∃ cur, Blk w g 9 cur := by
  rcases h.2 with ⟨rfl, h0⟩ | ⟨g', cap, cur, rfl, h1, h2, h3⟩
  · cases hg
  · obtain rfl : g' = g := by simpa [Value.ownBlock] using hg
    exact ⟨cur, h2⟩
theorem OwnStrs.ne {w : World} {base : Nat} {v : Value} {l : List (List UInt8)} (h : OwnStrs w base v l) {g : Nat} {t : TypeId} {cs : Array Value} (hb : Blk w g t cs) (ht : t ≠ 9) : some g ≠ v.ownBlock := by
  intro e
  obtain ⟨cur, hc⟩ := h.row e.symm
  exact (hb.ne_ hc ht) rfl

/-- What Append's variables hold while it builds the two lists. -/
structure Ph (w wr : World) (j p2 p4 p6 p7 p8 p9 at_ nx : Nat) (v5 : Value) (l z f : List (List UInt8)) (Az : Option Addr) (cz : Nat) (Af : Option Addr) (cf : Nat) : Prop where
  below : Below w.heap.size w wr
  b2 : Blk wr p2 25 #[.pointer (some ⟨j, 0, none⟩)]
  b4 : Blk wr p4 27 #[.int .i64 0]
  b6 : Blk wr p6 3 #[.int .i64 (at_ : Int)]
  b7 : Blk wr p7 3 #[.int .i64 (nx : Int)]
  b8 : Blk wr p8 26 #[.slice Az z.length cz]
  b9 : Blk wr p9 26 #[.slice Af f.length cf]
  o5 : OwnStrs wr w.heap.size v5 l
  oz : OwnStrs wr w.heap.size (.slice Az z.length cz) z
  of : OwnStrs wr w.heap.size (.slice Af f.length cf) f
  ge : w.heap.size ≤ p2 ∧ w.heap.size ≤ p4 ∧ w.heap.size ≤ p6 ∧ w.heap.size ≤ p7 ∧ w.heap.size ≤ p8 ∧ w.heap.size ≤ p9
  ne : p8 ≠ p9
  zf : ∀ g, (Value.slice Az z.length cz).ownBlock = some g → (Value.slice Af f.length cf).ownBlock ≠ some g
  z5 : ∀ g, (Value.slice Az z.length cz).ownBlock = some g → v5.ownBlock ≠ some g
  f5 : ∀ g, (Value.slice Af f.length cf).ownBlock = some g → v5.ownBlock ≠ some g

section
variable {w wr w1 Y : World} {j p2 p4 p6 p7 p8 p9 at_ nx : Nat} {v5 : Value} {l z f : List (List UInt8)} {Az : Option Addr} {cz : Nat} {Af : Option Addr} {cf : Nat}
theorem Ph.swap (h : Ph w wr j p2 p4 p6 p7 p8 p9 at_ nx v5 l z f Az cz Af cf) : Ph w wr j p2 p4 p6 p7 p9 p8 at_ nx v5 l f z Af cf Az cz :=
  ⟨h.below, h.b2, h.b4, h.b6, h.b7, h.b9, h.b8, h.o5, h.of, h.oz, ⟨h.ge.1, h.ge.2.1, h.ge.2.2.1, h.ge.2.2.2.1, h.ge.2.2.2.2.2, h.ge.2.2.2.2.1⟩, fun e => h.ne e.symm, fun g e1 e2 => h.zf g e2 e1, h.f5, h.z5⟩
theorem Ph.drew (h : Ph w wr j p2 p4 p6 p7 p8 p9 at_ nx v5 l z f Az cz Af cf) : Ph w wr.drew j p2 p4 p6 p7 p8 p9 at_ nx v5 l z f Az cz Af cf :=
  ⟨h.below.drew, h.b2, h.b4, h.b6, h.b7, h.b8, h.b9, h.o5, h.oz, h.of, h.ge, h.ne, h.zf, h.z5, h.f5⟩
theorem Ph.same (h : Ph w wr j p2 p4 p6 p7 p8 p9 at_ nx v5 l z f Az cz Af cf) (hb : Below wr.heap.size wr w1) : Ph w w1 j p2 p4 p6 p7 p8 p9 at_ nx v5 l z f Az cz Af cf := by
  have hk : ∀ b, b < wr.heap.size → w1.heap[b]? = wr.heap[b]? := fun b hb1 => hb.block b hb1
  have ho : ∀ {v : Value} {q : List (List UInt8)}, OwnStrs wr w.heap.size v q → OwnStrs w1 w.heap.size v q := fun {v q} ho => ho.keepb fun b hb1 => hk b (World.ownsRow.lt ho b hb1).2
  exact ⟨h.below.trans (hb.mono h.below.size), (hk _ h.b2.lt).trans h.b2, (hk _ h.b4.lt).trans h.b4, (hk _ h.b6.lt).trans h.b6, (hk _ h.b7.lt).trans h.b7, (hk _ h.b8.lt).trans h.b8, (hk _ h.b9.lt).trans h.b9, ho h.o5, ho h.oz, ho h.of, h.ge, h.ne, h.zf, h.z5, h.f5⟩
theorem Ph.push (h : Ph w wr j p2 p4 p6 p7 p8 p9 at_ nx v5 l z f Az cz Af cf) (s : List UInt8) {g cap H : Nat}
    (ow : Y.ownsRow w.heap.size 9 1 (.slice (some ⟨g, 0, none⟩) (z.length + 1) cap) (z.length + 1) (z.map sv ++ [sv s])) (hg : wr.grownBy Y (Value.slice Az z.length cz).ownBlock)
    (hl : (Value.slice Az z.length cz).ownBlock = some g ∨ g = H) (hH : wr.heap.size ≤ H) :
    Ph w (Y.setCell ⟨p8, 0, none⟩ (.slice (some ⟨g, 0, none⟩) (z.length + 1) cap)) j p2 p4 p6 p7 p8 p9 at_ nx v5 l (z ++ [s]) f (some ⟨g, 0, none⟩) cap Af cf := by
  have hlen : (z ++ [s]).length = z.length + 1 := by simp
  have hk : ∀ b, b < wr.heap.size → b ≠ p8 → some b ≠ (Value.slice Az z.length cz).ownBlock → (Y.setCell ⟨p8, 0, none⟩ (.slice (some ⟨g, 0, none⟩) (z.length + 1) cap)).heap[b]? = wr.heap[b]? := fun b h1 h2 h3 =>
    (Below.heap_setCell Y ⟨p8, 0, none⟩ _ b h2).trans (hg.block b h1 h3)
  have hB : ∀ {b : Nat} {t : TypeId} {cs : Array Value}, Blk wr b t cs → t ≠ 9 → b ≠ p8 → Blk (Y.setCell ⟨p8, 0, none⟩ (.slice (some ⟨g, 0, none⟩) (z.length + 1) cap)) b t cs := fun {b t cs} h1 h2 h3 =>
    (hk b h1.lt h3 (h.oz.ne h1 h2)).trans h1
  have hgl := (World.ownsRow.lt ow g rfl)
  have b8Y : Blk Y p8 26 #[.slice Az z.length cz] := (hg.block p8 h.b8.lt (h.oz.ne h.b8 (by decide))).trans h.b8
  have ow' : OwnStrs Y w.heap.size (.slice (some ⟨g, 0, none⟩) (z.length + 1) cap) (z ++ [s]) := by
    unfold OwnStrs
    rw [hlen, List.map_append]
    exact ow
  have hgp : g ≠ p8 := fun e => by
    obtain ⟨cur, hc⟩ := ow'.row (g := g) rfl
    subst e
    exact (b8Y.ne_ hc (by decide)) rfl
  have hsl : (wr.heap.size ≤ (Y.setCell ⟨p8, 0, none⟩ (.slice (some ⟨g, 0, none⟩) (z.length + 1) cap)).heap.size) := by rw [show (Y.setCell ⟨p8, 0, none⟩ (.slice (some ⟨g, 0, none⟩) (z.length + 1) cap)).heap.size = Y.heap.size by simp [World.setCell]]; exact hg.size
  have h5 : ∀ b, v5.ownBlock = some b → b < wr.heap.size ∧ b ≠ p8 ∧ some b ≠ (Value.slice Az z.length cz).ownBlock := fun b e => ⟨(World.ownsRow.lt h.o5 b e).2, fun e2 => h.o5.ne h.b8 (by decide) (by rw [e, e2]), fun e2 => h.z5 b e2.symm e⟩
  have hf : ∀ b, (Value.slice Af f.length cf).ownBlock = some b → b < wr.heap.size ∧ b ≠ p8 ∧ some b ≠ (Value.slice Az z.length cz).ownBlock := fun b e => ⟨(World.ownsRow.lt h.of b e).2, fun e2 => h.of.ne h.b8 (by decide) (by rw [e, e2]), fun e2 => h.zf b e2.symm e⟩
  have hgn : ∀ b, some b = some g → b < wr.heap.size → (Value.slice Az z.length cz).ownBlock = some b := fun b e hb => by
    obtain rfl : b = g := by simpa using e
    rcases hl with h1 | h1
    · exact h1
    · omega
  refine ⟨?_, hB h.b2 (by decide) (h.b2.ne_ h.b8 (by decide)), hB h.b4 (by decide) (h.b4.ne_ h.b8 (by decide)), hB h.b6 (by decide) (h.b6.ne_ h.b8 (by decide)), hB h.b7 (by decide) (h.b7.ne_ h.b8 (by decide)), ?_, hB h.b9 (by decide) (fun e => h.ne e.symm), ?_, ?_, ?_, h.ge, h.ne, ?_, ?_, h.f5⟩
  · exact (h.below.grown hg h.below.size (fun k e => (World.ownsRow.lt h.oz k e).1)).setCell h.ge.2.2.2.2.1 _
  · rw [hlen]
    exact b8Y.set_ 0 _
  · exact h.o5.keepb fun b e => hk b (h5 b e).1 (h5 b e).2.1 (h5 b e).2.2
  · rw [hlen]
    refine ow'.keepb fun b e => ?_
    obtain rfl : g = b := by simpa [Value.ownBlock] using e
    exact Below.heap_setCell Y ⟨p8, 0, none⟩ _ g hgp
  · exact h.of.keepb fun b e => hk b (hf b e).1 (hf b e).2.1 (hf b e).2.2
  · intro b e1 e2
    have h1 := hf b e2
    exact h1.2.2 (hgn b (by simpa [Value.ownBlock] using e1.symm) h1.1).symm
  · intro b e1 e2
    have h1 := h5 b e2
    exact h1.2.2 (hgn b (by simpa [Value.ownBlock] using e1.symm) h1.1).symm
end
end Go.Proofs.YtfjejfgdnjnflaaGreatDoor
