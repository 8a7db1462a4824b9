/- What lives beside a disk (XLd's words, for the journal). -/
import Derived.Test.YtfjejfgdnjnflaaGreatDoorDg
namespace Go.Proofs.YtfjejfgdnjnflaaGreatDoor
open Go.RowKit

theorem DiskAt.ok {w : World} {a : Nat} {d : Dk} {F : Foot} (h : DiskAt w a d F) : d.Ok := by
  obtain ⟨_, _, _, _, h⟩ := h
  exact h.ok
theorem DiskAt.below {w w' : World} {a : Nat} {d : Dk} {F : Foot} (h : DiskAt w a d F) (hb : Below w.heap.size w w') : DiskAt w' a d F := by
  obtain ⟨b1, b2, qv, ga, h⟩ := h
  exact ⟨b1, b2, qv, ga, h.keep (Only.of_below hb (fun _ => False)) (by simp)⟩
theorem DiskAt.only {w w' : World} {a : Nat} {d : Dk} {F G : Foot} (h : DiskAt w a d F) (hb : Only G w w') (hd : ∀ i, F i → ¬ G i) : DiskAt w' a d F := by
  obtain ⟨b1, b2, qv, ga, h⟩ := h
  exact ⟨b1, b2, qv, ga, h.keep hb hd⟩
theorem DiskAt.lt {w : World} {a : Nat} {d : Dk} {F : Foot} (h : DiskAt w a d F) : ∀ i, F i → i < w.heap.size := by
  obtain ⟨b1, b2, qv, ga, h⟩ := h
  exact h.fl

/-- The blocks of G are as they were. -/
structure Keep (G : Foot) (w w' : World) : Prop where
  size : w.heap.size ≤ w'.heap.size
  block : ∀ i, G i → w'.heap[i]? = w.heap[i]?
theorem Keep.mono {G H : Foot} {w w' : World} (h : Keep G w w') (hG : ∀ i, H i → G i) : Keep H w w' := ⟨h.size, fun i hi => h.block i (hG i hi)⟩
theorem Keep.of_below {G : Foot} {w w' : World} (h : Below w.heap.size w w') (hG : ∀ i, G i → i < w.heap.size) : Keep G w w' := ⟨h.size, fun i hi => h.block i (hG i hi)⟩
/-- The disk at a is d; it and the blocks of G lie apart, above the heap of w0, below which nothing has turned. -/
structure Live (w0 w : World) (a : Nat) (d : Dk) (G : Foot) : Prop where
  below : Below w0.heap.size w0 w
  disk : ∃ F, DiskAt w a d F ∧ (∀ i, F i → w0.heap.size ≤ i) ∧ (∀ i, F i → ¬ G i)
  lt : ∀ i, G i → i < w.heap.size

section
variable {w0 w w' : World} {a b : Nat} {d d' e e' : Dk} {F G H : Foot}
theorem Live.ok (h : Live w0 w a d G) : d.Ok := by
  obtain ⟨F, hF, _⟩ := h.disk
  exact hF.ok
theorem Live.same (h : Live w0 w a d G) (hb : Below w.heap.size w w') : Live w0 w' a d G := by
  obtain ⟨F, h1, h2, h3⟩ := h.disk
  exact ⟨h.below.trans (hb.mono h.below.size), ⟨F, h1.below hb, h2, h3⟩, fun i hi => Nat.lt_of_lt_of_le (h.lt i hi) hb.size⟩
/-- A new block is laid beside the disk. -/
theorem Live.more (h : Live w0 w a d G) (hb : Below w.heap.size w w') (hH : ∀ i, H i → G i ∨ (w.heap.size ≤ i ∧ i < w'.heap.size)) : Live w0 w' a d H := by
  obtain ⟨F, h1, h2, h3⟩ := h.disk
  exact ⟨h.below.trans (hb.mono h.below.size), ⟨F, h1.below hb, h2, fun i hi hh => by
    rcases hH i hh with h4 | h4
    · exact h3 i hi h4
    · have := h1.lt i hi; omega⟩, fun i hi => by
    rcases hH i hi with h4 | h4
    · exact Nat.lt_of_lt_of_le (h.lt i h4) hb.size
    · exact h4.2⟩
/-- A store into a block of the law's own. -/
theorem Live.only (h : Live w0 w a d G) (hO : Only H w w') (hH : ∀ i, H i → G i ∧ w0.heap.size ≤ i) : Live w0 w' a d G := by
  obtain ⟨F, h1, h2, h3⟩ := h.disk
  exact ⟨h.below.trans (hO.below h.below.size (fun i hi => (hH i hi).2)), ⟨F, h1.only hO (fun i hi hh => h3 i hi (hH i hh).1), h2, h3⟩, fun i hi => Nat.lt_of_lt_of_le (h.lt i hi) hO.size⟩
theorem Live.stp (h : Live w0 w a d G) (hs : ∀ F, DiskAt w a d F → Stp w w' a d' F) : Live w0 w' a d' G ∧ Keep G w w' := by
  obtain ⟨F, h1, h2, h3⟩ := h.disk
  obtain ⟨F', hO, hF, hD⟩ := hs F h1
  have hge : ∀ i, F' i → w0.heap.size ≤ i := fun i hi => by
    rcases hF i hi with h4 | h4
    · exact h2 i h4
    · have := h.below.size; omega
  have hap : ∀ i, F' i → ¬ G i := fun i hi hg => by
    rcases hF i hi with h4 | h4
    · exact h3 i h4 hg
    · have := h.lt i hg; omega
  exact ⟨⟨h.below.trans (hO.below h.below.size hge), ⟨F', hD, hge, hap⟩, fun i hi => Nat.lt_of_lt_of_le (h.lt i hi) hO.size⟩,
    ⟨hO.size, fun i hi => hO.block i (h.lt i hi) (fun hf => hap i hf hi)⟩⟩
theorem Live.lift {P : Program} {f : FuncId} {args : Array Value} {v : Value} (h : Live w0 w a d G) (hc : ∀ F, DiskAt w a d F → Calls P f args w fun e w' => e = .returned v ∧ Stp w w' a d' F) :
    Calls P f args w fun e w' => e = .returned v ∧ Live w0 w' a d' G ∧ Keep G w w' := by
  obtain ⟨F, h1, h2, h3⟩ := h.disk
  refine (hc F h1).mono ?_
  rintro e w' ⟨he, hs⟩
  refine ⟨he, ?_⟩
  obtain ⟨F', hO, hF, hD⟩ := hs
  have hge : ∀ i, F' i → w0.heap.size ≤ i := fun i hi => by
    rcases hF i hi with h4 | h4
    · exact h2 i h4
    · have := h.below.size; omega
  have hap : ∀ i, F' i → ¬ G i := fun i hi hg => by
    rcases hF i hi with h4 | h4
    · exact h3 i h4 hg
    · have := h.lt i hg; omega
  exact ⟨⟨h.below.trans (hO.below h.below.size hge), ⟨F', hD, hge, hap⟩, fun i hi => Nat.lt_of_lt_of_le (h.lt i hi) hO.size⟩,
    ⟨hO.size, fun i hi => hO.block i (h.lt i hi) (fun hf => hap i hf hi)⟩⟩
theorem Live.look {P : Program} {f : FuncId} {args : Array Value} {R : Ending → World → Prop} (h : Live w0 w a d G) (hc : ∀ F, DiskAt w a d F → Calls P f args w R) : Calls P f args w R := by
  obtain ⟨F, h1, _, _⟩ := h.disk
  exact hc F h1

/-- Two disks. -/
structure Two (w0 w : World) (a : Nat) (d : Dk) (b : Nat) (e : Dk) : Prop where
  below : Below w0.heap.size w0 w
  disks : ∃ F G, DiskAt w a d F ∧ DiskAt w b e G ∧ (∀ i, F i → w0.heap.size ≤ i) ∧ (∀ i, G i → w0.heap.size ≤ i) ∧ (∀ i, F i → ¬ G i)
theorem Two.okl (h : Two w0 w a d b e) : d.Ok := by
  obtain ⟨F, G, h1, _⟩ := h.disks
  exact h1.ok
theorem Two.okr (h : Two w0 w a d b e) : e.Ok := by
  obtain ⟨F, G, _, h1, _⟩ := h.disks
  exact h1.ok
theorem Two.swap (h : Two w0 w a d b e) : Two w0 w b e a d := by
  obtain ⟨F, G, h1, h2, h3, h4, h5⟩ := h.disks
  exact ⟨h.below, G, F, h2, h1, h4, h3, fun i hg hf => h5 i hf hg⟩
theorem Two.same (h : Two w0 w a d b e) (hb : Below w.heap.size w w') : Two w0 w' a d b e := by
  obtain ⟨F, G, h1, h2, h3, h4, h5⟩ := h.disks
  exact ⟨h.below.trans (hb.mono h.below.size), F, G, h1.below hb, h2.below hb, h3, h4, h5⟩
theorem Two.left {P : Program} {f : FuncId} {args : Array Value} {v : Value} (h : Two w0 w a d b e) (hc : ∀ F, DiskAt w a d F → Calls P f args w fun e w' => e = .returned v ∧ Stp w w' a d' F) :
    Calls P f args w fun r w' => r = .returned v ∧ Two w0 w' a d' b e := by
  obtain ⟨F, G, h1, h2, h3, h4, h5⟩ := h.disks
  refine (hc F h1).mono ?_
  rintro r w' ⟨he, F', hO, hF, hD⟩
  refine ⟨he, ?_⟩
  have hge : ∀ i, F' i → w0.heap.size ≤ i := fun i hi => by
    rcases hF i hi with h4 | h4
    · exact h3 i h4
    · have := h.below.size; omega
  have hap : ∀ i, F' i → ¬ G i := fun i hi hg => by
    rcases hF i hi with h6 | h6
    · exact h5 i h6 hg
    · have := h2.lt i hg; omega
  exact ⟨h.below.trans (hO.below h.below.size hge), F', G, hD, h2.only hO (fun i hg hf => hap i hf hg), hge, h4, hap⟩
theorem Two.right {P : Program} {f : FuncId} {args : Array Value} {v : Value} (h : Two w0 w a d b e) (hc : ∀ F, DiskAt w b e F → Calls P f args w fun r w' => r = .returned v ∧ Stp w w' b e' F) :
    Calls P f args w fun r w' => r = .returned v ∧ Two w0 w' a d b e' :=
  (h.swap.left hc).mono fun _ _ ⟨h1, h2⟩ => ⟨h1, h2.swap⟩
theorem Two.lookl {P : Program} {f : FuncId} {args : Array Value} {R : Ending → World → Prop} (h : Two w0 w a d b e) (hc : ∀ F, DiskAt w a d F → Calls P f args w R) : Calls P f args w R := by
  obtain ⟨F, G, h1, _⟩ := h.disks
  exact hc F h1
theorem Two.lookr {P : Program} {f : FuncId} {args : Array Value} {R : Ending → World → Prop} (h : Two w0 w a d b e) (hc : ∀ F, DiskAt w b e F → Calls P f args w R) : Calls P f args w R := by
  obtain ⟨F, G, _, h1, _⟩ := h.disks
  exact hc G h1
theorem Live.of_new {n : Nat} (h0 : Below w0.heap.size w0 w) (hb : Below w.heap.size w w') (hD : DiskAt w' a (Dk.new n) (fun i => w.heap.size ≤ i ∧ i < w'.heap.size)) : Live w0 w' a (Dk.new n) (fun _ => False) :=
  ⟨h0.trans (hb.mono h0.size), ⟨_, hD, fun i hi => by have := h0.size; omega, fun _ _ h => h⟩, fun _ h => h.elim⟩
theorem Two.of_new {n : Nat} (h : Live w0 w a d G) (hb : Below w.heap.size w w') (hD : DiskAt w' b (Dk.new n) (fun i => w.heap.size ≤ i ∧ i < w'.heap.size)) : Two w0 w' a d b (Dk.new n) := by
  obtain ⟨F, h1, h2, h3⟩ := h.disk
  have := h.below.size
  exact ⟨h.below.trans (hb.mono h.below.size), F, _, h1.below hb, hD, h2, fun i hi => by omega, fun i hf hg => by have := h1.lt i hf; omega⟩
end

/-! ### Sizes -/
theorem Dk.count_n (d : Dk) : d.count.1.n = d.n := by
  unfold Dk.count
  split
  · rfl
  · split
    · rfl
    · unfold Dk.fail
      split
      · rfl
      · simp only
        unfold Dk.torn
        split
        · split
          · exact (Dk.settle_same _ d).1
          · exact (Dk.settle_same _ d).1
        · exact (Dk.settle_same _ d).1
theorem Dk.fail_n (d : Dk) (x y : Int) : (d.fail x y).n = d.n := by
  unfold Dk.fail
  split
  · rfl
  · simp only
    unfold Dk.torn
    split
    · split
      · exact (Dk.settle_same _ d).1
      · exact (Dk.settle_same _ d).1
    · exact (Dk.settle_same _ d).1
theorem Dk.fail_q (d : Dk) (x y : Int) : (d.fail x y).q.length ≤ d.q.length := by
  unfold Dk.fail
  split
  · exact Nat.le_refl _
  · exact Nat.zero_le _
theorem Dk.count_q (d : Dk) : d.count.1.q.length ≤ d.q.length := by
  unfold Dk.count
  split
  · exact Nat.le_refl _
  · split
    · exact Nat.le_refl _
    · exact Dk.fail_q _ _ _
theorem Dk.write_n (d : Dk) (s : Int) (t : ByteArray) : (d.write s t).1.n = d.n := by
  unfold Dk.write
  split
  · rfl
  · split
    · rfl
    · split
      · rfl
      · exact Dk.count_n _
theorem Dk.write_q (d : Dk) (s : Int) (t : ByteArray) : (d.write s t).1.q.length ≤ d.q.length + 1 := by
  unfold Dk.write
  split
  · exact Nat.le_succ _
  · split
    · exact Nat.le_succ _
    · split
      · exact Nat.le_succ _
      · refine Nat.le_trans (Dk.count_q _) ?_
        simp
theorem Dk.sync_n (d : Dk) : d.sync.1.n = d.n := by
  unfold Dk.sync
  split
  · rfl
  · split
    · show (d.count.1.settle d.count.1.q).n = d.n
      rw [(Dk.settle_same _ _).1, Dk.count_n]
    · exact Dk.count_n d
theorem Dk.sync_q (d : Dk) : d.sync.1.q.length ≤ d.q.length := by
  unfold Dk.sync
  split
  · exact Nat.le_refl _
  · split
    · exact Nat.zero_le _
    · exact Dk.count_q d
end Go.Proofs.YtfjejfgdnjnflaaGreatDoor
