/- filled: a journal on a new disk with the records of some Appends. -/
import Derived.Test.YtfjejfgdnjnflaaGreatDoorKl
namespace Go.Proofs.YtfjejfgdnjnflaaGreatDoor
open Go.RowKit Go.Shelf

/-- A journal at rest, all of its writes done. -/
structure Rest (d : Dk) (x : Jn) (n : Nat) : Prop where
  on : JOn d x
  arm : d.arm = none
  q : d.q = []
  el : El d x.cnt
  n : d.n = n
theorem Rest.append {d : Dk} {x : Jn} {n : Nat} (h : Rest d x n) (rs : List (List UInt8)) :
    (appendS d x rs).2.2 = 0 ∧ Rest (appendS d x rs).1 (appendS d x rs).2.1 n ∧ (appendS d x rs).2.1.rs = x.rs ++ rs ∨ (appendS d x rs).2.2 ≠ 0 ∧ (appendS d x rs).1 = d ∧ (appendS d x rs).2.1 = x := by
  rcases append_on h.on rs with ⟨_, e⟩ | ⟨hs, ⟨_, e⟩ | ⟨hn, ⟨h0, e⟩ | ⟨h0, ⟨d', e, h1, h2, h3, h4, h5⟩ | ⟨d', _, h1, _⟩⟩⟩⟩
  · rw [e]; exact .inr ⟨by simp, rfl, rfl⟩
  · rw [e]; exact .inr ⟨by simp, rfl, rfl⟩
  · rw [e]
    subst h0
    exact .inl ⟨rfl, h, by simp⟩
  · rw [e]
    refine .inl ⟨rfl, ⟨h1, h3 h.arm, h4, ?_, h2.trans h.n⟩, rfl⟩
    exact El.append h.el h.on h.q hs hn h5
  · exact absurd h.arm h1
theorem Rest.new {n : Nat} (h : 3 ≤ n) (h2 : n ≤ 4000) : Rest (Dk.new n) ⟨n, 0, [], false⟩ n := ⟨(new_on h h2).1, rfl, rfl, El.new h, rfl⟩
theorem Rest.size {d : Dk} {x : Jn} {n : Nat} (h : Rest d x n) : x.n = n ∧ x.cnt + 2 ≤ n ∧ 3 ≤ n ∧ x.broken = false := by
  have h1 := h.on.good.le
  have h2 := h.on.good.n3
  have h3 := h.n
  exact ⟨h.on.n.trans h.n, by omega, by omega, h.on.fine⟩

section
variable {w0 w w' : World} {a j : Nat} {d d' : Dk} {x : Jn} {K H : Foot}
theorem Live.base (h : Live w0 w a d K) : Live w0 w a d (fun i => i < w0.heap.size ∨ K i) := by
  obtain ⟨F, h1, h2, h3⟩ := h.disk
  refine ⟨h.below, ⟨F, h1, h2, fun i hi hk => ?_⟩, fun i hi => ?_⟩
  · rcases hk with hk | hk
    · have := h2 i hi; omega
    · exact h3 i hi hk
  · rcases hi with hi | hi
    · have := h.below.size; omega
    · exact h.lt i hi
theorem Ses.base (h : Ses w0 w a d j x K) : Ses w0 w a d j x (fun i => i < w0.heap.size ∨ K i) := by
  obtain ⟨J, h1, h2, h3⟩ := h
  refine ⟨J, h1.base.less fun i hi => ?_, h2, fun i hi => ⟨(h3 i hi).1, fun hk => ?_⟩⟩
  · rcases hi with (hi | hi) | hi
    · exact .inl hi
    · exact .inr (.inl hi)
    · exact .inr (.inr hi)
  · rcases hk with hk | hk
    · have := (h3 i hi).1; omega
    · exact (h3 i hi).2 hk
theorem Ses.only (h : Ses w0 w a d j x K) (hO : Only H w w') (hH : ∀ i, H i → K i ∧ w0.heap.size ≤ i) : Ses w0 w' a d j x K := by
  obtain ⟨J, h1, h2, h3⟩ := h
  have hk : Keep J w w' := ⟨hO.size, fun i hi => hO.block i (h1.lt i (.inr hi)) (fun hh => (h3 i hi).2 (hH i hh).1)⟩
  exact ⟨J, h1.only hO (fun i hi => ⟨.inl (hH i hi).1, (hH i hi).2⟩), h2.keep hk (fun i hi => hi), h3⟩
end
theorem Ses.grow {w0 w w' : World} {a j : Nat} {d : Dk} {x : Jn} {K : Foot} {row : Option Nat} (h : Ses w0 w a d j x K) (hg : w.grownBy w' row) (hr : ∀ i, row = some i → w0.heap.size ≤ i) (hK : ∀ i, row = some i → K i) :
    Ses w0 w' a d j x (fun i => K i ∨ (w.heap.size ≤ i ∧ i < w'.heap.size)) := by
  obtain ⟨J, h1, h2, h3⟩ := h
  have hO : Only (fun i => row = some i) w w' := Only.of_grown hg
  have h4 := h1.only hO (fun i hi => ⟨.inl (hK i hi), hr i hi⟩)
  have hk : Keep J w w' := ⟨hO.size, fun i hi => hO.block i (h1.lt i (.inr hi)) (fun hh => (h3 i hi).2 (hK i hh))⟩
  obtain ⟨F, f1, f2, f3⟩ := h1.disk
  have f4 := f1.only hO (fun i hi hh => f3 i hi (.inl (hK i hh)))
  refine ⟨J, ⟨h4.below, ⟨F, f4, f2, fun i hi hh => ?_⟩, fun i hi => ?_⟩, h2.keep hk (fun i hi => hi), fun i hi => ⟨(h3 i hi).1, fun hh => ?_⟩⟩
  · rcases hh with (hh | hh) | hh
    · exact f3 i hi (.inl hh)
    · have := f1.lt i hi; omega
    · exact f3 i hi (.inr hh)
  · rcases hi with (hh | hh) | hh
    · exact h4.lt i (.inl hh)
    · exact hh.2
    · exact h4.lt i (.inr hh)
  · rcases hh with hh | hh
    · exact (h3 i hi).2 hh
    · have := h1.lt i (.inr hi); omega
theorem StrsAt.toIn {w : World} {B : Nat} {A : Option Addr} {l : List (List UInt8)} {K : Foot} (h : StrsAt w B A l) (hK : ∀ i, i < B → K i) : StrsIn w K A l := fun i s hi => by
  obtain ⟨g, off, hA, hg, hc⟩ := h i s hi
  exact ⟨g, off, hA, hK g hg, hc⟩

set_option maxRecDepth 100000 in
theorem open_nil (w : World) : Calls Tryz.prog 7 #[.pointer none] w fun e w' => e = .returned (.tuple #[.pointer none, .slice none 0 0, .int .i64 1]) ∧ w = w' := by
  go_enter Tryz.func7, Tryz.ntmps7
  go_wp2
  go_ret3
  exact ⟨rfl, rfl⟩
end Go.Proofs.YtfjejfgdnjnflaaGreatDoor
