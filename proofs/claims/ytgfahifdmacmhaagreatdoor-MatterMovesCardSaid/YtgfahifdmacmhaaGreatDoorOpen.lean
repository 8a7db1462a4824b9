/- Reading arguments: a slice of structs whose fields are one cell each. Over any program. -/
import Derived.Test.YtgfahifdmacmhaaGreatDoorBase
import Derived.Deep.Slices
import Derived.Deep.Fields
import Derived.ChangeSame
import Derived.ChangeOld
import Derived.ProofKit
import Derived.OpenShut
import Derived.ShutString
namespace Go.Proofs.YtgfahifdmacmhaaGreatDoor
open Go.RowKit Go.ChangeShapes Go.WideShapes Go.Deep

section
variable {H : Type} {enc : TypeId × Value → H} {P : Program} {w : World} {base : Nat} {spare : Nat → Bool} {held : Bool}

theorem spot_none {w : World} {a : Addr} {k : Nat} {v : Value} (h : w.cell? (a.add k) = some v) : a.add k = ⟨a.block, a.off + k, none⟩ := by
  have hs := World.cell?_spot h
  obtain ⟨b, o, s⟩ := a
  by_cases h0 : k = 0
  · subst h0
    have : s = none := by simpa [Addr.add] using hs
    subst this
    simp [Addr.add]
  · simp [Addr.add, h0]

theorem slice_len {t e : TypeId} {fuel len cap : Nat} {A : Option Addr} {x : DataW H × List MemPlace} (ht : P.underlying t = some (.slice e)) (h : DataW.trod enc P w base spare held fuel t [.slice A len cap] = some x) :
    len ≤ 9223372036854775807 := by
  rcases open_slice ht h with ⟨h0, _⟩ | ⟨a, len', cap', m, n, D, Pl, hcs, hb, hl, hm, _⟩
  · injection h0 with h0
    injection h0 with _ h1 _
    omega
  · injection hcs with hcs _
    injection hcs with hA hle hca
    subst hA hle hca
    unfold maxLen at hm
    omega

/-- The elements of a slice of structs, cell by cell. -/
theorem slice_structs {t e : TypeId} {fs : Array Field} {fuel len cap : Nat} {A : Option Addr} {x : DataW H × List MemPlace} (ht : P.underlying t = some (.slice e)) (he : P.underlying e = some (.struct fs))
    (hone : oneCellFields P fs = true) (hC : P.cellsOf e = fs.size) (h : DataW.trod enc P w base spare held fuel t [.slice A len cap] = some x) :
    ∀ i, i < len → ∃ (a : Addr) (n : Nat) (vs : List Value), A = some a ∧ vs.length = fs.size ∧ (∀ j v, vs[j]? = some v → w.cell? ⟨a.block, a.off + i * fs.size + j, none⟩ = some v ∧ a.block < w.heap.size) ∧
      (0 < fs.size → a.spot = none) ∧
      ∀ (j : Nat) (f : Field), fs[j]? = some f → ∃ v y, vs[j]? = some v ∧ DataW.trod enc P w base spare held n f.type [v] = some y := by
  intro i hi
  rcases open_slice ht h with ⟨h0, _⟩ | ⟨a, len', cap', m, n, D, Pl, hcs, hb, hl, hm, hmm, hx, hall⟩
  · injection h0 with h0
    injection h0 with _ h1 _
    omega
  · injection hcs with hcs _
    injection hcs with hA hle hca
    subst hA hle hca
    obtain ⟨cs', hc, ht'⟩ := hall i (by rw [hmm]; split <;> omega)
    rw [hC] at hc
    obtain ⟨ys, n', _, _, hlen, hyl, hf⟩ := DataW.trod_struct he ht'
    obtain ⟨_, hcl, hat⟩ := World.cells?_some hc
    have hcell : ∀ j v, cs'[j]? = some v → w.cell? ((a.add (i * fs.size)).add j) = some v := fun j v hv => by
      have hj : j < fs.size := by rw [← hcl]; exact (List.getElem?_eq_some_iff.1 hv).1
      rw [hat j hj, hv]
    refine ⟨a, n', cs', rfl, hcl, fun j v hv => ?_, fun h0 => ?_, fun j f hj => ?_⟩
    · have h1 := hcell j v hv
      rw [Go.Deep.add_add] at h1
      have h2 := spot_none h1
      rw [h2] at h1
      have h3 : a.off + (i * fs.size + j) = a.off + i * fs.size + j := by omega
      rw [h3] at h1
      refine ⟨h1, ?_⟩
      exact World.block_lt_of_cell? w ⟨a.block, a.off + i * fs.size + j, none⟩ h1
    · obtain ⟨cs0, hc0, _⟩ := hall 0 (by rw [hmm]; split <;> omega)
      rw [hC] at hc0
      obtain ⟨_, hcl0, hat0⟩ := World.cells?_some hc0
      have h1 := hat0 0 h0
      rw [List.getElem?_eq_getElem (by omega)] at h1
      rw [Go.Deep.add_add] at h1
      simpa [Addr.add] using World.cell?_spot h1
    · obtain ⟨ho, hk⟩ := hone_of hone j f hj
      have hjl : j < fs.size := (Array.getElem?_eq_some_iff.1 hj).1
      have h1 := hf j f hj
      rw [ho, hk] at h1
      have h2 : (cs'.drop j).take 1 = [cs'[j]'(by omega)] := by
        rw [List.drop_eq_getElem_cons (by omega)]
        rfl
      rw [h2] at h1
      exact ⟨_, ys[j]'(by omega), List.getElem?_eq_getElem (by omega), h1.trans (List.getElem?_eq_getElem (by omega))⟩
end

/-- A list made element by element. -/
theorem list_of {α : Type} {p : Nat → α → Prop} (n : Nat) (h : ∀ i, i < n → ∃ a, p i a) : ∃ l : List α, l.length = n ∧ ∀ i a, l[i]? = some a → p i a := by
  induction n with
  | zero => exact ⟨[], rfl, fun i a hi => by simp at hi⟩
  | succ n ih =>
    obtain ⟨l, hl, hp⟩ := ih (fun i hi => h i (by omega))
    obtain ⟨a, ha⟩ := h n (by omega)
    refine ⟨l ++ [a], by simp [hl], fun i b hi => ?_⟩
    rcases Nat.lt_or_ge i l.length with h1 | h1
    · rw [List.getElem?_append_left h1] at hi
      exact hp i b hi
    · have : i = l.length := by
        have := (List.getElem?_eq_some_iff.1 hi).1
        simp at this
        omega
      subst this
      simp at hi
      subst hi
      rw [hl]
      exact ha
end Go.Proofs.YtgfahifdmacmhaaGreatDoor
