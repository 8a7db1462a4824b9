/- The plain law for DiskDamage. -/
import Derived.Test.YtahkahmkoibmhaaLk
import Derived.Test.YtahkahmkoibmhaaLj
namespace Go.Proofs.Ytahkahmkoibmhaa
open Go.RowKit

/-- Whether a byte rots. -/
def rotB (n : Nat) (s k m : Int) : Bool := decide (0 ≤ s ∧ s < n ∧ 0 ≤ k ∧ k < 64 ∧ 1 ≤ m ∧ m ≤ 255)
theorem rotB_spec {n : Nat} {s k m : Int} : rotB n s k m = true ↔ 0 ≤ s ∧ s < n ∧ 0 ≤ k ∧ k < 64 ∧ 1 ≤ m ∧ m ≤ 255 := by simp [rotB]
theorem Dk.rot_eq (d : Dk) (s k m : Int) : d.rot s k m = if rotB d.n s k m = true then { d with st := d.st.set (64 * s.toNat + k.toNat) ((d.st.getD (64 * s.toNat + k.toNat) 0) ^^^ UInt8.ofNat m.toNat) } else d := by
  unfold Dk.rot
  by_cases h : rotB d.n s k m = true
  · rw [if_pos h]
    have := rotB_spec.1 h
    rw [if_pos ⟨by simp [Dk.has]; omega, by omega, by omega, by omega, by omega⟩]
  · rw [if_neg h]
    rw [if_neg]
    rintro ⟨h1, h2, h3, h4, h5⟩
    apply h
    have h1' : 0 ≤ s ∧ s < d.n := by simpa [Dk.has] using h1
    exact rotB_spec.2 ⟨by omega, by omega, by omega, by omega, by omega, by omega⟩
theorem Dk.rot_same (d : Dk) (s k m : Int) : (d.rot s k m).n = d.n ∧ (d.rot s k m).q = d.q ∧ (d.rot s k m).off = d.off ∧ (d.rot s k m).el = d.el := by
  rw [Dk.rot_eq]
  split <;> exact ⟨rfl, rfl, rfl, rfl⟩
theorem Dk.rot_rot {d : Dk} (s k m : Int) : (d.rot s k m).rot s k m = d := by
  rw [Dk.rot_eq (d.rot s k m), (Dk.rot_same d s k m).1, Dk.rot_eq d]
  by_cases h : rotB d.n s k m = true
  · rw [if_pos h, if_pos h]
    generalize 64 * s.toNat + k.toNat = i
    generalize UInt8.ofNat m.toNat = c
    obtain ⟨n, st, el, q, off, arm⟩ := d
    simp only [Dk.mk.injEq, and_true, true_and]
    apply List.ext_getElem?
    intro j
    rw [List.getElem?_set]
    by_cases hij : i = j
    · subst hij
      by_cases hl : i < st.length
      · simp [hl, UInt8.xor_assoc]
      · simp [hl]
    · simp [hij]
  · rw [if_neg h, if_neg h]
theorem xor_self_mask (x c : UInt8) : x ^^^ (x ^^^ c) = c := by rw [← UInt8.xor_assoc]; simp

/-- Byte j of sector i, before and behind: they differ by just the bits of the mask. -/
theorem Dk.rot_bits {d : Dk} (h : d.Ok) (hq : d.q = []) (s k m : Int) {i j : Nat} (hi : i < d.n) (hj : j < 64) :
    ∃ x y : ByteArray, d.views[i]? = some x ∧ (d.rot s k m).views[i]? = some y ∧ x.size = 64 ∧ y.size = 64 ∧ ∃ a b : UInt8, x.data[j]? = some a ∧ y.data[j]? = some b ∧ ((a.toNat ^^^ b.toNat : Nat) : Int) = if rotB d.n s k m = true ∧ (i : Int) = s ∧ (j : Int) = k then m else 0 := by
  have hsm := Dk.rot_same d s k m
  have hst : (d.rot s k m).st.length = 64 * d.n := by
    rw [Dk.rot_eq]
    split
    · simp [h.st]
    · exact h.st
  have hl0 : 64 * i + j < d.st.length := by rw [h.st]; omega
  refine ⟨_, _, Dk.views_at d i hi, Dk.views_at _ i (by rw [hsm.1]; exact hi), ?_, ?_, ?_⟩
  · rw [Dk.view_empty hq]
    show ((d.st.drop (64 * i)).take 64).toArray.size = 64
    simp [h.st]; omega
  · rw [Dk.view_empty (hsm.2.1.trans hq)]
    show (((d.rot s k m).st.drop (64 * i)).take 64).toArray.size = 64
    simp [hst]; omega
  · refine ⟨d.st[64 * i + j], (d.rot s k m).st[64 * i + j]'(by rw [hst]; omega), ?_, ?_, ?_⟩
    · rw [Dk.view_empty hq]
      show ((d.st.drop (64 * i)).take 64).toArray[j]? = _
      rw [List.getElem?_toArray, List.getElem?_take_of_lt hj, List.getElem?_drop, List.getElem?_eq_getElem hl0]
    · rw [Dk.view_empty (hsm.2.1.trans hq)]
      show (((d.rot s k m).st.drop (64 * i)).take 64).toArray[j]? = _
      rw [List.getElem?_toArray, List.getElem?_take_of_lt hj, List.getElem?_drop, List.getElem?_eq_getElem (by rw [hst]; omega)]
    · by_cases hv : rotB d.n s k m = true
      · have e : (d.rot s k m).st[64 * i + j]'(by rw [hst]; omega) = if 64 * s.toNat + k.toNat = 64 * i + j then d.st[64 * i + j] ^^^ UInt8.ofNat m.toNat else d.st[64 * i + j] := by
          simp only [Dk.rot_eq, hv, if_true]
          rw [List.getElem_set]
          split
          · rename_i h1
            rw [h1]
            congr 1
            simp [List.getD_eq_getElem?_getD, List.getElem?_eq_getElem hl0]
          · rfl
        rw [e]
        have hb := rotB_spec.1 hv
        by_cases h1 : (i : Int) = s ∧ (j : Int) = k
        · rw [if_pos (show rotB d.n s k m = true ∧ (i : Int) = s ∧ (j : Int) = k from ⟨hv, h1⟩), if_pos (show 64 * s.toNat + k.toNat = 64 * i + j by omega), ← UInt8.toNat_xor, xor_self_mask, UInt8.toNat_ofNat_of_lt' (by show m.toNat < 256; omega)]
          omega
        · rw [if_neg (show ¬ (rotB d.n s k m = true ∧ (i : Int) = s ∧ (j : Int) = k) from fun c => h1 c.2), if_neg (show ¬ 64 * s.toNat + k.toNat = 64 * i + j by omega)]
          simp
      · have e : (d.rot s k m).st[64 * i + j]'(by rw [hst]; omega) = d.st[64 * i + j] := by
          simp only [Dk.rot_eq, hv]
          rfl
        rw [e, if_neg (fun c => hv c.1)]
        simp

theorem Dk.stale_same (d : Dk) (s : Int) : (d.stale s).n = d.n ∧ (d.stale s).q = d.q ∧ (d.stale s).off = d.off ∧ (d.stale s).el = d.el := by
  unfold Dk.stale
  split <;> exact ⟨rfl, rfl, rfl, rfl⟩
theorem splice_twice {α : Type} (L t : List α) (o : Nat) (ho : o + t.length ≤ L.length) : splice (splice L o t) o t = splice L o t := by
  unfold splice
  have h1 : (L.take o ++ (t ++ L.drop (o + t.length))).take o = L.take o := by
    rw [List.take_append_of_le_length (by rw [List.length_take]; omega), List.take_take, Nat.min_self]
  have h2 : (L.take o ++ (t ++ L.drop (o + t.length))).drop (o + t.length) = L.drop (o + t.length) := by
    rw [← List.append_assoc, List.drop_append_of_le_length (by rw [List.length_append, List.length_take]; omega), List.drop_of_length_le (by rw [List.length_append, List.length_take]; omega), List.nil_append]
  rw [h1, h2]
theorem Dk.stale_stale {d : Dk} (h : d.Ok) (s : Int) : (d.stale s).stale s = d.stale s := by
  by_cases hs : d.has s = true
  · have hs' : 0 ≤ s ∧ s < d.n := by simpa [Dk.has] using hs
    have e : d.stale s = { d with st := splice d.st (64 * s.toNat) ((d.el.drop (64 * s.toNat)).take 64) } := by unfold Dk.stale; rw [if_pos hs]
    rw [e]
    unfold Dk.stale
    rw [if_pos (show ({ d with st := splice d.st (64 * s.toNat) ((d.el.drop (64 * s.toNat)).take 64) } : Dk).has s = true from hs)]
    simp only [Dk.mk.injEq, and_true, true_and]
    rw [splice_twice]
    simp only [List.length_take, List.length_drop, h.st, h.el]
    omega
  · have e : d.stale s = d := by unfold Dk.stale; rw [if_neg hs]
    rw [e, e]
theorem Dk.stale_far {d : Dk} (h : d.Ok) (hq : d.q = []) (s : Int) {i : Nat} (hi : i < d.n) (hs : (i : Int) ≠ s) : (d.stale s).views[i]? = d.views[i]? := by
  have hsm := Dk.stale_same d s
  rw [Dk.views_at _ i (by rw [hsm.1]; exact hi), Dk.views_at d i hi, Dk.view_empty hq, Dk.view_empty (hsm.2.1.trans hq)]
  congr 3
  unfold Dk.stale
  split
  · rename_i hh
    have hs' : 0 ≤ s ∧ s < d.n := by simpa [Dk.has] using hh
    exact splice_far (i := i) (j := s.toNat) (by rw [List.length_take, List.length_drop]; omega) (by omega) (by rw [h.st]; omega)
  · rfl
end Go.Proofs.Ytahkahmkoibmhaa
