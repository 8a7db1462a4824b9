/- The plain law for DiskStable. -/
import Derived.Test.YtahkahmkoibmhaaLh
namespace Go.Proofs.Ytahkahmkoibmhaa
open Go.RowKit

theorem splice_far {α : Type} {L t : List α} {i j : Nat} (ht : t.length ≤ 64) (hij : i ≠ j) (hL : 64 * j + 64 ≤ L.length) : ((splice L (64 * j) t).drop (64 * i)).take 64 = (L.drop (64 * i)).take 64 := by
  apply List.ext_getElem?
  intro k
  by_cases hk : k < 64
  · rw [List.getElem?_take_of_lt hk, List.getElem?_take_of_lt hk, List.getElem?_drop, List.getElem?_drop]
    unfold splice
    rcases Nat.lt_or_gt_of_ne hij with h | h
    · rw [List.getElem?_append_left (by simp; omega), List.getElem?_take_of_lt (by omega)]
    · rw [List.getElem?_append_right (by simp; omega), List.getElem?_append_right (by simp; omega), List.getElem?_drop]
      congr 1
      simp
      omega
  · rw [List.getElem?_eq_none (by simp; omega), List.getElem?_eq_none (by simp; omega)]

theorem Dk.set_sec {d : Dk} (h : d.Ok) {i j : Nat} {t : List UInt8} (hj : j < d.n) (ht : t.length ≤ 64) (hij : i ≠ j) : (d.set_ j t).sec i = d.sec i :=
  splice_far ht hij (by rw [h.st]; omega)
theorem Dk.settle_sec (i : Nat) (l : List (Nat × ByteArray)) : ∀ {d : Dk}, d.Ok → (∀ p ∈ l, p.1 < d.n ∧ p.2.size = 64) → (∀ p ∈ l, p.1 ≠ i) → (d.settle l).sec i = d.sec i := by
  induction l with
  | nil => intro d _ _ _; rfl
  | cons p l ih =>
    intro d h hl hi
    have hp := hl p (by simp)
    have hs : p.2.data.toList.length ≤ 64 := by
      have : p.2.data.toList.length = p.2.size := by simp
      omega
    have h1 := ih (Dk.set_ok h hp.1 hs) (fun x hx => hl x (by simp [hx])) (fun x hx => hi x (by simp [hx]))
    exact h1.trans (Dk.set_sec h hp.1 hs (fun e => hi p (by simp) e.symm))

theorem Dk.fail_sec {d : Dk} (h : d.Ok) (i : Nat) (x y : Int) (hi : ∀ p ∈ d.q, p.1 ≠ i) : (d.fail x y).sec i = d.sec i := by
  unfold Dk.fail
  split
  · rfl
  · generalize clamp x d.q.length = k
    generalize clamp y 64 = m
    have hq : ∀ p ∈ d.q.take k, p.1 < d.n ∧ p.2.size = 64 := fun p hp => h.q p (List.mem_of_mem_take hp)
    have h1 := Dk.settle_sec i (d.q.take k) h hq (fun p hp => hi p (List.mem_of_mem_take hp))
    have h2 := Dk.settle_ok (d.q.take k) h hq
    have h3 := (Dk.settle_same (d.q.take k) d).1
    generalize d.settle (d.q.take k) = D at *
    show (D.torn d.q[k]? m).sec i = _
    rw [← h1]
    unfold Dk.torn
    split
    · rename_i p hp
      have hm := List.mem_of_getElem? hp
      have h4 := (h.q p hm).2
      have h5 : p.2.data.toList.length = p.2.size := by simp
      have h6 : (p.2.data.toList.take m).length ≤ 64 := by rw [List.length_take]; omega
      split
      · exact Dk.set_sec h2 (by rw [h3]; exact (h.q p hm).1) h6 (fun e => hi p hm e.symm)
      · rfl
    · rfl
theorem Dk.fail_empty (d : Dk) (x y : Int) (ho : d.off = false) : (d.fail x y).q = [] := by
  unfold Dk.fail
  rw [ho]
  rfl
theorem Dk.view_empty {d : Dk} (hq : d.q = []) (i : Nat) : d.view i = ⟨(d.sec i).toArray⟩ := by
  unfold Dk.view
  rw [hq]
  rfl

/-- After a sync: writes in q went only to sectors marked in ws. -/
structure StI (d D : Dk) (ws : List Bool) (k : Nat) : Prop where
  st : D.st = d.st
  n : D.n = d.n
  off : D.off = false
  arm : D.arm = none
  q : D.q.length ≤ k
  wl : ws.length = d.n
  mark : ∀ p ∈ D.q, ws[p.1]? = some true

theorem StI.zero {d : Dk} (hq : d.q = []) (ho : d.off = false) (ha : d.arm = none) : StI d d (List.replicate d.n false) 0 :=
  ⟨rfl, rfl, ho, ha, by rw [hq]; exact Nat.le_refl _, by simp, fun p hp => by rw [hq] at hp; cases hp⟩
theorem StI.same {d D : Dk} {ws : List Bool} {k : Nat} (h : StI d D ws k) : StI d D ws (k + 1) := ⟨h.st, h.n, h.off, h.arm, by have := h.q; omega, h.wl, h.mark⟩
theorem StI.push {d D : Dk} {ws : List Bool} {k s : Nat} {t : ByteArray} (h : StI d D ws k) (hs : s < d.n) : StI d { D with q := D.q ++ [(s, t)] } (ws.set s true) (k + 1) :=
  ⟨h.st, h.n, h.off, h.arm, by have := h.q; simp; omega, by rw [List.length_set]; exact h.wl, fun p hp => by
    have hp' : p ∈ D.q ++ [(s, t)] := hp
    rw [List.getElem?_set]
    by_cases e : s = p.1
    · rw [if_pos e, if_pos (by rw [h.wl]; omega)]
    · rw [if_neg e]
      rcases List.mem_append.1 hp' with h1 | h1
      · exact h.mark p h1
      · simp only [List.mem_singleton] at h1
        exact absurd (by rw [h1]) e⟩
theorem StI.law {d D : Dk} {ws : List Bool} {k : Nat} (h : StI d D ws k) (hD : D.Ok) (hq : d.q = []) (x y : Int) {i : Nat} (hi : i < d.n) (hw : ws[i]? = some false) :
    ((D.fail x y).start).views[i]? = d.views[i]? := by
  have hn : ((D.fail x y).start).n = d.n := (Dk.fail_n D x y).trans h.n
  rw [Dk.views_at _ _ (by omega), Dk.views_at _ _ hi, Dk.view_empty hq, Dk.view_empty (show ((D.fail x y).start).q = [] from Dk.fail_empty D x y h.off)]
  have h1 : (D.fail x y).start.sec i = (D.fail x y).sec i := rfl
  have h2 : D.sec i = d.sec i := by unfold Dk.sec; rw [h.st]
  rw [h1, Dk.fail_sec hD i x y (fun p hp e => by have := h.mark p hp; rw [e, hw] at this; cases this), h2]

theorem Dk.sync_start (d : Dk) : d.start.sync = ({ d.start.settle d.q with q := [] }, 0) := by
  unfold Dk.sync Dk.count Dk.start
  rfl
end Go.Proofs.Ytahkahmkoibmhaa
