/- The plain law for DiskArmed. -/
import Derived.Test.YtahkahmkoibmhaaLj
namespace Go.Proofs.Ytahkahmkoibmhaa
open Go.RowKit

def armOf (after left x y : Int) : Option (Int × Int × Int) := if 0 ≤ after then some (left, x, y) else none
def Dk.armed (d : Dk) (a : Option (Int × Int × Int)) : Dk := { d with arm := a }

theorem Dk.armed_settle (l : List (Nat × ByteArray)) (a : Option (Int × Int × Int)) : ∀ d : Dk, (d.armed a).settle l = (d.settle l).armed a := by
  induction l with
  | nil => intro d; rfl
  | cons p l ih => intro d; exact ih (d.set_ p.1 p.2.data.toList)
theorem Dk.armed_fail (d : Dk) (a : Option (Int × Int × Int)) (ho : d.off = false) (x y : Int) : (d.armed a).fail x y = d.fail x y := by
  have h1 : (d.armed a).off = false := ho
  unfold Dk.fail
  rw [h1, ho]
  simp only [Bool.false_eq_true, if_false]
  have h2 : (d.armed a).q = d.q := rfl
  rw [h2, Dk.armed_settle]
  generalize d.settle (d.q.take (clamp x d.q.length)) = S
  unfold Dk.torn
  cases d.q[clamp x d.q.length]? with
  | none => rfl
  | some p =>
    simp only
    split <;> rfl

/-- The armed disk beside the other. -/
structure ArI (after left x y : Int) (a b : Dk) (k : Nat) : Prop where
  eq : a = b.armed (armOf after left x y)
  off : b.off = false
  arm : b.arm = none
  yes : 0 ≤ after → 0 ≤ left ∧ left ≤ after
  no : after < 0 → left = after
  q : b.q.length ≤ 60 + k

theorem ArI.zero {d : Dk} (ho : d.off = false) (ha : d.arm = none) (hq : d.q.length ≤ 60) (after x y : Int) : ArI after after x y (d.doArm after x y) d 0 :=
  ⟨by unfold Dk.doArm armOf Dk.armed; rw [ho]; rfl, ho, ha, fun h => ⟨h, Int.le_refl _⟩, fun _ => rfl, hq⟩
section
variable {after left x y : Int} {a b : Dk} {k : Nat}
theorem ArI.start (h : ArI after left x y a b k) : a.start = b.start := by rw [h.eq]; rfl
theorem ArI.qa (h : ArI after left x y a b k) : a.q.length ≤ 60 + k := by rw [h.eq]; exact h.q
theorem ArI.more (h : ArI after left x y a b k) : ArI after left x y a b (k + 1) := ⟨h.eq, h.off, h.arm, h.yes, h.no, by have := h.q; omega⟩
theorem ArI.offa (h : ArI after left x y a b k) : a.off = false := by rw [h.eq]; exact h.off
theorem Dk.has_armed (m : Option (Int × Int × Int)) (s : Int) : (b.armed m).has s = b.has s := rfl
theorem ArI.short (h : ArI after left x y a b k) {s : Int} {t : ByteArray} (hc : ¬ (b.has s = true ∧ t.size = 64)) : b.write s t = (b, 1) ∧ a.write s t = (a, 1) := by
  refine ⟨by rw [Dk.write_start _ _ _ h.off h.arm, if_neg hc], ?_⟩
  have h1 := h.offa
  unfold Dk.write
  rw [h1]
  simp only [Bool.false_eq_true, if_false]
  by_cases h2 : a.has s = false
  · rw [if_pos h2]
  · rw [if_neg h2, if_pos]
    intro h3
    apply hc
    refine ⟨?_, h3⟩
    have : a.has s = b.has s := by rw [h.eq]; rfl
    rw [← this]
    simpa using h2
theorem Dk.write_long {d : Dk} (ho : d.off = false) {s : Int} {t : ByteArray} (hc : d.has s = true ∧ t.size = 64) : d.write s t = Dk.count { d with q := d.q ++ [(s.toNat, t)] } := by
  unfold Dk.write
  rw [ho, hc.1]
  simp [hc.2]
theorem ArI.wroteOff (h : ArI after left x y a b k) {s : Int} {t : ByteArray} (hc : b.has s = true ∧ t.size = 64) (hl : left = 0) :
    b.write s t = ({ b with q := b.q ++ [(s.toNat, t)] }, 0) ∧ a.write s t = (({ b with q := b.q ++ [(s.toNat, t)] } : Dk).fail x y, 25) := by
  refine ⟨by rw [Dk.write_start _ _ _ h.off h.arm, if_pos hc], ?_⟩
  have h0 : 0 ≤ after := by
    rcases Int.lt_or_le after 0 with h1 | h1
    · have := h.no h1; omega
    · exact h1
  rw [Dk.write_long h.offa (by rw [h.eq]; exact hc), h.eq]
  unfold Dk.count armOf
  rw [if_pos h0, hl]
  simp only [Dk.armed]
  rw [if_neg (Int.lt_irrefl 0)]
  congr 1
  exact Dk.armed_fail { b with q := b.q ++ [(s.toNat, t)] } (some (0, x, y)) h.off x y
theorem ArI.step (h : ArI after left x y a b k) (hl : left ≠ 0) {b' : Dk} (hb : b'.off = false) (hba : b'.arm = none) (hq : b'.q.length ≤ 60 + (k + 1)) :
    (b'.armed (armOf after left x y)).count = (b'.armed (armOf after (if 0 < left then left - 1 else left) x y), 0) ∧
      ArI after (if 0 < left then left - 1 else left) x y (b'.armed (armOf after (if 0 < left then left - 1 else left) x y)) b' (k + 1) := by
  refine ⟨?_, rfl, hb, hba, ?_, ?_, hq⟩
  · unfold Dk.count armOf
    by_cases h0 : 0 ≤ after
    · have := h.yes h0
      rw [if_pos h0, if_pos (show 0 < left by omega)]
      simp only [Dk.armed]
      rw [if_pos (show 0 < left by omega), if_pos h0]
    · rw [if_neg h0, if_neg h0]
      rfl
  · intro h0
    have := h.yes h0
    split <;> omega
  · intro h0
    have := h.no h0
    rw [if_neg (by omega)]
    exact this
theorem ArI.wroteOn (h : ArI after left x y a b k) {s : Int} {t : ByteArray} (hc : b.has s = true ∧ t.size = 64) (hl : left ≠ 0) :
    ∃ a' b', b.write s t = (b', 0) ∧ a.write s t = (a', 0) ∧ ArI after (if 0 < left then left - 1 else left) x y a' b' (k + 1) := by
  obtain ⟨h1, h2⟩ := h.step hl (b' := { b with q := b.q ++ [(s.toNat, t)] }) h.off h.arm (by have := h.q; simp; omega)
  refine ⟨_, _, by rw [Dk.write_start _ _ _ h.off h.arm, if_pos hc], ?_, h2⟩
  rw [Dk.write_long h.offa (by rw [h.eq]; exact hc), h.eq]
  exact h1
theorem ArI.syncOff (h : ArI after left x y a b k) (hl : left = 0) : a.sync = (b.fail x y, 25) := by
  have h0 : 0 ≤ after := by
    rcases Int.lt_or_le after 0 with h1 | h1
    · have := h.no h1; omega
    · exact h1
  have e : (b.armed (some (0, x, y))).count = (b.fail x y, 25) := by
    unfold Dk.count
    simp only [Dk.armed]
    rw [if_neg (Int.lt_irrefl 0)]
    congr 1
    exact Dk.armed_fail b (some (0, x, y)) h.off x y
  rw [h.eq]
  unfold Dk.sync armOf
  rw [if_pos h0, hl, e]
  rw [show (b.armed (some (0, x, y))).off = false from h.off]
  rfl
theorem ArI.syncOn (h : ArI after left x y a b k) (hl : left ≠ 0) : ∃ a' b', b.sync = (b', 0) ∧ a.sync = (a', 0) ∧ ArI after (if 0 < left then left - 1 else left) x y a' b' (k + 1) := by
  have e0 := Dk.settle_same b.q b
  obtain ⟨h1, h2⟩ := h.step hl (b' := { b.settle b.q with q := [] }) (by rw [show ({ b.settle b.q with q := [] } : Dk).off = (b.settle b.q).off from rfl, e0.2.2.1]; exact h.off) (by rw [show ({ b.settle b.q with q := [] } : Dk).arm = (b.settle b.q).arm from rfl, e0.2.2.2]; exact h.arm) (Nat.zero_le _)
  obtain ⟨h3, _⟩ := h.step hl (b' := b) h.off h.arm (by have := h.q; omega)
  refine ⟨_, _, Dk.sync_plain b h.off h.arm, ?_, h2⟩
  rw [h.eq]
  unfold Dk.sync
  rw [h3, show (b.armed (armOf after left x y)).off = false from h.off]
  simp only [Bool.false_eq_true, if_false, if_true]
  rw [Dk.armed_settle]
  rfl
end
end Go.Proofs.Ytahkahmkoibmhaa
