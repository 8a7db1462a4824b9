/- The disk as plain data, without any program. -/
import Derived.Test.YtfjejfgdnjnflaaGreatDoorLaws
namespace Go.Proofs.YtfjejfgdnjnflaaGreatDoor
open Go.RowKit

/-- A disk: n sectors, the stable and the elder bytes, the pending writes, whether it is off, the alarm. -/
structure Dk where
  n : Nat
  st : List UInt8
  el : List UInt8
  q : List (Nat × ByteArray)
  off : Bool
  arm : Option (Int × Int × Int)

structure Dk.Ok (d : Dk) : Prop where
  n1 : 1 ≤ d.n
  n2 : d.n ≤ 4000
  st : d.st.length = 64 * d.n
  el : d.el.length = 64 * d.n
  q : ∀ p ∈ d.q, p.1 < d.n ∧ p.2.size = 64
  arm : ∀ x, d.arm = some x → 0 ≤ x.1 ∧ x.1 ≤ 9223372036854775807

def Dk.set_ (d : Dk) (i : Nat) (t : List UInt8) : Dk := { d with el := splice d.el (64 * i) ((d.st.drop (64 * i)).take 64), st := splice d.st (64 * i) t }
def Dk.settle (d : Dk) (l : List (Nat × ByteArray)) : Dk := l.foldl (fun d p => d.set_ p.1 p.2.data.toList) d
def Dk.torn (d : Dk) (p : Option (Nat × ByteArray)) (k : Nat) : Dk :=
  match p with
  | some p => if 0 < k then d.set_ p.1 (p.2.data.toList.take k) else d
  | none => d
def clamp (x : Int) (m : Nat) : Nat := min (max x 0).toNat m
def Dk.fail (d : Dk) (wr by_ : Int) : Dk :=
  if d.off then d else
  { (((d.settle (d.q.take (clamp wr d.q.length))).torn d.q[clamp wr d.q.length]? (clamp by_ 64))) with q := [], off := true, arm := none }
def Dk.count (d : Dk) : Dk × Int :=
  match d.arm with
  | none => (d, 0)
  | some (a, wr, by_) => if 0 < a then ({ d with arm := some (a - 1, wr, by_) }, 0) else (d.fail wr by_, 25)
def Dk.has (d : Dk) (s : Int) : Bool := decide (0 ≤ s) && decide (s < d.n)
def Dk.write (d : Dk) (s : Int) (t : ByteArray) : Dk × Int :=
  if d.off then (d, 25) else if d.has s = false then (d, 1) else if t.size ≠ 64 then (d, 1) else Dk.count { d with q := d.q ++ [(s.toNat, t)] }
def Dk.sec (d : Dk) (i : Nat) : List UInt8 := (d.st.drop (64 * i)).take 64
def lastOf (q : List (Nat × ByteArray)) (i : Nat) : Option ByteArray := (q.reverse.find? (fun p => p.1 == i)).map (·.2)
def Dk.view (d : Dk) (i : Nat) : ByteArray := (lastOf d.q i).getD ⟨(d.sec i).toArray⟩
def Dk.read (d : Dk) (s : Int) : ByteArray × Int :=
  if d.off then (ByteArray.empty, 25) else if d.has s = false then (ByteArray.empty, 1) else (d.view s.toNat, 0)
def Dk.sync (d : Dk) : Dk × Int :=
  if d.off then (d, 25) else if d.count.2 = 0 then ({ d.count.1.settle d.count.1.q with q := [] }, 0) else d.count
def Dk.start (d : Dk) : Dk := { d with off := false, arm := none }
def Dk.doArm (d : Dk) (a wr by_ : Int) : Dk := if d.off then d else { d with arm := if 0 ≤ a then some (a, wr, by_) else none }
def Dk.rot (d : Dk) (s k m : Int) : Dk :=
  if d.has s = true ∧ 0 ≤ k ∧ k < 64 ∧ 0 < m ∧ m < 256 then { d with st := d.st.set (64 * s.toNat + k.toNat) ((d.st.getD (64 * s.toNat + k.toNat) 0) ^^^ UInt8.ofNat m.toNat) } else d
def Dk.stale (d : Dk) (s : Int) : Dk :=
  if d.has s = true then { d with st := splice d.st (64 * s.toNat) ((d.el.drop (64 * s.toNat)).take 64) } else d
def Dk.new (n : Nat) : Dk := { n := n, st := List.replicate (64 * n) 0, el := List.replicate (64 * n) 0, q := [], off := false, arm := none }

theorem Dk.set_ok {d : Dk} (h : d.Ok) {i : Nat} {t : List UInt8} (hi : i < d.n) (ht : t.length ≤ 64) : (d.set_ i t).Ok := by
  obtain ⟨a, b, c, e, f, g⟩ := h
  refine ⟨a, b, ?_, ?_, f, g⟩
  · show (splice _ _ _).length = _
    rw [length_splice _ _ _ (by rw [c]; omega)]; exact c
  · show (splice _ _ _).length = _
    rw [length_splice _ _ _ (by simp [c, e]; omega)]; exact e
theorem Dk.set_same (d : Dk) (i : Nat) (t : List UInt8) : (d.set_ i t).n = d.n ∧ (d.set_ i t).q = d.q ∧ (d.set_ i t).off = d.off ∧ (d.set_ i t).arm = d.arm := ⟨rfl, rfl, rfl, rfl⟩

theorem Dk.settle_same (l : List (Nat × ByteArray)) : ∀ d : Dk, (d.settle l).n = d.n ∧ (d.settle l).q = d.q ∧ (d.settle l).off = d.off ∧ (d.settle l).arm = d.arm := by
  induction l with
  | nil => intro d; exact ⟨rfl, rfl, rfl, rfl⟩
  | cons p l ih => intro d; exact ih _
theorem Dk.settle_take (d : Dk) (l : List (Nat × ByteArray)) (k : Nat) (p : Nat × ByteArray) (hp : l[k]? = some p) : d.settle (l.take (k + 1)) = (d.settle (l.take k)).set_ p.1 p.2.data.toList := by
  obtain ⟨hk, rfl⟩ := List.getElem?_eq_some_iff.1 hp
  unfold Dk.settle
  rw [List.take_succ_eq_append_getElem hk, List.foldl_append]
  rfl
theorem Dk.settle_ok (l : List (Nat × ByteArray)) : ∀ {d : Dk}, d.Ok → (∀ p ∈ l, p.1 < d.n ∧ p.2.size = 64) → (d.settle l).Ok := by
  induction l with
  | nil => intro d h _; exact h
  | cons p l ih =>
    intro d h hl
    have hp := hl p (by simp)
    refine ih (Dk.set_ok h hp.1 ?_) (fun x hx => hl x (by simp [hx]))
    have : p.2.data.toList.length = p.2.size := by simp
    omega

end Go.Proofs.YtfjejfgdnjnflaaGreatDoor
