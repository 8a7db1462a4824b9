/- The journal's texts as plain data: sealed sectors, heads, pieces, records. No program in sight. -/
import Derived.Test.YtfjejfgdnjnflaaGreatDoorJd
import Derived.Lib.Atoi
import Derived.Lib.ItoaNum
namespace Go.Proofs.YtfjejfgdnjnflaaGreatDoor

def c8 (n : Nat) : UInt8 := UInt8.ofNat (48 + n)
theorem c8_nat {n : Nat} (h : n < 10) : (c8 n).toNat = 48 + n := by
  unfold c8
  rw [UInt8.toNat_ofNat']
  omega
/-- The last digits of a number. -/
def lastD : Nat → Nat → List UInt8
  | 0, _ => []
  | i + 1, n => lastD i (n / 10) ++ [c8 (n % 10)]
theorem lastD_len : ∀ i n, (lastD i n).length = i
  | 0, _ => rfl
  | i + 1, n => by simp [lastD, lastD_len i]
theorem c8_inj {a b : Nat} (ha : a < 10) (hb : b < 10) (h : c8 a = c8 b) : a = b := by
  have h1 := c8_nat ha
  have h2 := c8_nat hb
  rw [h] at h1
  omega
theorem lastD_inj : ∀ {i a b : Nat}, a < 10 ^ i → b < 10 ^ i → lastD i a = lastD i b → a = b
  | 0, a, b, ha, hb, _ => by simp at ha hb; omega
  | i + 1, a, b, ha, hb, h => by
    simp only [lastD] at h
    obtain ⟨h1, h2⟩ := List.append_inj h (by rw [lastD_len, lastD_len])
    injection h2 with h2 _
    have e1 := c8_inj (Nat.mod_lt _ (by decide)) (Nat.mod_lt _ (by decide)) h2
    rw [Nat.pow_succ] at ha hb
    have e2 := lastD_inj (i := i) (by omega) (by omega) h1
    omega
theorem lastD_zero : ∀ i, lastD i 0 = List.replicate i 48
  | 0 => rfl
  | i + 1 => by
    rw [lastD, Nat.zero_div, lastD_zero i, List.replicate_succ']
    rfl
/-- Cut or filled up with zero bytes to n bytes. -/
def padL (n : Nat) (l : List UInt8) : List UInt8 := (l ++ List.replicate n 0).take n
theorem padL_len (n : Nat) (l : List UInt8) : (padL n l).length = n := by simp [padL]
theorem padL_full {n : Nat} {l : List UInt8} (h : l.length = n) : padL n l = l := by
  unfold padL
  rw [← h, List.take_left]
theorem padL_short {n : Nat} {l : List UInt8} (h : l.length ≤ n) : padL n l = l ++ List.replicate (n - l.length) 0 := by
  unfold padL
  rw [List.take_append, List.take_of_length_le h, List.take_replicate, Nat.min_eq_left (by omega)]
def sealL (place : Nat) (c : List UInt8) : List UInt8 := sumL (lastD 8 place ++ padL 48 c) ++ padL 48 c
theorem sealL_len (place : Nat) (c : List UInt8) : (sealL place c).length = 64 := by simp [sealL, sumL_len, padL_len]
def zeroL : List UInt8 := List.replicate 64 0
def headL (place n : Nat) : List UInt8 := sealL place (lastD 8 n)
def secL (place : Nat) (p : List UInt8) : List UInt8 := sealL place (lastD 2 p.length ++ p)
theorem headL_len (place n : Nat) : (headL place n).length = 64 := sealL_len _ _
theorem secL_len (place : Nat) (p : List UInt8) : (secL place p).length = 64 := sealL_len _ _
/-- The pieces of a text. -/
def piecesK : Nat → List UInt8 → List (List UInt8)
  | 0, _ => []
  | k + 1, t => if t = [] then [] else t.take 46 :: piecesK k (t.drop 46)
def piecesL (t : List UInt8) : List (List UInt8) := piecesK t.length t
def recL (r : List UInt8) : List UInt8 := Lib.itoa (r.length : Int) ++ 58 :: r
def textR (rs : List (List UInt8)) : List UInt8 := (rs.map recL).flatten

/-! Numerals. -/
theorem dec_ten {u : Nat} (h : u < 10) : Lib.decDigits u = [c8 u] := by rw [Lib.decDigits, dif_pos h]; rfl
theorem dec_more {u : Nat} (h : ¬ u < 10) : Lib.decDigits u = Lib.decDigits (u / 10) ++ [c8 (u % 10)] := by rw [Lib.decDigits, dif_neg h]; rfl
theorem dec_pad : ∀ {w n : Nat}, n < 10 ^ (w + 1) → (Lib.decDigits n).length ≤ w + 1 ∧ List.replicate (w + 1 - (Lib.decDigits n).length) 48 ++ Lib.decDigits n = lastD (w + 1) n
  | 0, n, h => by
    have h : n < 10 := by simpa using h
    rw [dec_ten h]
    simp [lastD, Nat.mod_eq_of_lt h]
  | w + 1, n, h => by
    by_cases h10 : n < 10
    · rw [dec_ten h10]
      refine ⟨by simp, ?_⟩
      have e : n / 10 = 0 := by omega
      rw [lastD, e, lastD_zero, Nat.mod_eq_of_lt h10]
      simp
    · rw [Nat.pow_succ] at h
      obtain ⟨h1, h2⟩ := dec_pad (w := w) (n := n / 10) (by omega)
      rw [dec_more h10]
      refine ⟨by simp; omega, ?_⟩
      rw [lastD, ← h2, List.length_append, List.length_singleton, List.append_assoc]
      congr 2
      omega
theorem itoa_nat (n : Nat) : Lib.itoa (n : Int) = Lib.decDigits n := by unfold Lib.itoa; rw [if_neg (by omega)]; simp
theorem digitVal_c8 {k : Nat} (h : k < 10) : Lib.digitVal (c8 k) = some k := by
  have := c8_nat h
  simp only [Lib.digitVal]
  rw [if_pos (by omega)]
  congr 1
  omega
theorem decFrom_app : ∀ (a b : List UInt8) (acc m : Nat), Lib.decFrom acc a = some m → Lib.decFrom acc (a ++ b) = Lib.decFrom m b
  | [], b, acc, m, h => by simp only [Lib.decFrom, Option.some.injEq] at h; subst h; rfl
  | x :: a, b, acc, m, h => by
    simp only [List.cons_append, Lib.decFrom] at h ⊢
    cases hd : Lib.digitVal x with
    | none => rw [hd] at h; cases h
    | some d => rw [hd] at h; simp only at h ⊢; exact decFrom_app a b _ m h
theorem decFrom_lastD : ∀ (i n : Nat), n < 10 ^ i → Lib.decFrom 0 (lastD i n) = some n
  | 0, n, h => by have : n = 0 := by simp at h; omega
                  subst this; rfl
  | i + 1, n, h => by
    rw [Nat.pow_succ] at h
    rw [lastD, decFrom_app _ _ _ _ (decFrom_lastD i (n / 10) (by omega))]
    simp only [Lib.decFrom, digitVal_c8 (Nat.mod_lt n (show 0 < 10 by decide))]
    congr 1
    omega
theorem lastD_head {i n : Nat} : ∃ b r, lastD (i + 1) n = b :: r ∧ (b == 45) = false ∧ (b == 43) = false := by
  induction i generalizing n with
  | zero =>
    have := c8_nat (Nat.mod_lt n (show 0 < 10 by decide))
    refine ⟨c8 (n % 10), [], rfl, ?_, ?_⟩ <;> (rw [beq_eq_false_iff_ne]; intro e; rw [e] at this; simp at this; omega)
  | succ i ih =>
    obtain ⟨b, r, h1, h2⟩ := ih (n := n / 10)
    exact ⟨b, r ++ [c8 (n % 10)], by rw [lastD, h1]; rfl, h2⟩
theorem atoi_lastD {i n : Nat} (h : n < 10 ^ (i + 1)) : Lib.atoi (lastD (i + 1) n) = some (n : Int) := by
  obtain ⟨b, r, h1, h2, h3⟩ := lastD_head (i := i) (n := n)
  have h4 := decFrom_lastD (i + 1) n h
  rw [h1] at h4 ⊢
  show (if (b == 45) = true then (Lib.decNat r).map fun (m : Nat) => -(m : Int) else if (b == 43) = true then (Lib.decNat r).map fun (m : Nat) => (m : Int) else (Lib.decNat (b :: r)).map fun (m : Nat) => (m : Int)) = _
  rw [h2, h3, if_neg (by simp), if_neg (by simp)]
  unfold Lib.decNat
  rw [if_neg (by simp), h4]
  rfl
/-- The count of a head. -/
def cntL (place : Nat) (s : List UInt8) (room : Nat) : Int :=
  if s = zeroL then 0 else
  match Lib.atoi ((s.drop 16).take 8) with
  | some n => if 0 ≤ n ∧ n ≤ room ∧ headL place n.toNat = s then n else -1
  | none => -1
theorem headL_digits (place n : Nat) : ((headL place n).drop 16).take 8 = lastD 8 n := by
  unfold headL sealL
  rw [← sumL_len (lastD 8 place ++ padL 48 (lastD 8 n)), List.drop_left, padL_short (by rw [lastD_len]; decide)]
  have := lastD_len 8 n
  rw [List.take_append_of_le_length (by omega), List.take_of_length_le (by omega)]
theorem headL_ne (place n : Nat) : headL place n ≠ zeroL := fun h => by
  have h1 := headL_digits place n
  rw [h] at h1
  have h2 := congrArg (fun l => l[7]?) h1
  have h3 := c8_nat (Nat.mod_lt n (show 0 < 10 by decide))
  have e1 : ((zeroL.drop 16).take 8)[7]? = some (0 : UInt8) := by decide
  have e2 : (lastD 8 n)[7]? = some (c8 (n % 10)) := by
    rw [lastD, List.getElem?_append_right (by rw [lastD_len]; exact Nat.le_refl _), lastD_len]
    rfl
  simp only [e1, e2] at h2
  injection h2 with h2
  rw [← h2] at h3
  simp at h3
  omega
theorem cntL_head {place n room : Nat} (h : n ≤ room) (h8 : n < 100000000) : cntL place (headL place n) room = n := by
  unfold cntL
  rw [if_neg (headL_ne place n), headL_digits, atoi_lastD (i := 7) h8]
  simp only
  rw [if_pos ⟨by omega, by omega, by simp⟩]
theorem cntL_zero (place room : Nat) : cntL place zeroL room = 0 := by unfold cntL; rw [if_pos rfl]
theorem cntL_spec (place : Nat) (s : List UInt8) (room : Nat) : (cntL place s room = -1) ∨ (s = zeroL ∧ cntL place s room = 0) ∨ ∃ n : Nat, n ≤ room ∧ s = headL place n ∧ cntL place s room = n := by
  by_cases hz : s = zeroL
  · subst hz; exact .inr (.inl ⟨rfl, cntL_zero _ _⟩)
  · unfold cntL
    rw [if_neg hz]
    cases ha : Lib.atoi ((s.drop 16).take 8) with
    | none => exact .inl rfl
    | some n =>
      simp only
      split
      · rename_i h
        refine .inr (.inr ⟨n.toNat, by omega, h.2.2.symm, by omega⟩)
      · exact .inl rfl
end Go.Proofs.YtfjejfgdnjnflaaGreatDoor
