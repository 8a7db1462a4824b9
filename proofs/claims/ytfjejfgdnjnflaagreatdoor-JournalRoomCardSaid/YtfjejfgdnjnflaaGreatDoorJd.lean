/- The digest as plain data: what it is, and that a change within one block changes it. No program in sight. -/
import Derived.Test.YtfjejfgdnjnflaaGreatDoorBase
namespace Go.Proofs.YtfjejfgdnjnflaaGreatDoor

/-- A text of bytes. -/
def bs (l : List UInt8) : ByteArray := ⟨l.toArray⟩
theorem bs_list (l : List UInt8) : (bs l).data.toList = l := rfl
theorem bs_size (l : List UInt8) : (bs l).size = l.length := by show l.toArray.size = _; simp
theorem of_bs (s : ByteArray) : bs s.data.toList = s := rfl
theorem len_bytes (s : ByteArray) : s.data.toList.length = s.size := by rw [Array.length_toList]; rfl
theorem bs_inj {a b : List UInt8} (h : bs a = bs b) : a = b := by have := congrArg (fun s => s.data.toList) h; exact this

def two64 : Nat := 18446744073709551616
def mixN (x : Nat) : Nat :=
  let a := x * 6364136223846793005 % two64
  let b := a ^^^ (a >>> 31)
  let c := b * 3202034522624059733 % two64
  c ^^^ (c >>> 30)
theorem two64_pow : two64 = 2 ^ 64 := rfl
theorem xor_lt {a b : Nat} (ha : a < two64) (hb : b < two64) : a ^^^ b < two64 := by
  rw [two64_pow] at *
  exact Nat.xor_lt_two_pow ha hb
theorem shr_lt {a : Nat} (k : Nat) (ha : a < two64) : a >>> k < two64 := Nat.lt_of_le_of_lt (Nat.shiftRight_le a k) ha
theorem mixN_lt (x : Nat) : mixN x < two64 := by
  unfold mixN
  exact xor_lt (Nat.mod_lt _ (by decide)) (shr_lt _ (Nat.mod_lt _ (by decide)))
theorem shr_fix {k z : Nat} (hk : 0 < k) (h : z = z >>> k) : z = 0 := by
  rw [Nat.shiftRight_eq_div_pow] at h
  rcases Nat.eq_zero_or_pos z with h0 | h0
  · exact h0
  · have h2 : 2 ≤ 2 ^ k := by
      have := Nat.pow_le_pow_right (n := 2) (by decide) hk
      simpa using this
    have := Nat.div_lt_self h0 (show 1 < 2 ^ k by omega)
    omega
theorem xorshift_inj {k a b : Nat} (hk : 0 < k) (h : a ^^^ (a >>> k) = b ^^^ (b >>> k)) : a = b := by
  have h2 : (a ^^^ b) = (a ^^^ b) >>> k := by
    rw [Nat.shiftRight_xor_distrib]
    have e1 : a ^^^ b = (a ^^^ (a >>> k)) ^^^ ((a >>> k) ^^^ b) := by rw [← Nat.xor_assoc, Nat.xor_assoc a, Nat.xor_self, Nat.xor_zero]
    rw [e1, h, Nat.xor_comm (a >>> k) b, ← Nat.xor_assoc, Nat.xor_comm (b ^^^ b >>> k) b, ← Nat.xor_assoc, Nat.xor_self, Nat.zero_xor, Nat.xor_comm]
  have h3 := shr_fix hk h2
  have : a = (a ^^^ b) ^^^ b := by rw [Nat.xor_assoc, Nat.xor_self, Nat.xor_zero]
  rw [this, h3, Nat.zero_xor]
theorem mul_inj {a b c inv : Nat} (ha : a < two64) (hb : b < two64) (hc : c * inv % two64 = 1) (h : a * c % two64 = b * c % two64) : a = b := by
  have key : ∀ x, x < two64 → (x * c % two64) * inv % two64 = x := fun x hx => by
    rw [Nat.mod_mul_mod, Nat.mul_assoc, Nat.mul_mod, hc, Nat.mul_one, Nat.mod_mod, Nat.mod_eq_of_lt hx]
  rw [← key a ha, h, key b hb]
theorem mixN_inj {x y : Nat} (hx : x < two64) (hy : y < two64) (h : mixN x = mixN y) : x = y := by
  unfold mixN at h
  have h1 := xorshift_inj (by decide) h
  have h2 := mul_inj (inv := 10706317138985569277) (xor_lt (Nat.mod_lt _ (by decide)) (shr_lt _ (Nat.mod_lt _ (by decide)))) (xor_lt (Nat.mod_lt _ (by decide)) (shr_lt _ (Nat.mod_lt _ (by decide)))) (by decide) h1
  have h3 := xorshift_inj (by decide) h2
  exact mul_inj (inv := 13877824140714322085) hx hy (by decide) h3

/-- Eight bytes as a number; fewer are filled up with zero bytes. -/
def valF (n : Nat) (l : List UInt8) : Nat := l.foldl (fun (n : Nat) (b : UInt8) => n * 256 + b.toNat) n
def blockN (l : List UInt8) : Nat := valF 0 ((l ++ List.replicate 8 0).take 8)
theorem valF_cons (n : Nat) (b : UInt8) (l : List UInt8) : valF n (b :: l) = valF (n * 256 + b.toNat) l := rfl
theorem foldl_val : ∀ (l : List UInt8) (n : Nat), valF n l = n * 256 ^ l.length + valF 0 l
  | [], n => by simp [valF]
  | b :: l, n => by
    rw [valF_cons, foldl_val l (n * 256 + b.toNat), valF_cons, foldl_val l (0 * 256 + b.toNat), List.length_cons, Nat.pow_succ, Nat.add_mul, Nat.zero_mul, Nat.zero_add, Nat.mul_assoc, Nat.mul_comm 256, Nat.add_assoc]
theorem val_lt : ∀ (l : List UInt8), valF 0 l < 256 ^ l.length
  | [] => by simp [valF]
  | b :: l => by
    have ih := val_lt l
    rw [valF_cons, foldl_val, List.length_cons, Nat.pow_succ]
    have hb := b.toNat_lt
    have : (0 * 256 + b.toNat) * 256 ^ l.length ≤ 255 * 256 ^ l.length := Nat.mul_le_mul_right _ (by omega)
    omega
theorem digit_inj {X Y P a b : Nat} (ha : a < P) (hb : b < P) (h : X * P + a = Y * P + b) : X = Y ∧ a = b := by
  have key : ∀ {X Y a b : Nat}, a < P → b < P → X * P + a = Y * P + b → ¬ X < Y := by
    intro X Y a b ha hb h hlt
    have := Nat.mul_le_mul_right P (show X + 1 ≤ Y from hlt)
    rw [Nat.add_mul, Nat.one_mul] at this
    omega
  have h1 := key ha hb h
  have h2 := key hb ha h.symm
  have h3 : X = Y := by omega
  subst h3
  exact ⟨rfl, by omega⟩
theorem val_inj : ∀ {a b : List UInt8}, a.length = b.length → valF 0 a = valF 0 b → a = b
  | [], [], _, _ => rfl
  | [], _ :: _, h, _ => by simp at h
  | _ :: _, [], h, _ => by simp at h
  | x :: a, y :: b, hl, h => by
    have hl' : a.length = b.length := by simpa using hl
    rw [valF_cons, valF_cons, foldl_val a, foldl_val b, hl'] at h
    have h1 := val_lt a
    have h2 := val_lt b
    rw [hl'] at h1
    obtain ⟨e1, e2⟩ := digit_inj h1 h2 h
    have hxy := UInt8.toNat_inj.1 (show x.toNat = y.toNat by omega)
    subst hxy
    rw [val_inj hl' e2]
theorem blockN_lt (l : List UInt8) : blockN l < two64 := by
  have h := val_lt ((l ++ List.replicate 8 0).take 8)
  have e : ((l ++ List.replicate 8 (0 : UInt8)).take 8).length = 8 := by simp
  rw [e] at h
  exact h
theorem blockN_inj {a b : List UInt8} (hl : a.length = b.length) (h8 : a.length ≤ 8) (h : blockN a = blockN b) : a = b := by
  unfold blockN at h
  have hl8 : ((a ++ List.replicate 8 (0 : UInt8)).take 8).length = ((b ++ List.replicate 8 (0 : UInt8)).take 8).length := by simp
  have h1 := val_inj hl8 h
  have h2 := congrArg (List.take a.length) h1
  rwa [List.take_take, List.take_take, Nat.min_eq_left h8, List.take_left, hl, List.take_left] at h2

/-- The state behind k full blocks and the rest. -/
def sumN : Nat → Nat → List UInt8 → Nat
  | 0, st, l => mixN (st ^^^ blockN l)
  | k + 1, st, l => sumN k (mixN (st ^^^ blockN (l.take 8))) (l.drop 8)
def startN (n : Nat) : Nat := 1442695040888963407 ^^^ n
def hexc (n : Nat) : UInt8 := if n < 10 then UInt8.ofNat (48 + n) else UInt8.ofNat (97 + (n - 10))
def hexL (st : Nat) : List UInt8 := (List.range 16).map fun i => hexc (st >>> (60 - 4 * i) % 16)
/-- The digest of a text. -/
def sumL (l : List UInt8) : List UInt8 := hexL (sumN (l.length / 8) (startN l.length) l)
theorem sumL_len (l : List UInt8) : (sumL l).length = 16 := by simp [sumL, hexL]
theorem sumN_lt : ∀ (k st : Nat) (l : List UInt8), sumN k st l < two64
  | 0, _, _ => mixN_lt _
  | k + 1, _, _ => sumN_lt k _ _
theorem xor_cancel {a b c : Nat} (h : a ^^^ c = b ^^^ c) : a = b := by
  have : (a ^^^ c) ^^^ c = (b ^^^ c) ^^^ c := by rw [h]
  rwa [Nat.xor_assoc, Nat.xor_assoc, Nat.xor_self, Nat.xor_zero, Nat.xor_zero] at this
theorem xor_cancel' {a b c : Nat} (h : c ^^^ a = c ^^^ b) : a = b := by
  rw [Nat.xor_comm c a, Nat.xor_comm c b] at h; exact xor_cancel h
theorem sumN_state {l : List UInt8} : ∀ {k a b : Nat}, a < two64 → b < two64 → sumN k a l = sumN k b l → a = b := by
  intro k
  induction k generalizing l with
  | zero => intro a b ha hb h; exact xor_cancel (mixN_inj (xor_lt ha (blockN_lt _)) (xor_lt hb (blockN_lt _)) h)
  | succ k ih =>
    intro a b ha hb h
    exact xor_cancel (mixN_inj (xor_lt ha (blockN_lt _)) (xor_lt hb (blockN_lt _)) (ih (mixN_lt _) (mixN_lt _) h))
/-- Two texts that part within one full block have different states. -/
theorem sumN_block : ∀ {j : Nat} {k st : Nat} {p x y s : List UInt8}, st < two64 → p.length = 8 * j → j < k → x.length = 8 → y.length = 8 → sumN k st (p ++ (x ++ s)) = sumN k st (p ++ (y ++ s)) → x = y
  | 0, k + 1, st, p, x, y, s, hst, hp, _, hx, hy, h => by
    obtain rfl : p = [] := List.length_eq_zero_iff.1 (by omega)
    simp only [List.nil_append, sumN] at h
    rw [List.take_append_of_le_length (by omega), List.take_append_of_le_length (by omega), List.take_of_length_le (by omega), List.take_of_length_le (by omega),
      List.drop_append_of_le_length (by omega), List.drop_append_of_le_length (by omega), List.drop_of_length_le (by omega), List.drop_of_length_le (by omega)] at h
    have h1 := mixN_inj (xor_lt hst (blockN_lt _)) (xor_lt hst (blockN_lt _)) (sumN_state (mixN_lt _) (mixN_lt _) h)
    exact blockN_inj (by omega) (by omega) (xor_cancel' h1)
  | j + 1, k + 1, st, p, x, y, s, hst, hp, hk, hx, hy, h => by
    simp only [sumN] at h
    rw [List.take_append_of_le_length (by omega), List.take_append_of_le_length (by omega), List.drop_append_of_le_length (by omega), List.drop_append_of_le_length (by omega)] at h
    exact sumN_block (j := j) (mixN_lt _) (by rw [List.length_drop, hp]; omega) (by omega) hx hy h
theorem hexc_inj {a b : Nat} (ha : a < 16) (hb : b < 16) (h : hexc a = hexc b) : a = b := by
  have key : ∀ n, n < 16 → (hexc n).toNat = if n < 10 then 48 + n else 87 + n := fun n hn => by
    unfold hexc
    split
    · rw [UInt8.toNat_ofNat']; omega
    · rw [UInt8.toNat_ofNat']; omega
  have h1 := key a ha
  have h2 := key b hb
  rw [h, h2] at h1
  split at h1 <;> split at h1 <;> omega
theorem hexes_inj : ∀ {k a b : Nat}, a < 16 ^ k → b < 16 ^ k → (∀ i, i < k → a / 16 ^ i % 16 = b / 16 ^ i % 16) → a = b
  | 0, a, b, ha, hb, _ => by simp at ha hb; omega
  | k + 1, a, b, ha, hb, h => by
    have h0 := h 0 (by omega)
    simp at h0
    have hd : a / 16 = b / 16 := by
      rw [Nat.pow_succ] at ha hb
      refine hexes_inj (k := k) (by omega) (by omega) (fun i hi => ?_)
      have := h (i + 1) (by omega)
      rwa [Nat.pow_succ, Nat.mul_comm, ← Nat.div_div_eq_div_mul, ← Nat.div_div_eq_div_mul] at this
    omega
theorem hexL_inj {a b : Nat} (ha : a < two64) (hb : b < two64) (h : hexL a = hexL b) : a = b := by
  refine hexes_inj (k := 16) ha hb (fun j hj => ?_)
  have e : 60 - 4 * (15 - j) = 4 * j := by omega
  have e2 : 16 ^ j = 2 ^ (4 * j) := by rw [Nat.pow_mul]
  have := congrArg (fun l => l[15 - j]?) h
  simp only [hexL, List.getElem?_map, List.getElem?_range (show 15 - j < 16 by omega), Option.map_some] at this
  injection this with this
  have h2 := hexc_inj (Nat.mod_lt _ (by decide)) (Nat.mod_lt _ (by decide)) this
  rw [e, Nat.shiftRight_eq_div_pow, Nat.shiftRight_eq_div_pow, ← e2] at h2
  exact h2
/-- Two texts of one length that part within one full block have different digests. -/
theorem sumL_block {j : Nat} {p x y s : List UInt8} (hp : p.length = 8 * j) (hx : x.length = 8) (hy : y.length = 8) (hl : (p ++ (x ++ s)).length < two64) (h : sumL (p ++ (x ++ s)) = sumL (p ++ (y ++ s))) : x = y := by
  unfold sumL at h
  have e : (p ++ (y ++ s)).length = (p ++ (x ++ s)).length := by simp [hx, hy]
  rw [e] at h
  have h2 := hexL_inj (sumN_lt _ _ _) (sumN_lt _ _ _) h
  refine sumN_block (j := j) (k := (p ++ (x ++ s)).length / 8) (st := startN (p ++ (x ++ s)).length) ?_ hp ?_ hx hy h2
  · unfold startN
    exact xor_lt (by decide) hl
  · simp only [List.length_append, hp, hx]
    omega
end Go.Proofs.YtfjejfgdnjnflaaGreatDoor
