/- The pieces of a text and the records of a text, as plain data. No program in sight. -/
import Derived.Test.YtfjejfgdnjnflaaGreatDoorJp
namespace Go.Proofs.YtfjejfgdnjnflaaGreatDoor

/-! Pieces. -/
theorem piecesK_flat : ∀ (k : Nat) (t : List UInt8), t.length ≤ k → (piecesK k t).flatten = t
  | 0, t, h => by
    obtain rfl : t = [] := List.length_eq_zero_iff.1 (by omega)
    rfl
  | k + 1, t, h => by
    unfold piecesK
    split
    · rename_i h0; subst h0; rfl
    · rename_i h0
      rw [List.flatten_cons, piecesK_flat k (t.drop 46) (by have : 0 < t.length := List.length_pos_iff.2 h0; simp; omega), List.take_append_drop]
theorem piecesK_small : ∀ (k : Nat) (t : List UInt8), ∀ p ∈ piecesK k t, 1 ≤ p.length ∧ p.length ≤ 46
  | 0, _, p, hp => by simp [piecesK] at hp
  | k + 1, t, p, hp => by
    unfold piecesK at hp
    split at hp
    · simp at hp
    · rename_i h0
      rcases List.mem_cons.1 hp with rfl | hp
      · have : 0 < t.length := List.length_pos_iff.2 h0
        simp; omega
      · exact piecesK_small k _ p hp
theorem piecesK_more : ∀ (k m : Nat) (t : List UInt8), t.length ≤ k → t.length ≤ m → piecesK k t = piecesK m t
  | 0, m, t, h, _ => by
    obtain rfl : t = [] := List.length_eq_zero_iff.1 (by omega)
    cases m <;> simp [piecesK]
  | k + 1, 0, t, _, h => by
    obtain rfl : t = [] := List.length_eq_zero_iff.1 (by omega)
    simp [piecesK]
  | k + 1, m + 1, t, h, h2 => by
    unfold piecesK
    split
    · rfl
    · rename_i h0
      have : 0 < t.length := List.length_pos_iff.2 h0
      rw [piecesK_more k m (t.drop 46) (by simp; omega) (by simp; omega)]
theorem pieces_flat (t : List UInt8) : (piecesL t).flatten = t := piecesK_flat _ _ (Nat.le_refl _)
theorem pieces_small (t : List UInt8) : ∀ p ∈ piecesL t, 1 ≤ p.length ∧ p.length ≤ 46 := piecesK_small _ _
theorem pieces_nil : piecesL [] = [] := rfl
theorem pieces_cons {t : List UInt8} (h : t ≠ []) : piecesL t = t.take 46 :: piecesL (t.drop 46) := by
  have : 0 < t.length := List.length_pos_iff.2 h
  obtain ⟨k, hk⟩ : ∃ k, t.length = k + 1 := ⟨t.length - 1, by omega⟩
  unfold piecesL
  rw [hk]
  show (if t = [] then [] else t.take 46 :: piecesK k (t.drop 46)) = _
  rw [if_neg h, piecesK_more k (t.drop 46).length _ (by simp; omega) (Nat.le_refl _)]
/-- The piece of a sector. -/
def pieceOf (place : Nat) (s : List UInt8) : Option (List UInt8) :=
  match Lib.atoi ((s.drop 16).take 2) with
  | some n => if 1 ≤ n ∧ n ≤ 46 ∧ secL place ((s.drop 18).take n.toNat) = s then some ((s.drop 18).take n.toNat) else none
  | none => none
theorem secL_parts {place : Nat} {p : List UInt8} (h : p.length ≤ 46) : ((secL place p).drop 16).take 2 = lastD 2 p.length ∧ ((secL place p).drop 18).take p.length = p := by
  have l2 := lastD_len 2 p.length
  have e : padL 48 (lastD 2 p.length ++ p) = lastD 2 p.length ++ (p ++ List.replicate (48 - (2 + p.length)) 0) := by
    rw [padL_short (by rw [List.length_append, l2]; omega), List.append_assoc, List.length_append, l2]
  unfold secL sealL
  rw [e]
  have l16 := sumL_len (lastD 8 place ++ (lastD 2 p.length ++ (p ++ List.replicate (48 - (2 + p.length)) 0)))
  constructor
  · rw [List.drop_append_of_le_length (by omega), List.drop_of_length_le (by omega), List.nil_append, List.take_append_of_le_length (by omega), List.take_of_length_le (by omega)]
  · rw [← List.append_assoc (sumL _), List.drop_append_of_le_length (by rw [List.length_append]; omega), List.drop_of_length_le (by rw [List.length_append]; omega), List.nil_append, List.take_left]
theorem pieceOf_sec {place : Nat} {p : List UInt8} (h1 : 1 ≤ p.length) (h : p.length ≤ 46) : pieceOf place (secL place p) = some p := by
  obtain ⟨e1, e2⟩ := secL_parts (place := place) h
  unfold pieceOf
  rw [e1, atoi_lastD (i := 1) (by omega)]
  simp only [Int.toNat_natCast]
  rw [e2, if_pos ⟨by omega, by omega, rfl⟩]
theorem pieceOf_some {place : Nat} {s p : List UInt8} (h : pieceOf place s = some p) : 1 ≤ p.length ∧ p.length ≤ 46 ∧ s = secL place p := by
  unfold pieceOf at h
  cases ha : Lib.atoi ((s.drop 16).take 2) with
  | none => rw [ha] at h; cases h
  | some n =>
    rw [ha] at h
    simp only at h
    split at h
    · rename_i hc
      injection h with h
      rw [h] at hc
      have hl : s.length = 64 := by rw [← hc.2.2]; exact secL_len _ _
      have : p.length = n.toNat := by rw [← h]; simp; omega
      exact ⟨by omega, by omega, hc.2.2.symm⟩
    · cases h

/-! Records. -/
/-- The longest record. -/
def mxB : Nat := 20000
open Classical in
/-- The number, up to 20000, that a numeral spells as Itoa would. -/
noncomputable def numOf (l : List UInt8) : Option Nat := if h : ∃ n : Nat, n ≤ mxB ∧ Lib.itoa (n : Int) = l then some (Classical.choose h) else none
theorem dec_value : ∀ (n : Nat) (acc : Nat), Lib.decFrom acc (Lib.decDigits n) = some (acc * 10 ^ (Lib.decDigits n).length + n) := by
  intro n
  induction n using Nat.strongRecOn with
  | _ n ih =>
    intro acc
    by_cases h : n < 10
    · rw [dec_ten h]
      simp [Lib.decFrom, digitVal_c8 h]
    · rw [dec_more h, decFrom_app _ _ _ _ (ih (n / 10) (by omega) acc)]
      simp only [Lib.decFrom, digitVal_c8 (Nat.mod_lt n (show 0 < 10 by decide)), List.length_append, List.length_singleton, Nat.pow_succ]
      congr 1
      rw [Nat.add_mul, Nat.mul_assoc]
      omega
theorem itoa_inj {a b : Nat} (h : Lib.itoa (a : Int) = Lib.itoa (b : Int)) : a = b := by
  rw [itoa_nat, itoa_nat] at h
  have h1 := dec_value a 0
  have h2 := dec_value b 0
  rw [h, h2] at h1
  simp at h1
  exact h1.symm
theorem numOf_itoa {n : Nat} (h : n ≤ mxB) : numOf (Lib.itoa (n : Int)) = some n := by
  have hex : ∃ m : Nat, m ≤ mxB ∧ Lib.itoa (m : Int) = Lib.itoa (n : Int) := ⟨n, h, rfl⟩
  unfold numOf
  rw [dif_pos hex]
  congr 1
  exact itoa_inj (Classical.choose_spec hex).2
theorem numOf_some {l : List UInt8} {n : Nat} (h : numOf l = some n) : n ≤ mxB ∧ Lib.itoa (n : Int) = l := by
  unfold numOf at h
  split at h
  · rename_i hex
    injection h with h
    rw [← h]
    exact Classical.choose_spec hex
  · cases h
theorem numOf_none {l : List UInt8} (h : numOf l = none) {n : Nat} (hn : n ≤ mxB) : Lib.itoa (n : Int) ≠ l := fun e => by
  rw [← e, numOf_itoa hn] at h; cases h
theorem dec_digits : ∀ (n : Nat), ∀ b ∈ Lib.decDigits n, 48 ≤ b.toNat ∧ b.toNat ≤ 57 := by
  intro n
  induction n using Nat.strongRecOn with
  | _ n ih =>
    intro b hb
    by_cases h : n < 10
    · rw [dec_ten h] at hb
      simp only [List.mem_singleton] at hb
      subst hb
      rw [c8_nat h]; omega
    · rw [dec_more h] at hb
      rcases List.mem_append.1 hb with hb | hb
      · exact ih (n / 10) (by omega) b hb
      · simp only [List.mem_singleton] at hb
        subst hb
        rw [c8_nat (Nat.mod_lt n (by decide))]; omega
theorem dec_ne (n : Nat) : Lib.decDigits n ≠ [] := by
  by_cases h : n < 10
  · rw [dec_ten h]; simp
  · rw [dec_more h]; simp
/-- A text before its first colon and behind it. -/
def cutC : List UInt8 → Option (List UInt8 × List UInt8)
  | [] => none
  | b :: r => if b = 58 then some ([], r) else (cutC r).map fun p => (b :: p.1, p.2)
theorem cutC_app : ∀ {a r : List UInt8}, (58 : UInt8) ∉ a → cutC (a ++ 58 :: r) = some (a, r)
  | [], r, _ => by simp [cutC]
  | b :: a, r, h => by
    have hb : b ≠ 58 := fun e => h (by simp [e])
    rw [List.cons_append, cutC, if_neg hb, cutC_app (fun hm => h (List.mem_cons_of_mem _ hm))]
    rfl
theorem cutC_some : ∀ {t a r : List UInt8}, cutC t = some (a, r) → t = a ++ 58 :: r ∧ (58 : UInt8) ∉ a
  | [], a, r, h => by simp [cutC] at h
  | b :: t, a, r, h => by
    unfold cutC at h
    split at h
    · rename_i hb
      injection h with h
      injection h with h1 h2
      subst h1 h2 hb
      exact ⟨rfl, by simp⟩
    · rename_i hb
      cases hc : cutC t with
      | none => rw [hc] at h; cases h
      | some p =>
        obtain ⟨a', r'⟩ := p
        rw [hc] at h
        injection h with h
        injection h with h1 h2
        obtain ⟨e1, e2⟩ := cutC_some hc
        subst h1 h2
        refine ⟨by rw [e1]; rfl, ?_⟩
        intro hm
        rcases List.mem_cons.1 hm with e | hm
        · exact hb e.symm
        · exact e2 hm
theorem cutC_none : ∀ {t : List UInt8}, cutC t = none → (58 : UInt8) ∉ t
  | [], _ => by simp
  | b :: t, h => by
    unfold cutC at h
    split at h
    · cases h
    · rename_i hb
      have : cutC t = none := by
        cases hc : cutC t with
        | none => rfl
        | some p => rw [hc] at h; cases h
      intro hm
      rcases List.mem_cons.1 hm with e | hm
      · exact hb e.symm
      · exact cutC_none this hm
/-- The records of a text. -/
noncomputable def parseK : Nat → List UInt8 → Option (List (List UInt8))
  | 0, t => if t = [] then some [] else none
  | k + 1, t => if t = [] then some [] else (cutC t).bind fun p => (numOf p.1).bind fun n => if n ≤ p.2.length then (parseK k (p.2.drop n)).map (fun rs => p.2.take n :: rs) else none
noncomputable def parseR (t : List UInt8) : Option (List (List UInt8)) := parseK t.length t
theorem parseK_nil : ∀ k, parseK k [] = some []
  | 0 => rfl
  | _ + 1 => rfl
theorem parseK_succ {k : Nat} {t : List UInt8} (h : t ≠ []) : parseK (k + 1) t = (cutC t).bind fun p => (numOf p.1).bind fun n => if n ≤ p.2.length then (parseK k (p.2.drop n)).map (fun rs => p.2.take n :: rs) else none := if_neg h
theorem parseK_step {k : Nat} {a r : List UInt8} {n : Nat} (ha : (58 : UInt8) ∉ a) (hn : numOf a = some n) : parseK (k + 1) (a ++ 58 :: r) = if n ≤ r.length then (parseK k (r.drop n)).map (fun rs => r.take n :: rs) else none := by
  rw [parseK_succ (by simp), cutC_app ha, Option.bind_some, hn, Option.bind_some]
theorem itoa_colon (n : Nat) : (58 : UInt8) ∉ Lib.itoa (n : Int) := fun h => by
  rw [itoa_nat] at h
  have := dec_digits n 58 h
  simp at this
theorem parseK_text : ∀ (rs : List (List UInt8)) (k : Nat), (∀ r ∈ rs, r.length ≤ mxB) → (textR rs).length ≤ k → parseK k (textR rs) = some rs
  | [], k, _, _ => parseK_nil k
  | r :: rs, k, h, hk => by
    have e : textR (r :: rs) = Lib.itoa (r.length : Int) ++ 58 :: (r ++ textR rs) := by simp [textR, recL]
    rw [e] at hk ⊢
    have hk' : 1 + (textR rs).length ≤ k := by simp at hk; omega
    obtain ⟨m, rfl⟩ : ∃ m, k = m + 1 := ⟨k - 1, by omega⟩
    rw [parseK_step (itoa_colon _) (numOf_itoa (h r List.mem_cons_self)), if_pos (by simp), List.drop_left, List.take_left, parseK_text rs m (fun x hx => h x (List.mem_cons_of_mem _ hx)) (by omega)]
    rfl
theorem parse_text {rs : List (List UInt8)} (h : ∀ r ∈ rs, r.length ≤ mxB) : parseR (textR rs) = some rs := parseK_text rs _ h (Nat.le_refl _)
theorem parseK_some : ∀ (k : Nat) (t : List UInt8) (rs : List (List UInt8)), parseK k t = some rs → t = textR rs ∧ ∀ r ∈ rs, r.length ≤ mxB := by
  intro k
  induction k with
  | zero =>
    intro t rs h
    by_cases h0 : t = []
    · subst h0
      rw [parseK_nil] at h
      injection h with h
      subst h
      exact ⟨rfl, by simp⟩
    · have : parseK 0 t = none := if_neg h0
      rw [this] at h; cases h
  | succ k ih =>
    intro t rs h
    by_cases h0 : t = []
    · subst h0
      rw [parseK_nil] at h
      injection h with h
      subst h
      exact ⟨rfl, by simp⟩
    rw [parseK_succ h0] at h
    cases hc : cutC t with
    | none => rw [hc] at h; cases h
    | some p =>
      obtain ⟨a, r⟩ := p
      rw [hc, Option.bind_some] at h
      cases hn : numOf a with
      | none => rw [hn] at h; cases h
      | some n =>
        rw [hn, Option.bind_some] at h
        by_cases hle : n ≤ r.length
        · rw [if_pos hle] at h
          cases hp : parseK k (r.drop n) with
          | none => rw [hp] at h; cases h
          | some rs' =>
            rw [hp] at h
            injection h with h
            subst h
            obtain ⟨e1, e2⟩ := ih _ _ hp
            obtain ⟨e3, e4⟩ := cutC_some hc
            obtain ⟨e5, e6⟩ := numOf_some hn
            have hl : (r.take n).length = n := by rw [List.length_take]; omega
            refine ⟨?_, ?_⟩
            · have e7 : textR (r.take n :: rs') = Lib.itoa ((r.take n).length : Int) ++ 58 :: (r.take n ++ textR rs') := by simp [textR, recL]
              rw [e7, hl, ← e1, e6, List.take_append_drop]
              exact e3
            · intro x hx
              rcases List.mem_cons.1 hx with rfl | hx
              · show (r.take n).length ≤ mxB
                omega
              · exact e2 x hx
        · rw [if_neg hle] at h; cases h
theorem parse_some {t : List UInt8} {rs : List (List UInt8)} (h : parseR t = some rs) : t = textR rs ∧ ∀ r ∈ rs, r.length ≤ mxB := parseK_some _ _ _ h
theorem textR_app (a b : List (List UInt8)) : textR (a ++ b) = textR a ++ textR b := by simp [textR]
end Go.Proofs.YtfjejfgdnjnflaaGreatDoor
