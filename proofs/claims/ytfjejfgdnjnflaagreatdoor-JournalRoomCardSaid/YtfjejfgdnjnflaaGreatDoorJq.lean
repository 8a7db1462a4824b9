/- Numerals and colons in the shelf's words; the records of a text, step by step. No program in sight. -/
import Derived.Test.YtfjejfgdnjnflaaGreatDoorJr
import Derived.Lib.AtoiAll
import Derived.Lib.IndexMore
namespace Go.Proofs.YtfjejfgdnjnflaaGreatDoor

theorem parseUint_snoc : ∀ (a : List UInt8) (acc m d : Nat), Lib.parseUint10 acc a = .ok m → m < 1844674407370955161 → d < 10 → Lib.parseUint10 acc (a ++ [c8 d]) = .ok (m * 10 + d)
  | [], acc, m, d, h, hm, hd => by
    simp only [Lib.parseUint10] at h
    injection h with h
    subst h
    have := c8_nat hd
    simp only [List.nil_append, Lib.parseUint10, this]
    rw [if_pos (by omega), if_neg (by omega), if_neg (by omega)]
    congr 1
    omega
  | x :: a, acc, m, d, h, hm, hd => by
    simp only [List.cons_append, Lib.parseUint10] at h ⊢
    by_cases h1 : 48 ≤ x.toNat ∧ x.toNat ≤ 57
    · rw [if_pos h1] at h ⊢
      by_cases h2 : 1844674407370955162 ≤ acc
      · rw [if_pos h2] at h; cases h
      · rw [if_neg h2] at h ⊢
        by_cases h3 : 18446744073709551616 ≤ acc * 10 + (x.toNat - 48)
        · rw [if_pos h3] at h; cases h
        · rw [if_neg h3] at h ⊢
          exact parseUint_snoc a _ m d h hm hd
    · rw [if_neg h1] at h; cases h
theorem parseUint_dec (n : Nat) : n < 1844674407370955161 → Lib.parseUint10 0 (Lib.decDigits n) = .ok n := by
  induction n using Nat.strongRecOn with
  | _ n ih =>
    intro hn
    by_cases h : n < 10
    · rw [dec_ten h]
      have := parseUint_snoc [] 0 0 n rfl (by omega) h
      simpa using this
    · rw [dec_more h, parseUint_snoc _ 0 (n / 10) (n % 10) (ih (n / 10) (by omega) (by omega)) (by omega) (Nat.mod_lt _ (by decide))]
      congr 1
      omega
theorem atoiAll_dec {n : Nat} (h : n < 1844674407370955161) : Lib.atoiAll (Lib.decDigits n) = .ok (n : Int) := by
  obtain ⟨b, r, hb⟩ : ∃ b r, Lib.decDigits n = b :: r := by
    cases hd : Lib.decDigits n with
    | nil => exact absurd hd (dec_ne n)
    | cons b r => exact ⟨b, r, rfl⟩
  have hdig := dec_digits n b (by rw [hb]; exact List.mem_cons_self)
  have hp := parseUint_dec n h
  rw [hb] at hp ⊢
  unfold Lib.atoiAll
  simp only
  rw [if_neg (by omega)]
  unfold Lib.parseMag
  rw [if_neg (by simp), hp]
  simp only
  rw [if_neg (by omega), if_neg (by omega), if_neg (by omega)]
theorem index_first {c : UInt8} {r : List UInt8} : ∀ {p : List UInt8}, c ∉ p → Lib.index (p ++ c :: r) [c] = p.length
  | [], _ => by simp [Lib.index]
  | b :: p, h => by
    have hb : c ≠ b := fun e => h (by simp [e])
    have ih := index_first (p := p) (r := r) (fun hm => h (List.mem_cons_of_mem _ hm))
    show Lib.index (b :: (p ++ c :: r)) [c] = _
    unfold Lib.index
    rw [if_neg (by simp [hb]), if_neg (by rw [ih]; simp), ih]
    simp
theorem index_miss {c : UInt8} : ∀ {p : List UInt8}, c ∉ p → Lib.index p [c] = -1
  | [], _ => by simp [Lib.index]
  | b :: p, h => by
    have hb : c ≠ b := fun e => h (by simp [e])
    have ih := index_miss (p := p) (fun hm => h (List.mem_cons_of_mem _ hm))
    unfold Lib.index
    rw [if_neg (by simp [hb]), if_pos (by rw [ih]; simp)]
theorem cut_hit {a r : List UInt8} (h : (58 : UInt8) ∉ a) : Lib.cut (a ++ 58 :: r) [58] = (a, r, true) := by
  unfold Lib.cut
  rw [index_first h, if_pos (by omega), Int.toNat_natCast, List.take_left]
  congr 1
  rw [show a.length + ([58] : List UInt8).length = (a ++ [58]).length by simp, show a ++ 58 :: r = (a ++ [58]) ++ r by simp, List.drop_left]
theorem cut_miss {t : List UInt8} (h : (58 : UInt8) ∉ t) : Lib.cut t [58] = (t, [], false) := by
  unfold Lib.cut
  rw [index_miss h, if_neg (by omega)]

theorem parseK_more : ∀ (k m : Nat) (t : List UInt8), t.length ≤ k → t.length ≤ m → parseK k t = parseK m t := by
  intro k
  induction k with
  | zero =>
    intro m t h _
    obtain rfl : t = [] := List.length_eq_zero_iff.1 (by omega)
    rw [parseK_nil, parseK_nil]
  | succ k ih =>
    intro m t h h2
    by_cases h0 : t = []
    · subst h0; rw [parseK_nil, parseK_nil]
    · have : 0 < t.length := List.length_pos_iff.2 h0
      obtain ⟨m, rfl⟩ : ∃ v, m = v + 1 := ⟨m - 1, by omega⟩
      rw [parseK_succ h0, parseK_succ h0]
      cases hc : cutC t with
      | none => rw [Option.bind_none, Option.bind_none]
      | some p =>
        obtain ⟨a, r⟩ := p
        rw [Option.bind_some, Option.bind_some]
        cases numOf a with
        | none => rw [Option.bind_none, Option.bind_none]
        | some n =>
          rw [Option.bind_some, Option.bind_some]
          have hl : r.length < t.length := by
            obtain ⟨e, _⟩ := cutC_some hc
            rw [e]; simp; omega
          rw [ih m ((a, r).2.drop n) (by show (r.drop n).length ≤ k; rw [List.length_drop]; omega) (by show (r.drop n).length ≤ m; rw [List.length_drop]; omega)]
theorem parseR_nil : parseR [] = some [] := rfl
theorem parseR_eq (t : List UInt8) : parseR t = parseK t.length t := rfl
theorem parseR_step {t a r : List UInt8} (h : cutC t = some (a, r)) : parseR t = (numOf a).bind fun n => if n ≤ r.length then (parseR (r.drop n)).map (fun rs => r.take n :: rs) else none := by
  have h0 : t ≠ [] := by rintro rfl; simp [cutC] at h
  have hl : r.length < t.length := by
    obtain ⟨e, _⟩ := cutC_some h
    rw [e]; simp; omega
  obtain ⟨k, hk⟩ : ∃ k, t.length = k + 1 := ⟨t.length - 1, by omega⟩
  rw [parseR_eq, hk, parseK_succ h0, h, Option.bind_some]
  cases numOf a with
  | none => rw [Option.bind_none, Option.bind_none]
  | some n =>
    rw [Option.bind_some, Option.bind_some]
    have e := parseK_more k (r.drop n).length (r.drop n) (by rw [List.length_drop]; omega) (Nat.le_refl _)
    rw [parseR_eq, ← e]
theorem parseR_none {t : List UInt8} (h0 : t ≠ []) (h : cutC t = none) : parseR t = none := by
  obtain ⟨k, hk⟩ : ∃ k, t.length = k + 1 := ⟨t.length - 1, by have : 0 < t.length := List.length_pos_iff.2 h0; omega⟩
  rw [parseR_eq, hk, parseK_succ h0, h, Option.bind_none]
end Go.Proofs.YtfjejfgdnjnflaaGreatDoor
