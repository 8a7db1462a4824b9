/- A text cut at its dashes: when it is a text of a day. No program in sight. -/
import Derived.Test.YtfblngdmeliabaaDoorPp
import Derived.Lib.SplitLaws
import Derived.Lib.Atoi
import Derived.Laws.RangeAny
import Derived.Shelf.GgClosure.StringsIndexFunc
namespace Go.Proofs.YtfblngdmeliabaaDoor
open Go.RowKit

theorem index_hit {c : UInt8} {r : List UInt8} : ∀ {p : List UInt8}, c ∉ p → Lib.index (p ++ c :: r) [c] = p.length
  | [], _ => by simp [Lib.index]
  | b :: p, h => by
    have hb : c ≠ b := fun e => h (by simp [e])
    have ih := index_hit (p := p) (r := r) (fun hm => h (List.mem_cons_of_mem _ hm))
    show Lib.index (b :: (p ++ c :: r)) [c] = _
    unfold Lib.index
    rw [if_neg (by simp [hb]), if_neg (by rw [ih]; simp), ih]
    simp
theorem splitK_hit {c : UInt8} {p r : List UInt8} (h : c ∉ p) (k : Nat) : Lib.splitK [c] 0 (k + 1) (p ++ c :: r) = p :: Lib.splitK [c] 0 k r := by
  have e : ¬ (Lib.index (p ++ c :: r) [c] == -1) = true := by rw [index_hit h]; simp
  show (if (Lib.index (p ++ c :: r) [c] == -1) = true then [p ++ c :: r] else (p ++ c :: r).take ((Lib.index (p ++ c :: r) [c]).toNat + 0) :: Lib.splitK [c] 0 k ((p ++ c :: r).drop ((Lib.index (p ++ c :: r) [c]).toNat + [c].length))) = _
  rw [if_neg e, index_hit h]
  simp
theorem split3 {l : List UInt8} (h : Lib.count l [45] = 2) : ∃ p0 p1 p2 : List UInt8, (45 : UInt8) ∉ p0 ∧ (45 : UInt8) ∉ p1 ∧ (45 : UInt8) ∉ p2 ∧ l = p0 ++ 45 :: (p1 ++ 45 :: p2) ∧ Lib.splitK [45] 0 2 l = [p0, p1, p2] := by
  rw [Lib.count_one] at h
  obtain ⟨p0, r0, rfl, n0⟩ := List.eq_append_cons_of_mem (List.count_pos_iff.1 (show 0 < l.count 45 by omega))
  have h1 : r0.count 45 = 1 := by
    have := List.count_eq_zero_of_not_mem n0
    simp only [List.count_append, List.count_cons_self] at h
    omega
  obtain ⟨p1, p2, rfl, n1⟩ := List.eq_append_cons_of_mem (List.count_pos_iff.1 (show 0 < r0.count 45 by omega))
  have h2 : p2.count 45 = 0 := by
    have := List.count_eq_zero_of_not_mem n1
    simp only [List.count_append, List.count_cons_self] at h1
    omega
  refine ⟨p0, p1, p2, n0, n1, List.count_eq_zero.1 h2, rfl, ?_⟩
  rw [splitK_hit n0, splitK_hit n1]
  rfl
theorem cut_uniq {c : UInt8} : ∀ {p q r s : List UInt8}, c ∉ p → c ∉ q → p ++ c :: r = q ++ c :: s → p = q ∧ r = s
  | [], [], _, _, _, _, h => by simp at h; exact ⟨rfl, h⟩
  | [], b :: q, _, _, _, hq, h => by simp at h; exact absurd h.1 (fun e => hq (by simp [e]))
  | a :: p, [], _, _, hp, _, h => by simp at h; exact absurd h.1.symm (fun e => hp (by simp [e]))
  | a :: p, b :: q, _, _, hp, hq, h => by
    simp only [List.cons_append, List.cons.injEq] at h
    obtain ⟨h1, h2⟩ := cut_uniq (fun hm => hp (List.mem_cons_of_mem _ hm)) (fun hm => hq (List.mem_cons_of_mem _ hm)) h.2
    exact ⟨by rw [h.1, h1], h2⟩
def allD (l : List UInt8) : Bool := l.all dgt
theorem dgt_no : dgt 45 = false := by decide
theorem allD_no {l : List UInt8} (h : allD l = true) : (45 : UInt8) ∉ l := fun hm => by
  have := List.all_eq_true.1 h 45 hm
  rw [dgt_no] at this
  cases this
theorem text_cut (Y M D : Nat) (hY : Y < 10000) (hM : M < 100) (hD : D < 100) : ∃ q0 q1 q2 : List UInt8, textL Y M D = q0 ++ 45 :: (q1 ++ 45 :: q2) ∧ allD q0 = true ∧ allD q1 = true ∧ allD q2 = true ∧ q0.length = 4 ∧ q1.length = 2 := by
  refine ⟨[c8 (Y / 1000), c8 (Y / 100 % 10), c8 (Y / 10 % 10), c8 (Y % 10)], [c8 (M / 10), c8 (M % 10)], [c8 (D / 10), c8 (D % 10)], rfl, ?_, ?_, ?_, rfl, rfl⟩
  · simp only [allD, List.all_cons, List.all_nil, Bool.and_true]
    rw [dgt_c8 (by omega), dgt_c8 (by omega), dgt_c8 (by omega), dgt_c8 (by omega)]; rfl
  · simp only [allD, List.all_cons, List.all_nil, Bool.and_true]
    rw [dgt_c8 (by omega), dgt_c8 (by omega)]; rfl
  · simp only [allD, List.all_cons, List.all_nil, Bool.and_true]
    rw [dgt_c8 (by omega), dgt_c8 (by omega)]; rfl
/-- A text of a day has two dashes. -/
theorem good_count {l : List UInt8} (h : l.length = 10 ∧ goodK l 10) : Lib.count l [45] = 2 := by
  obtain ⟨Y, M, D, hY, hM, hD, rfl⟩ := ten_of h.1 h.2
  obtain ⟨q0, q1, q2, e, a0, a1, a2, _, _⟩ := text_cut Y M D hY hM hD
  rw [Lib.count_one, e]
  simp only [List.count_append, List.count_cons_self, List.count_eq_zero_of_not_mem (allD_no a0), List.count_eq_zero_of_not_mem (allD_no a1), List.count_eq_zero_of_not_mem (allD_no a2)]
theorem good3 {p0 p1 p2 : List UInt8} (h0 : (45 : UInt8) ∉ p0) (h1 : (45 : UInt8) ∉ p1) : ((p0 ++ 45 :: (p1 ++ 45 :: p2)).length = 10 ∧ goodK (p0 ++ 45 :: (p1 ++ 45 :: p2)) 10) ↔
    ((p0 ++ 45 :: (p1 ++ 45 :: p2)).length = 10 ∧ p0.length = 4 ∧ p1.length = 2 ∧ allD p0 = true ∧ allD p1 = true ∧ allD p2 = true) := by
  constructor
  · rintro ⟨hl, hg⟩
    obtain ⟨Y, M, D, hY, hM, hD, he⟩ := ten_of hl hg
    obtain ⟨q0, q1, q2, e, a0, a1, a2, l0, l1⟩ := text_cut Y M D hY hM hD
    rw [e] at he
    have k := cut_uniq h0 (allD_no a0) he
    have k2 := cut_uniq h1 (allD_no a1) k.2
    rw [k.1, k2.1, k2.2]
    rw [k.1, k2.1, k2.2] at hl
    exact ⟨hl, l0, l1, a0, a1, a2⟩
  · rintro ⟨hl, l0, l1, a0, a1, a2⟩
    refine ⟨hl, ?_⟩
    have l2 : p2.length = 2 := by simp at hl; omega
    match p0, p1, p2, l0, l1, l2 with
    | [x0, x1, x2, x3], [y0, y1], [z0, z1], _, _, _ =>
      simp only [allD, List.all_cons, List.all_nil, Bool.and_true, Bool.and_eq_true] at a0 a1 a2
      intro i b hi hb
      have hb' : ([x0, x1, x2, x3, 45, y0, y1, 45, z0, z1] : List UInt8)[i]? = some b := hb
      unfold okB
      match i, hi, hb' with
      | 0, _, hb => injection hb with hb; subst hb; exact a0.1
      | 1, _, hb => injection hb with hb; subst hb; exact a0.2.1
      | 2, _, hb => injection hb with hb; subst hb; exact a0.2.2.1
      | 3, _, hb => injection hb with hb; subst hb; exact a0.2.2.2
      | 4, _, hb => injection hb with hb; subst hb; rfl
      | 5, _, hb => injection hb with hb; subst hb; exact a1.1
      | 6, _, hb => injection hb with hb; subst hb; exact a1.2
      | 7, _, hb => injection hb with hb; subst hb; rfl
      | 8, _, hb => injection hb with hb; subst hb; exact a2.1
      | 9, _, hb => injection hb with hb; subst hb; exact a2.2

/-! Numerals. -/
theorem digitVal_c8 {k : Nat} (h : k < 10) : Lib.digitVal (c8 k) = some k := by
  have := c8_nat h
  simp only [Lib.digitVal]
  rw [if_pos (by omega)]
  congr 1
  omega
theorem c8_ne {k : Nat} (h : k < 10) : (c8 k == 45) = false ∧ (c8 k == 43) = false := by
  have := c8_nat h
  constructor <;> (rw [beq_eq_false_iff_ne]; intro e; rw [e] at this; simp at this; omega)
theorem atoi_digit {b : UInt8} {r : List UInt8} (h1 : (b == 45) = false) (h2 : (b == 43) = false) : Lib.atoi (b :: r) = (Lib.decNat (b :: r)).map fun (m : Nat) => (m : Int) := by
  show (if (b == 45) = true then (Lib.decNat r).map fun (m : Nat) => -(m : Int) else if (b == 43) = true then (Lib.decNat r).map fun (m : Nat) => (m : Int) else (Lib.decNat (b :: r)).map fun (m : Nat) => (m : Int)) = _
  rw [h1, h2, if_neg (by simp), if_neg (by simp)]
theorem atoi4 {p : List UInt8} (h : allD p = true) (hl : p.length = 4) : Lib.atoi p = some (1000 * vl (p.getD 0 0) + 100 * vl (p.getD 1 0) + 10 * vl (p.getD 2 0) + vl (p.getD 3 0)) := by
  match p, hl with
  | [x0, x1, x2, x3], _ =>
    simp only [allD, List.all_cons, List.all_nil, Bool.and_true, Bool.and_eq_true] at h
    obtain ⟨k0, q0, rfl⟩ := c8_of h.1
    obtain ⟨k1, q1, rfl⟩ := c8_of h.2.1
    obtain ⟨k2, q2, rfl⟩ := c8_of h.2.2.1
    obtain ⟨k3, q3, rfl⟩ := c8_of h.2.2.2
    have e0 : vl (([c8 k0, c8 k1, c8 k2, c8 k3] : List UInt8).getD 0 0) = k0 := vl_c8 q0
    have e1 : vl (([c8 k0, c8 k1, c8 k2, c8 k3] : List UInt8).getD 1 0) = k1 := vl_c8 q1
    have e2 : vl (([c8 k0, c8 k1, c8 k2, c8 k3] : List UInt8).getD 2 0) = k2 := vl_c8 q2
    have e3 : vl (([c8 k0, c8 k1, c8 k2, c8 k3] : List UInt8).getD 3 0) = k3 := vl_c8 q3
    rw [e0, e1, e2, e3]
    rw [atoi_digit (c8_ne q0).1 (c8_ne q0).2]
    simp only [Lib.decNat, List.isEmpty_cons, Bool.false_eq_true, if_false, Lib.decFrom, digitVal_c8 q0, digitVal_c8 q1, digitVal_c8 q2, digitVal_c8 q3, Option.map_some]
    congr 1
    omega
theorem atoi2 {p : List UInt8} (h : allD p = true) (hl : p.length = 2) : Lib.atoi p = some (10 * vl (p.getD 0 0) + vl (p.getD 1 0)) := by
  match p, hl with
  | [x0, x1], _ =>
    simp only [allD, List.all_cons, List.all_nil, Bool.and_true, Bool.and_eq_true] at h
    obtain ⟨k0, q0, rfl⟩ := c8_of h.1
    obtain ⟨k1, q1, rfl⟩ := c8_of h.2
    have e0 : vl (([c8 k0, c8 k1] : List UInt8).getD 0 0) = k0 := vl_c8 q0
    have e1 : vl (([c8 k0, c8 k1] : List UInt8).getD 1 0) = k1 := vl_c8 q1
    rw [e0, e1]
    rw [atoi_digit (c8_ne q0).1 (c8_ne q0).2]
    simp only [Lib.decNat, List.isEmpty_cons, Bool.false_eq_true, if_false, Lib.decFrom, digitVal_c8 q0, digitVal_c8 q1, Option.map_some]
    congr 1
    omega
theorem parts_val {p0 p1 p2 : List UInt8} (l0 : p0.length = 4) (l1 : p1.length = 2) (l2 : p2.length = 2) :
    yL (p0 ++ 45 :: (p1 ++ 45 :: p2)) = 1000 * vl (p0.getD 0 0) + 100 * vl (p0.getD 1 0) + 10 * vl (p0.getD 2 0) + vl (p0.getD 3 0) ∧ mL (p0 ++ 45 :: (p1 ++ 45 :: p2)) = 10 * vl (p1.getD 0 0) + vl (p1.getD 1 0) ∧ dL (p0 ++ 45 :: (p1 ++ 45 :: p2)) = 10 * vl (p2.getD 0 0) + vl (p2.getD 1 0) := by
  match p0, p1, p2, l0, l1, l2 with
  | [x0, x1, x2, x3], [y0, y1], [z0, z1], _, _, _ => exact ⟨rfl, rfl, rfl⟩
/-- What the code asks of each rune. -/
def notDigit (x : Nat) : Bool := decide (x < 48) || decide (57 < x)
theorem idx_at (s : ByteArray) : ∀ (f pos : Nat), s.size ≤ pos + f → (0 ≤ Lib.idxFuncFrom notDigit true s f pos ↔ ∃ j, pos ≤ j ∧ ∃ h : j < s.size, dgt (s[j]'h) = false)
  | 0, pos, hf => by
    constructor
    · intro h; simp [Lib.idxFuncFrom] at h
    · rintro ⟨j, h1, h2, _⟩; omega
  | f + 1, pos, hf => by
    by_cases hp : pos < s.size
    · unfold Lib.idxFuncFrom
      rw [if_pos hp]
      by_cases ha : (s[pos]'hp).toNat < 128
      · rw [decode_ascii s pos hp ha]
        simp only
        by_cases hn : notDigit (s[pos]'hp).toNat = true
        · rw [if_pos hn]
          refine ⟨fun _ => ⟨pos, Nat.le_refl _, hp, ?_⟩, fun _ => by omega⟩
          unfold dgt
          simp only [notDigit, Bool.or_eq_true, decide_eq_true_eq] at hn
          rcases hn with h | h
          · rw [decide_eq_false (show ¬ 48 ≤ (s[pos]'hp).toNat by omega)]; rfl
          · rw [decide_eq_false (show ¬ (s[pos]'hp).toNat ≤ 57 by omega)]; simp
        · rw [if_neg hn]
          have ih := idx_at s f (pos + 1) (by omega)
          rw [ih]
          have hd : dgt (s[pos]'hp) = true := by
            rw [dgt_iff]
            simp only [notDigit, Bool.or_eq_true, decide_eq_true_eq] at hn
            omega
          constructor
          · rintro ⟨j, h1, h2, h3⟩; exact ⟨j, by omega, h2, h3⟩
          · rintro ⟨j, h1, h2, h3⟩
            rcases Nat.eq_or_lt_of_le h1 with h | h
            · subst h; rw [hd] at h3; cases h3
            · exact ⟨j, h, h2, h3⟩
      · obtain ⟨g1, g2⟩ := decode_high s pos hp (by omega)
        have hn : notDigit (Utf8.decode s pos).1 = true := by
          simp only [notDigit, Bool.or_eq_true, decide_eq_true_eq]; omega
        rw [if_pos hn]
        refine ⟨fun _ => ⟨pos, Nat.le_refl _, hp, ?_⟩, fun _ => by omega⟩
        unfold dgt
        rw [decide_eq_false (show ¬ (s[pos]'hp).toNat ≤ 57 by omega)]; simp
    · rw [Lib.idxFuncFrom_end _ _ _ _ _ hp]
      constructor
      · intro h; omega
      · rintro ⟨j, h1, h2, _⟩; omega
theorem idx_dig (s : ByteArray) : decide (0 ≤ Lib.idxFunc notDigit true s) = !allD s.data.toList := by
  have h := idx_at s s.size 0 (by omega)
  unfold Lib.idxFunc
  cases ha : allD s.data.toList with
  | true =>
    refine decide_eq_false fun h0 => ?_
    obtain ⟨j, _, hj, hd⟩ := h.1 h0
    have := List.all_eq_true.1 ha (s[j]'hj) (by
      have : (s[j]'hj) = s.data.toList[j]'(by rw [Array.length_toList]; exact hj) := rfl
      rw [this]; exact List.getElem_mem _)
    rw [hd] at this; cases this
  | false =>
    refine decide_eq_true (h.2 ?_)
    have h2 : ∃ x, x ∈ s.data.toList ∧ dgt x = false := by
      rcases Classical.em (∃ x, x ∈ s.data.toList ∧ dgt x = false) with h | h
      · exact h
      · have : allD s.data.toList = true := List.all_eq_true.2 fun x hx => by
          cases hd : dgt x with
          | true => rfl
          | false => exact absurd ⟨x, hx, hd⟩ h
        rw [this] at ha; cases ha
    obtain ⟨x, hx, hd⟩ := h2
    obtain ⟨j, hj, rfl⟩ := List.mem_iff_getElem.1 hx
    exact ⟨j, Nat.zero_le _, by rw [Array.length_toList] at hj; exact hj, hd⟩
end Go.Proofs.YtfblngdmeliabaaDoor
