/- The texts of days, as lists of bytes: which they are, how they are read back, and their order. No program in sight. -/
import Derived.Test.YtfblngdmeliabaaDoorCh
import Derived.Sort.Walk0
namespace Go.Proofs.YtfblngdmeliabaaDoor
open Go.RowKit

def c8 (n : Nat) : UInt8 := UInt8.ofNat (48 + n)
theorem c8_nat {n : Nat} (h : n < 10) : (c8 n).toNat = 48 + n := by
  unfold c8
  rw [UInt8.toNat_ofNat']
  omega
theorem c8_lt {a b : Nat} (h : a < b) (hb : b < 10) : c8 a < c8 b := by
  rw [UInt8.lt_iff_toNat_lt, c8_nat (by omega), c8_nat hb]; omega
/-- The ten bytes of a date. -/
def textL (Y M D : Nat) : List UInt8 := [c8 (Y / 1000), c8 (Y / 100 % 10), c8 (Y / 10 % 10), c8 (Y % 10), 45, c8 (M / 10), c8 (M % 10), 45, c8 (D / 10), c8 (D % 10)]
theorem dg2_list {n : Int} (h : 0 ≤ n) : (dg2 n).data.toList = [c8 (n.toNat / 10), c8 (n.toNat % 10)] := by
  have e1 : (48 + n / 10).toNat = 48 + n.toNat / 10 := by omega
  have e2 : (48 + n % 10).toNat = 48 + n.toNat % 10 := by omega
  unfold dg2 c8
  rw [e1, e2]
theorem textB_list {y m d : Int} (h1 : 1000 ≤ y) (h2 : y ≤ 9999) (hm : 0 ≤ m) (hd : 0 ≤ d) : (textB y m d).data.toList = textL y.toNat m.toNat d.toNat := by
  unfold textB
  simp only [ByteArray.data_append, Array.toList_append, dg2_list hm, dg2_list hd, itoa_four h1 h2]
  rfl
theorem textS_list {n : Int} (h : isB n = true) : ∃ y m d : Int, Vd y m d ∧ num y m d = n ∧ (textS n).data.toList = textL y.toNat m.toNat d.toNat := by
  obtain ⟨hv, he⟩ := ymd_of h
  refine ⟨_, _, _, hv, he, ?_⟩
  unfold textS
  rw [if_pos h]
  obtain ⟨h1, h2, h3, h4, h5, h6⟩ := hv
  exact textB_list (by omega) h2 (by omega) (by omega)
theorem textS_bad {n : Int} (h : isB n = false) : textS n = ⟨#[]⟩ := by unfold textS; rw [h]; rfl
theorem textS_size {n : Int} (h : isB n = true) : (textS n).size = 10 := by
  obtain ⟨y, m, d, _, _, e⟩ := textS_list h
  show (textS n).data.size = 10
  rw [← Array.length_toList, e]
  rfl

/-! Reading back. -/
def dgt (b : UInt8) : Bool := decide (48 ≤ b.toNat) && decide (b.toNat ≤ 57)
def vl (b : UInt8) : Int := (b.toNat : Int) - 48
theorem dgt_iff {b : UInt8} : dgt b = true ↔ 48 ≤ b.toNat ∧ b.toNat ≤ 57 := by simp [dgt]
theorem dgt_c8 {n : Nat} (h : n < 10) : dgt (c8 n) = true := by rw [dgt_iff, c8_nat h]; omega
theorem vl_c8 {n : Nat} (h : n < 10) : vl (c8 n) = n := by unfold vl; rw [c8_nat h]; omega
theorem c8_of {b : UInt8} (h : dgt b = true) : ∃ k : Nat, k < 10 ∧ b = c8 k := by
  obtain ⟨h1, h2⟩ := dgt_iff.1 h
  refine ⟨b.toNat - 48, by omega, ?_⟩
  rw [← UInt8.toNat_inj, c8_nat (by omega)]; omega
/-- Is a byte as its place wants it? -/
def okB (i : Nat) (b : UInt8) : Bool := if i = 4 ∨ i = 7 then b == 45 else dgt b
/-- Are the first k bytes as their places want them? -/
def goodK (l : List UInt8) (k : Nat) : Prop := ∀ i b, i < k → l[i]? = some b → okB i b = true
def yL (l : List UInt8) : Int := 1000 * vl (l.getD 0 0) + 100 * vl (l.getD 1 0) + 10 * vl (l.getD 2 0) + vl (l.getD 3 0)
def mL (l : List UInt8) : Int := 10 * vl (l.getD 5 0) + vl (l.getD 6 0)
def dL (l : List UInt8) : Int := 10 * vl (l.getD 8 0) + vl (l.getD 9 0)
/-- What Parse returns of a text of that form. -/
def okP (r : Int × Int) : Int × Int := if r.2 = 0 then (r.1, 0) else (0, 5)
noncomputable def parseL (l : List UInt8) : Int × Int := by
  classical
  exact if l.length = 10 ∧ goodK l 10 then okP (dayS (yL l) (mL l) (dL l)) else (0, 5)
theorem parseL_yes {l : List UInt8} (h : l.length = 10) (h2 : goodK l 10) : parseL l = okP (dayS (yL l) (mL l) (dL l)) := by unfold parseL; rw [if_pos ⟨h, h2⟩]
theorem parseL_no {l : List UInt8} (h : ¬ (l.length = 10 ∧ goodK l 10)) : parseL l = (0, 5) := by unfold parseL; rw [if_neg h]
theorem parseL_two (l : List UInt8) : (parseL l).2 = 0 ∨ parseL l = (0, 5) := by
  by_cases h : l.length = 10 ∧ goodK l 10
  · rw [parseL_yes h.1 h.2]
    unfold okP
    split
    · exact .inl rfl
    · exact .inr rfl
  · exact .inr (parseL_no h)
theorem goodK_text {Y M D : Nat} (hY : Y < 10000) (hM : M < 100) (hD : D < 100) : goodK (textL Y M D) 10 := by
  intro i b hi hb
  unfold okB
  match i, hi, hb with
  | 0, _, hb => injection hb with hb; subst hb; exact dgt_c8 (by omega)
  | 1, _, hb => injection hb with hb; subst hb; exact dgt_c8 (by omega)
  | 2, _, hb => injection hb with hb; subst hb; exact dgt_c8 (by omega)
  | 3, _, hb => injection hb with hb; subst hb; exact dgt_c8 (by omega)
  | 4, _, hb => injection hb with hb; subst hb; rfl
  | 5, _, hb => injection hb with hb; subst hb; exact dgt_c8 (by omega)
  | 6, _, hb => injection hb with hb; subst hb; exact dgt_c8 (by omega)
  | 7, _, hb => injection hb with hb; subst hb; rfl
  | 8, _, hb => injection hb with hb; subst hb; exact dgt_c8 (by omega)
  | 9, _, hb => injection hb with hb; subst hb; exact dgt_c8 (by omega)
theorem yL_text {Y M D : Nat} (hY : Y < 10000) : yL (textL Y M D) = Y := by
  show 1000 * vl (c8 (Y / 1000)) + 100 * vl (c8 (Y / 100 % 10)) + 10 * vl (c8 (Y / 10 % 10)) + vl (c8 (Y % 10)) = _
  rw [vl_c8 (by omega), vl_c8 (by omega), vl_c8 (by omega), vl_c8 (by omega)]
  omega
theorem mL_text {Y M D : Nat} (hM : M < 100) : mL (textL Y M D) = M := by
  show 10 * vl (c8 (M / 10)) + vl (c8 (M % 10)) = _
  rw [vl_c8 (by omega), vl_c8 (by omega)]
  omega
theorem dL_text {Y M D : Nat} (hD : D < 100) : dL (textL Y M D) = D := by
  show 10 * vl (c8 (D / 10)) + vl (c8 (D % 10)) = _
  rw [vl_c8 (by omega), vl_c8 (by omega)]
  omega
/-- The text of a day is read back. -/
theorem parse_text {n : Int} (h : isB n = true) : parseL (textS n).data.toList = (n, 0) := by
  obtain ⟨y, m, d, hv, hn, e⟩ := textS_list h
  have h1 := ((isB_iff n).1 h).2
  have hdy := dayS_yes hv (by omega)
  obtain ⟨y1, y2, m1, m2, d1, d2⟩ := hv
  have := (ml_bd y m).2
  rw [e, parseL_yes rfl (goodK_text (by omega) (by omega) (by omega)), yL_text (by omega), mL_text (by omega), dL_text (by omega)]
  rw [show ((y.toNat : Nat) : Int) = y by omega, show ((m.toNat : Nat) : Int) = m by omega, show ((d.toNat : Nat) : Int) = d by omega, hdy, hn]
  rfl
theorem ten_of {l : List UInt8} (h : l.length = 10) (h2 : goodK l 10) : ∃ Y M D : Nat, Y < 10000 ∧ M < 100 ∧ D < 100 ∧ l = textL Y M D := by
  match l, h with
  | [a0, a1, a2, a3, c0, b0, b1, c1, d0, d1], _ =>
    have g : ∀ i b, i < 10 → ([a0, a1, a2, a3, c0, b0, b1, c1, d0, d1] : List UInt8)[i]? = some b → okB i b = true := h2
    obtain ⟨k0, q0, rfl⟩ := c8_of (g 0 a0 (by decide) rfl)
    obtain ⟨k1, q1, rfl⟩ := c8_of (g 1 a1 (by decide) rfl)
    obtain ⟨k2, q2, rfl⟩ := c8_of (g 2 a2 (by decide) rfl)
    obtain ⟨k3, q3, rfl⟩ := c8_of (g 3 a3 (by decide) rfl)
    obtain rfl : c0 = 45 := by have := g 4 c0 (by decide) rfl; simpa [okB] using this
    obtain ⟨k5, q5, rfl⟩ := c8_of (g 5 b0 (by decide) rfl)
    obtain ⟨k6, q6, rfl⟩ := c8_of (g 6 b1 (by decide) rfl)
    obtain rfl : c1 = 45 := by have := g 7 c1 (by decide) rfl; simpa [okB] using this
    obtain ⟨k8, q8, rfl⟩ := c8_of (g 8 d0 (by decide) rfl)
    obtain ⟨k9, q9, rfl⟩ := c8_of (g 9 d1 (by decide) rfl)
    refine ⟨1000 * k0 + 100 * k1 + 10 * k2 + k3, 10 * k5 + k6, 10 * k8 + k9, by omega, by omega, by omega, ?_⟩
    unfold textL
    congr <;> omega
/-- What is read is the text of what it is read as. -/
theorem text_parse {l : List UInt8} (h : (parseL l).2 = 0) : isB (parseL l).1 = true ∧ (textS (parseL l).1).data.toList = l := by
  by_cases hg : l.length = 10 ∧ goodK l 10
  · obtain ⟨Y, M, D, hY, hM, hD, rfl⟩ := ten_of hg.1 hg.2
    rw [parseL_yes hg.1 hg.2, yL_text hY, mL_text hM, dL_text hD] at h ⊢
    unfold okP at h ⊢
    by_cases hz : (dayS Y M D).2 = 0
    · rw [if_pos hz]
      obtain ⟨hv, he, h0, h1⟩ := dayS_ok hz
      have hb : isB (dayS Y M D).1 = true := (isB_iff _).2 (by rw [he]; exact ⟨h0, h1⟩)
      refine ⟨hb, ?_⟩
      obtain ⟨y, m, d, hv2, hn2, e⟩ := textS_list hb
      rw [he] at hn2
      obtain ⟨rfl, rfl, rfl⟩ := num_inj hv2 hv hn2
      rw [e]
      rfl
    · rw [if_neg hz] at h
      cases h
  · rw [parseL_no hg] at h
    cases h

/-! The order. -/
theorem less_cons {a b : UInt8} {x y : List UInt8} (h : a < b) : a :: x < b :: y := List.Lex.rel h
theorem less_same {a : UInt8} {x y : List UInt8} (h : x < y) : a :: x < a :: y := List.Lex.cons h
theorem four_less {Y Y' : Nat} (h : Y < Y') (hb : Y' < 10000) (x y : List UInt8) : c8 (Y / 1000) :: c8 (Y / 100 % 10) :: c8 (Y / 10 % 10) :: c8 (Y % 10) :: x < c8 (Y' / 1000) :: c8 (Y' / 100 % 10) :: c8 (Y' / 10 % 10) :: c8 (Y' % 10) :: y := by
  by_cases h1 : Y / 1000 < Y' / 1000
  · exact less_cons (c8_lt h1 (by omega))
  have e1 : Y / 1000 = Y' / 1000 := by omega
  rw [e1]
  refine less_same ?_
  by_cases h2 : Y / 100 % 10 < Y' / 100 % 10
  · exact less_cons (c8_lt h2 (by omega))
  have e2 : Y / 100 % 10 = Y' / 100 % 10 := by omega
  rw [e2]
  refine less_same ?_
  by_cases h3 : Y / 10 % 10 < Y' / 10 % 10
  · exact less_cons (c8_lt h3 (by omega))
  have e3 : Y / 10 % 10 = Y' / 10 % 10 := by omega
  rw [e3]
  exact less_same (less_cons (c8_lt (by omega) (by omega)))
theorem two_less {Y Y' : Nat} (h : Y < Y') (hb : Y' < 100) (x y : List UInt8) : c8 (Y / 10) :: c8 (Y % 10) :: x < c8 (Y' / 10) :: c8 (Y' % 10) :: y := by
  by_cases h1 : Y / 10 < Y' / 10
  · exact less_cons (c8_lt h1 (by omega))
  have e1 : Y / 10 = Y' / 10 := by omega
  rw [e1]
  exact less_same (less_cons (c8_lt (by omega) (by omega)))
theorem text_less {Y M D Y' M' D' : Nat} (hY : Y' < 10000) (hM : M' < 100) (hD : D' < 100) (h : Y < Y' ∨ (Y = Y' ∧ (M < M' ∨ (M = M' ∧ D < D')))) : textL Y M D < textL Y' M' D' := by
  unfold textL
  rcases h with h | ⟨rfl, h⟩
  · exact four_less h hY _ _
  refine less_same (less_same (less_same (less_same (less_same ?_))))
  rcases h with h | ⟨rfl, h⟩
  · exact two_less h hM _ _
  exact less_same (less_same (less_same (two_less h hD _ _)))
theorem num_less {y m d y' m' d' : Int} (h : Vd y m d) (h' : Vd y' m' d') (hn : num y m d < num y' m' d') : y < y' ∨ (y = y' ∧ (m < m' ∨ (m = m' ∧ d < d'))) := by
  obtain ⟨a1, a2⟩ := num_in h
  obtain ⟨b1, b2⟩ := num_in h'
  obtain ⟨y1, y2, m1, m2, d1, d2⟩ := h
  obtain ⟨y1', y2', m1', m2', d1', d2'⟩ := h'
  rcases Int.lt_trichotomy y y' with c | rfl | c
  · exact .inl c
  · refine .inr ⟨rfl, ?_⟩
    rcases Int.lt_trichotomy m m' with c | rfl | c
    · exact .inl c
    · refine .inr ⟨rfl, ?_⟩
      unfold num at hn
      omega
    · exfalso
      have e := cum_succ y m' (by omega) (by omega)
      have g := cum_mono y (m' + 1) m (by omega) (by omega) (by omega)
      unfold num at hn
      omega
  · exfalso
    have := beg_mono (show y' + 1 ≤ y by omega)
    omega
/-- Texts are ordered as their days are. -/
theorem text_order {a b : Int} (ha : isB a = true) (hb : isB b = true) : Op.bytesLess (textS a).data.toList (textS b).data.toList = decide (a < b) := by
  have key : ∀ {a b : Int}, isB a = true → isB b = true → a < b → (textS a).data.toList < (textS b).data.toList := by
    intro a b ha hb hab
    obtain ⟨y, m, d, hv, hn, e⟩ := textS_list ha
    obtain ⟨y', m', d', hv', hn', e'⟩ := textS_list hb
    rw [e, e']
    have hl := num_less hv hv' (by omega)
    obtain ⟨y1, y2, m1, m2, d1, d2⟩ := hv
    obtain ⟨y1', y2', m1', m2', d1', d2'⟩ := hv'
    have := (ml_bd y' m').2
    exact text_less (by omega) (by omega) (by omega) (by omega)
  rw [Go.Proofs.bytesLess_eq]
  rcases Int.lt_trichotomy a b with c | rfl | c
  · rw [decide_eq_true c, decide_eq_true (key ha hb c)]
  · rw [decide_eq_false (Int.lt_irrefl _), decide_eq_false (List.lt_irrefl _)]
  · rw [decide_eq_false (show ¬ a < b by omega), decide_eq_false (fun h => List.lt_irrefl _ (List.lt_trans h (key hb ha c)))]
end Go.Proofs.YtfblngdmeliabaaDoor
