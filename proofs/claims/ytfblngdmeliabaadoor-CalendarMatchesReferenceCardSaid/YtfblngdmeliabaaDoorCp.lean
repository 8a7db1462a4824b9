/- The calendar as plain numbers, without any program. -/
import Derived.Test.YtfblngdmeliabaaDoorBase
namespace Go.Proofs.YtfblngdmeliabaaDoor

/-- Whether y is a leap year. -/
def lpB (y : Int) : Bool := (y % 4 == 0 && !(y % 100 == 0)) || y % 400 == 0
def lp (y : Int) : Int := if lpB y then 1 else 0
/-- The number of days of a year. -/
def yd (y : Int) : Int := 365 + lp y
/-- The days of February: a year out of range counts as a leap year. -/
def fb (y : Int) : Int := if lpB y || decide (y < 1600) || decide (9999 < y) then 29 else 28
/-- The days from the year 1600 to a year. -/
def beg (y : Int) : Int := 365 * (y - 1600) + (y - 1600 + 3) / 4 - (y - 1600 + 99) / 100 + (y - 1600 + 399) / 400
/-- The days of a month. -/
def ml (y m : Int) : Int :=
  if m = 2 then fb y else if m = 4 ∨ m = 6 ∨ m = 9 ∨ m = 11 then 30 else 31
/-- The days of a year before a month. -/
def cum (y m : Int) : Int :=
  if m ≤ 1 then 0 else if m ≤ 2 then 31 else (if m ≤ 3 then 31 else if m ≤ 4 then 62 else if m ≤ 5 then 92 else if m ≤ 6 then 123 else if m ≤ 7 then 153 else if m ≤ 8 then 184 else if m ≤ 9 then 215 else if m ≤ 10 then 245 else if m ≤ 11 then 276 else if m ≤ 12 then 306 else 337) + fb y

theorem lp_01 (y : Int) : lp y = 0 ∨ lp y = 1 := by unfold lp; split <;> simp
theorem yd_bd (y : Int) : 365 ≤ yd y ∧ yd y ≤ 366 := by unfold yd; have := lp_01 y; omega
theorem fb_bd (y : Int) : 28 ≤ fb y ∧ fb y ≤ 29 := by unfold fb; split <;> omega
theorem fb_in {y : Int} (h1 : 1600 ≤ y) (h2 : y ≤ 9999) : fb y = 28 + lp y := by
  unfold fb lp
  have e1 : decide (y < 1600) = false := by simpa using h1
  have e2 : decide (9999 < y) = false := by simpa using h2
  rw [e1, e2]
  cases lpB y <;> simp
theorem ml_bd (y m : Int) : 28 ≤ ml y m ∧ ml y m ≤ 31 := by
  have := fb_bd y
  unfold ml
  split
  · omega
  · split <;> omega
theorem cum_succ (y m : Int) (h1 : 1 ≤ m) (h2 : m ≤ 12) : cum y (m + 1) = cum y m + ml y m := by
  have hm : m = 1 ∨ m = 2 ∨ m = 3 ∨ m = 4 ∨ m = 5 ∨ m = 6 ∨ m = 7 ∨ m = 8 ∨ m = 9 ∨ m = 10 ∨ m = 11 ∨ m = 12 := by omega
  rcases hm with rfl | rfl | rfl | rfl | rfl | rfl | rfl | rfl | rfl | rfl | rfl | rfl <;> simp [cum, ml] <;> omega
theorem cum_one (y : Int) : cum y 1 = 0 := by simp [cum]
theorem cum_end {y : Int} (h1 : 1600 ≤ y) (h2 : y ≤ 9999) : cum y 13 = yd y := by
  have := fb_in h1 h2
  simp [cum, yd]
  omega
theorem cum_bd (y m : Int) (h1 : 1 ≤ m) (h2 : m ≤ 13) : 0 ≤ cum y m ∧ cum y m ≤ 366 := by
  have := fb_bd y
  have hm : m = 1 ∨ m = 2 ∨ m = 3 ∨ m = 4 ∨ m = 5 ∨ m = 6 ∨ m = 7 ∨ m = 8 ∨ m = 9 ∨ m = 10 ∨ m = 11 ∨ m = 12 ∨ m = 13 := by omega
  rcases hm with rfl | rfl | rfl | rfl | rfl | rfl | rfl | rfl | rfl | rfl | rfl | rfl | rfl <;> simp [cum] <;> omega
theorem cum_mono (y a b : Int) (h1 : 1 ≤ a) (h2 : a ≤ b) (h3 : b ≤ 13) : cum y a ≤ cum y b := by
  obtain ⟨k, rfl⟩ : ∃ k : Nat, b = a + k := ⟨(b - a).toNat, by omega⟩
  clear h2
  induction k with
  | zero => simp
  | succ k ih =>
    have := cum_succ y (a + k) (by omega) (by omega)
    have h := ih (by omega)
    have hb := ml_bd y (a + k)
    have e : a + ((k + 1 : Nat) : Int) = a + k + 1 := by omega
    rw [e]
    omega
theorem lpB_iff (y : Int) : lpB y = true ↔ (y % 4 = 0 ∧ y % 100 ≠ 0) ∨ y % 400 = 0 := by simp [lpB]
theorem beg_succ (y : Int) : beg (y + 1) = beg y + yd y := by
  unfold beg yd lp
  by_cases h : lpB y = true
  · rw [if_pos h]
    have := (lpB_iff y).1 h
    omega
  · rw [if_neg h]
    have : ¬ ((y % 4 = 0 ∧ y % 100 ≠ 0) ∨ y % 400 = 0) := fun c => h ((lpB_iff y).2 c)
    omega
theorem beg_400 (y : Int) : beg (y + 400) = beg y + 146097 := by unfold beg; omega
theorem beg_0 : beg 1600 = 0 := by decide
theorem beg_mono {a b : Int} (h : a ≤ b) : beg a ≤ beg b := by
  obtain ⟨k, rfl⟩ : ∃ k : Nat, b = a + k := ⟨(b - a).toNat, by omega⟩
  clear h
  induction k with
  | zero => simp
  | succ k ih =>
    have h1 := beg_succ (a + k)
    have h2 := yd_bd (a + k)
    have e : a + ((k + 1 : Nat) : Int) = a + k + 1 := by omega
    rw [e]
    omega

/-- A valid date. -/
def Vd (y m d : Int) : Prop := 1600 ≤ y ∧ y ≤ 9999 ∧ 1 ≤ m ∧ m ≤ 12 ∧ 1 ≤ d ∧ d ≤ ml y m
/-- Its number. -/
def num (y m d : Int) : Int := beg y + cum y m + (d - 1)

theorem num_in {y m d : Int} (h : Vd y m d) : beg y ≤ num y m d ∧ num y m d < beg (y + 1) := by
  obtain ⟨h1, h2, h3, h4, h5, h6⟩ := h
  have a := cum_bd y m h3 (by omega)
  have b := cum_succ y m h3 h4
  have c := cum_mono y (m + 1) 13 (by omega) (by omega) (Int.le_refl _)
  rw [cum_end h1 h2] at c
  have e := beg_succ y
  unfold num
  omega
/-- Two dates with one number are one. -/
theorem num_inj {y m d y' m' d' : Int} (h : Vd y m d) (h' : Vd y' m' d') (he : num y m d = num y' m' d') : y = y' ∧ m = m' ∧ d = d' := by
  have a := num_in h
  have b := num_in h'
  have hy : y = y' := by
    rcases Int.lt_trichotomy y y' with c | c | c
    · have := beg_mono (show y + 1 ≤ y' by omega)
      omega
    · exact c
    · have := beg_mono (show y' + 1 ≤ y by omega)
      omega
  subst hy
  obtain ⟨_, _, h3, h4, h5, h6⟩ := h
  obtain ⟨_, _, k3, k4, k5, k6⟩ := h'
  have c1 := cum_succ y m h3 h4
  have c2 := cum_succ y m' k3 k4
  unfold num at he
  have hm : m = m' := by
    rcases Int.lt_trichotomy m m' with c | c | c
    · have := cum_mono y (m + 1) m' (by omega) (by omega) (by omega)
      omega
    · exact c
    · have := cum_mono y (m' + 1) m (by omega) (by omega) (by omega)
      omega
  subst hm
  exact ⟨rfl, rfl, by omega⟩
theorem year_of (k : Nat) : ∀ n : Int, 0 ≤ n → n < beg (1600 + k) → ∃ y : Int, 1600 ≤ y ∧ y < 1600 + k ∧ beg y ≤ n ∧ n < beg (y + 1) := by
  induction k with
  | zero => intro n h1 h2; simp [beg_0] at h2; omega
  | succ k ih =>
    intro n h1 h2
    have e : (1600 : Int) + ((k + 1 : Nat) : Int) = 1600 + k + 1 := by omega
    by_cases h : n < beg (1600 + k)
    · obtain ⟨y, a, b, c, d⟩ := ih n h1 h
      exact ⟨y, a, by omega, c, d⟩
    · exact ⟨1600 + k, by omega, by omega, by omega, by rw [← e]; exact h2⟩
theorem month_of (y r : Int) (k : Nat) (hk : k ≤ 12) : 0 ≤ r → r < cum y (1 + k) → ∃ m : Int, 1 ≤ m ∧ m ≤ 12 ∧ cum y m ≤ r ∧ r < cum y (m + 1) := by
  induction k with
  | zero => intro h1 h2; simp [cum] at h2; omega
  | succ k ih =>
    intro h1 h2
    have e : (1 : Int) + ((k + 1 : Nat) : Int) = 1 + k + 1 := by omega
    by_cases h : r < cum y (1 + k)
    · exact ih (by omega) h1 h
    · exact ⟨1 + k, by omega, by omega, by omega, by rw [← e]; exact h2⟩
/-- Each day has a date. -/
theorem date_of {n : Int} (h0 : 0 ≤ n) (h1 : n ≤ 1000000) : ∃ y m d : Int, Vd y m d ∧ num y m d = n ∧ y ≤ 4400 := by
  have hb : beg (1600 + (2800 : Nat)) = 1022679 := by decide
  obtain ⟨y, a, b, c, e⟩ := year_of 2800 n h0 (by rw [hb]; omega)
  have hs := beg_succ y
  have hy : y ≤ 9999 := by omega
  obtain ⟨m, m1, m2, m3, m4⟩ := month_of y (n - beg y) 12 (Nat.le_refl _) (by omega) (by rw [show (1 : Int) + ((12 : Nat) : Int) = 13 from rfl, cum_end a hy]; omega)
  have hc := cum_succ y m m1 m2
  exact ⟨y, m, n - beg y - cum y m + 1, ⟨a, hy, m1, m2, by omega, by omega⟩, by unfold num; omega, by omega⟩

/-- What Day returns. -/
def dayS (y m d : Int) : Int × Int :=
  if m < 1 ∨ 12 < m ∨ d < 1 ∨ ml y m < d then (0, 1) else if y < 1600 ∨ 9999 < y then (0, 10) else if 1000000 < num y m d then (0, 10) else (num y m d, 0)
theorem dayS_yes {y m d : Int} (h : Vd y m d) (hn : num y m d ≤ 1000000) : dayS y m d = (num y m d, 0) := by
  obtain ⟨h1, h2, h3, h4, h5, h6⟩ := h
  unfold dayS
  rw [if_neg (by omega), if_neg (by omega), if_neg (by omega)]
theorem dayS_ok {y m d : Int} (h : (dayS y m d).2 = 0) : Vd y m d ∧ (dayS y m d).1 = num y m d ∧ 0 ≤ num y m d ∧ num y m d ≤ 1000000 := by
  unfold dayS at h ⊢
  split
  · rename_i h1; rw [if_pos h1] at h; cases h
  · rename_i h1
    split
    · rename_i h2; rw [if_neg h1, if_pos h2] at h; cases h
    · rename_i h2
      split
      · rename_i h3; rw [if_neg h1, if_neg h2, if_pos h3] at h; cases h
      · rename_i h3
        have hv : Vd y m d := ⟨by omega, by omega, by omega, by omega, by omega, by omega⟩
        have := num_in hv
        have b0 := beg_mono (show (1600 : Int) ≤ y by omega)
        rw [beg_0] at b0
        exact ⟨hv, rfl, by omega, by omega⟩
end Go.Proofs.YtfblngdmeliabaaDoor
