/- Small words on memory, without any program: a slice that reads as a list, a block that is known whole, a call that has turned only some blocks. The calendar as plain numbers, without any program. What the small functions of package calendar return. -/
import Derived.WalkKit
import Derived.Outline
import Derived.WalkSpells
import Derived.WalkLawsBesides
import Derived.Below
import Derived.Laws.OwnMore
import Derived.Deep.AppendLies
import Derived.Deep.Draws
import Derived.Laws.Rows
import Derived.Lib.Hide
import Derived.Test.YtebdkmlganalaaaGreatDoorProg
import Derived.StillTailTactics
import Derived.IntWalk
namespace Go.Proofs.YtebdkmlganalaaaGreatDoor
open Go.RowKit

theorem block_of_add (a : Addr) (n : Nat) : (a.add n).block = a.block := by unfold Addr.add; split <;> rfl
theorem add_of_add (a : Addr) (i j : Nat) : (a.add i).add j = a.add (i + j) := by
  unfold Addr.add
  by_cases hi : i = 0 <;> by_cases hj : j = 0 <;> simp [hi, hj, Nat.add_assoc]

/-- Block g is known whole. -/
def Blk (w : World) (g : Nat) (t : TypeId) (cs : Array Value) : Prop := w.heap[g]? = some (.cells cs t (0, 0))

section
variable {w w' : World} {g : Nat} {t : TypeId} {cs : Array Value}
theorem Blk.lt (h : Blk w g t cs) : g < w.heap.size := by
  rcases Nat.lt_or_ge g w.heap.size with hlt | hge
  · exact hlt
  · unfold Blk at h; rw [Array.getElem?_eq_none hge] at h; cases h
theorem Blk.cell (h : Blk w g t cs) (i : Nat) : w.cell? ⟨g, i, none⟩ = cs[i]? := cell_of_row w g i cs t (0, 0) h
theorem Blk.frozen (h : Blk w g t cs) (i : Nat) : w.frozen? ⟨g, i, none⟩ = false := by
  unfold Blk at h
  simp [World.frozen?, h]
theorem Blk.all (h : Blk w g t cs) : (∀ i, w.cell? ⟨g, i, none⟩ = cs[i]?) ∧ (∀ i, w.frozen? ⟨g, i, none⟩ = false) ∧ g < w.heap.size := ⟨h.cell, h.frozen, h.lt⟩
theorem Blk.new (w : World) (t : TypeId) (cs : Array Value) : Blk (w.alloc (.cells cs t)) w.heap.size t cs := heap_alloc_new w _
theorem Blk.new1 (w : World) (o : Obj) (t : TypeId) (cs : Array Value) : Blk ((w.alloc o).alloc (.cells cs t)) (w.heap.size + 1) t cs := by
  have := Blk.new (w.alloc o) t cs
  have e : (w.alloc o).heap.size = w.heap.size + 1 := by simp
  rwa [e] at this
theorem Blk.new2 (w : World) (o o' : Obj) (t : TypeId) (cs : Array Value) : Blk (((w.alloc o).alloc o').alloc (.cells cs t)) (w.heap.size + 1 + 1) t cs := by
  have := Blk.new ((w.alloc o).alloc o') t cs
  have e : ((w.alloc o).alloc o').heap.size = w.heap.size + 1 + 1 := by simp
  rwa [e] at this
theorem Blk.drew (h : Blk w g t cs) : Blk w.drew g t cs := h
theorem Blk.drewN (h : Blk w g t cs) (n : Nat) : Blk (w.drewN n) g t cs := h
theorem Blk.alloc (h : Blk w g t cs) (o : Obj) : Blk (w.alloc o) g t cs := (Below.heap_alloc w o g h.lt).trans h
theorem Blk.set_ (h : Blk w g t cs) (i : Nat) (u : Value) : Blk (w.setCell ⟨g, i, none⟩ u) g t (cs.setIfInBounds i u) := by
  unfold Blk at h ⊢
  simp [World.setCell, Array.getElem?_modify, h]
theorem Blk.far (h : Blk w g t cs) {p : Addr} (hp : g ≠ p.block) (u : Value) : Blk (w.setCell p u) g t cs := (Below.heap_setCell w p u g hp).trans h
theorem Blk.below {B : Nat} (h : Blk w g t cs) (hb : Below B w w') (hg : g < B) : Blk w' g t cs := (hb.block g hg).trans h
theorem Blk.grown {row : Option Nat} (h : Blk w g t cs) (hb : w.grownBy w' row) (hg : some g ≠ row) : Blk w' g t cs := (hb.block g h.lt hg).trans h
theorem Blk.ne_ {g' : Nat} {t' : TypeId} {cs' : Array Value} (h : Blk w g t cs) (h' : Blk w g' t' cs') (hne : t ≠ t') : g ≠ g' := by
  rintro rfl
  unfold Blk at h h'
  rw [h] at h'
  injection h' with h'
  injection h' with _ ht
  exact hne ht
end

/-- A set of blocks. -/
abbrev Foot := Nat → Prop

/-- Of the old blocks only those of F have turned. -/
structure Only (F : Foot) (w w' : World) : Prop where
  os : w'.os = w.os
  tape : w'.tape = w.tape
  output : w'.output = w.output
  size : w.heap.size ≤ w'.heap.size
  block : ∀ i, i < w.heap.size → ¬ F i → w'.heap[i]? = w.heap[i]?

namespace Only
variable {F G : Foot} {a w w' w'' : World}
theorem refl (F : Foot) (w : World) : Only F w w := ⟨rfl, rfl, rfl, Nat.le_refl _, fun _ _ _ => rfl⟩
theorem trans (h : Only F a w) (k : Only G w w') (hG : ∀ i, G i → F i ∨ a.heap.size ≤ i) : Only F a w' :=
  ⟨k.os.trans h.os, k.tape.trans h.tape, k.output.trans h.output, Nat.le_trans h.size k.size,
   fun i hi hn => (k.block i (Nat.lt_of_lt_of_le hi h.size) (fun hg => by rcases hG i hg with h1 | h1; exact hn h1; omega)).trans (h.block i hi hn)⟩
theorem mono (h : Only F w w') (hG : ∀ i, F i → G i) : Only G w w' := ⟨h.os, h.tape, h.output, h.size, fun i hi hn => h.block i hi (fun hf => hn (hG i hf))⟩
theorem of_below (h : Below w.heap.size w w') (F : Foot) : Only F w w' := ⟨h.os, h.tape, h.output, h.size, fun i hi _ => h.block i hi⟩
theorem below (h : Only F w w') {B : Nat} (hB : B ≤ w.heap.size) (hF : ∀ i, F i → B ≤ i) : Below B w w' :=
  ⟨h.os, h.tape, h.output, h.size, fun i hi => h.block i (by omega) (fun hf => by have := hF i hf; omega)⟩
theorem drew (h : Only F a w) : Only F a w.drew := ⟨h.os, h.tape, h.output, h.size, h.block⟩
theorem drewN (h : Only F a w) (n : Nat) : Only F a (w.drewN n) := ⟨h.os, h.tape, h.output, h.size, h.block⟩
theorem alloc (h : Only F a w) (o : Obj) : Only F a (w.alloc o) :=
  ⟨h.os, h.tape, h.output, Nat.le_trans h.size (by simp), fun i hi hn => (Below.heap_alloc w o i (Nat.lt_of_lt_of_le hi h.size)).trans (h.block i hi hn)⟩
theorem setCell (h : Only F a w) {p : Addr} (hp : F p.block ∨ a.heap.size ≤ p.block) (u : Value) : Only F a (w.setCell p u) :=
  ⟨h.os, h.tape, h.output, by simpa [World.setCell] using h.size, fun i hi hn => (Below.heap_setCell w p u i (by
    rintro rfl
    rcases hp with hp | hp
    · exact hn hp
    · omega)).trans (h.block i hi hn)⟩
theorem blk {g : Nat} {t : TypeId} {cs : Array Value} (h : Only F w w') (hb : Blk w g t cs) (hg : ¬ F g) : Blk w' g t cs := (h.block g hb.lt hg).trans hb
theorem owns {base : Nat} {e : TypeId} {size : Nat} {v : Value} {n : Nat} {xs : List Value} (h : Only F w w') (ho : w.ownsRow base e size v n xs) (hn : ∀ g, v.ownBlock = some g → ¬ F g) : w'.ownsRow base e size v n xs := by
  refine ⟨ho.1, ?_⟩
  rcases ho.2 with h0 | ⟨g, cap, cur, hv, hb, hh, hr⟩
  · exact .inl h0
  · refine .inr ⟨g, cap, cur, hv, hb, ?_, hr⟩
    have hlt : g < w.heap.size := by
      rcases Nat.lt_or_ge g w.heap.size with hlt | hge
      · exact hlt
      · rw [Array.getElem?_eq_none hge] at hh; cases hh
    exact (h.block g hlt (hn g (by rw [hv]; rfl))).trans hh
theorem undrew (h : Only F w.drew w') : Only F w w' := ⟨h.os, h.tape, h.output, h.size, h.block⟩
theorem undrewN {n : Nat} (h : Only F (w.drewN n) w') : Only F w w' := ⟨h.os, h.tape, h.output, h.size, h.block⟩
theorem of_grown {row : Option Nat} (h : w.grownBy w' row) : Only (fun i => row = some i) w w' := ⟨h.os, h.tape, h.output, h.size, fun i hi hn => h.block i hi (fun e => hn e.symm)⟩
end Only
theorem own_blk_ne {w : World} {g : Nat} {t : TypeId} {cs : Array Value} {base : Nat} {e : TypeId} {size n : Nat} {v : Value} {xs : List Value} (h : w.ownsRow base e size v n xs) (hg : Blk w g t cs) (hne : e ≠ t) : v.ownBlock ≠ some g := by
  rcases h.2 with ⟨rfl, _⟩ | ⟨g', cap, cur, rfl, _, hh, _⟩
  · simp [Value.ownBlock]
  · intro he
    have : g' = g := by simpa [Value.ownBlock] using he
    subst this
    exact Blk.ne_ (t := e) hh hg hne rfl

theorem below_alloc {w w1 : World} {o : Obj} (hb : Below (w.alloc o).heap.size (w.alloc o) w1) : Below w.heap.size w w1 :=
  ((Below.refl _ _).alloc (Nat.le_refl _) _).trans (hb.mono (by simp))
theorem below_drew {w w1 : World} (hb : Below w.heap.size w.drew w1) : Below w.heap.size w w1 := ⟨hb.os, hb.tape, hb.output, hb.size, hb.block⟩

/-- A slice value whose elements are the cells xs ('size' cells each), read out of blocks of F. -/
def Reads (w : World) (F : Foot) (size : Nat) (A : Option Addr) (n : Nat) (xs : List Value) : Prop :=
  xs.length = n * size ∧ (0 < n → ∃ ad, A = some ad ∧ F ad.block ∧ ad.block < w.heap.size ∧ ∀ j u, xs[j]? = some u → w.cell? (ad.add j) = some u)

end Go.Proofs.YtebdkmlganalaaaGreatDoor

namespace Go.Proofs.YtebdkmlganalaaaGreatDoor

/-- Whether y is a leap year. -/
def lpB (y : Int) : Bool := (y % 4 == 0 && !(y % 100 == 0)) || y % 400 == 0
def lp (y : Int) : Int := if lpB y then 1 else 0
/-- The number of days of a year. -/
def yd (y : Int) : Int := 365 + lp y
/-- The days of February: a year out of range counts as a leap year. -/
def fb (y : Int) : Int := if lpB y || decide (y < 1600) || decide (9999 < y) then 29 else 28
/-- The days from the year 1600 to a year. -/
def beg (y : Int) : Int := 365 * (y - 1600) + (y - 1600 + 3) / 4 - (y - 1600 + 99) / 100 + (y - 1600 + 399) / 400
/-- The days of a month. -/
def ml (y m : Int) : Int :=
  if m = 2 then fb y else if m = 4 ∨ m = 6 ∨ m = 9 ∨ m = 11 then 30 else 31
/-- The days of a year before a month. -/
def cum (y m : Int) : Int :=
  if m ≤ 1 then 0 else if m ≤ 2 then 31 else (if m ≤ 3 then 31 else if m ≤ 4 then 62 else if m ≤ 5 then 92 else if m ≤ 6 then 123 else if m ≤ 7 then 153 else if m ≤ 8 then 184 else if m ≤ 9 then 215 else if m ≤ 10 then 245 else if m ≤ 11 then 276 else if m ≤ 12 then 306 else 337) + fb y

theorem lp_01 (y : Int) : lp y = 0 ∨ lp y = 1 := by unfold lp; split <;> simp
theorem yd_bd (y : Int) : 365 ≤ yd y ∧ yd y ≤ 366 := by unfold yd; have := lp_01 y; omega
theorem fb_bd (y : Int) : 28 ≤ fb y ∧ fb y ≤ 29 := by unfold fb; split <;> omega
theorem fb_in {y : Int} (h1 : 1600 ≤ y) (h2 : y ≤ 9999) : fb y = 28 + lp y := by
  unfold fb lp
  have e1 : decide (y < 1600) = false := by simpa using h1
  have e2 : decide (9999 < y) = false := by simpa using h2
  rw [e1, e2]
  cases lpB y <;> simp
theorem ml_bd (y m : Int) : 28 ≤ ml y m ∧ ml y m ≤ 31 := by
  have := fb_bd y
  unfold ml
  split
  · omega
  · split <;> omega
theorem cum_succ (y m : Int) (h1 : 1 ≤ m) (h2 : m ≤ 12) : cum y (m + 1) = cum y m + ml y m := by
  have hm : m = 1 ∨ m = 2 ∨ m = 3 ∨ m = 4 ∨ m = 5 ∨ m = 6 ∨ m = 7 ∨ m = 8 ∨ m = 9 ∨ m = 10 ∨ m = 11 ∨ m = 12 := by omega
  rcases hm with rfl | rfl | rfl | rfl | rfl | rfl | rfl | rfl | rfl | rfl | rfl | rfl <;> simp [cum, ml] <;> omega
theorem cum_one (y : Int) : cum y 1 = 0 := by simp [cum]
theorem cum_end {y : Int} (h1 : 1600 ≤ y) (h2 : y ≤ 9999) : cum y 13 = yd y := by
  have := fb_in h1 h2
  simp [cum, yd]
  omega
theorem cum_bd (y m : Int) (h1 : 1 ≤ m) (h2 : m ≤ 13) : 0 ≤ cum y m ∧ cum y m ≤ 366 := by
  have := fb_bd y
  have hm : m = 1 ∨ m = 2 ∨ m = 3 ∨ m = 4 ∨ m = 5 ∨ m = 6 ∨ m = 7 ∨ m = 8 ∨ m = 9 ∨ m = 10 ∨ m = 11 ∨ m = 12 ∨ m = 13 := by omega
  rcases hm with rfl | rfl | rfl | rfl | rfl | rfl | rfl | rfl | rfl | rfl | rfl | rfl | rfl <;> simp [cum] <;> omega
theorem cum_mono (y a b : Int) (h1 : 1 ≤ a) (h2 : a ≤ b) (h3 : b ≤ 13) : cum y a ≤ cum y b := by
  obtain ⟨k, rfl⟩ : ∃ k : Nat, b = a + k := ⟨(b - a).toNat, by omega⟩
  clear h2
  induction k with
  | zero => simp
  | succ k ih =>
    have := cum_succ y (a + k) (by omega) (by omega)
    have h := ih (by omega)
    have hb := ml_bd y (a + k)
    have e : a + ((k + 1 : Nat) : Int) = a + k + 1 := by omega
    rw [e]
    omega
theorem lpB_iff (y : Int) : lpB y = true ↔ (y % 4 = 0 ∧ y % 100 ≠ 0) ∨ y % 400 = 0 := by simp [lpB]
theorem beg_succ (y : Int) : beg (y + 1) = beg y + yd y := by
  unfold beg yd lp
  by_cases h : lpB y = true
  · rw [if_pos h]
    have := (lpB_iff y).1 h
    omega
  · rw [if_neg h]
    have : ¬ ((y % 4 = 0 ∧ y % 100 ≠ 0) ∨ y % 400 = 0) := fun c => h ((lpB_iff y).2 c)
    omega
theorem beg_400 (y : Int) : beg (y + 400) = beg y + 146097 := by unfold beg; omega
theorem beg_0 : beg 1600 = 0 := by decide
theorem beg_mono {a b : Int} (h : a ≤ b) : beg a ≤ beg b := by
  obtain ⟨k, rfl⟩ : ∃ k : Nat, b = a + k := ⟨(b - a).toNat, by omega⟩
  clear h
  induction k with
  | zero => simp
  | succ k ih =>
    have h1 := beg_succ (a + k)
    have h2 := yd_bd (a + k)
    have e : a + ((k + 1 : Nat) : Int) = a + k + 1 := by omega
    rw [e]
    omega

/-- A valid date. -/
def Vd (y m d : Int) : Prop := 1600 ≤ y ∧ y ≤ 9999 ∧ 1 ≤ m ∧ m ≤ 12 ∧ 1 ≤ d ∧ d ≤ ml y m
/-- Its number. -/
def num (y m d : Int) : Int := beg y + cum y m + (d - 1)

theorem num_in {y m d : Int} (h : Vd y m d) : beg y ≤ num y m d ∧ num y m d < beg (y + 1) := by
  obtain ⟨h1, h2, h3, h4, h5, h6⟩ := h
  have a := cum_bd y m h3 (by omega)
  have b := cum_succ y m h3 h4
  have c := cum_mono y (m + 1) 13 (by omega) (by omega) (Int.le_refl _)
  rw [cum_end h1 h2] at c
  have e := beg_succ y
  unfold num
  omega
/-- Two dates with one number are one. -/
theorem num_inj {y m d y' m' d' : Int} (h : Vd y m d) (h' : Vd y' m' d') (he : num y m d = num y' m' d') : y = y' ∧ m = m' ∧ d = d' := by
  have a := num_in h
  have b := num_in h'
  have hy : y = y' := by
    rcases Int.lt_trichotomy y y' with c | c | c
    · have := beg_mono (show y + 1 ≤ y' by omega)
      omega
    · exact c
    · have := beg_mono (show y' + 1 ≤ y by omega)
      omega
  subst hy
  obtain ⟨_, _, h3, h4, h5, h6⟩ := h
  obtain ⟨_, _, k3, k4, k5, k6⟩ := h'
  have c1 := cum_succ y m h3 h4
  have c2 := cum_succ y m' k3 k4
  unfold num at he
  have hm : m = m' := by
    rcases Int.lt_trichotomy m m' with c | c | c
    · have := cum_mono y (m + 1) m' (by omega) (by omega) (by omega)
      omega
    · exact c
    · have := cum_mono y (m' + 1) m (by omega) (by omega) (by omega)
      omega
  subst hm
  exact ⟨rfl, rfl, by omega⟩
theorem year_of (k : Nat) : ∀ n : Int, 0 ≤ n → n < beg (1600 + k) → ∃ y : Int, 1600 ≤ y ∧ y < 1600 + k ∧ beg y ≤ n ∧ n < beg (y + 1) := by
  induction k with
  | zero => intro n h1 h2; simp [beg_0] at h2; omega
  | succ k ih =>
    intro n h1 h2
    have e : (1600 : Int) + ((k + 1 : Nat) : Int) = 1600 + k + 1 := by omega
    by_cases h : n < beg (1600 + k)
    · obtain ⟨y, a, b, c, d⟩ := ih n h1 h
      exact ⟨y, a, by omega, c, d⟩
    · exact ⟨1600 + k, by omega, by omega, by omega, by rw [← e]; exact h2⟩
theorem month_of (y r : Int) (k : Nat) (hk : k ≤ 12) : 0 ≤ r → r < cum y (1 + k) → ∃ m : Int, 1 ≤ m ∧ m ≤ 12 ∧ cum y m ≤ r ∧ r < cum y (m + 1) := by
  induction k with
  | zero => intro h1 h2; simp [cum] at h2; omega
  | succ k ih =>
    intro h1 h2
    have e : (1 : Int) + ((k + 1 : Nat) : Int) = 1 + k + 1 := by omega
    by_cases h : r < cum y (1 + k)
    · exact ih (by omega) h1 h
    · exact ⟨1 + k, by omega, by omega, by omega, by rw [← e]; exact h2⟩
/-- Each day has a date. -/
theorem date_of {n : Int} (h0 : 0 ≤ n) (h1 : n ≤ 1000000) : ∃ y m d : Int, Vd y m d ∧ num y m d = n ∧ y ≤ 4400 := by
  have hb : beg (1600 + (2800 : Nat)) = 1022679 := by decide
  obtain ⟨y, a, b, c, e⟩ := year_of 2800 n h0 (by rw [hb]; omega)
  have hs := beg_succ y
  have hy : y ≤ 9999 := by omega
  obtain ⟨m, m1, m2, m3, m4⟩ := month_of y (n - beg y) 12 (Nat.le_refl _) (by omega) (by rw [show (1 : Int) + ((12 : Nat) : Int) = 13 from rfl, cum_end a hy]; omega)
  have hc := cum_succ y m m1 m2
  exact ⟨y, m, n - beg y - cum y m + 1, ⟨a, hy, m1, m2, by omega, by omega⟩, by unfold num; omega, by omega⟩

/-- What Day returns. -/
def dayS (y m d : Int) : Int × Int :=
  if m < 1 ∨ 12 < m ∨ d < 1 ∨ ml y m < d then (0, 1) else if y < 1600 ∨ 9999 < y then (0, 10) else if 1000000 < num y m d then (0, 10) else (num y m d, 0)
theorem dayS_yes {y m d : Int} (h : Vd y m d) (hn : num y m d ≤ 1000000) : dayS y m d = (num y m d, 0) := by
  obtain ⟨h1, h2, h3, h4, h5, h6⟩ := h
  unfold dayS
  rw [if_neg (by omega), if_neg (by omega), if_neg (by omega)]
theorem dayS_ok {y m d : Int} (h : (dayS y m d).2 = 0) : Vd y m d ∧ (dayS y m d).1 = num y m d ∧ 0 ≤ num y m d ∧ num y m d ≤ 1000000 := by
  unfold dayS at h ⊢
  split
  · rename_i h1; rw [if_pos h1] at h; cases h
  · rename_i h1
    split
    · rename_i h2; rw [if_neg h1, if_pos h2] at h; cases h
    · rename_i h2
      split
      · rename_i h3; rw [if_neg h1, if_neg h2, if_pos h3] at h; cases h
      · rename_i h3
        have hv : Vd y m d := ⟨by omega, by omega, by omega, by omega, by omega, by omega⟩
        have := num_in hv
        have b0 := beg_mono (show (1600 : Int) ≤ y by omega)
        rw [beg_0] at b0
        exact ⟨hv, rfl, by omega, by omega⟩
end Go.Proofs.YtebdkmlganalaaaGreatDoor

namespace Go.Proofs.YtebdkmlganalaaaGreatDoor
open Go.RowKit

theorem tmod_zero (y k : Int) : y.tmod k = 0 ↔ y % k = 0 := by
  rw [← Int.dvd_iff_emod_eq_zero, Int.dvd_iff_tmod_eq_zero]

theorem leap_any (w : World) (y : Int) : Calls Tryz.prog 125 #[.int .i64 y] w fun e w' => e = .returned (.bool (lpB y)) ∧ w = w' := by
  have t4 := tmod_zero y 4
  have t100 := tmod_zero y 100
  have t400 := tmod_zero y 400
  have hl : lpB y = (y % 4 == 0 && !(y % 100 == 0) || y % 400 == 0) := rfl
  obtain ⟨r, hr⟩ : ∃ r, lpB y = r := ⟨_, rfl⟩
  rw [hr]
  rw [hr] at hl
  by_cases a : y % 4 = 0
  · have a1 : (y.tmod 4 == 0) = true := by simpa using t4.2 a
    by_cases b : y % 100 = 0
    · have b1 : (y.tmod 100 != 0) = false := by simpa using t100.2 b
      by_cases c : y % 400 = 0
      · have c1 : (y.tmod 400 == 0) = true := by simpa using t400.2 c
        obtain rfl : r = true := by rw [hl]; simp [c]
        clear hl hr t4 t100 t400 a b c
        go_enter Tryz.func125, Tryz.ntmps125
        go_wp2
        go_ret
        exact ⟨rfl, rfl⟩
      · have c1 : (y.tmod 400 == 0) = false := by rw [beq_eq_false_iff_ne]; exact fun h => c (t400.1 h)
        obtain rfl : r = false := by rw [hl]; simp [b, c]
        clear hl hr t4 t100 t400 a b c
        go_enter Tryz.func125, Tryz.ntmps125
        go_wp2
        go_ret
        exact ⟨rfl, rfl⟩
    · have b1 : (y.tmod 100 != 0) = true := by rw [bne_iff_ne]; exact fun h => b (t100.1 h)
      obtain rfl : r = true := by rw [hl]; simp [a, b]
      clear hl hr t4 t100 t400 a b
      go_enter Tryz.func125, Tryz.ntmps125
      go_wp2
      go_ret
      exact ⟨rfl, rfl⟩
  · have a1 : (y.tmod 4 == 0) = false := by rw [beq_eq_false_iff_ne]; exact fun h => a (t4.1 h)
    have c : ¬ y % 400 = 0 := by omega
    have c1 : (y.tmod 400 == 0) = false := by rw [beq_eq_false_iff_ne]; exact fun h => c (t400.1 h)
    obtain rfl : r = false := by rw [hl]; simp [a, c]
    clear hl hr t4 t100 t400 a c
    go_enter Tryz.func125, Tryz.ntmps125
    go_wp2
    go_ret
    exact ⟨rfl, rfl⟩

theorem days_any (w : World) (y : Int) : Calls Tryz.prog 124 #[.int .i64 y] w fun e w' => e = .returned (.int .i64 (yd y)) ∧ w = w' := by
  cases hl : lpB y with
  | true =>
    have e : yd y = 366 := by unfold yd lp; rw [hl]; rfl
    rw [e]
    have HL := Lib.hid hl
    clear hl e
    go_enter Tryz.func124, Tryz.ntmps124
    go_wp2_with fail
    refine (leap_any _ y).mono ?_
    rintro e w1 ⟨rfl, rfl⟩
    rw [HL.out]
    go_wp2
    go_ret
    exact ⟨rfl, rfl⟩
  | false =>
    have e : yd y = 365 := by unfold yd lp; rw [hl]; rfl
    rw [e]
    have HL := Lib.hid hl
    clear hl e
    go_enter Tryz.func124, Tryz.ntmps124
    go_wp2_with fail
    refine (leap_any _ y).mono ?_
    rintro e w1 ⟨rfl, rfl⟩
    rw [HL.out]
    go_wp2
    go_ret
    exact ⟨rfl, rfl⟩

/-- Whether n is a day. -/
def isB (n : Int) : Bool := decide (0 ≤ n ∧ n ≤ 1000000)
theorem isB_iff (n : Int) : isB n = true ↔ 0 ≤ n ∧ n ≤ 1000000 := by simp [isB]
theorem is_any (w : World) (n : Int) : Calls Tryz.prog 77 #[.int .i64 n] w fun e w' => e = .returned (.bool (isB n)) ∧ w = w' := by
  by_cases h0 : 0 ≤ n
  · by_cases h1 : n ≤ 1000000
    · rw [(isB_iff n).2 ⟨h0, h1⟩]
      go_enter Tryz.func77, Tryz.ntmps77
      go_wp2
      go_ret
      exact ⟨rfl, rfl⟩
    · have e : isB n = false := by simp [isB]; omega
      rw [e]
      clear e
      go_enter Tryz.func77, Tryz.ntmps77
      go_wp2
      go_ret
      exact ⟨rfl, rfl⟩
  · have e : isB n = false := by simp [isB]; omega
    rw [e]
    clear e
    go_enter Tryz.func77, Tryz.ntmps77
    go_wp2
    go_ret
    exact ⟨rfl, rfl⟩

/-- The day of the week. -/
def wkd (n : Int) : Int := if isB n then (n + 5) % 7 else -1
theorem weekday_any (w : World) (n : Int) : Calls Tryz.prog 107 #[.int .i64 n] w fun e w' => e = .returned (.int .i64 (wkd n)) ∧ w = w' := by
  cases hl : isB n with
  | true =>
    have e : wkd n = (n + 5) % 7 := by unfold wkd; rw [hl]; rfl
    rw [e]
    obtain ⟨h0, h1⟩ := (isB_iff n).1 hl
    have HL := Lib.hid hl
    clear hl e
    go_enter Tryz.func107, Tryz.ntmps107
    go_wp2_with fail
    refine (is_any _ n).mono ?_
    rintro e w1 ⟨rfl, rfl⟩
    rw [HL.out]
    go_wp2
    go_ret
    exact ⟨rfl, rfl⟩
  | false =>
    have e : wkd n = -1 := by unfold wkd; rw [hl]; rfl
    rw [e]
    have HL := Lib.hid hl
    clear hl e
    go_enter Tryz.func107, Tryz.ntmps107
    go_wp2_with fail
    refine (is_any _ n).mono ?_
    rintro e w1 ⟨rfl, rfl⟩
    rw [HL.out]
    go_wp2
    go_ret
    exact ⟨rfl, rfl⟩

/-- The lengths of the months of a year, as an array. -/
def lens (y : Int) : Value := .agg #[.int .i64 31, .int .i64 (fb y), .int .i64 31, .int .i64 30, .int .i64 31, .int .i64 30, .int .i64 31, .int .i64 31, .int .i64 30, .int .i64 31, .int .i64 30, .int .i64 31]
set_option maxHeartbeats 400000 in
theorem months_any (w : World) (y : Int) : Calls Tryz.prog 109 #[.int .i64 y] w fun e w' => e = .returned (lens y) ∧ Below w.heap.size w w' := by
  unfold lens
  cases hl : lpB y with
  | true =>
    have e : fb y = 29 := by unfold fb; rw [hl]; rfl
    rw [e]
    have HL := Lib.hid hl
    clear hl e
    go_enter Tryz.func109, Tryz.ntmps109
    go_wp2_with fail
    refine (leap_any _ y).mono ?_
    rintro e w1 ⟨rfl, rfl⟩
    rw [HL.out]
    go_wp2
    refine bodyPost_ret (v := .agg #[.int .i64 31, .int .i64 29, .int .i64 31, .int .i64 30, .int .i64 31, .int .i64 30, .int .i64 31, .int .i64 31, .int .i64 30, .int .i64 31, .int .i64 30, .int .i64 31]) (by simp [results, Tryz.results109, go_sem]) rfl ⟨rfl, ?_⟩
    exact ((Below.refl _ _).alloc (Nat.le_refl _) _).alloc (by simp) _
  | false =>
    have HL := Lib.hid hl
    by_cases h0 : y < 1600
    · have e : fb y = 29 := by unfold fb; rw [hl, show decide (y < 1600) = true by simpa using h0]; rfl
      rw [e]
      clear hl e
      go_enter Tryz.func109, Tryz.ntmps109
      go_wp2_with fail
      refine (leap_any _ y).mono ?_
      rintro e w1 ⟨rfl, rfl⟩
      rw [HL.out]
      go_wp2
      refine bodyPost_ret (v := .agg #[.int .i64 31, .int .i64 29, .int .i64 31, .int .i64 30, .int .i64 31, .int .i64 30, .int .i64 31, .int .i64 31, .int .i64 30, .int .i64 31, .int .i64 30, .int .i64 31]) (by simp [results, Tryz.results109, go_sem]) rfl ⟨rfl, ?_⟩
      exact ((Below.refl _ _).alloc (Nat.le_refl _) _).alloc (by simp) _
    · by_cases h1 : 9999 < y
      · have e : fb y = 29 := by unfold fb; rw [hl, show decide (9999 < y) = true by simpa using h1]; simp
        rw [e]
        clear hl e
        go_enter Tryz.func109, Tryz.ntmps109
        go_wp2_with fail
        refine (leap_any _ y).mono ?_
        rintro e w1 ⟨rfl, rfl⟩
        rw [HL.out]
        go_wp2
        refine bodyPost_ret (v := .agg #[.int .i64 31, .int .i64 29, .int .i64 31, .int .i64 30, .int .i64 31, .int .i64 30, .int .i64 31, .int .i64 31, .int .i64 30, .int .i64 31, .int .i64 30, .int .i64 31]) (by simp [results, Tryz.results109, go_sem]) rfl ⟨rfl, ?_⟩
        exact ((Below.refl _ _).alloc (Nat.le_refl _) _).alloc (by simp) _
      · have e : fb y = 28 := by unfold fb; rw [hl, show decide (9999 < y) = false by simpa using h1, show decide (y < 1600) = false by simpa using h0]; rfl
        rw [e]
        clear hl e
        go_enter Tryz.func109, Tryz.ntmps109
        go_wp2_with fail
        refine (leap_any _ y).mono ?_
        rintro e w1 ⟨rfl, rfl⟩
        rw [HL.out]
        go_wp2
        refine bodyPost_ret (v := .agg #[.int .i64 31, .int .i64 28, .int .i64 31, .int .i64 30, .int .i64 31, .int .i64 30, .int .i64 31, .int .i64 31, .int .i64 30, .int .i64 31, .int .i64 30, .int .i64 31]) (by simp [results, Tryz.results109, go_sem]) rfl ⟨rfl, ?_⟩
        exact ((Below.refl _ _).alloc (Nat.le_refl _) _).alloc (by simp) _

theorem begin_any (w : World) (y : Int) (h0 : 1600 ≤ y) (h1 : y ≤ 9999) : Calls Tryz.prog 126 #[.int .i64 y] w fun e w' => e = .returned (.int .i64 (beg y)) ∧ w = w' := by
  have hbb := beg_mono h1
  have hbe : beg 9999 = 3067672 := by decide
  rw [hbe] at hbb
  clear hbe
  go_enter Tryz.func126, Tryz.ntmps126
  go_wp2_with fail
  go_loop [3, 4] (fun n v => ∃ x : Int, 1600 ≤ x ∧ x ≤ y ∧ v = .int .i64 x ∧ n = .int .i64 (beg x)) (fun _ v => (y - intOf v).toNat)
  case atStart => exact ⟨1600, by omega, h0, rfl, by rw [beg_0]⟩
  case round =>
    obtain ⟨x, hx0, hx1, rfl, rfl⟩ := hrel
    have hb0 := beg_mono hx0
    rw [beg_0] at hb0
    have hb1 := beg_mono hx1
    by_cases hlt : x < y
    · by_cases hc : x % 400 = 0 ∧ x + 400 ≤ y
      · obtain ⟨hc1, hc2⟩ := hc
        have hcb : (x % 400 == 0) = true := by simpa using hc1
        have HS := Lib.hid (beg_400 x)
        generalize beg x = bx at *
        clear hc1
        go_wp2
        go_round
        case rel => exact ⟨x + 400, by omega, hc2, rfl, by rw [HS.out]⟩
        case measure => simp [intOf]; omega
      · have HS := Lib.hid (beg_succ x)
        have hyd := yd_bd x
        generalize beg x = bx at *
        by_cases hc1 : x % 400 = 0
        · have hc2 : ¬ x + 400 ≤ y := fun h => hc ⟨hc1, h⟩
          have hcb : (x % 400 == 0) = true := by simpa using hc1
          clear hc hc1
          go_wp2_with fail
          refine (days_any _ x).mono ?_
          rintro e w1 ⟨rfl, rfl⟩
          generalize yd x = yx at *
          go_wp2
          go_round
          case rel => exact ⟨x + 1, by omega, by omega, rfl, by rw [HS.out]⟩
          case measure => simp [intOf]; omega
        · have hcb : (x % 400 == 0) = false := by simpa using hc1
          clear hc hc1
          go_wp2_with fail
          refine (days_any _ x).mono ?_
          rintro e w1 ⟨rfl, rfl⟩
          generalize yd x = yx at *
          go_wp2
          go_round
          case rel => exact ⟨x + 1, by omega, by omega, rfl, by rw [HS.out]⟩
          case measure => simp [intOf]; omega
    · obtain rfl : x = y := by omega
      go_wp2
      go_ret
      exact ⟨rfl, rfl⟩
end Go.Proofs.YtebdkmlganalaaaGreatDoor
