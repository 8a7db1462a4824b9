/- What two and Text of package calendar return. -/
import Derived.Test.YtfblngdmeliabaaDoorCc
import Derived.Test.YtfblngdmeliabaaDoorSi
import Derived.Lib.AppendIntMem
namespace Go.Proofs.YtfblngdmeliabaaDoor
open Go.RowKit

/-- The library's table of powers of ten stands. -/
def Tab (w : World) : Prop := Lib.TabIs Tryd.prog w "internal/strconv.uint64pow10" .u64 Lib.pow10Tab
theorem Tab.below {w w' : World} (h : Tab w) (hb : Below w.heap.size w w') : Tab w' := Lib.tabBelow_of_tabIs h w' hb

theorem itoa_below (w : World) (n : Int) (h0 : -9223372036854775808 ≤ n) (h1 : n ≤ 9223372036854775807) (ht : Tab w) : Calls Tryd.prog 47 #[.int .i64 n] w fun e w' => e = .returned (.string ⟨(Lib.itoa n).toArray⟩) ∧ Below w.heap.size w w' :=
  (itoa_any n h0 h1 w ht).mono fun _ _ ⟨he, k, os, hw⟩ => ⟨he, hw ▸ Lib.below_grow _ _ (Nat.le_refl _) k os⟩

/-- Two digits. -/
def dg2 (n : Int) : ByteArray := ⟨#[UInt8.ofNat (48 + n / 10).toNat, UInt8.ofNat (48 + n % 10).toNat]⟩

set_option maxRecDepth 100000 in
theorem two_any (w : World) (n : Int) (h0 : 0 ≤ n) (h1 : n < 100) : Calls Tryd.prog 48 #[.int .i64 n] w fun e w' => e = .returned (.string (dg2 n)) ∧ Below w.heap.size w w' := by
  have a1 : 0 ≤ n / 10 := by omega
  have a2 : n / 10 < 10 := by omega
  have b1 : 0 ≤ n % 10 := by omega
  have b2 : n % 10 < 10 := by omega
  have t1 : n.tdiv 10 = n / 10 := Int.tdiv_eq_ediv_of_nonneg h0
  have t2 : n.tmod 10 = n % 10 := Int.tmod_eq_emod_of_nonneg h0
  go_enter Tryd.func48, Tryd.ntmps48
  go_wp2
  have hb := Blk.new w 5 #[.int .u8 (48 + n / 10), .int .u8 (48 + n % 10)]
  have cv := run_convert_bytes_arg (P := Tryd.prog) (w.alloc (.cells #[.int .u8 (48 + n / 10), .int .u8 (48 + n % 10)] 5)) 75 5 (by kernel_rfl) (by kernel_rfl) w.heap.size 0 2 2 [48 + n / 10, 48 + n % 10] rfl (fun i hi => by
    rw [hb.cell]
    match i, hi with
    | 0, _ => rfl
    | 1, _ => rfl) 9 (by kernel_rfl)
  have e : strOfNums [48 + n / 10, 48 + n % 10] = dg2 n := rfl
  rw [e] at cv
  rw [cv]
  go_wp2
  go_ret
  exact ⟨rfl, (Below.refl _ w).alloc (Nat.le_refl _) _⟩

/-- The text of a date. -/
def textB (y m d : Int) : ByteArray := ⟨(Lib.itoa y).toArray⟩ ++ ⟨#[45]⟩ ++ dg2 m ++ ⟨#[45]⟩ ++ dg2 d

theorem dg2_size (n : Int) : (dg2 n).size = 2 := rfl

/-- The four digits of a year. -/
theorem itoa_four {y : Int} (h1 : 1000 ≤ y) (h2 : y ≤ 9999) : Lib.itoa y = [UInt8.ofNat (48 + y.toNat / 1000), UInt8.ofNat (48 + y.toNat / 100 % 10), UInt8.ofNat (48 + y.toNat / 10 % 10), UInt8.ofNat (48 + y.toNat % 10)] := by
  unfold Lib.itoa
  rw [if_neg (by omega)]
  generalize hu : y.toNat = u
  rw [Lib.decDigits, dif_neg (by omega), Lib.decDigits, dif_neg (by omega), Lib.decDigits, dif_neg (by omega), Lib.decDigits, dif_pos (by omega)]
  simp only [Nat.div_div_eq_div_mul]
  rfl
theorem itoa_len {y : Int} (h1 : 1000 ≤ y) (h2 : y ≤ 9999) : (Lib.itoa y).length = 4 := by rw [itoa_four h1 h2]; rfl

theorem text_no (w : World) (n : Int) (h : isB n = false) : Calls Tryd.prog 26 #[.int .i64 n] w fun e w' => e = .returned (.string ⟨#[]⟩) ∧ w = w' := by
  go_enter Tryd.func26, Tryd.ntmps26
  go_wp2_with fail
  refine (date_no _ _ h).mono ?_
  rintro e w4 ⟨rfl, rfl⟩
  go_wp2
  go_ret
  exact ⟨rfl, rfl⟩

set_option maxRecDepth 100000 in
theorem text_yes (w : World) (ht : Tab w) (y m d : Int) (hv : Vd y m d) (hn : num y m d ≤ 1000000) : Calls Tryd.prog 26 #[.int .i64 (num y m d)] w fun e w' => e = .returned (.string (textB y m d)) ∧ Below w.heap.size w w' := by
  have hd := fun W => date_yes W y m d hv hn
  obtain ⟨y1, y2, m1, m2, d1, d2⟩ := hv
  have := (ml_bd y m).2
  have d3 : d ≤ 31 := by omega
  have hl := itoa_len (show 1000 ≤ y by omega) y2
  have hs : textB y m d = ⟨(Lib.itoa y).toArray⟩ ++ ⟨#[45]⟩ ++ dg2 m ++ ⟨#[45]⟩ ++ dg2 d := rfl
  have s1 : (⟨(Lib.itoa y).toArray⟩ : ByteArray).size = 4 := by simpa [ByteArray.size] using hl
  obtain ⟨A, hA⟩ : ∃ A : ByteArray, A = ⟨(Lib.itoa y).toArray⟩ := ⟨_, rfl⟩
  have hi := fun W ht => itoa_below W y (by omega) (by omega) ht
  rw [← hA] at hs s1 hi
  have hm := fun W => two_any W m (by omega) (by omega)
  have hdd := fun W => two_any W d (by omega) (by omega)
  have sm := dg2_size m
  have sd := dg2_size d
  generalize dg2 m = M at *
  generalize dg2 d = D at *
  have e1 : (A ++ ⟨#[45]⟩ : ByteArray).size = 5 := by rw [ByteArray.size_append, s1]; rfl
  have e2 : (A ++ ⟨#[45]⟩ ++ M : ByteArray).size = 7 := by rw [ByteArray.size_append, e1, sm]
  have e3 : (A ++ ⟨#[45]⟩ ++ M ++ ⟨#[45]⟩ : ByteArray).size = 8 := by rw [ByteArray.size_append, e2]; rfl
  have a1 : ∀ W : World, (Op.stringOp .add A ⟨#[45]⟩).run Tryd.prog W = .ok (.string (A ++ ⟨#[45]⟩)) W := fun W => run_string_add_sum W _ _ (by rw [s1]; decide)
  have a2 : ∀ W : World, (Op.stringOp .add (A ++ ⟨#[45]⟩) M).run Tryd.prog W = .ok (.string (A ++ ⟨#[45]⟩ ++ M)) W := fun W => run_string_add_sum W _ _ (by rw [e1, sm]; decide)
  have a3 : ∀ W : World, (Op.stringOp .add (A ++ ⟨#[45]⟩ ++ M) ⟨#[45]⟩).run Tryd.prog W = .ok (.string (A ++ ⟨#[45]⟩ ++ M ++ ⟨#[45]⟩)) W := fun W => run_string_add_sum W _ _ (by rw [e2]; decide)
  have a4 : ∀ W : World, (Op.stringOp .add (A ++ ⟨#[45]⟩ ++ M ++ ⟨#[45]⟩) D).run Tryd.prog W = .ok (.string (A ++ ⟨#[45]⟩ ++ M ++ ⟨#[45]⟩ ++ D)) W := fun W => run_string_add_sum W _ _ (by rw [e3, sd]; decide)
  clear hl hA s1 sm sd e1 e2 e3
  go_enter Tryd.func26, Tryd.ntmps26
  go_wp2_with fail
  refine (hd _).mono ?_
  rintro e w1 ⟨rfl, b1⟩
  go_wp2_with fail
  refine (hi _ (ht.below b1)).mono ?_
  rintro e w2 ⟨rfl, b2⟩
  go_wp2_with fail
  refine (hm _).mono ?_
  rintro e w3 ⟨rfl, b3⟩
  go_wp2_with fail
  refine (hdd _).mono ?_
  rintro e w4 ⟨rfl, b4⟩
  go_wp2
  go_ret
  rw [hs]
  exact ⟨rfl, ((b1.trans (b2.mono b1.size)).trans (b3.mono (Nat.le_trans b1.size b2.size))).trans (b4.mono (Nat.le_trans b1.size (Nat.le_trans b2.size b3.size)))⟩
end Go.Proofs.YtfblngdmeliabaaDoor
