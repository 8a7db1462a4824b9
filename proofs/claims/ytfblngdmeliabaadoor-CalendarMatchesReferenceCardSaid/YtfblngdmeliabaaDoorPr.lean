/- The reference's texts of days: digits, Text. -/
import Derived.Test.YtfblngdmeliabaaDoorPq
import Derived.Test.YtfblngdmeliabaaDoorVe
namespace Go.Proofs.YtfblngdmeliabaaDoor
open Go.RowKit Go.Shelf

/-- The last digits of a number. -/
def lastD : Nat → Nat → List UInt8
  | 0, _ => []
  | i + 1, n => lastD i (n / 10) ++ [c8 (n % 10)]
theorem lastD_front : ∀ i n, lastD (i + 1) n = c8 (n / 10 ^ i % 10) :: lastD i n
  | 0, n => by simp [lastD]
  | i + 1, n => by
    show lastD (i + 1) (n / 10) ++ [c8 (n % 10)] = _
    rw [lastD_front i (n / 10), Nat.div_div_eq_div_mul, List.cons_append]
    congr 3
    rw [Nat.pow_succ, Nat.mul_comm]
theorem lastD_len : ∀ i n, (lastD i n).length = i
  | 0, _ => rfl
  | i + 1, n => by simp [lastD, lastD_len i]
def digS (i n : Nat) : ByteArray := ⟨(lastD i n).toArray⟩
theorem digS_size (i n : Nat) : (digS i n).size = i := by
  show (lastD i n).toArray.size = i
  rw [List.size_toArray, lastD_len]
theorem digS_next (i n : Nat) : ⟨#[c8 (n / 10 ^ i % 10)]⟩ ++ digS i n = digS (i + 1) n := by
  apply ByteArray.ext
  apply Array.ext'
  rw [ByteArray.data_append, Array.toList_append]
  show [c8 (n / 10 ^ i % 10)] ++ lastD i n = lastD (i + 1) n
  rw [lastD_front]
  rfl
theorem dig_slice (d : Nat) (h : d < 10) (W : World) : (Instr.slice 9 (.string ⟨#[48, 49, 50, 51, 52, 53, 54, 55, 56, 57]⟩) (some (.int .i64 (d : Int))) (some (.int .i64 ((d : Int) + 1))) none).run Tryd.prog W = .ok (.string ⟨#[c8 d]⟩) W := by
  have e : ((d : Int) + 1) = ((d + 1 : Nat) : Int) := rfl
  have hs : ((⟨#[48, 49, 50, 51, 52, 53, 54, 55, 56, 57]⟩ : ByteArray).size : Int) = 10 := rfl
  rw [run_slice_string (P := Tryd.prog) (w := W) 9 _ .i64 .i64 (d : Int) ((d : Int) + 1) (by kernel_rfl) (by omega) (by omega) (by rw [hs]; omega)]
  congr 2
  rw [Int.toNat_natCast, e, Int.toNat_natCast]
  match d, h with
  | 0, _ => rfl
  | 1, _ => rfl
  | 2, _ => rfl
  | 3, _ => rfl
  | 4, _ => rfl
  | 5, _ => rfl
  | 6, _ => rfl
  | 7, _ => rfl
  | 8, _ => rfl
  | 9, _ => rfl

set_option maxHeartbeats 1000000 in
theorem digits_any (w : World) (N wd : Nat) (hN : N ≤ 9223372036854775807) (hw : wd ≤ 10) : Calls Tryd.prog 49 #[.int .i64 (N : Int), .int .i64 (wd : Int)] w fun e w' => e = .returned (.string (digS wd N)) ∧ w = w' := by
  go_enter Tryd.func49, Tryd.ntmps49
  go_wp2_with fail
  go_loopw [0, 5, 6] (fun n s i wr => wr = w ∧ ∃ k c : Nat, k ≤ wd ∧ i = .int .i64 (k : Int) ∧ n = .int .i64 (c : Int) ∧ s = .string (digS k N) ∧ Hid (N / 10 ^ k = c)) (fun _ _ i _ => wd - (intOf i).toNat)
  case atStart => exact ⟨rfl, 0, N, Nat.zero_le _, rfl, rfl, rfl, Lib.hid (by simp)⟩
  case round =>
    obtain ⟨rfl, k, c, hk, rfl, rfl, rfl, HK⟩ := hrel
    have hc : c ≤ N := by rw [← HK.out]; exact Nat.div_le_self _ _
    by_cases hlt : k < wd
    · obtain ⟨d, hd⟩ : ∃ d, c % 10 = d := ⟨_, rfl⟩
      have hd10 : d < 10 := by omega
      obtain ⟨q, hq⟩ : ∃ q, c / 10 = q := ⟨_, rfl⟩
      have hmod : ((c : Nat) : Int) % 10 = (d : Int) := by omega
      have hmod2 : ((c : Nat) : Int).tmod 10 = (d : Int) := by rw [Int.tmod_eq_emod_of_nonneg (by omega)]; exact hmod
      have hdiv : ((c : Nat) : Int).tdiv 10 = (q : Int) := by rw [Int.tdiv_eq_ediv_of_nonneg (by omega)]; omega
      have hdiv2 : ((c : Nat) : Int) / 10 = (q : Int) := by omega
      have sl := dig_slice d hd10
      have hnx := digS_next k N
      rw [HK.out, hd] at hnx
      have hz := digS_size k N
      have hsum : ∀ W : World, (Op.stringOp .add ⟨#[c8 d]⟩ (digS k N)).run Tryd.prog W = .ok (.string (digS (k + 1) N)) W := fun W => by
        have := run_string_add_sum (P := Tryd.prog) (w := W) ⟨#[c8 d]⟩ (digS k N) (by rw [hz]; show 1 + k ≤ _; omega)
        rw [hnx] at this
        exact this
      have HD := Lib.hid hd
      have hnn : N / 10 ^ (k + 1) = q := by rw [← hq, ← HK.out, Nat.pow_succ, Nat.div_div_eq_div_mul]
      have HNN := Lib.hid hnn
      clear hnx hz hd hnn hq
      go_wp2
      go_roundw
      case rel => exact ⟨by first | trivial | rfl, k + 1, q, by omega, by go_num, rfl, rfl, HNN⟩
      case measure => simp [intOf]; omega
    · obtain rfl : k = wd := by omega
      go_wp2
      go_ret
      exact ⟨rfl, rfl⟩
end Go.Proofs.YtfblngdmeliabaaDoor
