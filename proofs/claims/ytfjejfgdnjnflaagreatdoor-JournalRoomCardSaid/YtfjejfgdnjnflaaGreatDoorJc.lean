/- The digest: Sum, whole. -/
import Derived.Test.YtfjejfgdnjnflaaGreatDoorJb
namespace Go.Proofs.YtfjejfgdnjnflaaGreatDoor
open Go.RowKit Go.Shelf

theorem bs_extract (l : List UInt8) (a b : Nat) : (bs l).extract a b = bs ((l.drop a).take (b - a)) := by
  apply ByteArray.ext
  apply Array.ext'
  rw [ByteArray.data_extract]
  show ((l.toArray).extract a b).toList = (l.drop a).take (b - a)
  rw [Array.toList_extract]
theorem bs_append (a b : List UInt8) : bs a ++ bs b = bs (a ++ b) := by
  apply ByteArray.ext
  apply Array.ext'
  rw [ByteArray.data_append, Array.toList_append]
  rfl
def strSize : Value → Nat
  | .string s => s.size
  | _ => 0
theorem sl_to (l : List UInt8) (k : Nat) (h : k ≤ l.length) (W : World) : (Instr.slice 9 (.string (bs l)) none (some (.int .i64 (k : Int))) none).run Tryz.prog W = .ok (.string (bs (l.take k))) W := by
  have h2 : (k : Int) ≤ (bs l).size := by rw [bs_size]; omega
  rw [run_slice_string_h (P := Tryz.prog) W 9 (bs l) (by kernel_rfl) .i64 (k : Int) (by omega) h2]
  rw [Int.toNat_natCast, bs_extract]
  simp
theorem sl_from (l : List UInt8) (k : Nat) (h : k ≤ l.length) (W : World) : (Instr.slice 9 (.string (bs l)) (some (.int .i64 (k : Int))) none none).run Tryz.prog W = .ok (.string (bs (l.drop k))) W := by
  have h2 : (k : Int) ≤ (bs l).size := by rw [bs_size]; omega
  rw [run_slice_string_l (P := Tryz.prog) W 9 (bs l) (by kernel_rfl) .i64 (k : Int) (by omega) h2]
  rw [Int.toNat_natCast, bs_extract, bs_size, List.take_of_length_le (by simp)]

set_option maxRecDepth 100000 in
set_option maxHeartbeats 4000000 in
theorem sum_any (w : World) (l : List UInt8) (hl : l.length ≤ 4611686018427387904) : Calls Tryz.prog 91 #[.string (bs l)] w fun e w' => e = .returned (.string (bs (sumL l))) ∧ Below w.heap.size w w' := by
  have hsz := bs_size l
  obtain ⟨F, hF⟩ : ∃ F, sumN (l.length / 8) (startN l.length) l = F := ⟨_, rfl⟩
  have hFl : F < two64 := by rw [← hF]; exact sumN_lt _ _ _
  have hr : sumL l = hexL F := by unfold sumL; rw [hF]
  rw [hr]
  obtain ⟨st0, hst⟩ : ∃ st0, startN l.length = st0 := ⟨_, rfl⟩
  have e1 : bits .xor .u64 1442695040888963407 (l.length : Int) = (st0 : Int) := by
    rw [← hst]
    exact bits_xor_u64_nat 1442695040888963407 l.length (by decide) (by omega)
  have hs0 : st0 < two64 := by rw [← hst]; exact xor_lt (by decide) (by unfold two64; omega)
  rw [hst] at hF
  have g0 := Blk.new w 123 #[.int .u64 st0]
  have hb := (Below.refl w.heap.size w).alloc (Nat.le_refl _) (.cells #[.int .u64 st0] 123)
  have HF := Lib.hid hF
  clear hF hr hst
  go_enter Tryz.func91, Tryz.ntmps91
  go_upto_block 0 with fail
  generalize w.alloc (.cells #[.int .u64 st0] 123) = w2 at *
  clear hsz e1
  go_wp2_with fail
  go_loopw [0] (fun s wr => ∃ (m : List UInt8) (st : Nat), s = .string (bs m) ∧ m.length ≤ l.length ∧ st < two64 ∧ Hid (sumN (m.length / 8) st m = F) ∧ Blk wr w.heap.size 123 #[.int .u64 st] ∧ Below w.heap.size w wr) (fun s _ => strSize s)
  case atStart => exact ⟨l, st0, rfl, Nat.le_refl _, hs0, HF, g0, hb⟩
  case round =>
    clear g0 hb HF hs0
    obtain ⟨m, st, rfl, hm, hst, HM, g0, hb⟩ := hrel
    have hsz := bs_size m
    by_cases h8 : 8 ≤ m.length
    · have s1 : ∀ W : World, (Instr.slice 9 (.string (bs m)) none (some (.int .i64 8)) none).run Tryz.prog W = .ok (.string (bs (m.take 8))) W := sl_to m 8 h8
      have s2 : ∀ W : World, (Instr.slice 9 (.string (bs m)) (some (.int .i64 8)) none none).run Tryz.prog W = .ok (.string (bs (m.drop 8))) W := sl_from m 8 h8
      have d8 : decide (8 ≤ (m.length : Int)) = true := decide_eq_true (by omega)
      have hl8 : (bs (m.take 8)).size = 8 := by rw [bs_size, List.length_take]; omega
      have HL8 := Lib.hid hl8
      clear hl8
      go_wp2_with fail
      have htk := take_any wr w.heap.size st hst g0 (bs (m.take 8)) (by rw [HL8.out]; exact Nat.le_refl _)
      ((with_reducible refine htk.mono ?_); rintro e w3 ⟨rfl, g3, O3⟩)
      clear htk
      have hb3 : Below w.heap.size w w3 := hb.trans (O3.below hb.size (fun i hi => by rw [hi]; exact Nat.le_refl _))
      clear O3 g0 hb
      have hnx : sumN ((m.drop 8).length / 8) (mixN (st ^^^ blockN (m.take 8))) (m.drop 8) = F := by
        rw [← HM.out, show m.length / 8 = (m.drop 8).length / 8 + 1 by rw [List.length_drop]; omega]
        rfl
      have g4 : Blk w3 w.heap.size 123 #[.int .u64 (mixN (st ^^^ blockN (m.take 8)) : Nat)] := g3
      have hmx := mixN_lt (st ^^^ blockN (m.take 8))
      generalize mixN (st ^^^ blockN (m.take 8)) = st' at *
      have HNX := Lib.hid hnx
      clear hnx g3
      go_wp2
      go_roundw
      case rel => exact ⟨m.drop 8, st', rfl, by rw [List.length_drop]; omega, hmx, HNX, g4, hb3⟩
      case measure =>
        show (bs (m.drop 8)).size < (bs m).size
        rw [bs_size, bs_size, List.length_drop]; omega
    · have d8 : decide (8 ≤ (m.length : Int)) = false := decide_eq_false (by omega)
      have hlt8 : (bs m).size ≤ 8 := by rw [bs_size]; omega
      have HL8 := Lib.hid hlt8
      clear hlt8
      go_wp2_with fail
      have htk := take_any wr w.heap.size st hst g0 (bs m) HL8.out
      ((with_reducible refine htk.mono ?_); rintro e w3 ⟨rfl, g3, O3⟩)
      clear htk
      have hb3 : Below w.heap.size w w3 := hb.trans (O3.below hb.size (fun i hi => by rw [hi]; exact Nat.le_refl _))
      have hfin : mixN (st ^^^ blockN m) = F := by
        rw [← HM.out, show m.length / 8 = 0 by omega]
        rfl
      have g4 : Blk w3 w.heap.size 123 #[.int .u64 (F : Nat)] := by rw [← hfin]; exact g3
      clear O3 g0 hb g3 hfin hsz d8
      go_wp2_with fail
      refine (digits16_any w3).mono ?_
      rintro e w4 ⟨he, b⟩
      obtain rfl : e = .returned (.agg #[.int .u8 48, .int .u8 49, .int .u8 50, .int .u8 51, .int .u8 52, .int .u8 53, .int .u8 54, .int .u8 55, .int .u8 56, .int .u8 57, .int .u8 97, .int .u8 98, .int .u8 99, .int .u8 100, .int .u8 101, .int .u8 102]) := he
      have g5 := (g4.below b g4.lt)
      have hb4 := hb3.trans (b.mono hb3.size)
      clear b g4 hb3
      have x0 : Blk ((w4.alloc (.cells #[.int .u8 48, .int .u8 49, .int .u8 50, .int .u8 51, .int .u8 52, .int .u8 53, .int .u8 54, .int .u8 55, .int .u8 56, .int .u8 57, .int .u8 97, .int .u8 98, .int .u8 99, .int .u8 100, .int .u8 101, .int .u8 102] 132)).alloc (.cells #[.int .u8 0, .int .u8 0, .int .u8 0, .int .u8 0, .int .u8 0, .int .u8 0, .int .u8 0, .int .u8 0, .int .u8 0, .int .u8 0, .int .u8 0, .int .u8 0, .int .u8 0, .int .u8 0, .int .u8 0, .int .u8 0] 132)) w4.heap.size 132 hexA := (Blk.new w4 132 hexA).alloc _
      have o0 : Blk ((w4.alloc (.cells #[.int .u8 48, .int .u8 49, .int .u8 50, .int .u8 51, .int .u8 52, .int .u8 53, .int .u8 54, .int .u8 55, .int .u8 56, .int .u8 57, .int .u8 97, .int .u8 98, .int .u8 99, .int .u8 100, .int .u8 101, .int .u8 102] 132)).alloc (.cells #[.int .u8 0, .int .u8 0, .int .u8 0, .int .u8 0, .int .u8 0, .int .u8 0, .int .u8 0, .int .u8 0, .int .u8 0, .int .u8 0, .int .u8 0, .int .u8 0, .int .u8 0, .int .u8 0, .int .u8 0, .int .u8 0] 132)) (w4.heap.size + 1) 132 (filV 16 (fun i => .int .u8 ((hexc (F >>> (60 - 4 * i) % 16)).toNat : Int)) (.int .u8 0) 0) := Blk.new1 w4 (.cells #[.int .u8 48, .int .u8 49, .int .u8 50, .int .u8 51, .int .u8 52, .int .u8 53, .int .u8 54, .int .u8 55, .int .u8 56, .int .u8 57, .int .u8 97, .int .u8 98, .int .u8 99, .int .u8 100, .int .u8 101, .int .u8 102] 132) 132 _
      have g6 := (g5.alloc (.cells #[.int .u8 48, .int .u8 49, .int .u8 50, .int .u8 51, .int .u8 52, .int .u8 53, .int .u8 54, .int .u8 55, .int .u8 56, .int .u8 57, .int .u8 97, .int .u8 98, .int .u8 99, .int .u8 100, .int .u8 101, .int .u8 102] 132)).alloc (.cells #[.int .u8 0, .int .u8 0, .int .u8 0, .int .u8 0, .int .u8 0, .int .u8 0, .int .u8 0, .int .u8 0, .int .u8 0, .int .u8 0, .int .u8 0, .int .u8 0, .int .u8 0, .int .u8 0, .int .u8 0, .int .u8 0] 132)
      have hb5 := (hb4.alloc hb4.size (.cells #[.int .u8 48, .int .u8 49, .int .u8 50, .int .u8 51, .int .u8 52, .int .u8 53, .int .u8 54, .int .u8 55, .int .u8 56, .int .u8 57, .int .u8 97, .int .u8 98, .int .u8 99, .int .u8 100, .int .u8 101, .int .u8 102] 132)).alloc (by have := hb4.size; simp; omega) (.cells #[.int .u8 0, .int .u8 0, .int .u8 0, .int .u8 0, .int .u8 0, .int .u8 0, .int .u8 0, .int .u8 0, .int .u8 0, .int .u8 0, .int .u8 0, .int .u8 0, .int .u8 0, .int .u8 0, .int .u8 0, .int .u8 0] 132)
      have lt5 := g5.lt
      have le4 := hb4.size
      go_upto_block 2 with fail
      clear g5 hb4
      generalize (w4.alloc (.cells #[.int .u8 48, .int .u8 49, .int .u8 50, .int .u8 51, .int .u8 52, .int .u8 53, .int .u8 54, .int .u8 55, .int .u8 56, .int .u8 57, .int .u8 97, .int .u8 98, .int .u8 99, .int .u8 100, .int .u8 101, .int .u8 102] 132)).alloc (.cells #[.int .u8 0, .int .u8 0, .int .u8 0, .int .u8 0, .int .u8 0, .int .u8 0, .int .u8 0, .int .u8 0, .int .u8 0, .int .u8 0, .int .u8 0, .int .u8 0, .int .u8 0, .int .u8 0, .int .u8 0, .int .u8 0] 132) = w6 at *
      generalize hg1 : w4.heap.size + 1 = go at *
      generalize w4.heap.size = gh at *
      have n1 : gh ≠ go := by omega
      have n2 : w.heap.size ≠ go := by omega
      have n3 : w.heap.size ≤ go := by omega
      clear hg1 lt5 le4
      go_wp2_with fail
      go_loopw [26] (fun i wr => ∃ k : Nat, k ≤ 16 ∧ i = .int .i64 (k : Int) ∧ Blk wr go 132 (filV 16 (fun i => .int .u8 ((hexc (F >>> (60 - 4 * i) % 16)).toNat : Int)) (.int .u8 0) k) ∧ Blk wr gh 132 hexA ∧ Blk wr w.heap.size 123 #[.int .u64 (F : Nat)] ∧ Below w.heap.size w wr) (fun i _ => 16 - (intOf i).toNat)
      case atStart => exact ⟨0, by omega, rfl, o0, x0, g6, hb5⟩
      case round =>
        clear o0 x0 g6 hb5
        obtain ⟨k, hk, rfl, o0, x0, g6, hb5⟩ := hrel
        by_cases hlt : k < 16
        · obtain ⟨c0, c1, c2⟩ := g6.all
          obtain ⟨d, hd⟩ : ∃ d, F >>> (60 - 4 * k) % 16 = d := ⟨_, rfl⟩
          have e1 : bits .and .u64 ((F : Int) / 2 ^ (60 - 4 * k)) 15 = (d : Int) := by
            have h1 : ((F : Int) / 2 ^ (60 - 4 * k)) = ((F >>> (60 - 4 * k) : Nat) : Int) := by rw [Nat.shiftRight_eq_div_pow]; simp
            rw [h1]
            have h2 := bits_and_u64_nat (F >>> (60 - 4 * k)) 15 (shr_lt _ hFl) (by decide)
            rw [show F >>> (60 - 4 * k) &&& 15 = d by rw [← hd]; exact Nat.and_two_pow_sub_one_eq_mod _ 4] at h2
            exact h2
          have hd16 : d < 16 := by omega
          have hd0 : (0 : Int) ≤ (d : Int) := by omega
          have hd1 : (d : Int) < 16 := by omega
          have cx : wr.cell? ⟨gh, d, none⟩ = some (.int .u8 ((hexc d).toNat : Int)) := by rw [x0.cell, hexA_at hd16]
          obtain ⟨v, cv⟩ : ∃ v, wr.cell? ⟨go, k, none⟩ = some v := ⟨_, (o0.cell k).trans (filV_at hlt)⟩
          have fv := o0.frozen k
          have o1 := o0.set_ k (.int .u8 ((hexc (F >>> (60 - 4 * k) % 16)).toNat : Int))
          rw [filV_set (f := fun i => .int .u8 ((hexc (F >>> (60 - 4 * i) % 16)).toNat : Int)) hlt, hd] at o1
          have x1 := x0.far (p := ⟨go, k, none⟩) n1 (.int .u8 ((hexc d).toNat : Int))
          have g7 := g6.far (p := ⟨go, k, none⟩) n2 (.int .u8 ((hexc d).toNat : Int))
          have hb6 := hb5.setCell (p := ⟨go, k, none⟩) n3 (.int .u8 ((hexc d).toNat : Int))
          have HDD := Lib.hid hd
          clear hd o0 x0 g6 hb5
          go_wp2
          go_roundw
          case rel => exact ⟨k + 1, by omega, by go_num, o1, x1, g7, hb6⟩
          case measure => simp [intOf]; omega
        · obtain rfl : k = 16 := by omega
          have hall : (filV 16 (fun i => Value.int .u8 ((hexc (F >>> (60 - 4 * i) % 16)).toNat : Int)) (.int .u8 0) 16) = (bc (hexL F)).toArray := by
            unfold filV hexL bc
            congr 1
          rw [hall] at o0
          have hl16 : (hexL F).length = 16 := by simp [hexL]
          obtain ⟨R, hR⟩ : ∃ R, hexL F = R := ⟨_, rfl⟩
          rw [hR] at o0 hl16
          have HRR := Lib.hid hR
          clear hR
          have cv := run_string_of_blk (P := Tryz.prog) wr 56 9 5 go 132 (by kernel_rfl) (by kernel_rfl) (by kernel_rfl) 0 16 16 R o0 (by omega)
          rw [show (⟨((R.drop 0).take 16).toArray⟩ : ByteArray) = bs R by rw [List.drop_zero, List.take_of_length_le (by omega)]; rfl] at cv
          clear hall hl16 o0 x0 g6
          go_wp2
          go_ret
          exact ⟨by rw [HRR.out]; rfl, hb5⟩
end Go.Proofs.YtfjejfgdnjnflaaGreatDoor
