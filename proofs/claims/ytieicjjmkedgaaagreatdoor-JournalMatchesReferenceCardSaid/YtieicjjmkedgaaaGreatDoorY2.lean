/- Part 2 of what the laws of this seat stand on: Jb, Jc, Nf, Dk, Da, Db, Dc, Dd. -/
import Derived.Test.YtieicjjmkedgaaaGreatDoorY1
import Derived.Test.YtieicjjmkedgaaaGreatDoorProg
import Derived.StillTailTactics
import Derived.Deep.RegionLaw
import Derived.Deep.RegionHeld3

/- The digest: Sum. -/
namespace Go.Proofs.YtieicjjmkedgaaaGreatDoor
open Go.RowKit Go.Shelf

/-- An array of n cells whose first k are filled. -/
def filV (n : Nat) (f : Nat → Value) (z : Value) (k : Nat) : Array Value := ((List.range n).map fun i => if i < k then f i else z).toArray
theorem filV_size (n : Nat) (f : Nat → Value) (z : Value) (k : Nat) : (filV n f z k).size = n := by simp [filV]
theorem filV_at {n : Nat} {f : Nat → Value} {z : Value} {k i : Nat} (h : i < n) : (filV n f z k)[i]? = some (if i < k then f i else z) := by
  simp [filV, h]
theorem filV_set {n : Nat} {f : Nat → Value} {z : Value} {k : Nat} (h : k < n) : (filV n f z k).setIfInBounds k (f k) = filV n f z (k + 1) := by
  apply Array.ext_getElem?
  intro i
  rw [Array.getElem?_setIfInBounds]
  by_cases hk : k = i
  · subst hk
    rw [if_pos rfl, filV_size, if_pos h, filV_at h, if_pos (by omega)]
  · rw [if_neg hk]
    by_cases hn : i < n
    · rw [filV_at hn, filV_at hn]
      by_cases h1 : i < k
      · rw [if_pos h1, if_pos (by omega)]
      · rw [if_neg h1, if_neg (by omega)]
    · rw [Array.getElem?_eq_none (by rw [filV_size]; omega), Array.getElem?_eq_none (by rw [filV_size]; omega)]
theorem set_twice (a : Array Value) (k : Nat) (x y : Value) : (a.setIfInBounds k x).setIfInBounds k y = a.setIfInBounds k y := by
  apply Array.ext_getElem?
  intro i
  simp only [Array.getElem?_setIfInBounds, Array.size_setIfInBounds]
  by_cases hk : k = i
  · subst hk; simp
  · simp [hk]
def hexV (i : Nat) : Value := if i < 10 then .int .u8 (48 + (i : Int)) else .int .u8 (97 + (i : Int) - 10)
theorem hexV_val {i : Nat} (h : i < 16) : hexV i = .int .u8 ((hexc i).toNat : Int) := by
  unfold hexV hexc
  split
  · congr 1; rw [UInt8.toNat_ofNat']; omega
  · congr 1; rw [UInt8.toNat_ofNat']; omega

/-- The sixteen digits. -/
def hexA : Array Value := #[.int .u8 48, .int .u8 49, .int .u8 50, .int .u8 51, .int .u8 52, .int .u8 53, .int .u8 54, .int .u8 55, .int .u8 56, .int .u8 57, .int .u8 97, .int .u8 98, .int .u8 99, .int .u8 100, .int .u8 101, .int .u8 102]
theorem hexA_is : filV 16 hexV (.int .u8 0) 16 = hexA := by kernel_rfl
theorem hexA_at {i : Nat} (h : i < 16) : hexA[i]? = some (.int .u8 ((hexc i).toNat : Int)) := by
  rw [← hexA_is, filV_at h, if_pos h, hexV_val h]

set_option maxRecDepth 100000 in
set_option maxHeartbeats 2000000 in
theorem digits16_any (w : World) : Calls Tryz.prog 107 #[] w fun e w' => e = .returned (.agg hexA) ∧ Below w.heap.size w w' := by
  have g0 := Blk.new1 w (.cells (Array.replicate 16 (.int .u8 0)) 132) 132 (Array.replicate 16 (.int .u8 0))
  have r0 := (Blk.new w 132 (Array.replicate 16 (.int .u8 0))).alloc (.cells (Array.replicate 16 (.int .u8 0)) 132)
  have hb := ((Below.refl w.heap.size w).alloc (Nat.le_refl _) (.cells (Array.replicate 16 (.int .u8 0)) 132)).alloc (by simp) (.cells (Array.replicate 16 (.int .u8 0)) 132)
  have e0 : (Array.replicate 16 (.int .u8 0) : Array Value) = filV 16 hexV (.int .u8 0) 0 := rfl
  have eZ : (Array.replicate 16 (.int .u8 0) : Array Value) = #[.int .u8 0, .int .u8 0, .int .u8 0, .int .u8 0, .int .u8 0, .int .u8 0, .int .u8 0, .int .u8 0, .int .u8 0, .int .u8 0, .int .u8 0, .int .u8 0, .int .u8 0, .int .u8 0, .int .u8 0, .int .u8 0] := rfl
  rw [eZ] at r0 hb g0
  rw [eZ] at e0
  have g1 : Blk ((w.alloc (.cells #[.int .u8 0, .int .u8 0, .int .u8 0, .int .u8 0, .int .u8 0, .int .u8 0, .int .u8 0, .int .u8 0, .int .u8 0, .int .u8 0, .int .u8 0, .int .u8 0, .int .u8 0, .int .u8 0, .int .u8 0, .int .u8 0] 132)).alloc (.cells #[.int .u8 0, .int .u8 0, .int .u8 0, .int .u8 0, .int .u8 0, .int .u8 0, .int .u8 0, .int .u8 0, .int .u8 0, .int .u8 0, .int .u8 0, .int .u8 0, .int .u8 0, .int .u8 0, .int .u8 0, .int .u8 0] 132)) (w.heap.size + 1) 132 (filV 16 hexV (.int .u8 0) 0) := e0 ▸ g0
  clear e0 eZ g0
  go_enter Tryz.func107, Tryz.ntmps107
  go_upto_block 0 with fail
  generalize (w.alloc (.cells #[.int .u8 0, .int .u8 0, .int .u8 0, .int .u8 0, .int .u8 0, .int .u8 0, .int .u8 0, .int .u8 0, .int .u8 0, .int .u8 0, .int .u8 0, .int .u8 0, .int .u8 0, .int .u8 0, .int .u8 0, .int .u8 0] 132)).alloc (.cells #[.int .u8 0, .int .u8 0, .int .u8 0, .int .u8 0, .int .u8 0, .int .u8 0, .int .u8 0, .int .u8 0, .int .u8 0, .int .u8 0, .int .u8 0, .int .u8 0, .int .u8 0, .int .u8 0, .int .u8 0, .int .u8 0] 132) = w2 at *
  generalize hg : w.heap.size + 1 = g at *
  have hgl : w.heap.size ≤ g := by omega
  have hgn : w.heap.size ≠ g := by omega
  clear hg
  go_wp2_with fail
  go_loopw [3] (fun i wr => ∃ k : Nat, k ≤ 16 ∧ i = .int .i64 (k : Int) ∧ Blk wr g 132 (filV 16 hexV (.int .u8 0) k) ∧ Blk wr w.heap.size 132 #[.int .u8 0, .int .u8 0, .int .u8 0, .int .u8 0, .int .u8 0, .int .u8 0, .int .u8 0, .int .u8 0, .int .u8 0, .int .u8 0, .int .u8 0, .int .u8 0, .int .u8 0, .int .u8 0, .int .u8 0, .int .u8 0] ∧ Below w.heap.size w wr) (fun i _ => 16 - (intOf i).toNat)
  case atStart => exact ⟨0, by omega, rfl, g1, r0, hb⟩
  case round =>
    clear g1 r0 hb
    obtain ⟨k, hk, rfl, g1, r0, hb⟩ := hrel
    by_cases hlt : k < 16
    · have c0 : ∃ v, wr.cell? ⟨g, k, none⟩ = some v := ⟨_, (g1.cell k).trans (filV_at hlt)⟩
      have f0 := g1.frozen k
      have l0 := g1.lt
      obtain ⟨v, c0⟩ := c0
      have g2 := g1.set_ k (.int .u8 (48 + (k : Int)))
      have r2 := r0.far (p := ⟨g, k, none⟩) hgn (.int .u8 (48 + (k : Int)))
      have hb2 := hb.setCell (p := ⟨g, k, none⟩) hgl (.int .u8 (48 + (k : Int)))
      by_cases h10 : 10 ≤ k
      · have d10 : decide (10 ≤ (k : Int)) = true := decide_eq_true (by omega)
        have c1 : (wr.setCell ⟨g, k, none⟩ (.int .u8 (48 + (k : Int)))).cell? ⟨g, k, none⟩ = some (.int .u8 (48 + (k : Int))) := by
          rw [g2.cell, Array.getElem?_setIfInBounds, if_pos rfl, filV_size, if_pos hlt]
        have f1 := g2.frozen k
        have g3 := g2.set_ k (.int .u8 (97 + (k : Int) - 10))
        have r3 := r2.far (p := ⟨g, k, none⟩) hgn (.int .u8 (97 + (k : Int) - 10))
        have hb3 := hb2.setCell (p := ⟨g, k, none⟩) hgl (.int .u8 (97 + (k : Int) - 10))
        rw [set_twice, show Value.int .u8 (97 + (k : Int) - 10) = hexV k by unfold hexV; rw [if_neg (by omega)], filV_set hlt] at g3
        rw [show hexV k = Value.int .u8 (97 + (k : Int) - 10) by unfold hexV; rw [if_neg (by omega)]] at g3
        clear g1 g2 r0 r2 hb hb2
        go_wp2
        go_roundw
        case rel => exact ⟨k + 1, by omega, by go_num, g3, r3, hb3⟩
        case measure => simp [intOf]; omega
      · have d10 : decide (10 ≤ (k : Int)) = false := decide_eq_false (by omega)
        rw [show Value.int .u8 (48 + (k : Int)) = hexV k by unfold hexV; rw [if_pos (by omega)], filV_set hlt] at g2
        rw [show hexV k = Value.int .u8 (48 + (k : Int)) by unfold hexV; rw [if_pos (by omega)]] at g2
        clear g1 r0 hb
        go_wp2
        go_roundw
        case rel => exact ⟨k + 1, by omega, by go_num, g2, r2, hb2⟩
        case measure => simp [intOf]; omega
    · obtain rfl : k = 16 := by omega
      rw [hexA_is] at g1
      have c0 : ∀ i : Nat, wr.cell? ⟨g, i, none⟩ = (#[.int .u8 48, .int .u8 49, .int .u8 50, .int .u8 51, .int .u8 52, .int .u8 53, .int .u8 54, .int .u8 55, .int .u8 56, .int .u8 57, .int .u8 97, .int .u8 98, .int .u8 99, .int .u8 100, .int .u8 101, .int .u8 102] : Array Value)[i]? := g1.cell
      have f0 := r0.frozen
      have c1 := r0.cell
      have m3 : Blk ((((((((((((((((wr.setCell ⟨w.heap.size, 0, none⟩ (.int .u8 48)).setCell ⟨w.heap.size, 1, none⟩ (.int .u8 49)).setCell ⟨w.heap.size, 2, none⟩ (.int .u8 50)).setCell ⟨w.heap.size, 3, none⟩ (.int .u8 51)).setCell ⟨w.heap.size, 4, none⟩ (.int .u8 52)).setCell ⟨w.heap.size, 5, none⟩ (.int .u8 53)).setCell ⟨w.heap.size, 6, none⟩ (.int .u8 54)).setCell ⟨w.heap.size, 7, none⟩ (.int .u8 55)).setCell ⟨w.heap.size, 8, none⟩ (.int .u8 56)).setCell ⟨w.heap.size, 9, none⟩ (.int .u8 57)).setCell ⟨w.heap.size, 10, none⟩ (.int .u8 97)).setCell ⟨w.heap.size, 11, none⟩ (.int .u8 98)).setCell ⟨w.heap.size, 12, none⟩ (.int .u8 99)).setCell ⟨w.heap.size, 13, none⟩ (.int .u8 100)).setCell ⟨w.heap.size, 14, none⟩ (.int .u8 101)).setCell ⟨w.heap.size, 15, none⟩ (.int .u8 102)) w.heap.size 132 hexA := ((((((((((((((((r0.set_ 0 (.int .u8 48)).set_ 1 (.int .u8 49)).set_ 2 (.int .u8 50)).set_ 3 (.int .u8 51)).set_ 4 (.int .u8 52)).set_ 5 (.int .u8 53)).set_ 6 (.int .u8 54)).set_ 7 (.int .u8 55)).set_ 8 (.int .u8 56)).set_ 9 (.int .u8 57)).set_ 10 (.int .u8 97)).set_ 11 (.int .u8 98)).set_ 12 (.int .u8 99)).set_ 13 (.int .u8 100)).set_ 14 (.int .u8 101)).set_ 15 (.int .u8 102))
      have hb3 : Below w.heap.size w ((((((((((((((((wr.setCell ⟨w.heap.size, 0, none⟩ (.int .u8 48)).setCell ⟨w.heap.size, 1, none⟩ (.int .u8 49)).setCell ⟨w.heap.size, 2, none⟩ (.int .u8 50)).setCell ⟨w.heap.size, 3, none⟩ (.int .u8 51)).setCell ⟨w.heap.size, 4, none⟩ (.int .u8 52)).setCell ⟨w.heap.size, 5, none⟩ (.int .u8 53)).setCell ⟨w.heap.size, 6, none⟩ (.int .u8 54)).setCell ⟨w.heap.size, 7, none⟩ (.int .u8 55)).setCell ⟨w.heap.size, 8, none⟩ (.int .u8 56)).setCell ⟨w.heap.size, 9, none⟩ (.int .u8 57)).setCell ⟨w.heap.size, 10, none⟩ (.int .u8 97)).setCell ⟨w.heap.size, 11, none⟩ (.int .u8 98)).setCell ⟨w.heap.size, 12, none⟩ (.int .u8 99)).setCell ⟨w.heap.size, 13, none⟩ (.int .u8 100)).setCell ⟨w.heap.size, 14, none⟩ (.int .u8 101)).setCell ⟨w.heap.size, 15, none⟩ (.int .u8 102)) := ((((((((((((((((hb.setCell (p := ⟨w.heap.size, 0, none⟩) (Nat.le_refl _) (.int .u8 48)).setCell (p := ⟨w.heap.size, 1, none⟩) (Nat.le_refl _) (.int .u8 49)).setCell (p := ⟨w.heap.size, 2, none⟩) (Nat.le_refl _) (.int .u8 50)).setCell (p := ⟨w.heap.size, 3, none⟩) (Nat.le_refl _) (.int .u8 51)).setCell (p := ⟨w.heap.size, 4, none⟩) (Nat.le_refl _) (.int .u8 52)).setCell (p := ⟨w.heap.size, 5, none⟩) (Nat.le_refl _) (.int .u8 53)).setCell (p := ⟨w.heap.size, 6, none⟩) (Nat.le_refl _) (.int .u8 54)).setCell (p := ⟨w.heap.size, 7, none⟩) (Nat.le_refl _) (.int .u8 55)).setCell (p := ⟨w.heap.size, 8, none⟩) (Nat.le_refl _) (.int .u8 56)).setCell (p := ⟨w.heap.size, 9, none⟩) (Nat.le_refl _) (.int .u8 57)).setCell (p := ⟨w.heap.size, 10, none⟩) (Nat.le_refl _) (.int .u8 97)).setCell (p := ⟨w.heap.size, 11, none⟩) (Nat.le_refl _) (.int .u8 98)).setCell (p := ⟨w.heap.size, 12, none⟩) (Nat.le_refl _) (.int .u8 99)).setCell (p := ⟨w.heap.size, 13, none⟩) (Nat.le_refl _) (.int .u8 100)).setCell (p := ⟨w.heap.size, 14, none⟩) (Nat.le_refl _) (.int .u8 101)).setCell (p := ⟨w.heap.size, 15, none⟩) (Nat.le_refl _) (.int .u8 102))
      clear g1 hb
      go_wp2_with fail
      clear c0 f0 c1 r0
      generalize ((((((((((((((((wr.setCell ⟨w.heap.size, 0, none⟩ (.int .u8 48)).setCell ⟨w.heap.size, 1, none⟩ (.int .u8 49)).setCell ⟨w.heap.size, 2, none⟩ (.int .u8 50)).setCell ⟨w.heap.size, 3, none⟩ (.int .u8 51)).setCell ⟨w.heap.size, 4, none⟩ (.int .u8 52)).setCell ⟨w.heap.size, 5, none⟩ (.int .u8 53)).setCell ⟨w.heap.size, 6, none⟩ (.int .u8 54)).setCell ⟨w.heap.size, 7, none⟩ (.int .u8 55)).setCell ⟨w.heap.size, 8, none⟩ (.int .u8 56)).setCell ⟨w.heap.size, 9, none⟩ (.int .u8 57)).setCell ⟨w.heap.size, 10, none⟩ (.int .u8 97)).setCell ⟨w.heap.size, 11, none⟩ (.int .u8 98)).setCell ⟨w.heap.size, 12, none⟩ (.int .u8 99)).setCell ⟨w.heap.size, 13, none⟩ (.int .u8 100)).setCell ⟨w.heap.size, 14, none⟩ (.int .u8 101)).setCell ⟨w.heap.size, 15, none⟩ (.int .u8 102)) = W3 at *
      refine bodyPost_ret (v := .agg hexA) (results_cell_row (p := 0) (ty := 132) rfl _ _ w.heap.size 132 _ (0, 0) _ rfl m3 Tryz.underlying132 rfl (by kernel_rfl)) rfl ⟨rfl, hb3⟩
end Go.Proofs.YtieicjjmkedgaaaGreatDoor

/- The digest: Sum, whole. -/
namespace Go.Proofs.YtieicjjmkedgaaaGreatDoor
open Go.RowKit Go.Shelf

theorem bs_extract (l : List UInt8) (a b : Nat) : (bs l).extract a b = bs ((l.drop a).take (b - a)) := by
  apply ByteArray.ext
  apply Array.ext'
  rw [ByteArray.data_extract]
  show ((l.toArray).extract a b).toList = (l.drop a).take (b - a)
  rw [Array.toList_extract]
theorem bs_append (a b : List UInt8) : bs a ++ bs b = bs (a ++ b) := by
  apply ByteArray.ext
  apply Array.ext'
  rw [ByteArray.data_append, Array.toList_append]
  rfl
def strSize : Value → Nat
  | .string s => s.size
  | _ => 0
theorem sl_to (l : List UInt8) (k : Nat) (h : k ≤ l.length) (W : World) : (Instr.slice 9 (.string (bs l)) none (some (.int .i64 (k : Int))) none).run Tryz.prog W = .ok (.string (bs (l.take k))) W := by
  have h2 : (k : Int) ≤ (bs l).size := by rw [bs_size]; omega
  rw [run_slice_string_h (P := Tryz.prog) W 9 (bs l) (by kernel_rfl) .i64 (k : Int) (by omega) h2]
  rw [Int.toNat_natCast, bs_extract]
  simp
theorem sl_from (l : List UInt8) (k : Nat) (h : k ≤ l.length) (W : World) : (Instr.slice 9 (.string (bs l)) (some (.int .i64 (k : Int))) none none).run Tryz.prog W = .ok (.string (bs (l.drop k))) W := by
  have h2 : (k : Int) ≤ (bs l).size := by rw [bs_size]; omega
  rw [run_slice_string_l (P := Tryz.prog) W 9 (bs l) (by kernel_rfl) .i64 (k : Int) (by omega) h2]
  rw [Int.toNat_natCast, bs_extract, bs_size, List.take_of_length_le (by simp)]

set_option maxRecDepth 100000 in
set_option maxHeartbeats 4000000 in
theorem sum_any (w : World) (l : List UInt8) (hl : l.length ≤ 4611686018427387904) : Calls Tryz.prog 90 #[.string (bs l)] w fun e w' => e = .returned (.string (bs (sumL l))) ∧ Below w.heap.size w w' := by
  have hsz := bs_size l
  obtain ⟨F, hF⟩ : ∃ F, sumN (l.length / 8) (startN l.length) l = F := ⟨_, rfl⟩
  have hFl : F < two64 := by rw [← hF]; exact sumN_lt _ _ _
  have hr : sumL l = hexL F := by unfold sumL; rw [hF]
  rw [hr]
  obtain ⟨st0, hst⟩ : ∃ st0, startN l.length = st0 := ⟨_, rfl⟩
  have e1 : bits .xor .u64 1442695040888963407 (l.length : Int) = (st0 : Int) := by
    rw [← hst]
    exact bits_xor_u64_nat 1442695040888963407 l.length (by decide) (by omega)
  have hs0 : st0 < two64 := by rw [← hst]; exact xor_lt (by decide) (by unfold two64; omega)
  rw [hst] at hF
  have g0 := Blk.new w 123 #[.int .u64 st0]
  have hb := (Below.refl w.heap.size w).alloc (Nat.le_refl _) (.cells #[.int .u64 st0] 123)
  have HF := Lib.hid hF
  clear hF hr hst
  go_enter Tryz.func90, Tryz.ntmps90
  go_upto_block 0 with fail
  generalize w.alloc (.cells #[.int .u64 st0] 123) = w2 at *
  clear hsz e1
  go_wp2_with fail
  go_loopw [0] (fun s wr => ∃ (m : List UInt8) (st : Nat), s = .string (bs m) ∧ m.length ≤ l.length ∧ st < two64 ∧ Hid (sumN (m.length / 8) st m = F) ∧ Blk wr w.heap.size 123 #[.int .u64 st] ∧ Below w.heap.size w wr) (fun s _ => strSize s)
  case atStart => exact ⟨l, st0, rfl, Nat.le_refl _, hs0, HF, g0, hb⟩
  case round =>
    clear g0 hb HF hs0
    obtain ⟨m, st, rfl, hm, hst, HM, g0, hb⟩ := hrel
    have hsz := bs_size m
    by_cases h8 : 8 ≤ m.length
    · have s1 : ∀ W : World, (Instr.slice 9 (.string (bs m)) none (some (.int .i64 8)) none).run Tryz.prog W = .ok (.string (bs (m.take 8))) W := sl_to m 8 h8
      have s2 : ∀ W : World, (Instr.slice 9 (.string (bs m)) (some (.int .i64 8)) none none).run Tryz.prog W = .ok (.string (bs (m.drop 8))) W := sl_from m 8 h8
      have d8 : decide (8 ≤ (m.length : Int)) = true := decide_eq_true (by omega)
      have hl8 : (bs (m.take 8)).size = 8 := by rw [bs_size, List.length_take]; omega
      have HL8 := Lib.hid hl8
      clear hl8
      go_wp2_with fail
      have htk := take_any wr w.heap.size st hst g0 (bs (m.take 8)) (by rw [HL8.out]; exact Nat.le_refl _)
      ((with_reducible refine htk.mono ?_); rintro e w3 ⟨rfl, g3, O3⟩)
      clear htk
      have hb3 : Below w.heap.size w w3 := hb.trans (O3.below hb.size (fun i hi => by rw [hi]; exact Nat.le_refl _))
      clear O3 g0 hb
      have hnx : sumN ((m.drop 8).length / 8) (mixN (st ^^^ blockN (m.take 8))) (m.drop 8) = F := by
        rw [← HM.out, show m.length / 8 = (m.drop 8).length / 8 + 1 by rw [List.length_drop]; omega]
        rfl
      have g4 : Blk w3 w.heap.size 123 #[.int .u64 (mixN (st ^^^ blockN (m.take 8)) : Nat)] := g3
      have hmx := mixN_lt (st ^^^ blockN (m.take 8))
      generalize mixN (st ^^^ blockN (m.take 8)) = st' at *
      have HNX := Lib.hid hnx
      clear hnx g3
      go_wp2
      go_roundw
      case rel => exact ⟨m.drop 8, st', rfl, by rw [List.length_drop]; omega, hmx, HNX, g4, hb3⟩
      case measure =>
        show (bs (m.drop 8)).size < (bs m).size
        rw [bs_size, bs_size, List.length_drop]; omega
    · have d8 : decide (8 ≤ (m.length : Int)) = false := decide_eq_false (by omega)
      have hlt8 : (bs m).size ≤ 8 := by rw [bs_size]; omega
      have HL8 := Lib.hid hlt8
      clear hlt8
      go_wp2_with fail
      have htk := take_any wr w.heap.size st hst g0 (bs m) HL8.out
      ((with_reducible refine htk.mono ?_); rintro e w3 ⟨rfl, g3, O3⟩)
      clear htk
      have hb3 : Below w.heap.size w w3 := hb.trans (O3.below hb.size (fun i hi => by rw [hi]; exact Nat.le_refl _))
      have hfin : mixN (st ^^^ blockN m) = F := by
        rw [← HM.out, show m.length / 8 = 0 by omega]
        rfl
      have g4 : Blk w3 w.heap.size 123 #[.int .u64 (F : Nat)] := by rw [← hfin]; exact g3
      clear O3 g0 hb g3 hfin hsz d8
      go_wp2_with fail
      refine (digits16_any w3).mono ?_
      rintro e w4 ⟨he, b⟩
      obtain rfl : e = .returned (.agg #[.int .u8 48, .int .u8 49, .int .u8 50, .int .u8 51, .int .u8 52, .int .u8 53, .int .u8 54, .int .u8 55, .int .u8 56, .int .u8 57, .int .u8 97, .int .u8 98, .int .u8 99, .int .u8 100, .int .u8 101, .int .u8 102]) := he
      have g5 := (g4.below b g4.lt)
      have hb4 := hb3.trans (b.mono hb3.size)
      clear b g4 hb3
      have x0 : Blk ((w4.alloc (.cells #[.int .u8 48, .int .u8 49, .int .u8 50, .int .u8 51, .int .u8 52, .int .u8 53, .int .u8 54, .int .u8 55, .int .u8 56, .int .u8 57, .int .u8 97, .int .u8 98, .int .u8 99, .int .u8 100, .int .u8 101, .int .u8 102] 132)).alloc (.cells #[.int .u8 0, .int .u8 0, .int .u8 0, .int .u8 0, .int .u8 0, .int .u8 0, .int .u8 0, .int .u8 0, .int .u8 0, .int .u8 0, .int .u8 0, .int .u8 0, .int .u8 0, .int .u8 0, .int .u8 0, .int .u8 0] 132)) w4.heap.size 132 hexA := (Blk.new w4 132 hexA).alloc _
      have o0 : Blk ((w4.alloc (.cells #[.int .u8 48, .int .u8 49, .int .u8 50, .int .u8 51, .int .u8 52, .int .u8 53, .int .u8 54, .int .u8 55, .int .u8 56, .int .u8 57, .int .u8 97, .int .u8 98, .int .u8 99, .int .u8 100, .int .u8 101, .int .u8 102] 132)).alloc (.cells #[.int .u8 0, .int .u8 0, .int .u8 0, .int .u8 0, .int .u8 0, .int .u8 0, .int .u8 0, .int .u8 0, .int .u8 0, .int .u8 0, .int .u8 0, .int .u8 0, .int .u8 0, .int .u8 0, .int .u8 0, .int .u8 0] 132)) (w4.heap.size + 1) 132 (filV 16 (fun i => .int .u8 ((hexc (F >>> (60 - 4 * i) % 16)).toNat : Int)) (.int .u8 0) 0) := Blk.new1 w4 (.cells #[.int .u8 48, .int .u8 49, .int .u8 50, .int .u8 51, .int .u8 52, .int .u8 53, .int .u8 54, .int .u8 55, .int .u8 56, .int .u8 57, .int .u8 97, .int .u8 98, .int .u8 99, .int .u8 100, .int .u8 101, .int .u8 102] 132) 132 _
      have g6 := (g5.alloc (.cells #[.int .u8 48, .int .u8 49, .int .u8 50, .int .u8 51, .int .u8 52, .int .u8 53, .int .u8 54, .int .u8 55, .int .u8 56, .int .u8 57, .int .u8 97, .int .u8 98, .int .u8 99, .int .u8 100, .int .u8 101, .int .u8 102] 132)).alloc (.cells #[.int .u8 0, .int .u8 0, .int .u8 0, .int .u8 0, .int .u8 0, .int .u8 0, .int .u8 0, .int .u8 0, .int .u8 0, .int .u8 0, .int .u8 0, .int .u8 0, .int .u8 0, .int .u8 0, .int .u8 0, .int .u8 0] 132)
      have hb5 := (hb4.alloc hb4.size (.cells #[.int .u8 48, .int .u8 49, .int .u8 50, .int .u8 51, .int .u8 52, .int .u8 53, .int .u8 54, .int .u8 55, .int .u8 56, .int .u8 57, .int .u8 97, .int .u8 98, .int .u8 99, .int .u8 100, .int .u8 101, .int .u8 102] 132)).alloc (by have := hb4.size; simp; omega) (.cells #[.int .u8 0, .int .u8 0, .int .u8 0, .int .u8 0, .int .u8 0, .int .u8 0, .int .u8 0, .int .u8 0, .int .u8 0, .int .u8 0, .int .u8 0, .int .u8 0, .int .u8 0, .int .u8 0, .int .u8 0, .int .u8 0] 132)
      have lt5 := g5.lt
      have le4 := hb4.size
      go_upto_block 2 with fail
      clear g5 hb4
      generalize (w4.alloc (.cells #[.int .u8 48, .int .u8 49, .int .u8 50, .int .u8 51, .int .u8 52, .int .u8 53, .int .u8 54, .int .u8 55, .int .u8 56, .int .u8 57, .int .u8 97, .int .u8 98, .int .u8 99, .int .u8 100, .int .u8 101, .int .u8 102] 132)).alloc (.cells #[.int .u8 0, .int .u8 0, .int .u8 0, .int .u8 0, .int .u8 0, .int .u8 0, .int .u8 0, .int .u8 0, .int .u8 0, .int .u8 0, .int .u8 0, .int .u8 0, .int .u8 0, .int .u8 0, .int .u8 0, .int .u8 0] 132) = w6 at *
      generalize hg1 : w4.heap.size + 1 = go at *
      generalize w4.heap.size = gh at *
      have n1 : gh ≠ go := by omega
      have n2 : w.heap.size ≠ go := by omega
      have n3 : w.heap.size ≤ go := by omega
      clear hg1 lt5 le4
      go_wp2_with fail
      go_loopw [26] (fun i wr => ∃ k : Nat, k ≤ 16 ∧ i = .int .i64 (k : Int) ∧ Blk wr go 132 (filV 16 (fun i => .int .u8 ((hexc (F >>> (60 - 4 * i) % 16)).toNat : Int)) (.int .u8 0) k) ∧ Blk wr gh 132 hexA ∧ Blk wr w.heap.size 123 #[.int .u64 (F : Nat)] ∧ Below w.heap.size w wr) (fun i _ => 16 - (intOf i).toNat)
      case atStart => exact ⟨0, by omega, rfl, o0, x0, g6, hb5⟩
      case round =>
        clear o0 x0 g6 hb5
        obtain ⟨k, hk, rfl, o0, x0, g6, hb5⟩ := hrel
        by_cases hlt : k < 16
        · obtain ⟨c0, c1, c2⟩ := g6.all
          obtain ⟨d, hd⟩ : ∃ d, F >>> (60 - 4 * k) % 16 = d := ⟨_, rfl⟩
          have e1 : bits .and .u64 ((F : Int) / 2 ^ (60 - 4 * k)) 15 = (d : Int) := by
            have h1 : ((F : Int) / 2 ^ (60 - 4 * k)) = ((F >>> (60 - 4 * k) : Nat) : Int) := by rw [Nat.shiftRight_eq_div_pow]; simp
            rw [h1]
            have h2 := bits_and_u64_nat (F >>> (60 - 4 * k)) 15 (shr_lt _ hFl) (by decide)
            rw [show F >>> (60 - 4 * k) &&& 15 = d by rw [← hd]; exact Nat.and_two_pow_sub_one_eq_mod _ 4] at h2
            exact h2
          have hd16 : d < 16 := by omega
          have hd0 : (0 : Int) ≤ (d : Int) := by omega
          have hd1 : (d : Int) < 16 := by omega
          have cx : wr.cell? ⟨gh, d, none⟩ = some (.int .u8 ((hexc d).toNat : Int)) := by rw [x0.cell, hexA_at hd16]
          obtain ⟨v, cv⟩ : ∃ v, wr.cell? ⟨go, k, none⟩ = some v := ⟨_, (o0.cell k).trans (filV_at hlt)⟩
          have fv := o0.frozen k
          have o1 := o0.set_ k (.int .u8 ((hexc (F >>> (60 - 4 * k) % 16)).toNat : Int))
          rw [filV_set (f := fun i => .int .u8 ((hexc (F >>> (60 - 4 * i) % 16)).toNat : Int)) hlt, hd] at o1
          have x1 := x0.far (p := ⟨go, k, none⟩) n1 (.int .u8 ((hexc d).toNat : Int))
          have g7 := g6.far (p := ⟨go, k, none⟩) n2 (.int .u8 ((hexc d).toNat : Int))
          have hb6 := hb5.setCell (p := ⟨go, k, none⟩) n3 (.int .u8 ((hexc d).toNat : Int))
          have HDD := Lib.hid hd
          clear hd o0 x0 g6 hb5
          go_wp2
          go_roundw
          case rel => exact ⟨k + 1, by omega, by go_num, o1, x1, g7, hb6⟩
          case measure => simp [intOf]; omega
        · obtain rfl : k = 16 := by omega
          have hall : (filV 16 (fun i => Value.int .u8 ((hexc (F >>> (60 - 4 * i) % 16)).toNat : Int)) (.int .u8 0) 16) = (bc (hexL F)).toArray := by
            unfold filV hexL bc
            congr 1
          rw [hall] at o0
          have hl16 : (hexL F).length = 16 := by simp [hexL]
          obtain ⟨R, hR⟩ : ∃ R, hexL F = R := ⟨_, rfl⟩
          rw [hR] at o0 hl16
          have HRR := Lib.hid hR
          clear hR
          have cv := run_string_of_blk (P := Tryz.prog) wr 49 9 5 go 132 (by kernel_rfl) (by kernel_rfl) (by kernel_rfl) 0 16 16 R o0 (by omega)
          rw [show (⟨((R.drop 0).take 16).toArray⟩ : ByteArray) = bs R by rw [List.drop_zero, List.take_of_length_le (by omega)]; rfl] at cv
          clear hall hl16 o0 x0 g6
          go_wp2
          go_ret
          exact ⟨by rw [HRR.out]; rfl, hb5⟩
end Go.Proofs.YtieicjjmkedgaaaGreatDoor

/- The reference's digest: mix, Sum. -/
namespace Go.Proofs.YtieicjjmkedgaaaGreatDoor
open Go.RowKit Go.Shelf

theorem bs_ix (l : List UInt8) {k : Nat} {b : UInt8} (h : l[k]? = some b) (W : World) : (Instr.index 9 (.string (bs l)) (.int .i64 (k : Int))).run Tryz.prog W = .ok (.int .u8 (b.toNat : Int)) W := by
  have hlt := (List.getElem?_eq_some_iff.1 h).1
  have hs := bs_size l
  rw [run_index_string W 9 (bs l) .i64 (k : Int) (by kernel_rfl), dif_pos (by omega)]
  congr 4
  obtain ⟨h1, h2⟩ := List.getElem?_eq_some_iff.1 h
  rw [← h2]
  rfl
theorem bs_consR (b : UInt8) (t : List UInt8) : bs [b] ++ bs t = bs (b :: t) := by
  apply ByteArray.ext
  apply Array.ext'
  rw [ByteArray.data_append, Array.toList_append]
  rfl
theorem wrap_u64 (n : Nat) : IntKind.u64.wrap (n : Int) = ((n % 18446744073709551616 : Nat) : Int) := by
  simp [IntKind.wrap, IntKind.bits, IntKind.signed]
set_option maxRecDepth 100000 in
theorem rmix_any (w : World) (x : Nat) (_ : x < two64) : Calls Tryz.prog 114 #[.int .u64 x] w fun e w' => e = .returned (.int .u64 (mixN x : Nat)) ∧ w = w' := by
  obtain ⟨a, ha⟩ : ∃ a : Nat, x * 6364136223846793005 % 18446744073709551616 = a := ⟨_, rfl⟩
  have la : a < 18446744073709551616 := by rw [← ha]; exact Nat.mod_lt _ (by decide)
  have m1 : IntKind.u64.wrap ((x : Int) * 6364136223846793005) = (a : Int) := by
    rw [show ((x : Int) * 6364136223846793005) = ((x * 6364136223846793005 : Nat) : Int) by omega, wrap_u64, ha]
  obtain ⟨b, hb⟩ : ∃ b : Nat, a ^^^ (a / 2147483648) = b := ⟨_, rfl⟩
  have lb : b < 18446744073709551616 := by rw [← hb]; exact Nat.xor_lt_two_pow (n := 64) (by omega) (by omega)
  have e1 : bits .xor .u64 (a : Int) ((a : Int) / 2147483648) = (b : Int) := by
    rw [show ((a : Int) / 2147483648) = ((a / 2147483648 : Nat) : Int) by omega, bits_xor_u64_nat _ _ la (by omega), hb]
  obtain ⟨c, hc⟩ : ∃ c : Nat, b * 3202034522624059733 % 18446744073709551616 = c := ⟨_, rfl⟩
  have lc : c < 18446744073709551616 := by rw [← hc]; exact Nat.mod_lt _ (by decide)
  have m2 : IntKind.u64.wrap ((b : Int) * 3202034522624059733) = (c : Int) := by
    rw [show ((b : Int) * 3202034522624059733) = ((b * 3202034522624059733 : Nat) : Int) by omega, wrap_u64, hc]
  obtain ⟨d, hd⟩ : ∃ d : Nat, c ^^^ (c / 1073741824) = d := ⟨_, rfl⟩
  have e2 : bits .xor .u64 (c : Int) ((c : Int) / 1073741824) = (d : Int) := by
    rw [show ((c : Int) / 1073741824) = ((c / 1073741824 : Nat) : Int) by omega, bits_xor_u64_nat _ _ lc (by omega), hd]
  have hm : mixN x = d := by
    unfold mixN two64
    simp only [Nat.shiftRight_eq_div_pow]
    rw [ha, show a / 2 ^ 31 = a / 2147483648 from rfl, hb, hc, show c / 2 ^ 30 = c / 1073741824 from rfl, hd]
  rw [hm]
  clear ha hb hc hd hm
  go_enter Tryz.func114, Tryz.ntmps114
  go_wp2
  go_ret
  exact ⟨rfl, rfl⟩
theorem hexU_slice (d : Nat) (h : d < 16) (W : World) : (Instr.slice 9 (.string ⟨#[48, 49, 50, 51, 52, 53, 54, 55, 56, 57, 97, 98, 99, 100, 101, 102]⟩) (some (.int .u64 (d : Int))) (some (.int .u64 ((d : Int) + 1))) none).run Tryz.prog W = .ok (.string (bs [hexc d])) W := by
  have e : ((d : Int) + 1) = ((d + 1 : Nat) : Int) := rfl
  have hs : ((⟨#[48, 49, 50, 51, 52, 53, 54, 55, 56, 57, 97, 98, 99, 100, 101, 102]⟩ : ByteArray).size : Int) = 16 := rfl
  rw [run_slice_string (P := Tryz.prog) (w := W) 9 _ .u64 .u64 (d : Int) ((d : Int) + 1) (by kernel_rfl) (by omega) (by omega) (by rw [hs]; omega)]
  congr 2
  rw [Int.toNat_natCast, e, Int.toNat_natCast]
  have hd : d = 0 ∨ d = 1 ∨ d = 2 ∨ d = 3 ∨ d = 4 ∨ d = 5 ∨ d = 6 ∨ d = 7 ∨ d = 8 ∨ d = 9 ∨ d = 10 ∨ d = 11 ∨ d = 12 ∨ d = 13 ∨ d = 14 ∨ d = 15 := by omega
  clear e hs h
  rcases hd with rfl | rfl | rfl | rfl | rfl | rfl | rfl | rfl | rfl | rfl | rfl | rfl | rfl | rfl | rfl | rfl <;> rfl
theorem hexS_len (F : Nat) : ∀ i, (hexS F i).length = i
  | 0 => rfl
  | i + 1 => by rw [hexS, List.length_cons, hexS_len F i]
theorem blkN_64 {l : List UInt8} {t : Nat} (ht : t < 8) : blkN l t < 72057594037927936 := by
  have := blkN_lt (l := l) (t := t) (by omega)
  have h7 : 256 ^ t ≤ 256 ^ 7 := Nat.pow_le_pow_right (by decide) (by omega)
  have h77 : 256 ^ 7 = 72057594037927936 := rfl
  omega

set_option maxRecDepth 100000 in
set_option maxHeartbeats 4000000 in
theorem rsum_any (w : World) (l : List UInt8) (hl : l.length ≤ 4611686018427387904) : Calls Tryz.prog 100 #[.string (bs l)] w fun e w' => e = .returned (.string (bs (sumL l))) ∧ w = w' := by
  have hsz := bs_size l
  obtain ⟨F, hF⟩ : ∃ F, sumN (l.length / 8) (startN l.length) l = F := ⟨_, rfl⟩
  have hFl : F < two64 := by rw [← hF]; exact sumN_lt _ _ _
  have hr : sumL l = hexL F := by unfold sumL; rw [hF]
  rw [hr, ← hexS_all]
  obtain ⟨st0, hst⟩ : ∃ st0, startN l.length = st0 := ⟨_, rfl⟩
  have e1 : bits .xor .u64 1442695040888963407 (l.length : Int) = (st0 : Int) := by
    rw [← hst]
    exact bits_xor_u64_nat 1442695040888963407 l.length (by decide) (by omega)
  have hs0 : st0 < two64 := by rw [← hst]; exact xor_lt (by decide) (by unfold two64; omega)
  rw [hst] at hF
  have HF := Lib.hid hF
  clear hF hr hst
  go_enter Tryz.func100, Tryz.ntmps100
  go_wp2_with fail
  clear e1
  go_loopw [3, 4] (fun s v wr => wr = w ∧ ∃ (j st : Nat), v = .int .i64 ((8 * j : Nat) : Int) ∧ s = .int .u64 (st : Int) ∧ st < two64 ∧ ((8 * j ≤ l.length ∧ Hid (sumN ((l.drop (8 * j)).length / 8) st (l.drop (8 * j)) = F)) ∨ (l.length < 8 * j ∧ 8 * j ≤ l.length + 8 ∧ Hid (st = F)))) (fun _ v _ => l.length + 8 - (intOf v).toNat)
  case atStart => exact ⟨rfl, 0, st0, rfl, rfl, hs0, .inl ⟨Nat.zero_le _, HF⟩⟩
  case round =>
    clear HF hs0
    obtain ⟨hwr, j, st, rfl, rfl, hst, hj⟩ := hrel
    have hwr := hwr.symm
    subst hwr
    rcases hj with ⟨hjl, HJ⟩ | ⟨hjl, hj2, HJ⟩
    · have hle : ((8 * j : Nat) : Int) ≤ (l.length : Int) := by omega
      have HJL := Lib.hid hjl
      have HLL := Lib.hid hl
      go_wp2_with fail
      go_loopw [5, 6] (fun b v wr => wr = w ∧ ∃ t : Nat, t ≤ 8 ∧ v = .int .i64 ((8 * j + t : Nat) : Int) ∧ b = .int .u64 (blkN (l.drop (8 * j)) t : Nat)) (fun _ v _ => 8 * j + 8 - (intOf v).toNat)
      case atStart => exact ⟨rfl, 0, by omega, rfl, rfl⟩
      case round =>
        obtain ⟨hwr, t, ht, rfl, rfl⟩ := hrel
        have hwr := hwr.symm
        subst hwr
        by_cases ht8 : t < 8
        · have hB := blkN_64 (l := l.drop (8 * j)) ht8
          have hd1 : ((8 * j + t : Nat) : Int) < ((8 * j : Nat) : Int) + 8 := by omega
          have hrng : ((8 * j + t : Nat) : Int) ≤ 4611686018427387912 := by omega
          have hrng2 : ((8 * j : Nat) : Int) ≤ 4611686018427387904 := by omega
          have HT := Lib.hid ht8
          by_cases hin : 8 * j + t < l.length
          · obtain ⟨b, hb⟩ : ∃ b, l[8 * j + t]? = some b := ⟨_, List.getElem?_eq_getElem hin⟩
            have hin3 : 8 * j + t < (bs l).size := by rw [bs_size]; exact hin
            have hget : (bs l)[8 * j + t] = b := by
              obtain ⟨h1, h2⟩ := List.getElem?_eq_some_iff.1 hb
              rw [← h2]
              rfl
            have m0 : IntKind.u64.wrap (b.toNat : Int) = (b.toNat : Int) := IntWalk.u64_in _ (by have := b.toNat_lt; omega)
            have hb2 : (l.drop (8 * j))[t]? = some b := by rw [List.getElem?_drop]; exact hb
            have hst2 := blkN_in hb2
            have hb255 := b.toNat_lt
            have HS := Lib.hid hst2
            obtain ⟨B, hBB⟩ : ∃ B, blkN (l.drop (8 * j)) t = B := ⟨_, rfl⟩
            rw [hBB] at HS hB ⊢
            have hin2 : ((8 * j + t : Nat) : Int) < (l.length : Int) := by omega
            have m1 : IntKind.u64.wrap ((B : Int) * 256) = (B : Int) * 256 := IntWalk.u64_in _ (by omega)
            have m2 : IntKind.u64.wrap ((B : Int) * 256 + (b.toNat : Int)) = (B : Int) * 256 + (b.toNat : Int) := IntWalk.u64_in _ (by omega)
            clear hb hb2 hst2 hBB hin
            go_wp2_with fail
            exact ⟨⟨by first | trivial | rfl, t + 1, HT.out, by go_num, by rw [HS.out]; go_num⟩, by have := HT.out; simp [intOf]; omega⟩
          · have hst2 := blkN_out (l := l.drop (8 * j)) (t := t) (by rw [List.length_drop]; omega) ht8
            have HS := Lib.hid hst2
            obtain ⟨B, hBB⟩ : ∃ B, blkN (l.drop (8 * j)) t = B := ⟨_, rfl⟩
            rw [hBB] at HS hB ⊢
            have hin2 : ¬ ((8 * j + t : Nat) : Int) < (l.length : Int) := by omega
            have m1 : IntKind.u64.wrap ((B : Int) * 256) = (B : Int) * 256 := IntWalk.u64_in _ (by omega)
            clear hst2 hBB hin
            go_wp2_with fail
            exact ⟨⟨by first | trivial | rfl, t + 1, HT.out, by go_num, by rw [HS.out]; go_num⟩, by have := HT.out; simp [intOf]; omega⟩
        · obtain rfl : t = 8 := by omega
          rw [blkN_8]
          obtain ⟨D, hD⟩ : ∃ D, l.drop (8 * j) = D := ⟨_, rfl⟩
          have hDl : D.length = l.length - 8 * j := by rw [← hD, List.length_drop]
          have hD8 : l.drop (8 * (j + 1)) = D.drop 8 := by rw [← hD, List.drop_drop, Nat.mul_succ]
          rw [hD] at HJ ⊢
          have hBl := blockN_lt D
          obtain ⟨B, hB⟩ : ∃ B, blockN D = B := ⟨_, rfl⟩
          rw [hB] at hBl ⊢
          obtain ⟨X, hX⟩ : ∃ X, st ^^^ B = X := ⟨_, rfl⟩
          have hXl : X < two64 := hX ▸ xor_lt hst hBl
          have e2 : bits .xor .u64 (st : Int) (B : Int) = (X : Int) := by
            rw [bits_xor_u64_nat st B hst hBl, hX]
          have MX := Lib.hid (fun W => rmix_any W X hXl)
          obtain ⟨Y, hY⟩ : ∃ Y, mixN X = Y := ⟨_, rfl⟩
          have hYl : Y < two64 := hY ▸ mixN_lt X
          rw [hY] at MX
          have hnx : (8 * (j + 1) ≤ l.length ∧ Hid (sumN ((l.drop (8 * (j + 1))).length / 8) Y (l.drop (8 * (j + 1))) = F)) ∨ (l.length < 8 * (j + 1) ∧ 8 * (j + 1) ≤ l.length + 8 ∧ Hid (Y = F)) := by
            have hm : mixN (st ^^^ blockN D) = Y := by rw [hB, hX, hY]
            by_cases h8 : 8 ≤ D.length
            · refine .inl ⟨by omega, Lib.hid ?_⟩
              have := HJ.out
              rw [sumN_full h8, hm] at this
              rw [hD8]
              exact this
            · refine .inr ⟨by omega, by omega, Lib.hid ?_⟩
              have := HJ.out
              rw [sumN_rest (by omega), hm] at this
              exact this
          have HN := Lib.hid hnx
          have hrng2 : ((8 * j : Nat) : Int) ≤ 4611686018427387904 := by omega
          have hex : ¬ ((8 * j + 8 : Nat) : Int) < ((8 * j : Nat) : Int) + 8 := by omega
          clear hnx hD hDl hD8 hB hX hY HJ hBl hXl
          go_wp2_with (go_at_call 114; refine (MX.out _).mono ?_; rintro e w9 ⟨rfl, rfl⟩)
          exact ⟨⟨by first | trivial | rfl, j + 1, Y, by go_num, rfl, hYl, HN.out⟩, by have := HJL.out; simp [intOf]; omega⟩
    · have hle : ¬ ((8 * j : Nat) : Int) ≤ (l.length : Int) := by omega
      have hSF := HJ.out
      subst hSF
      have HST := Lib.hid hst
      clear HJ hjl hj2 hst hFl
      go_wp2_with fail
      go_loopw [3, 7, 8] (fun s v i wr => wr = w ∧ ∃ k : Nat, k ≤ 16 ∧ i = .int .i64 (k : Int) ∧ v = .string (bs (hexS st k)) ∧ s = .int .u64 ((st / 16 ^ k : Nat) : Int)) (fun _ _ i _ => 16 - (intOf i).toNat)
      case atStart => exact ⟨rfl, 0, by omega, rfl, rfl, by rw [Nat.pow_zero, Nat.div_one]⟩
      case round =>
        obtain ⟨hwr, k, hk, rfl, rfl, rfl⟩ := hrel
        have hwr := hwr.symm
        subst hwr
        by_cases hk16 : k < 16
        · obtain ⟨m, hm⟩ : ∃ m, st / 16 ^ k = m := ⟨_, rfl⟩
          have hnx : hexS st (k + 1) = hexc (m % 16) :: hexS st k := by rw [← hm]; rfl
          have hdv : st / 16 ^ (k + 1) = m / 16 := by rw [← hm, Nat.div_div_eq_div_mul, Nat.pow_succ]
          have hml : m < 18446744073709551616 := by
            rw [← hm]
            exact Nat.lt_of_le_of_lt (Nat.div_le_self _ _) HST.out
          rw [hm]
          obtain ⟨d, hd⟩ : ∃ d, m % 16 = d := ⟨_, rfl⟩
          have hd16 : d < 16 := by omega
          obtain ⟨q, hq⟩ : ∃ q, m / 16 = q := ⟨_, rfl⟩
          have hmod : ((m : Nat) : Int) % 16 = (d : Int) := by omega
          have hmod2 : ((m : Nat) : Int).tmod 16 = (d : Int) := by rw [Int.tmod_eq_emod_of_nonneg (by omega)]; exact hmod
          have hdiv : ((m : Nat) : Int).tdiv 16 = (q : Int) := by rw [Int.tdiv_eq_ediv_of_nonneg (by omega)]; omega
          have hdiv2 : ((m : Nat) : Int) / 16 = (q : Int) := by omega
          have sl := hexU_slice d hd16
          have hlen := hexS_len st k
          rw [hd] at hnx
          rw [hq] at hdv
          obtain ⟨T, hT⟩ : ∃ T, hexS st k = T := ⟨_, rfl⟩
          rw [hT] at hnx hlen ⊢
          have hsum : ∀ W : World, (Op.stringOp .add (bs [hexc d]) (bs T)).run Tryz.prog W = .ok (.string (bs (hexc d :: T))) W := fun W => by
            have := run_string_add_sum (P := Tryz.prog) (w := W) (bs [hexc d]) (bs T) (by rw [bs_size, bs_size]; simp only [List.length_singleton]; omega)
            rw [bs_consR] at this
            exact this
          have HNX := Lib.hid hnx
          have HDV := Lib.hid hdv
          have HK := Lib.hid hk16
          have hq64 : q < 18446744073709551616 := by omega
          clear hnx hdv hm hd hq hT hlen
          go_wp2_with fail
          exact ⟨⟨by first | trivial | rfl, k + 1, HK.out, by go_num, by rw [HNX.out], by rw [HDV.out]⟩, by have := HK.out; simp [intOf]; omega⟩
        · obtain rfl : k = 16 := by omega
          go_wp2_with fail
          go_ret
          exact ⟨rfl, rfl⟩
end Go.Proofs.YtieicjjmkedgaaaGreatDoor

/- The disk as plain data, without any program. -/
namespace Go.Proofs.YtieicjjmkedgaaaGreatDoor
open Go.RowKit

/-- A disk: n sectors, the stable and the elder bytes, the pending writes, whether it is off, the alarm. -/
structure Dk where
  n : Nat
  st : List UInt8
  el : List UInt8
  q : List (Nat × ByteArray)
  off : Bool
  arm : Option (Int × Int × Int)

structure Dk.Ok (d : Dk) : Prop where
  n1 : 1 ≤ d.n
  n2 : d.n ≤ 4000
  st : d.st.length = 64 * d.n
  el : d.el.length = 64 * d.n
  q : ∀ p ∈ d.q, p.1 < d.n ∧ p.2.size = 64
  arm : ∀ x, d.arm = some x → 0 ≤ x.1 ∧ x.1 ≤ 9223372036854775807

def Dk.set_ (d : Dk) (i : Nat) (t : List UInt8) : Dk := { d with el := splice d.el (64 * i) ((d.st.drop (64 * i)).take 64), st := splice d.st (64 * i) t }
def Dk.settle (d : Dk) (l : List (Nat × ByteArray)) : Dk := l.foldl (fun d p => d.set_ p.1 p.2.data.toList) d
def Dk.torn (d : Dk) (p : Option (Nat × ByteArray)) (k : Nat) : Dk :=
  match p with
  | some p => if 0 < k then d.set_ p.1 (p.2.data.toList.take k) else d
  | none => d
def clamp (x : Int) (m : Nat) : Nat := min (max x 0).toNat m
def Dk.fail (d : Dk) (wr by_ : Int) : Dk :=
  if d.off then d else
  { (((d.settle (d.q.take (clamp wr d.q.length))).torn d.q[clamp wr d.q.length]? (clamp by_ 64))) with q := [], off := true, arm := none }
def Dk.count (d : Dk) : Dk × Int :=
  match d.arm with
  | none => (d, 0)
  | some (a, wr, by_) => if 0 < a then ({ d with arm := some (a - 1, wr, by_) }, 0) else (d.fail wr by_, 25)
def Dk.has (d : Dk) (s : Int) : Bool := decide (0 ≤ s) && decide (s < d.n)
def Dk.write (d : Dk) (s : Int) (t : ByteArray) : Dk × Int :=
  if d.off then (d, 25) else if d.has s = false then (d, 1) else if t.size ≠ 64 then (d, 1) else Dk.count { d with q := d.q ++ [(s.toNat, t)] }
def Dk.sec (d : Dk) (i : Nat) : List UInt8 := (d.st.drop (64 * i)).take 64
def lastOf (q : List (Nat × ByteArray)) (i : Nat) : Option ByteArray := (q.reverse.find? (fun p => p.1 == i)).map (·.2)
def Dk.view (d : Dk) (i : Nat) : ByteArray := (lastOf d.q i).getD ⟨(d.sec i).toArray⟩
def Dk.read (d : Dk) (s : Int) : ByteArray × Int :=
  if d.off then (ByteArray.empty, 25) else if d.has s = false then (ByteArray.empty, 1) else (d.view s.toNat, 0)
def Dk.sync (d : Dk) : Dk × Int :=
  if d.off then (d, 25) else if d.count.2 = 0 then ({ d.count.1.settle d.count.1.q with q := [] }, 0) else d.count
def Dk.start (d : Dk) : Dk := { d with off := false, arm := none }
def Dk.doArm (d : Dk) (a wr by_ : Int) : Dk := if d.off then d else { d with arm := if 0 ≤ a then some (a, wr, by_) else none }
def Dk.rot (d : Dk) (s k m : Int) : Dk :=
  if d.has s = true ∧ 0 ≤ k ∧ k < 64 ∧ 0 < m ∧ m < 256 then { d with st := d.st.set (64 * s.toNat + k.toNat) ((d.st.getD (64 * s.toNat + k.toNat) 0) ^^^ UInt8.ofNat m.toNat) } else d
def Dk.stale (d : Dk) (s : Int) : Dk :=
  if d.has s = true then { d with st := splice d.st (64 * s.toNat) ((d.el.drop (64 * s.toNat)).take 64) } else d
def Dk.new (n : Nat) : Dk := { n := n, st := List.replicate (64 * n) 0, el := List.replicate (64 * n) 0, q := [], off := false, arm := none }

theorem Dk.set_ok {d : Dk} (h : d.Ok) {i : Nat} {t : List UInt8} (hi : i < d.n) (ht : t.length ≤ 64) : (d.set_ i t).Ok := by
  obtain ⟨a, b, c, e, f, g⟩ := h
  refine ⟨a, b, ?_, ?_, f, g⟩
  · show (splice _ _ _).length = _
    rw [length_splice _ _ _ (by rw [c]; omega)]; exact c
  · show (splice _ _ _).length = _
    rw [length_splice _ _ _ (by simp [c, e]; omega)]; exact e
theorem Dk.set_same (d : Dk) (i : Nat) (t : List UInt8) : (d.set_ i t).n = d.n ∧ (d.set_ i t).q = d.q ∧ (d.set_ i t).off = d.off ∧ (d.set_ i t).arm = d.arm := ⟨rfl, rfl, rfl, rfl⟩

theorem Dk.settle_same (l : List (Nat × ByteArray)) : ∀ d : Dk, (d.settle l).n = d.n ∧ (d.settle l).q = d.q ∧ (d.settle l).off = d.off ∧ (d.settle l).arm = d.arm := by
  induction l with
  | nil => intro d; exact ⟨rfl, rfl, rfl, rfl⟩
  | cons p l ih => intro d; exact ih _
theorem Dk.settle_take (d : Dk) (l : List (Nat × ByteArray)) (k : Nat) (p : Nat × ByteArray) (hp : l[k]? = some p) : d.settle (l.take (k + 1)) = (d.settle (l.take k)).set_ p.1 p.2.data.toList := by
  obtain ⟨hk, rfl⟩ := List.getElem?_eq_some_iff.1 hp
  unfold Dk.settle
  rw [List.take_succ_eq_append_getElem hk, List.foldl_append]
  rfl
theorem Dk.settle_ok (l : List (Nat × ByteArray)) : ∀ {d : Dk}, d.Ok → (∀ p ∈ l, p.1 < d.n ∧ p.2.size = 64) → (d.settle l).Ok := by
  induction l with
  | nil => intro d h _; exact h
  | cons p l ih =>
    intro d h hl
    have hp := hl p (by simp)
    refine ih (Dk.set_ok h hp.1 ?_) (fun x hx => hl x (by simp [hx]))
    have : p.2.data.toList.length = p.2.size := by simp
    omega

end Go.Proofs.YtieicjjmkedgaaaGreatDoor

/- The disk in memory; what the functions place, at and set of package disk do to it. -/
namespace Go.Proofs.YtieicjjmkedgaaaGreatDoor
open Go.RowKit

/-- The cells of the queue. -/
def qcells (q : List (Nat × ByteArray)) : List Value := q.flatMap fun p => [.int .i64 ((64 * p.1 : Nat) : Int), .int .i64 ((64 * p.1 + 64 : Nat) : Int), .string p.2]
def armV : Option Nat → Value
  | none => .pointer none
  | some g => .pointer (some ⟨g, 0, none⟩)

/-- Block a holds a disk; all its blocks are those of F. -/
structure DiskAt' (w : World) (a b1 b2 : Nat) (qv : Value) (ga : Option Nat) (d : Dk) (F : Foot) : Prop where
  ok : d.Ok
  main : Blk w a 53 #[.slice (some ⟨b1, 0, none⟩) (64 * d.n) (64 * d.n), .slice (some ⟨b2, 0, none⟩) (64 * d.n) (64 * d.n), qv, .bool d.off, armV ga]
  st : Blk w b1 5 (bc d.st).toArray
  el : Blk w b2 5 (bc d.el).toArray
  ne : b1 ≠ b2
  q : w.ownsRow 0 82 3 qv d.q.length (qcells d.q)
  qlen : d.q.length ≤ 4096
  arm0 : ga = none → d.arm = none
  arm1 : ∀ g, ga = some g → ∃ x, d.arm = some x ∧ Blk w g 88 #[.int .i64 x.1, .int .i64 x.2.1, .int .i64 x.2.2]
  fa : F a
  f1 : F b1
  f2 : F b2
  fq : ∀ g, qv.ownBlock = some g → F g
  fg : ∀ g, ga = some g → F g
  fl : ∀ i, F i → i < w.heap.size

theorem DiskAt'.upd {w w' : World} {a b1 b2 : Nat} {qv : Value} {ga : Option Nat} {d d' : Dk} {F : Foot} (h : DiskAt' w a b1 b2 qv ga d F) (hO : Only (fun i => i = b1 ∨ i = b2) w w') (hok : d'.Ok)
    (h1 : Blk w' b1 5 (bc d'.st).toArray) (h2 : Blk w' b2 5 (bc d'.el).toArray) (hn : d'.n = d.n) (hq : d'.q = d.q) (hf : d'.off = d.off) (ha : d'.arm = d.arm) : DiskAt' w' a b1 b2 qv ga d' F := by
  have n1 := h.main.ne_ h.st (by decide)
  have n2 := h.main.ne_ h.el (by decide)
  exact {
    ok := hok
    main := by rw [hn, hf]; exact hO.blk h.main (by rintro (e | e); exact n1 e; exact n2 e)
    st := h1, el := h2, ne := h.ne
    q := by
      rw [hq]
      exact hO.owns h.q (fun g hg => by
        rintro (rfl | rfl)
        · exact own_blk_ne h.q h.st (by decide) hg
        · exact own_blk_ne h.q h.el (by decide) hg)
    qlen := by rw [hq]; exact h.qlen
    arm0 := by rw [ha]; exact h.arm0
    arm1 := fun g hg => by
      obtain ⟨x, hx, hb⟩ := h.arm1 g hg
      refine ⟨x, by rw [ha]; exact hx, hO.blk hb ?_⟩
      rintro (e | e)
      · exact hb.ne_ h.st (by decide) e
      · exact hb.ne_ h.el (by decide) e
    fa := h.fa, f1 := h.f1, f2 := h.f2, fq := h.fq, fg := h.fg
    fl := fun i hi => Nat.lt_of_lt_of_le (h.fl i hi) hO.size }

theorem el_take (d : Dk) (i : Nat) : ((bc d.st).drop (64 * i)).take 64 = bc (d.sec i) := by rw [bc_drop, bc_take]; rfl

set_option maxRecDepth 100000 in
set_option maxHeartbeats 400000 in
theorem set_any {w : World} {a b1 b2 : Nat} {qv : Value} {ga : Option Nat} {d : Dk} {F : Foot} (h : DiskAt' w a b1 b2 qv ga d F) (i : Nat) (t : ByteArray) (hi : i < d.n) (ht : t.size ≤ 64) :
    Calls Tryz.prog 48 #[.pointer (some ⟨a, 0, none⟩), .agg #[.int .i64 (64 * (i : Int)), .int .i64 (64 * (i : Int) + 64)], .string t] w fun e w' =>
      e = .returned (.tuple #[]) ∧ Only F w w' ∧ DiskAt' w' a b1 b2 qv ga (d.set_ i t.data.toList) F := by
  have hn := h.ok.n2
  have c0 := h.main.cell 0
  have c1 := h.main.cell 1
  simp at c0 c1
  have hlt := h.main.lt
  have sl : ∀ (g : Nat) (W : World), (Instr.slice 49 (.slice (some ⟨g, 0, none⟩) (64 * d.n) (64 * d.n)) (some (.int .i64 (64 * (i : Int)))) (some (.int .i64 (64 * (i : Int) + 64))) none).run Tryz.prog W =
      .ok (.slice (some ⟨g, 64 * i, none⟩) 64 (64 * d.n - 64 * i)) W := fun g W => by
    have := run_slice_in (P := Tryz.prog) 49 5 (by kernel_rfl) (by kernel_rfl) g 0 (64 * d.n) (64 * d.n) (64 * (i : Int)) (64 * (i : Int) + 64) (64 * i) (64 * i + 64) (by omega) (by omega) (by omega) (by omega) (by omega) W
    simpa using this
  go_enter Tryz.func48, Tryz.ntmps48
  go_wp2
  refine wp_region_tail 18 (by kernel_rfl) (by kernel_rfl) ?_
  simp only [List.take_succ_cons, List.take_zero, List.drop_succ_cons, List.drop_zero]
  repeat still_step
  refine wpStill_nil ?_
  have hst := h.ok.st
  have hel := h.ok.el
  have hsec : (d.sec i).length = 64 := by simp [Dk.sec, hst]; omega
  have l1 := h.st.lt
  have l2 := h.el.lt
  refine wpList_copy_blk rfl (.tmp 14) (.tmp 23) _ _ rfl 5 (by kernel_rfl) (by kernel_rfl) b2 (64 * i) 64 _ ⟨b1, 64 * i, none⟩ 64 _ rfl rfl (bc d.el) _ (h.el.alloc _) (bc (d.sec i)) (by simp [bc_len, hsec]) ?_ (by simp [bc_len, hsec, hel]; omega) (bc_one _) ?_
  · intro j v hj
    rw [← el_take, List.getElem?_take] at hj
    split at hj
    · rw [List.getElem?_drop] at hj
      have := (h.st.alloc (.cells #[Value.int IntKind.i64 (64 * ↑i), Value.int IntKind.i64 (64 * ↑i + 64)] 80)).drew.cell (64 * i + j)
      have e : (⟨b1, 64 * i, none⟩ : Addr).add j = ⟨b1, 64 * i + j, none⟩ := by unfold Addr.add; split <;> simp_all
      rw [e, this]
      simpa using hj
    · cases hj
  intro w1 k1 o1 s1
  have m1 : Blk w1 a _ _ := o1.blk (h.main.alloc _).drew (h.main.ne_ h.el (by decide))
  have x1 : Blk w1 w.heap.size _ _ := o1.blk (Blk.new w _ _).drew (by omega)
  have t1 : Blk w1 b1 _ _ := o1.blk (h.st.alloc _).drew h.ne
  have c0' := m1.cell 0
  have y0 := x1.cell 0
  have y1 := x1.cell 1
  simp at c0' y0 y1
  have O1 := o1
  clear o1 c0 c1
  go_wp2
  refine wp_region_tail 10 (by kernel_rfl) (by kernel_rfl) ?_
  simp only [List.take_succ_cons, List.take_zero, List.drop_succ_cons, List.drop_zero]
  repeat still_step
  refine wpStill_nil ?_
  refine wpList_copy_str rfl (.tmp 33) (.tmp 34) _ _ rfl 5 (by kernel_rfl) (by kernel_rfl) b1 (64 * i) 64 _ t rfl rfl (bc d.st) _ t1.drew ht (by simp [bc_len, hst]; omega) ?_
  intro w2 k2 o2 s2
  have O2 := o2
  clear o2
  go_wp2
  go_end0
  have e1 : Only (fun i => i = b1 ∨ i = b2) w w2 :=
    (((Only.refl (fun i => i = b1 ∨ i = b2) w).alloc _).drew.trans O1 (fun i e => .inl (.inr e))).trans O2.undrew (fun i e => .inl (.inl e))
  rw [bc_splice] at k1 k2
  exact ⟨rfl, e1.mono (by rintro i (rfl | rfl); exact h.f1; exact h.f2), h.upd e1 (Dk.set_ok h.ok hi (by simpa using ht)) k2 (O2.blk k1.drew h.ne.symm) rfl rfl rfl rfl⟩

theorem DiskAt'.keep {w w' : World} {a b1 b2 : Nat} {qv : Value} {ga : Option Nat} {d : Dk} {F G : Foot} (h : DiskAt' w a b1 b2 qv ga d F) (hO : Only G w w') (hd : ∀ i, F i → ¬ G i) : DiskAt' w' a b1 b2 qv ga d F where
  ok := h.ok
  main := hO.blk h.main (hd _ h.fa)
  st := hO.blk h.st (hd _ h.f1)
  el := hO.blk h.el (hd _ h.f2)
  ne := h.ne
  q := hO.owns h.q fun g hg => hd _ (h.fq g hg)
  qlen := h.qlen
  arm0 := h.arm0
  arm1 := fun g hg => by
    obtain ⟨x, hx, hb⟩ := h.arm1 g hg
    exact ⟨x, hx, hO.blk hb (hd _ (h.fg g hg))⟩
  fa := h.fa
  f1 := h.f1
  f2 := h.f2
  fq := h.fq
  fg := h.fg
  fl := fun i hi => Nat.lt_of_lt_of_le (h.fl i hi) hO.size

section
variable {w : World} {a b1 b2 : Nat} {qv : Value} {ga : Option Nat} {d : Dk} {F : Foot}
set_option maxRecDepth 100000 in
set_option maxHeartbeats 400000 in
theorem place_yes (h : DiskAt' w a b1 b2 qv ga d F) (i : Nat) (hi : i < d.n) :
    Calls Tryz.prog 51 #[.pointer (some ⟨a, 0, none⟩), .int .i64 (i : Int)] w fun e w' =>
      e = .returned (.tuple #[.agg #[.int .i64 (64 * (i : Int)), .int .i64 (64 * (i : Int) + 64)], .bool true]) ∧ Below w.heap.size w w' := by
  have hn := h.ok.n2
  have c0 := h.main.cell 0
  simp at c0
  have hlt := h.main.lt
  go_enter Tryz.func51, Tryz.ntmps51
  go_wp2
  refine bodyPost_ret (v := .tuple #[.agg #[.int .i64 (64 * (i : Int)), .int .i64 (64 * (i : Int) + 64)], .bool true]) (by simp [results, Tryz.results51, go_sem]; omega) rfl ⟨rfl, ?_⟩
  exact (Below.refl _ _).alloc (Nat.le_refl _) _

set_option maxRecDepth 100000 in
set_option maxHeartbeats 400000 in
theorem place_no (h : DiskAt' w a b1 b2 qv ga d F) (s : Int) (hs : d.has s = false) :
    Calls Tryz.prog 51 #[.pointer (some ⟨a, 0, none⟩), .int .i64 s] w fun e w' =>
      e = .returned (.tuple #[.agg #[.int .i64 0, .int .i64 0], .bool false]) ∧ Below w.heap.size w w' := by
  have hn := h.ok.n2
  have c0 := h.main.cell 0
  simp at c0
  have hlt := h.main.lt
  by_cases h0 : s < 0
  · clear hs
    go_enter Tryz.func51, Tryz.ntmps51
    go_wp2
    refine bodyPost_ret (v := .tuple #[.agg #[.int .i64 0, .int .i64 0], .bool false]) (by simp [results, Tryz.results51, go_sem]) rfl ⟨rfl, ?_⟩
    exact (Below.refl _ _).alloc (Nat.le_refl _) _
  · have h1 : (d.n : Int) ≤ s := by simp [Dk.has] at hs; omega
    clear hs
    go_enter Tryz.func51, Tryz.ntmps51
    go_wp2
    refine bodyPost_ret (v := .tuple #[.agg #[.int .i64 0, .int .i64 0], .bool false]) (by simp [results, Tryz.results51, go_sem]) rfl ⟨rfl, ?_⟩
    exact (Below.refl _ _).alloc (Nat.le_refl _) _

set_option maxRecDepth 100000 in
set_option maxHeartbeats 400000 in
theorem place_nil (w : World) (s : Int) :
    Calls Tryz.prog 51 #[.pointer none, .int .i64 s] w fun e w' =>
      e = .returned (.tuple #[.agg #[.int .i64 0, .int .i64 0], .bool false]) ∧ Below w.heap.size w w' := by
  go_enter Tryz.func51, Tryz.ntmps51
  go_wp2
  refine bodyPost_ret (v := .tuple #[.agg #[.int .i64 0, .int .i64 0], .bool false]) (by simp [results, Tryz.results51, go_sem]) rfl ⟨rfl, ?_⟩
  exact (Below.refl _ _).alloc (Nat.le_refl _) _

set_option maxRecDepth 100000 in
set_option maxHeartbeats 400000 in
theorem at_yes (h : DiskAt' w a b1 b2 qv ga d F) (ho : d.off = false) (i : Nat) (hi : i < d.n) :
    Calls Tryz.prog 65 #[.pointer (some ⟨a, 0, none⟩), .int .i64 (i : Int)] w fun e w' =>
      e = .returned (.tuple #[.agg #[.int .i64 (64 * (i : Int)), .int .i64 (64 * (i : Int) + 64)], .int .i64 0]) ∧ Below w.heap.size w w' := by
  have c3 := h.main.cell 3
  simp [ho] at c3
  have hlt := h.main.lt
  have HO := Lib.hid ho
  clear ho
  go_enter Tryz.func65, Tryz.ntmps65
  go_wp2_with fail
  refine (place_yes (h.keep (((Only.refl (fun _ => False) w).alloc _)) (by simp)) i hi).mono ?_
  rintro e w1 ⟨rfl, hb⟩
  obtain ⟨y, f, l⟩ := ((Blk.new w 80 #[.int .i64 0, .int .i64 0]).below hb (by simp)).all
  go_wp2
  refine bodyPost_ret (v := .tuple #[.agg #[.int .i64 (64 * (i : Int)), .int .i64 (64 * (i : Int) + 64)], .int .i64 0]) (by simp [results, Tryz.results65, go_sem, y, l]) rfl ⟨rfl, ?_⟩
  exact (((below_alloc hb).setCell (Nat.le_refl _) _).setCell (Nat.le_refl _) _).alloc (by simp; omega) _

set_option maxRecDepth 100000 in
set_option maxHeartbeats 400000 in
theorem at_no (h : DiskAt' w a b1 b2 qv ga d F) (ho : d.off = false) (s : Int) (hs : d.has s = false) :
    Calls Tryz.prog 65 #[.pointer (some ⟨a, 0, none⟩), .int .i64 s] w fun e w' =>
      e = .returned (.tuple #[.agg #[.int .i64 0, .int .i64 0], .int .i64 1]) ∧ Below w.heap.size w w' := by
  have c3 := h.main.cell 3
  simp [ho] at c3
  have hlt := h.main.lt
  have HO := Lib.hid ho
  have HS := Lib.hid hs
  clear ho hs
  go_enter Tryz.func65, Tryz.ntmps65
  go_wp2_with fail
  refine (place_no (h.keep (((Only.refl (fun _ => False) w).alloc _)) (by simp)) s HS.out).mono ?_
  rintro e w1 ⟨rfl, hb⟩
  obtain ⟨y, f, l⟩ := ((Blk.new w 80 #[.int .i64 0, .int .i64 0]).below hb (by simp)).all
  go_wp2
  refine bodyPost_ret (v := .tuple #[.agg #[.int .i64 0, .int .i64 0], .int .i64 1]) (by simp [results, Tryz.results65, go_sem, y, l]) rfl ⟨rfl, ?_⟩
  exact (((below_alloc hb).setCell (Nat.le_refl _) _).setCell (Nat.le_refl _) _).alloc (by simp; omega) _

set_option maxRecDepth 100000 in
set_option maxHeartbeats 400000 in
theorem at_off (h : DiskAt' w a b1 b2 qv ga d F) (ho : d.off = true) (s : Int) :
    Calls Tryz.prog 65 #[.pointer (some ⟨a, 0, none⟩), .int .i64 s] w fun e w' =>
      e = .returned (.tuple #[.agg #[.int .i64 0, .int .i64 0], .int .i64 25]) ∧ Below w.heap.size w w' := by
  have c3 := h.main.cell 3
  simp [ho] at c3
  have hlt := h.main.lt
  clear ho
  go_enter Tryz.func65, Tryz.ntmps65
  go_wp2
  refine bodyPost_ret (v := .tuple #[.agg #[.int .i64 0, .int .i64 0], .int .i64 25]) (by simp [results, Tryz.results65, go_sem]) rfl ⟨rfl, ?_⟩
  exact (Below.refl _ _).alloc (Nat.le_refl _) _

set_option maxRecDepth 100000 in
set_option maxHeartbeats 400000 in
theorem at_nil (w : World) (s : Int) :
    Calls Tryz.prog 65 #[.pointer none, .int .i64 s] w fun e w' =>
      e = .returned (.tuple #[.agg #[.int .i64 0, .int .i64 0], .int .i64 1]) ∧ Below w.heap.size w w' := by
  go_enter Tryz.func65, Tryz.ntmps65
  go_wp2_with fail
  refine (place_nil _ s).mono ?_
  rintro e w1 ⟨rfl, hb⟩
  obtain ⟨y, f, l⟩ := ((Blk.new w 80 #[.int .i64 0, .int .i64 0]).below hb (by simp)).all
  go_wp2
  refine bodyPost_ret (v := .tuple #[.agg #[.int .i64 0, .int .i64 0], .int .i64 1]) (by simp [results, Tryz.results65, go_sem, y, l]) rfl ⟨rfl, ?_⟩
  exact (((below_alloc hb).setCell (Nat.le_refl _) _).setCell (Nat.le_refl _) _).alloc (by simp; omega) _
end
end Go.Proofs.YtieicjjmkedgaaaGreatDoor

/- What settle, count, Fail, Write, Read, Sync, Start, Arm, Rot, Stale and New of package disk do to a disk in memory. -/
namespace Go.Proofs.YtieicjjmkedgaaaGreatDoor
open Go.RowKit

theorem qcells_len (q : List (Nat × ByteArray)) : (qcells q).length = q.length * 3 := by
  induction q with
  | nil => rfl
  | cons p q ih => simp [qcells] at ih ⊢; omega
theorem qcells_at (q : List (Nat × ByteArray)) (k : Nat) (p : Nat × ByteArray) (hk : q[k]? = some p) :
    (qcells q)[k * 3]? = some (.int .i64 (64 * (p.1 : Int))) ∧ (qcells q)[k * 3 + 1]? = some (.int .i64 (64 * (p.1 : Int) + 64)) ∧ (qcells q)[k * 3 + 2]? = some (.string p.2) := by
  induction q generalizing k with
  | nil => simp at hk
  | cons p' q ih =>
    cases k with
    | zero => simp at hk; subst hk; simp [qcells]
    | succ k =>
      have := ih k (by simpa using hk)
      have e : (k + 1) * 3 = k * 3 + 3 := by omega
      simp only [qcells, List.flatMap_cons] at this ⊢
      rw [e]
      simpa using this

section
variable {w : World} {a b1 b2 : Nat} {qv : Value} {ga : Option Nat} {d : Dk} {F : Foot}

theorem DiskAt'.qat (h : DiskAt' w a b1 b2 qv ga d F) (k : Nat) (p : Nat × ByteArray) (hp : d.q[k]? = some p) : ∃ g c, qv = .slice (some ⟨g, 0, none⟩) d.q.length c ∧ w.cell? ⟨g, k * 3, none⟩ = some (.int .i64 (64 * (p.1 : Int))) ∧
    w.cell? ⟨g, k * 3 + 1, none⟩ = some (.int .i64 (64 * (p.1 : Int) + 64)) ∧ w.cell? ⟨g, k * 3 + 2, none⟩ = some (.string p.2) := by
  have ho := h.q
  obtain ⟨hk, _⟩ := List.getElem?_eq_some_iff.1 hp
  rcases ho.2 with ⟨_, h0⟩ | ⟨g, cap, cur, hv, _⟩
  · omega
  · subst hv
    obtain ⟨e1, e2, e3⟩ := qcells_at d.q k p hp
    have c := h.q.cellAt
    refine ⟨g, cap, rfl, ?_, ?_, ?_⟩
    · rw [c _ (by omega)]; exact e1
    · rw [c _ (by omega)]; exact e2
    · rw [c _ (by omega)]; exact e3

set_option maxRecDepth 100000 in
set_option maxHeartbeats 400000 in
theorem settle_any (h : DiskAt' w a b1 b2 qv ga d F) (A : Option Addr) (n c m c' : Nat) (hq : qv = .slice A n c) (hm : m ≤ d.q.length) :
    Calls Tryz.prog 47 #[.pointer (some ⟨a, 0, none⟩), .slice A m c'] w fun e w' =>
      e = .returned (.tuple #[]) ∧ Only F w w' ∧ DiskAt' w' a b1 b2 qv ga (d.settle (d.q.take m)) F := by
  have hql := h.qlen
  go_enter Tryz.func47, Tryz.ntmps47
  go_wp2_with fail
  go_loopw [5, 8] (fun _ i wr => ∃ k : Nat, k ≤ m ∧ i = .int .i64 k ∧ Only F w wr ∧ DiskAt' wr a b1 b2 qv ga (d.settle (d.q.take k)) F) (fun _ i _ => m - (intOf i).toNat)
  case atStart => exact ⟨0, by omega, rfl, Only.refl _ _, h⟩
  case round =>
    obtain ⟨k, hk, rfl, hO, hD⟩ := hrel
    by_cases hlt : k < m
    · obtain ⟨p, hp⟩ : ∃ p, d.q[k]? = some p := ⟨_, List.getElem?_eq_getElem (by omega)⟩
      have hsame := Dk.settle_same (d.q.take k) d
      obtain ⟨g, c0, hqv, e1, e2, e3⟩ := hD.qat k p (by rw [hsame.2.1]; exact hp)
      rw [hq] at hqv
      injection hqv with hA _ _
      subst hA
      have hqk : p.1 < d.n ∧ p.2.size = 64 := h.ok.q _ (List.mem_of_getElem? hp)
      have HS := Lib.hid (Dk.settle_take d d.q k p hp)
      have HQ := Lib.hid hq
      have HM := Lib.hid hsame
      have HP := Lib.hid hp
      clear hq hsame hp
      obtain ⟨s, t⟩ := p
      go_wp2_with fail
      refine (set_any (hD.keep ((Only.refl (fun _ => False) wr).alloc _) (by simp)) s t (by rw [HM.out.1]; exact hqk.1) (by omega)).mono ?_
      rintro e w1 ⟨rfl, o1, d1⟩
      go_wp2
      go_roundw
      case rel => exact ⟨k + 1, by omega, by go_num, (hO.alloc _).trans o1 (fun i hi => .inl hi), by rw [HS.out]; exact d1⟩
      case measure => simp [intOf]; omega
    · go_wp2
      go_end0
      obtain rfl : k = m := by omega
      exact ⟨rfl, hO, hD⟩
end
end Go.Proofs.YtieicjjmkedgaaaGreatDoor

/- What Fail of package disk does to a disk in memory. -/
namespace Go.Proofs.YtieicjjmkedgaaaGreatDoor
open Go.RowKit

section
variable {w : World} {a b1 b2 : Nat} {qv : Value} {ga : Option Nat} {d : Dk} {F : Foot}

theorem DiskAt'.form (h : DiskAt' w a b1 b2 qv ga d F) : ∃ A c, qv = .slice A d.q.length c ∧ d.q.length ≤ c := by
  rcases h.q.2 with ⟨h1, h0⟩ | ⟨g, cap, cur, hv, _, _, hc, _⟩
  · exact ⟨none, 0, by rw [h0]; exact h1, by omega⟩
  · exact ⟨_, cap, hv, hc⟩

theorem DiskAt'.flags {w' : World} (h : DiskAt' w a b1 b2 qv ga d F) (hO : Only (fun i => i = a) w w') (off' : Bool) (qv' : Value) (q' : List (Nat × ByteArray)) (ga' : Option Nat) (arm' : Option (Int × Int × Int))
    (hq : qv' = qv ∧ q' = d.q ∨ qv' = .slice none 0 0 ∧ q' = []) (hg : ga' = ga ∧ arm' = d.arm ∨ ga' = none ∧ arm' = none)
    (hm : Blk w' a 53 #[.slice (some ⟨b1, 0, none⟩) (64 * d.n) (64 * d.n), .slice (some ⟨b2, 0, none⟩) (64 * d.n) (64 * d.n), qv', .bool off', armV ga']) :
    DiskAt' w' a b1 b2 qv' ga' { d with q := q', off := off', arm := arm' } F := by
  have n1 := h.main.ne_ h.st (by decide)
  have n2 := h.main.ne_ h.el (by decide)
  exact {
    ok := ⟨h.ok.n1, h.ok.n2, h.ok.st, h.ok.el, (by rcases hq with ⟨_, rfl⟩ | ⟨_, rfl⟩; exact h.ok.q; intro p hp; cases hp), (by rcases hg with ⟨_, rfl⟩ | ⟨_, rfl⟩; exact h.ok.arm; intro x hx; cases hx)⟩
    main := hm
    st := hO.blk h.st n1.symm
    el := hO.blk h.el n2.symm
    ne := h.ne
    q := by
      rcases hq with ⟨rfl, rfl⟩ | ⟨rfl, rfl⟩
      · exact hO.owns h.q (fun g hg e => own_blk_ne h.q h.main (by decide) (by rw [hg, e]))
      · exact World.ownsRow_nil _ _ _ _
    qlen := by
      rcases hq with ⟨rfl, rfl⟩ | ⟨rfl, rfl⟩
      · exact h.qlen
      · exact Nat.zero_le _
    arm0 := by
      rcases hg with ⟨rfl, rfl⟩ | ⟨rfl, rfl⟩
      · exact h.arm0
      · intro _; rfl
    arm1 := by
      rcases hg with ⟨rfl, rfl⟩ | ⟨rfl, rfl⟩
      · intro g hg
        obtain ⟨x, hx, hb⟩ := h.arm1 g hg
        exact ⟨x, hx, hO.blk hb (hb.ne_ h.main (by decide))⟩
      · intro g hg; cases hg
    fa := h.fa
    f1 := h.f1
    f2 := h.f2
    fq := by
      rcases hq with ⟨rfl, rfl⟩ | ⟨rfl, rfl⟩
      · exact h.fq
      · intro g hg; cases hg
    fg := by
      rcases hg with ⟨rfl, rfl⟩ | ⟨rfl, rfl⟩
      · exact h.fg
      · intro g hg; cases hg
    fl := fun i hi => Nat.lt_of_lt_of_le (h.fl i hi) hO.size }

/-- The last three stores of Fail. -/
theorem DiskAt'.down (h : DiskAt' w a b1 b2 qv ga d F) {w0 : World} (hO : Only F w0 w) :
    Only F w0 (((w.setCell ⟨a, 2, none⟩ (.slice none 0 0)).setCell ⟨a, 3, none⟩ (.bool true)).setCell ⟨a, 4, none⟩ (.pointer none)) ∧
    DiskAt' (((w.setCell ⟨a, 2, none⟩ (.slice none 0 0)).setCell ⟨a, 3, none⟩ (.bool true)).setCell ⟨a, 4, none⟩ (.pointer none)) a b1 b2 (.slice none 0 0) none { d with q := [], off := true, arm := none } F :=
  ⟨((hO.setCell (.inl h.fa) _).setCell (.inl h.fa) _).setCell (.inl h.fa) _,
   h.flags ((((Only.refl (fun i => i = a) w).setCell (p := ⟨a, 2, none⟩) (.inl rfl) _).setCell (p := ⟨a, 3, none⟩) (.inl rfl) _).setCell (p := ⟨a, 4, none⟩) (.inl rfl) _) true _ _ _ _ (.inr ⟨rfl, rfl⟩) (.inr ⟨rfl, rfl⟩)
    (by simpa [armV] using ((h.main.set_ 2 (.slice none 0 0)).set_ 3 (.bool true)).set_ 4 (.pointer none))⟩

set_option maxRecDepth 100000 in
set_option maxHeartbeats 400000 in
theorem fail_on (h : DiskAt' w a b1 b2 qv ga d F) (ho : d.off = false) (wr by_ : Int) :
    Calls Tryz.prog 15 #[.pointer (some ⟨a, 0, none⟩), .int .i64 wr, .int .i64 by_] w fun e w' =>
      e = .returned (.tuple #[]) ∧ Only F w w' ∧ DiskAt' w' a b1 b2 (.slice none 0 0) none (d.fail wr by_) F := by
  obtain ⟨A, c, rfl, hc⟩ := h.form
  obtain ⟨c0, f0, hlt⟩ := h.main.all
  have hql := h.qlen
  have HO := Lib.hid ho
  simp only [ho] at c0
  obtain ⟨x, hx⟩ : ∃ x : Int, x = max wr 0 := ⟨_, rfl⟩
  obtain ⟨n, hn⟩ : ∃ n : Nat, (n : Int) = min x (d.q.length : Int) := ⟨(min x (d.q.length : Int)).toNat, by omega⟩
  have e1 := run_max2 (P := Tryz.prog) wr 0 x hx
  have e2 := run_min2 (P := Tryz.prog) x (d.q.length : Int) n hn
  obtain ⟨y, hy⟩ : ∃ x : Int, x = max by_ 0 := ⟨_, rfl⟩
  obtain ⟨m, hm⟩ : ∃ n : Nat, (n : Int) = min y 64 := ⟨(min y 64).toNat, by omega⟩
  have e3 := run_max2 (P := Tryz.prog) by_ 0 y hy
  have e4 := run_min2 (P := Tryz.prog) y 64 m hm
  have hnl : n ≤ d.q.length := by omega
  have hml : m ≤ 64 := by omega
  have en : clamp wr d.q.length = n := by unfold clamp; omega
  have em : clamp by_ 64 = m := by unfold clamp; omega
  have EN := Lib.hid en
  have EM := Lib.hid em
  clear hn hm hx hy en em
  have hd : d.fail wr by_ = { (((d.settle (d.q.take n)).torn d.q[n]? m)) with q := [], off := true, arm := none } := by
    unfold Dk.fail; rw [ho, EN.out, EM.out]; rfl
  have HD := Lib.hid hd
  clear hd ho
  have hsame := Dk.settle_same (d.q.take n) d
  have HS := Lib.hid hsame
  clear hsame
  by_cases hnl2 : n < d.q.length
  · obtain ⟨p, hp⟩ : ∃ p, d.q[n]? = some p := ⟨_, List.getElem?_eq_getElem hnl2⟩
    have hqk : p.1 < d.n ∧ p.2.size = 64 := h.ok.q _ (List.mem_of_getElem? hp)
    have HP := Lib.hid hp
    clear hp
    obtain ⟨s, t⟩ := p
    go_enter Tryz.func15, Tryz.ntmps15
    go_wp2_with fail
    refine (settle_any h A d.q.length c n c rfl hnl).mono ?_
    rintro e w1 ⟨rfl, o1, h1⟩
    obtain ⟨c1, f1, l1⟩ := h1.main.all
    obtain ⟨g, c2, hqv, k1, k2, k3⟩ := h1.qat n (s, t) (by rw [HS.out.2.1]; exact HP.out)
    injection hqv with hA _ _
    subst hA
    clear c0 f0
    by_cases hm0 : 0 < m
    · have sl : ∀ W : World, (Instr.slice 9 (.string t) none (some (.int .i64 (m : Int))) none).run Tryz.prog W = .ok (.string (t.extract 0 m)) W := fun W => by
        have := run_slice_string_h (P := Tryz.prog) W 9 t (by kernel_rfl) .i64 (m : Int) (by omega) (by omega)
        simpa using this
      go_wp2
      refine wp_region_tail 7 (by kernel_rfl) (by kernel_rfl) ?_
      simp only [List.take_succ_cons, List.take_zero, List.drop_succ_cons, List.drop_zero]
      repeat still_step
      refine wpStill_nil ?_
      go_wp2_with fail
      have h1' : DiskAt' (w1.alloc (.cells #[Value.int .i64 (64 * (s : Int)), .int .i64 (64 * (s : Int) + 64), .string t] 82)).drew a b1 b2 _ ga _ F := h1.keep ((Only.refl (fun _ => False) w1).alloc _).drew (by simp)
      have hx := ext_size t 0 m (by omega)
      refine (set_any h1' s (t.extract 0 m) (by rw [HS.out.1]; exact hqk.1) (by omega)).mono ?_
      rintro e w2 ⟨rfl, o2, h2⟩
      obtain ⟨c2, f2, l2⟩ := h2.main.all
      clear c1 f1
      go_wp2
      go_end0
      obtain ⟨r1, r2⟩ := h2.down ((o1.alloc _).trans o2.undrew (fun i hi => .inl hi))
      refine ⟨rfl, r1, ?_⟩
      rw [HD.out, HP.out]
      have : (d.settle (d.q.take n)).torn (some (s, t)) m = (d.settle (d.q.take n)).set_ s (t.extract 0 m).data.toList := by rw [ext_take]; simp [Dk.torn, hm0]
      rw [this]
      exact r2
    · go_wp2
      go_end0
      obtain ⟨r1, r2⟩ := h1.down o1
      refine ⟨rfl, r1.alloc _, ?_⟩
      rw [HD.out, HP.out]
      have : (d.settle (d.q.take n)).torn (some (s, t)) m = d.settle (d.q.take n) := by simp [Dk.torn, hm0]
      rw [this]
      exact r2.keep ((Only.refl (fun _ => False) _).alloc _) (by simp)
  · go_enter Tryz.func15, Tryz.ntmps15
    go_wp2_with fail
    refine (settle_any h A d.q.length c n c rfl hnl).mono ?_
    rintro e w1 ⟨rfl, o1, h1⟩
    obtain ⟨c1, f1, l1⟩ := h1.main.all
    clear c0 f0
    go_wp2
    go_end0
    obtain ⟨r1, r2⟩ := h1.down o1
    refine ⟨rfl, r1, ?_⟩
    rw [HD.out, List.getElem?_eq_none (by omega)]
    exact r2
end
end Go.Proofs.YtieicjjmkedgaaaGreatDoor

/- What count, Write and Sync of package disk do to a disk in memory. -/
namespace Go.Proofs.YtieicjjmkedgaaaGreatDoor
open Go.RowKit

/-- Block a holds a disk; F are its blocks. -/
def DiskAt (w : World) (a : Nat) (d : Dk) (F : Foot) : Prop := ∃ b1 b2 qv ga, DiskAt' w a b1 b2 qv ga d F

section
variable {w : World} {a b1 b2 : Nat} {qv : Value} {ga : Option Nat} {d : Dk} {F : Foot}

set_option maxRecDepth 100000 in
set_option maxHeartbeats 400000 in
theorem count_none (h : DiskAt' w a b1 b2 qv none d F) :
    Calls Tryz.prog 98 #[.pointer (some ⟨a, 0, none⟩)] w fun e w' => e = .returned (.int .i64 0) ∧ w = w' := by
  obtain ⟨c0, f0, hlt⟩ := h.main.all
  simp only [armV] at c0
  go_enter Tryz.func98, Tryz.ntmps98
  go_wp2
  go_ret
  exact ⟨rfl, rfl⟩

theorem DiskAt'.tick {g : Nat} {x wr by_ : Int} (h : DiskAt' w a b1 b2 qv (some g) d F) (ha : d.arm = some (x, wr, by_)) (hx : 0 < x) :
    DiskAt' (w.setCell ⟨g, 0, none⟩ (.int .i64 (x - 1))) a b1 b2 qv (some g) { d with arm := some (x - 1, wr, by_) } F := by
  obtain ⟨y, hy, hg⟩ := h.arm1 g rfl
  rw [ha] at hy
  injection hy with hy
  subst hy
  have hO : Only (fun i => i = g) w (w.setCell ⟨g, 0, none⟩ (.int .i64 (x - 1))) := (Only.refl (fun i => i = g) w).setCell (p := ⟨g, 0, none⟩) (.inl rfl) _
  exact {
    ok := ⟨h.ok.n1, h.ok.n2, h.ok.st, h.ok.el, h.ok.q, fun z hz => by
      have := h.ok.arm _ ha
      injection hz with hz
      subst hz
      simp only at this ⊢
      omega⟩
    main := hO.blk h.main (h.main.ne_ hg (by decide))
    st := hO.blk h.st (h.st.ne_ hg (by decide))
    el := hO.blk h.el (h.el.ne_ hg (by decide))
    ne := h.ne
    q := hO.owns h.q fun k hk e => own_blk_ne h.q hg (by decide) (by rw [hk, e])
    qlen := h.qlen
    arm0 := fun e => by cases e
    arm1 := fun k hk => by
      injection hk with hk
      subst hk
      exact ⟨_, rfl, by simpa using hg.set_ 0 (.int .i64 (x - 1))⟩
    fa := h.fa
    f1 := h.f1
    f2 := h.f2
    fq := h.fq
    fg := h.fg
    fl := fun i hi => Nat.lt_of_lt_of_le (h.fl i hi) hO.size }

set_option maxRecDepth 100000 in
set_option maxHeartbeats 400000 in
theorem count_some (h : DiskAt' w a b1 b2 qv ga d F) (ho : d.off = false) :
    Calls Tryz.prog 98 #[.pointer (some ⟨a, 0, none⟩)] w fun e w' => e = .returned (.int .i64 d.count.2) ∧ Only F w w' ∧ DiskAt w' a d.count.1 F := by
  cases ga with
  | none =>
    have ha := h.arm0 rfl
    have e : d.count = (d, 0) := by unfold Dk.count; rw [ha]
    rw [e]
    refine (count_none h).mono ?_
    rintro e w1 ⟨rfl, rfl⟩
    exact ⟨rfl, Only.refl _ _, _, _, _, _, h⟩
  | some g =>
    obtain ⟨⟨x, wr, by_⟩, ha, hg⟩ := h.arm1 g rfl
    have hx := h.ok.arm _ ha
    have ha' := Lib.hid ha
    simp only at hx
    obtain ⟨hx0, hx1⟩ := hx
    obtain ⟨c0, f0, hlt⟩ := h.main.all
    obtain ⟨c1, f1, hlg⟩ := hg.all
    simp only [armV] at c0
    simp only at c1
    by_cases hp : 0 < x
    · have e : d.count = ({ d with arm := some (x - 1, wr, by_) }, 0) := by unfold Dk.count; rw [ha]; simp [hp]
      rw [e]
      clear ha e
      go_enter Tryz.func98, Tryz.ntmps98
      go_wp2
      go_ret
      refine ⟨rfl, (Only.refl _ _).setCell (.inl (h.fg g rfl)) _, b1, b2, qv, some g, ?_⟩
      rw [← ho]
      exact h.tick ha'.out hp
    · have e : d.count = (d.fail wr by_, 25) := by unfold Dk.count; rw [ha]; simp [hp]
      rw [e]
      clear ha e
      obtain rfl : x = 0 := by omega
      go_enter Tryz.func98, Tryz.ntmps98
      go_wp2
      refine wp_region_tail 15 (by kernel_rfl) (by kernel_rfl) ?_
      simp only [List.take_succ_cons, List.take_zero, List.drop_succ_cons, List.drop_zero]
      repeat still_step
      refine wpStill_nil ?_
      go_wp2_with fail
      refine (fail_on (h.keep (Only.refl (fun _ => False) w).drew (by simp)) ho wr by_).mono ?_
      rintro e w1 ⟨rfl, o1, h1⟩
      go_wp2
      go_ret
      exact ⟨rfl, o1.undrew, _, _, _, _, h1⟩

set_option maxRecDepth 100000 in
set_option maxHeartbeats 400000 in
theorem write_off (h : DiskAt' w a b1 b2 qv ga d F) (ho : d.off = true) (s : Int) (t : ByteArray) :
    Calls Tryz.prog 74 #[.pointer (some ⟨a, 0, none⟩), .int .i64 s, .string t] w fun e w' => e = .returned (.int .i64 25) ∧ Below w.heap.size w w' := by
  go_enter Tryz.func74, Tryz.ntmps74
  go_wp2_with fail
  refine (at_off h ho s).mono ?_
  rintro e w1 ⟨rfl, hb⟩
  go_wp2
  go_ret
  exact ⟨rfl, hb.alloc hb.size _⟩

set_option maxRecDepth 100000 in
set_option maxHeartbeats 400000 in
theorem write_no (h : DiskAt' w a b1 b2 qv ga d F) (ho : d.off = false) (s : Int) (hs : d.has s = false) (t : ByteArray) :
    Calls Tryz.prog 74 #[.pointer (some ⟨a, 0, none⟩), .int .i64 s, .string t] w fun e w' => e = .returned (.int .i64 1) ∧ Below w.heap.size w w' := by
  go_enter Tryz.func74, Tryz.ntmps74
  go_wp2_with fail
  refine (at_no h ho s hs).mono ?_
  rintro e w1 ⟨rfl, hb⟩
  go_wp2
  go_ret
  exact ⟨rfl, hb.alloc hb.size _⟩

set_option maxRecDepth 100000 in
set_option maxHeartbeats 400000 in
theorem write_nil (w : World) (s : Int) (t : ByteArray) :
    Calls Tryz.prog 74 #[.pointer none, .int .i64 s, .string t] w fun e w' => e = .returned (.int .i64 1) ∧ Below w.heap.size w w' := by
  go_enter Tryz.func74, Tryz.ntmps74
  go_wp2_with fail
  refine (at_nil _ s).mono ?_
  rintro e w1 ⟨rfl, hb⟩
  go_wp2
  go_ret
  exact ⟨rfl, hb.alloc hb.size _⟩

set_option maxRecDepth 100000 in
set_option maxHeartbeats 400000 in
theorem write_short (h : DiskAt' w a b1 b2 qv ga d F) (ho : d.off = false) (i : Nat) (hi : i < d.n) (t : ByteArray) (ht : ((t.size : Int) != 64) = true) :
    Calls Tryz.prog 74 #[.pointer (some ⟨a, 0, none⟩), .int .i64 (i : Int), .string t] w fun e w' => e = .returned (.int .i64 1) ∧ Below w.heap.size w w' := by
  go_enter Tryz.func74, Tryz.ntmps74
  go_wp2_with fail
  refine (at_yes h ho i hi).mono ?_
  rintro e w1 ⟨rfl, hb⟩
  go_wp2
  go_ret
  exact ⟨rfl, hb.alloc hb.size _⟩

theorem DiskAt'.push {w2 : World} {g cap i : Nat} {t : ByteArray} (h : DiskAt' w a b1 b2 qv ga d F) (hO : Only (fun k => qv.ownBlock = some k) w w2) (hg : qv.ownBlock = some g ∨ w.heap.size ≤ g) (hz : g < w2.heap.size)
    (ho : w2.ownsRow 0 82 3 (.slice (some ⟨g, 0, none⟩) (d.q.length + 1) cap) (d.q.length + 1) (qcells d.q ++ [.int .i64 (64 * (i : Int)), .int .i64 (64 * (i : Int) + 64), .string t]))
    (hi : i < d.n) (ht : t.size = 64) (hl : d.q.length < 4096) :
    DiskAt' (w2.setCell ⟨a, 2, none⟩ (.slice (some ⟨g, 0, none⟩) (d.q.length + 1) cap)) a b1 b2 (.slice (some ⟨g, 0, none⟩) (d.q.length + 1) cap) ga { d with q := d.q ++ [(i, t)] } (fun k => F k ∨ k = g) := by
  have hm : Blk w2 a _ _ := hO.blk h.main (fun e => own_blk_ne h.q h.main (by decide) e)
  have h1 : Blk w2 b1 _ _ := hO.blk h.st (fun e => own_blk_ne h.q h.st (by decide) e)
  have h2 : Blk w2 b2 _ _ := hO.blk h.el (fun e => own_blk_ne h.q h.el (by decide) e)
  have n1 := h.main.ne_ h.st (by decide)
  have n2 := h.main.ne_ h.el (by decide)
  have hgo : Value.ownBlock (.slice (some ⟨g, 0, none⟩) (d.q.length + 1) cap) = some g := rfl
  have hO3 : Only (fun k => k = a) w2 (w2.setCell ⟨a, 2, none⟩ (.slice (some ⟨g, 0, none⟩) (d.q.length + 1) cap)) := (Only.refl (fun k => k = a) w2).setCell (p := ⟨a, 2, none⟩) (.inl rfl) _
  have hga : g ≠ a := fun e => own_blk_ne ho hm (by decide) (by rw [hgo, e])
  exact {
    ok := ⟨h.ok.n1, h.ok.n2, h.ok.st, h.ok.el, (fun p hp => by
      rcases List.mem_append.1 hp with hp | hp
      · exact h.ok.q p hp
      · simp at hp; subst hp; exact ⟨hi, ht⟩), h.ok.arm⟩
    main := by simpa using hm.set_ 2 (.slice (some ⟨g, 0, none⟩) (d.q.length + 1) cap)
    st := hO3.blk h1 n1.symm
    el := hO3.blk h2 n2.symm
    ne := h.ne
    q := by
      have e1 : (d.q ++ [(i, t)]).length = d.q.length + 1 := by simp
      have e2 : qcells (d.q ++ [(i, t)]) = qcells d.q ++ [.int .i64 (64 * (i : Int)), .int .i64 (64 * (i : Int) + 64), .string t] := by simp [qcells]
      simp only [e1, e2]
      exact hO3.owns ho (fun k hk e => hga (by rw [hgo] at hk; injection hk with hk; rw [hk]; exact e))
    qlen := by simp; omega
    arm0 := h.arm0
    arm1 := fun k hk => by
      obtain ⟨x, hx, hb⟩ := h.arm1 k hk
      have hb2 : Blk w2 k _ _ := hO.blk hb (fun e => own_blk_ne h.q hb (by decide) e)
      exact ⟨x, hx, hO3.blk hb2 (hb2.ne_ hm (by decide))⟩
    fa := .inl h.fa
    f1 := .inl h.f1
    f2 := .inl h.f2
    fq := fun k hk => .inr (by rw [hgo] at hk; injection hk with hk; exact hk.symm)
    fg := fun k hk => .inl (h.fg k hk)
    fl := fun k hk => by
      rcases hk with hk | rfl
      · exact Nat.lt_of_lt_of_le (h.fl k hk) (Nat.le_trans hO.size hO3.size)
      · exact Nat.lt_of_lt_of_le hz hO3.size }

theorem Tryz.infoPending : (Tryz.prog.info? 82).map (fun i => (i.zero, i.size, i.bytes)) = some (some (.agg #[.int .i64 0, .int .i64 0, .string ⟨#[]⟩]), 3, 32) := by kernel_rfl

set_option maxRecDepth 100000 in
set_option maxHeartbeats 800000 in
theorem write_yes (h : DiskAt' w a b1 b2 qv ga d F) (ho : d.off = false) (i : Nat) (hi : i < d.n) (t : ByteArray) (ht : ((t.size : Int) != 64) = false) (hl : d.q.length < 4096) :
    Calls Tryz.prog 74 #[.pointer (some ⟨a, 0, none⟩), .int .i64 (i : Int), .string t] w fun e w' =>
      e = .returned (.int .i64 (Dk.count { d with q := d.q ++ [(i, t)] }).2) ∧ ∃ F', Only F' w w' ∧ (∀ k, F' k → F k ∨ w.heap.size ≤ k) ∧ DiskAt w' a (Dk.count { d with q := d.q ++ [(i, t)] }).1 F' := by
  obtain ⟨i0, hi0, hz0, hz1, hz2⟩ := info_parts Tryz.infoPending
  have HO := Lib.hid ho
  clear ho
  go_enter Tryz.func74, Tryz.ntmps74
  go_wp2_with fail
  refine (at_yes h HO.out i hi).mono ?_
  rintro e w1 ⟨rfl, hb⟩
  have h1 := h.keep (Only.of_below hb (fun _ => False)) (by simp)
  obtain ⟨c1, f1, l1⟩ := h1.main.all
  have hown := h1.q
  go_wp2
  have hone : ∀ u ∈ [Value.int .i64 (64 * (i : Int)), .int .i64 (64 * (i : Int) + 64), .string t], u.oneCell' = true := by
    intro u hu; simp at hu; rcases hu with rfl | rfl | rfl <;> rfl
  have hnew : ∀ o : Obj, (((w1.alloc o).alloc (.cells #[Value.int .i64 (64 * (i : Int)), .int .i64 (64 * (i : Int) + 64), .string t] 82)).drew).heap[w1.heap.size + 1]? = some (.cells #[Value.int .i64 (64 * (i : Int)), .int .i64 (64 * (i : Int) + 64), .string t] 82 (0, 0)) := fun o => by
    have := Blk.new (w1.alloc o) 82 #[Value.int .i64 (64 * (i : Int)), .int .i64 (64 * (i : Int) + 64), .string t]
    have e : (w1.alloc o).heap.size = w1.heap.size + 1 := by simp
    rw [e] at this
    exact this
  have hqa : some a ≠ qv.ownBlock := fun e => own_blk_ne h1.q h1.main (by decide) e.symm
  go_region_law ((refine step_append_lies _ ?_ (.tmp 25) (.tmp 29) 50 ?_ 0 82 i0 _ 3 32 Tryz.underlying50 hi0 hz0 hz1 hz2 ?_ ?_ qv d.q.length (qcells d.q) ?_ ?_ ⟨w1.heap.size + 1, 0, none⟩ 1 1 [Value.int .i64 (64 * (i : Int)), .int .i64 (64 * (i : Int) + 64), .string t] ?_ ?_ ?_ hone ?_ ?_ ?_ ?_ (w1.heap.size + 2) ?_ ?_; rfl; rfl; rfl; omega; rfl; exact ((hown.alloc _).alloc _).drew; rfl; rfl; exact World.news_of_block (hnew _); omega; (unfold maxLen; omega); omega; omega; simp; intro g cap w2 o2 g2 l2 z2; obtain ⟨c2, f2, l2'⟩ := (Blk.grown (((h1.main.alloc _).alloc _).drew) g2 hqa).all))
  all_goals clear c1 f1
  all_goals go_wp2_with fail
  all_goals
    have hO2 : Only (fun k => qv.ownBlock = some k) w1 w2 := (((Only.refl (fun k => qv.ownBlock = some k) w1).alloc _).alloc _).drew.trans (Only.of_grown g2) (fun k e => .inl e)
    have h3 := h1.push (i := i) (t := t) hO2 (l2.imp id (fun e => by omega)) z2 o2 hi (by have := ht; simp at this; omega) hl
    refine (count_some h3 HO.out).mono ?_
    rintro e w4 ⟨rfl, o4, h4⟩
    go_wp2
    go_ret
    refine ⟨rfl, _, ?_, ?_, h4⟩
    · have s1 := hb.size
      have o3 : Only (fun k => F k ∨ k = g) w1 _ := (hO2.mono (G := fun k => F k ∨ k = g) (fun k hk => .inl (h.fq k hk))).setCell (p := ⟨a, 2, none⟩) (.inl (.inl h.fa)) (.slice (some ⟨g, 0, none⟩) (d.q.length + 1) cap)
      exact (Only.of_below hb _).trans (o3.trans o4 (fun k hk => .inl hk)) (fun k hk => .inl hk)
    · intro k hk
      have s1 := hb.size
      rcases hk with hk | rfl
      · exact .inl hk
      · rcases l2 with l2 | l2
        · exact .inl (h.fq k l2)
        · right; omega
end
end Go.Proofs.YtieicjjmkedgaaaGreatDoor
