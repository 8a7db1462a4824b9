/- The digest: Sum. -/
import Derived.Test.YtfjejfgdnjnflaaGreatDoorJa
namespace Go.Proofs.YtfjejfgdnjnflaaGreatDoor
open Go.RowKit Go.Shelf

/-- An array of n cells whose first k are filled. -/
def filV (n : Nat) (f : Nat → Value) (z : Value) (k : Nat) : Array Value := ((List.range n).map fun i => if i < k then f i else z).toArray
theorem filV_size (n : Nat) (f : Nat → Value) (z : Value) (k : Nat) : (filV n f z k).size = n := by simp [filV]
theorem filV_at {n : Nat} {f : Nat → Value} {z : Value} {k i : Nat} (h : i < n) : (filV n f z k)[i]? = some (if i < k then f i else z) := by
  simp [filV, h]
theorem filV_set {n : Nat} {f : Nat → Value} {z : Value} {k : Nat} (h : k < n) : (filV n f z k).setIfInBounds k (f k) = filV n f z (k + 1) := by
  apply Array.ext_getElem?
  intro i
  rw [Array.getElem?_setIfInBounds]
  by_cases hk : k = i
  · subst hk
    rw [if_pos rfl, filV_size, if_pos h, filV_at h, if_pos (by omega)]
  · rw [if_neg hk]
    by_cases hn : i < n
    · rw [filV_at hn, filV_at hn]
      by_cases h1 : i < k
      · rw [if_pos h1, if_pos (by omega)]
      · rw [if_neg h1, if_neg (by omega)]
    · rw [Array.getElem?_eq_none (by rw [filV_size]; omega), Array.getElem?_eq_none (by rw [filV_size]; omega)]
theorem set_twice (a : Array Value) (k : Nat) (x y : Value) : (a.setIfInBounds k x).setIfInBounds k y = a.setIfInBounds k y := by
  apply Array.ext_getElem?
  intro i
  simp only [Array.getElem?_setIfInBounds, Array.size_setIfInBounds]
  by_cases hk : k = i
  · subst hk; simp
  · simp [hk]
def hexV (i : Nat) : Value := if i < 10 then .int .u8 (48 + (i : Int)) else .int .u8 (97 + (i : Int) - 10)
theorem hexV_val {i : Nat} (h : i < 16) : hexV i = .int .u8 ((hexc i).toNat : Int) := by
  unfold hexV hexc
  split
  · congr 1; rw [UInt8.toNat_ofNat']; omega
  · congr 1; rw [UInt8.toNat_ofNat']; omega

/-- The sixteen digits. -/
def hexA : Array Value := #[.int .u8 48, .int .u8 49, .int .u8 50, .int .u8 51, .int .u8 52, .int .u8 53, .int .u8 54, .int .u8 55, .int .u8 56, .int .u8 57, .int .u8 97, .int .u8 98, .int .u8 99, .int .u8 100, .int .u8 101, .int .u8 102]
theorem hexA_is : filV 16 hexV (.int .u8 0) 16 = hexA := by kernel_rfl
theorem hexA_at {i : Nat} (h : i < 16) : hexA[i]? = some (.int .u8 ((hexc i).toNat : Int)) := by
  rw [← hexA_is, filV_at h, if_pos h, hexV_val h]

set_option maxRecDepth 100000 in
set_option maxHeartbeats 2000000 in
theorem digits16_any (w : World) : Calls Tryz.prog 108 #[] w fun e w' => e = .returned (.agg hexA) ∧ Below w.heap.size w w' := by
  have g0 := Blk.new1 w (.cells (Array.replicate 16 (.int .u8 0)) 132) 132 (Array.replicate 16 (.int .u8 0))
  have r0 := (Blk.new w 132 (Array.replicate 16 (.int .u8 0))).alloc (.cells (Array.replicate 16 (.int .u8 0)) 132)
  have hb := ((Below.refl w.heap.size w).alloc (Nat.le_refl _) (.cells (Array.replicate 16 (.int .u8 0)) 132)).alloc (by simp) (.cells (Array.replicate 16 (.int .u8 0)) 132)
  have e0 : (Array.replicate 16 (.int .u8 0) : Array Value) = filV 16 hexV (.int .u8 0) 0 := rfl
  have eZ : (Array.replicate 16 (.int .u8 0) : Array Value) = #[.int .u8 0, .int .u8 0, .int .u8 0, .int .u8 0, .int .u8 0, .int .u8 0, .int .u8 0, .int .u8 0, .int .u8 0, .int .u8 0, .int .u8 0, .int .u8 0, .int .u8 0, .int .u8 0, .int .u8 0, .int .u8 0] := rfl
  rw [eZ] at r0 hb g0
  rw [eZ] at e0
  have g1 : Blk ((w.alloc (.cells #[.int .u8 0, .int .u8 0, .int .u8 0, .int .u8 0, .int .u8 0, .int .u8 0, .int .u8 0, .int .u8 0, .int .u8 0, .int .u8 0, .int .u8 0, .int .u8 0, .int .u8 0, .int .u8 0, .int .u8 0, .int .u8 0] 132)).alloc (.cells #[.int .u8 0, .int .u8 0, .int .u8 0, .int .u8 0, .int .u8 0, .int .u8 0, .int .u8 0, .int .u8 0, .int .u8 0, .int .u8 0, .int .u8 0, .int .u8 0, .int .u8 0, .int .u8 0, .int .u8 0, .int .u8 0] 132)) (w.heap.size + 1) 132 (filV 16 hexV (.int .u8 0) 0) := e0 ▸ g0
  clear e0 eZ g0
  go_enter Tryz.func108, Tryz.ntmps108
  go_upto_block 0 with fail
  generalize (w.alloc (.cells #[.int .u8 0, .int .u8 0, .int .u8 0, .int .u8 0, .int .u8 0, .int .u8 0, .int .u8 0, .int .u8 0, .int .u8 0, .int .u8 0, .int .u8 0, .int .u8 0, .int .u8 0, .int .u8 0, .int .u8 0, .int .u8 0] 132)).alloc (.cells #[.int .u8 0, .int .u8 0, .int .u8 0, .int .u8 0, .int .u8 0, .int .u8 0, .int .u8 0, .int .u8 0, .int .u8 0, .int .u8 0, .int .u8 0, .int .u8 0, .int .u8 0, .int .u8 0, .int .u8 0, .int .u8 0] 132) = w2 at *
  generalize hg : w.heap.size + 1 = g at *
  have hgl : w.heap.size ≤ g := by omega
  have hgn : w.heap.size ≠ g := by omega
  clear hg
  go_wp2_with fail
  go_loopw [3] (fun i wr => ∃ k : Nat, k ≤ 16 ∧ i = .int .i64 (k : Int) ∧ Blk wr g 132 (filV 16 hexV (.int .u8 0) k) ∧ Blk wr w.heap.size 132 #[.int .u8 0, .int .u8 0, .int .u8 0, .int .u8 0, .int .u8 0, .int .u8 0, .int .u8 0, .int .u8 0, .int .u8 0, .int .u8 0, .int .u8 0, .int .u8 0, .int .u8 0, .int .u8 0, .int .u8 0, .int .u8 0] ∧ Below w.heap.size w wr) (fun i _ => 16 - (intOf i).toNat)
  case atStart => exact ⟨0, by omega, rfl, g1, r0, hb⟩
  case round =>
    clear g1 r0 hb
    obtain ⟨k, hk, rfl, g1, r0, hb⟩ := hrel
    by_cases hlt : k < 16
    · have c0 : ∃ v, wr.cell? ⟨g, k, none⟩ = some v := ⟨_, (g1.cell k).trans (filV_at hlt)⟩
      have f0 := g1.frozen k
      have l0 := g1.lt
      obtain ⟨v, c0⟩ := c0
      have g2 := g1.set_ k (.int .u8 (48 + (k : Int)))
      have r2 := r0.far (p := ⟨g, k, none⟩) hgn (.int .u8 (48 + (k : Int)))
      have hb2 := hb.setCell (p := ⟨g, k, none⟩) hgl (.int .u8 (48 + (k : Int)))
      by_cases h10 : 10 ≤ k
      · have d10 : decide (10 ≤ (k : Int)) = true := decide_eq_true (by omega)
        have c1 : (wr.setCell ⟨g, k, none⟩ (.int .u8 (48 + (k : Int)))).cell? ⟨g, k, none⟩ = some (.int .u8 (48 + (k : Int))) := by
          rw [g2.cell, Array.getElem?_setIfInBounds, if_pos rfl, filV_size, if_pos hlt]
        have f1 := g2.frozen k
        have g3 := g2.set_ k (.int .u8 (97 + (k : Int) - 10))
        have r3 := r2.far (p := ⟨g, k, none⟩) hgn (.int .u8 (97 + (k : Int) - 10))
        have hb3 := hb2.setCell (p := ⟨g, k, none⟩) hgl (.int .u8 (97 + (k : Int) - 10))
        rw [set_twice, show Value.int .u8 (97 + (k : Int) - 10) = hexV k by unfold hexV; rw [if_neg (by omega)], filV_set hlt] at g3
        rw [show hexV k = Value.int .u8 (97 + (k : Int) - 10) by unfold hexV; rw [if_neg (by omega)]] at g3
        clear g1 g2 r0 r2 hb hb2
        go_wp2
        go_roundw
        case rel => exact ⟨k + 1, by omega, by go_num, g3, r3, hb3⟩
        case measure => simp [intOf]; omega
      · have d10 : decide (10 ≤ (k : Int)) = false := decide_eq_false (by omega)
        rw [show Value.int .u8 (48 + (k : Int)) = hexV k by unfold hexV; rw [if_pos (by omega)], filV_set hlt] at g2
        rw [show hexV k = Value.int .u8 (48 + (k : Int)) by unfold hexV; rw [if_pos (by omega)]] at g2
        clear g1 r0 hb
        go_wp2
        go_roundw
        case rel => exact ⟨k + 1, by omega, by go_num, g2, r2, hb2⟩
        case measure => simp [intOf]; omega
    · obtain rfl : k = 16 := by omega
      rw [hexA_is] at g1
      have c0 : ∀ i : Nat, wr.cell? ⟨g, i, none⟩ = (#[.int .u8 48, .int .u8 49, .int .u8 50, .int .u8 51, .int .u8 52, .int .u8 53, .int .u8 54, .int .u8 55, .int .u8 56, .int .u8 57, .int .u8 97, .int .u8 98, .int .u8 99, .int .u8 100, .int .u8 101, .int .u8 102] : Array Value)[i]? := g1.cell
      have f0 := r0.frozen
      have c1 := r0.cell
      have m3 : Blk ((((((((((((((((wr.setCell ⟨w.heap.size, 0, none⟩ (.int .u8 48)).setCell ⟨w.heap.size, 1, none⟩ (.int .u8 49)).setCell ⟨w.heap.size, 2, none⟩ (.int .u8 50)).setCell ⟨w.heap.size, 3, none⟩ (.int .u8 51)).setCell ⟨w.heap.size, 4, none⟩ (.int .u8 52)).setCell ⟨w.heap.size, 5, none⟩ (.int .u8 53)).setCell ⟨w.heap.size, 6, none⟩ (.int .u8 54)).setCell ⟨w.heap.size, 7, none⟩ (.int .u8 55)).setCell ⟨w.heap.size, 8, none⟩ (.int .u8 56)).setCell ⟨w.heap.size, 9, none⟩ (.int .u8 57)).setCell ⟨w.heap.size, 10, none⟩ (.int .u8 97)).setCell ⟨w.heap.size, 11, none⟩ (.int .u8 98)).setCell ⟨w.heap.size, 12, none⟩ (.int .u8 99)).setCell ⟨w.heap.size, 13, none⟩ (.int .u8 100)).setCell ⟨w.heap.size, 14, none⟩ (.int .u8 101)).setCell ⟨w.heap.size, 15, none⟩ (.int .u8 102)) w.heap.size 132 hexA := ((((((((((((((((r0.set_ 0 (.int .u8 48)).set_ 1 (.int .u8 49)).set_ 2 (.int .u8 50)).set_ 3 (.int .u8 51)).set_ 4 (.int .u8 52)).set_ 5 (.int .u8 53)).set_ 6 (.int .u8 54)).set_ 7 (.int .u8 55)).set_ 8 (.int .u8 56)).set_ 9 (.int .u8 57)).set_ 10 (.int .u8 97)).set_ 11 (.int .u8 98)).set_ 12 (.int .u8 99)).set_ 13 (.int .u8 100)).set_ 14 (.int .u8 101)).set_ 15 (.int .u8 102))
      have hb3 : Below w.heap.size w ((((((((((((((((wr.setCell ⟨w.heap.size, 0, none⟩ (.int .u8 48)).setCell ⟨w.heap.size, 1, none⟩ (.int .u8 49)).setCell ⟨w.heap.size, 2, none⟩ (.int .u8 50)).setCell ⟨w.heap.size, 3, none⟩ (.int .u8 51)).setCell ⟨w.heap.size, 4, none⟩ (.int .u8 52)).setCell ⟨w.heap.size, 5, none⟩ (.int .u8 53)).setCell ⟨w.heap.size, 6, none⟩ (.int .u8 54)).setCell ⟨w.heap.size, 7, none⟩ (.int .u8 55)).setCell ⟨w.heap.size, 8, none⟩ (.int .u8 56)).setCell ⟨w.heap.size, 9, none⟩ (.int .u8 57)).setCell ⟨w.heap.size, 10, none⟩ (.int .u8 97)).setCell ⟨w.heap.size, 11, none⟩ (.int .u8 98)).setCell ⟨w.heap.size, 12, none⟩ (.int .u8 99)).setCell ⟨w.heap.size, 13, none⟩ (.int .u8 100)).setCell ⟨w.heap.size, 14, none⟩ (.int .u8 101)).setCell ⟨w.heap.size, 15, none⟩ (.int .u8 102)) := ((((((((((((((((hb.setCell (p := ⟨w.heap.size, 0, none⟩) (Nat.le_refl _) (.int .u8 48)).setCell (p := ⟨w.heap.size, 1, none⟩) (Nat.le_refl _) (.int .u8 49)).setCell (p := ⟨w.heap.size, 2, none⟩) (Nat.le_refl _) (.int .u8 50)).setCell (p := ⟨w.heap.size, 3, none⟩) (Nat.le_refl _) (.int .u8 51)).setCell (p := ⟨w.heap.size, 4, none⟩) (Nat.le_refl _) (.int .u8 52)).setCell (p := ⟨w.heap.size, 5, none⟩) (Nat.le_refl _) (.int .u8 53)).setCell (p := ⟨w.heap.size, 6, none⟩) (Nat.le_refl _) (.int .u8 54)).setCell (p := ⟨w.heap.size, 7, none⟩) (Nat.le_refl _) (.int .u8 55)).setCell (p := ⟨w.heap.size, 8, none⟩) (Nat.le_refl _) (.int .u8 56)).setCell (p := ⟨w.heap.size, 9, none⟩) (Nat.le_refl _) (.int .u8 57)).setCell (p := ⟨w.heap.size, 10, none⟩) (Nat.le_refl _) (.int .u8 97)).setCell (p := ⟨w.heap.size, 11, none⟩) (Nat.le_refl _) (.int .u8 98)).setCell (p := ⟨w.heap.size, 12, none⟩) (Nat.le_refl _) (.int .u8 99)).setCell (p := ⟨w.heap.size, 13, none⟩) (Nat.le_refl _) (.int .u8 100)).setCell (p := ⟨w.heap.size, 14, none⟩) (Nat.le_refl _) (.int .u8 101)).setCell (p := ⟨w.heap.size, 15, none⟩) (Nat.le_refl _) (.int .u8 102))
      clear g1 hb
      go_wp2_with fail
      clear c0 f0 c1 r0
      generalize ((((((((((((((((wr.setCell ⟨w.heap.size, 0, none⟩ (.int .u8 48)).setCell ⟨w.heap.size, 1, none⟩ (.int .u8 49)).setCell ⟨w.heap.size, 2, none⟩ (.int .u8 50)).setCell ⟨w.heap.size, 3, none⟩ (.int .u8 51)).setCell ⟨w.heap.size, 4, none⟩ (.int .u8 52)).setCell ⟨w.heap.size, 5, none⟩ (.int .u8 53)).setCell ⟨w.heap.size, 6, none⟩ (.int .u8 54)).setCell ⟨w.heap.size, 7, none⟩ (.int .u8 55)).setCell ⟨w.heap.size, 8, none⟩ (.int .u8 56)).setCell ⟨w.heap.size, 9, none⟩ (.int .u8 57)).setCell ⟨w.heap.size, 10, none⟩ (.int .u8 97)).setCell ⟨w.heap.size, 11, none⟩ (.int .u8 98)).setCell ⟨w.heap.size, 12, none⟩ (.int .u8 99)).setCell ⟨w.heap.size, 13, none⟩ (.int .u8 100)).setCell ⟨w.heap.size, 14, none⟩ (.int .u8 101)).setCell ⟨w.heap.size, 15, none⟩ (.int .u8 102)) = W3 at *
      refine bodyPost_ret (v := .agg hexA) (results_cell_row (p := 0) (ty := 132) rfl _ _ w.heap.size 132 _ (0, 0) _ rfl m3 Tryz.underlying132 rfl (by kernel_rfl)) rfl ⟨rfl, hb3⟩
end Go.Proofs.YtfjejfgdnjnflaaGreatDoor
