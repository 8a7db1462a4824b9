/- The reference's Same, at two limits that are one. -/
import Derived.Test.YtogjcejiojmmbaaTo
namespace Go.Proofs.Ytogjcejiojmmbaa
open Go.RowKit Go.Shelf

set_option maxHeartbeats 4000000 in
set_option maxRecDepth 100000 in
theorem same_yes (w : World) (L : Lm) (B : Nat) (A A' : Option Addr) (c c' : Nat) (h : LmAt w B A L) (h' : LmAt w B A' L) (hB : B ≤ w.heap.size) :
    Calls Try.prog 21 #[.agg (L.cells A c), .agg (L.cells A' c')] w fun e w' => e = .returned (.bool true) ∧ Below w.heap.size w w' := by
  obtain ⟨hs, hid, hsl⟩ := h
  obtain ⟨hs', -, -⟩ := h'
  obtain ⟨id, n, u, f, S⟩ := L
  show Calls Try.prog 21 #[.agg #[.string id, .int .i64 n, .int .i64 u, .int .i64 f, .slice A S.length c], .agg #[.string id, .int .i64 n, .int .i64 u, .int .i64 f, .slice A' S.length c']] w _
  simp only at hs hs' hsl
  have hb := ((Below.refl w.heap.size w).alloc (Nat.le_refl _) (.cells #[.string id, .int .i64 n, .int .i64 u, .int .i64 f, .slice A S.length c] 26)).alloc (by simp) (.cells #[.string id, .int .i64 n, .int .i64 u, .int .i64 f, .slice A' S.length c'] 26)
  have k0 := (Blk.new w 26 #[.string id, .int .i64 n, .int .i64 u, .int .i64 f, .slice A S.length c]).alloc (.cells #[.string id, .int .i64 n, .int .i64 u, .int .i64 f, .slice A' S.length c'] 26)
  have k1 := Blk.new1 w (.cells #[.string id, .int .i64 n, .int .i64 u, .int .i64 f, .slice A S.length c] 26) 26 #[.string id, .int .i64 n, .int .i64 u, .int .i64 f, .slice A' S.length c']
  have HS := Lib.hid hs
  have HS' := Lib.hid hs'
  clear hs hs'
  obtain ⟨t0, t1, -⟩ := k0.all
  obtain ⟨s0, s1, -⟩ := k1.all
  go_enter Try.func21, Try.ntmps21
  go_wp2_with fail
  have k0' := k0
  have k1' := k1
  have hsA := HS.out.below (hb.mono hB)
  have hsB := HS'.out.below (hb.mono hB)
  clear t0 t1 s0 s1 k0 k1 HS HS'
  generalize (w.alloc (.cells #[.string id, .int .i64 n, .int .i64 u, .int .i64 f, .slice A S.length c] 26)).alloc (.cells #[.string id, .int .i64 n, .int .i64 u, .int .i64 f, .slice A' S.length c'] 26) = w1 at *
  have HSA := Lib.hid hsA
  have HSB := Lib.hid hsB
  clear hsA hsB
  go_loopw [5] (fun i wr => ∃ k : Nat, k ≤ S.length ∧ i = .int .i64 (k : Int) ∧ ∃ q, wr = w1.drewN q) (fun i _ => S.length - (intOf i).toNat)
  case atStart => exact ⟨0, Nat.zero_le _, rfl, 0, rfl⟩
  case round =>
    obtain ⟨k, hk, rfl, q, rfl⟩ := hrel
    have k0 := k0'.drewN q
    have k1 := k1'.drewN q
    obtain ⟨t0, t1, -⟩ := k0.all
    obtain ⟨s0, s1, -⟩ := k1.all
    by_cases hlt : k < S.length
    · obtain ⟨s, hss⟩ : ∃ s, S[k]? = some s := ⟨_, List.getElem?_eq_getElem hlt⟩
      obtain ⟨ga, oa, hA, hga, a0, a1⟩ := HSA.out k s hss
      obtain ⟨gb, ob, hA', hgb, b0, b1⟩ := HSB.out k s hss
      subst hA hA'
      clear hss
      obtain ⟨x, y⟩ := s
      have a0' : (w1.drewN q).cell? ⟨ga, oa + k * 2, none⟩ = some (.int .i64 x) := a0
      have a1' : (w1.drewN q).cell? ⟨ga, oa + k * 2 + 1, none⟩ = some (.int .i64 y) := a1
      have b0' : (w1.drewN q).cell? ⟨gb, ob + k * 2, none⟩ = some (.int .i64 x) := b0
      have b1' : (w1.drewN q).cell? ⟨gb, ob + k * 2 + 1, none⟩ = some (.int .i64 y) := b1
      have ib0 : (0 : Int) ≤ (k : Int) := by omega
      have ib1 : (k : Int) < (S.length : Int) := by omega
      clear a0 a1 b0 b1
      go_wp2_with fail
      generalize hW : w1.drewN q = W at *
      go_quiet (fail)
      subst hW
      go_wp2
      go_roundw
      case rel => exact ⟨k + 1, by omega, by go_num, q + nq, rfl⟩
      case measure => simp [intOf]; omega
    · obtain rfl : k = S.length := by omega
      go_wp2
      go_ret
      exact ⟨rfl, below_dN hb q⟩
end Go.Proofs.Ytogjcejiojmmbaa
