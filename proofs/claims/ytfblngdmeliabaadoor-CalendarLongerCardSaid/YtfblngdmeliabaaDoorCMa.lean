/- The walk of CalendarMany. -/
import Derived.Test.YtfblngdmeliabaaDoorCi
import Derived.Test.YtfblngdmeliabaaDoorMm
import Derived.Deep.DeepCutAuto
import Derived.Deep.CutBlock
namespace Go.Proofs.YtfblngdmeliabaaDoor
open Go.RowKit

def rngL (b : Int) (n : Nat) : List Int := (List.range n).map fun (j : Nat) => b + (j : Int)
theorem rngL_len (b : Int) (n : Nat) : (rngL b n).length = n := by simp [rngL]
theorem rngL_mem {b x : Int} {n : Nat} : x ∈ rngL b n ↔ b ≤ x ∧ x < b + n := by
  simp only [rngL, List.mem_map, List.mem_range]
  constructor
  · rintro ⟨j, hj, rfl⟩; omega
  · rintro ⟨h1, h2⟩; exact ⟨(x - b).toNat, by omega, by omega⟩
theorem rngL_at {b : Int} {n i : Nat} (h : i < n) : (rngL b n)[i]? = some (b + (i : Int)) := by
  simp [rngL, h]

theorem many_end {b : Int} {n : Nat} (h0 : 0 ≤ b) (h1 : b ≤ 65535) (hn : n ≤ 1000) : ∃ e, addS (rngL b n) b 0 1 = (e, 0) ∧ b + n ≤ e ∧ e ≤ b + n + 2 := by
  have hb : isB b = true := (isB_iff b).2 ⟨h0, by omega⟩
  have hle := fromS_le (rngL b n) b
  have htop : fromS (rngL b n) b ≤ b + n + 2 := by
    rcases Int.lt_or_le (b + n + 2) (fromS (rngL b n) b) with c | c
    · exfalso
      have k : ∀ i : Int, b + n ≤ i → i ≤ b + n + 2 → ¬ (i + 5) % 7 < 5 := fun i a1 a2 hw => by
        have := (fromS_no (rngL b n) (x := b) (i := i) (by omega) (by omega)).2.2
        have h2 := (opB_iff (rngL b n) i).2 ⟨by omega, by omega, hw, fun hm => by have := rngL_mem.1 hm; omega⟩
        rw [h2] at this
        cases this
      have k0 := k (b + n) (by omega) (by omega)
      have k1 := k (b + n + 1) (by omega) (by omega)
      have k2 := k (b + n + 2) (by omega) (by omega)
      omega
    · exact c
  have hi : isB (fromS (rngL b n) b) = true := (isB_iff _).2 ⟨by omega, by omega⟩
  have hop := (opB_iff _ _).1 (fromS_op (rngL b n) hi)
  refine ⟨fromS (rngL b n) b, ?_, ?_, htop⟩
  · unfold addS
    rw [if_neg (by rw [hb]; simp), if_neg (by rw [rngL_len]; omega)]
    show endS _ (b + 0, 0) = _
    rw [Int.add_zero]
    unfold endS
    rw [if_pos ⟨rfl, hb⟩, if_pos hi]
  · rcases Int.lt_or_le (fromS (rngL b n) b) (b + n) with c | c
    · exact absurd (rngL_mem.2 ⟨hle, c⟩) hop.2.2.2
    · exact c

theorem Tryd.infoInt : (Tryd.prog.info? 3).map (fun i => (i.zero, i.size, i.bytes)) = some (some (Value.int .i64 0), 1, 8) := by kernel_rfl

/-- The closed days as they are filled in. -/
def fillL (b : Int) (n k : Nat) : Array Value := ((rngL b k).map (Value.int .i64) ++ List.replicate (n - k) (Value.int .i64 0)).toArray
theorem fillL_size (b : Int) {n k : Nat} (h : k ≤ n) : (fillL b n k).size = n := by simp [fillL, rngL]; omega
theorem fillL_set (b : Int) {n k : Nat} (h : k < n) : (fillL b n k).setIfInBounds k (.int .i64 (b + (k : Int))) = fillL b n (k + 1) := by
  unfold fillL
  rw [List.setIfInBounds_toArray]
  congr 1
  have hl : ((rngL b k).map (Value.int .i64)).length = k := by simp [rngL]
  rw [List.set_append_right _ _ (by omega), hl, Nat.sub_self]
  have hr : n - k = (n - (k + 1)) + 1 := by omega
  rw [hr, List.replicate_succ]
  have : rngL b (k + 1) = rngL b k ++ [b + (k : Int)] := by simp [rngL, List.range_succ]
  rw [this]
  simp

theorem IntsAt.of_blk {w : World} {g : Nat} {l : List Int} (h : Blk w g 3 (l.map (Value.int .i64)).toArray) : IntsAt w w.heap.size (some ⟨g, 0, none⟩) l := fun i v hi => by
  refine ⟨g, 0, rfl, h.lt, ?_⟩
  rw [h.cell]
  simp [hi]

set_option maxRecDepth 100000 in
set_option maxHeartbeats 4000000 in
theorem many_walk (w : World) (ht : Tab w) (a b : Int) (a0 : 0 ≤ a) (a1 : a ≤ 65535) (b0 : 0 ≤ b) (b1 : b ≤ 65535) : Calls Tryd.prog 3 #[.int .u16 a, .int .u16 b] w fun e w' => e = .returned (.bool true) ∧ Below w.heap.size w w' := by
  obtain ⟨n, hn⟩ : ∃ n : Nat, a % 1101 = n := ⟨(a % 1101).toNat, by omega⟩
  have hn1 : n ≤ 1100 := by omega
  have mk := run_make_one (P := Tryd.prog) 24 3 (.int .i64 0) 8 (by kernel_rfl) Tryd.infoInt rfl (n : Int) n rfl (by omega) (by omega)
  have hmod : a.tmod 1101 = n := by rw [Int.tmod_eq_emod_of_nonneg a0]; exact hn
  go_enter Tryd.func3, Tryd.ntmps3
  go_wp2_with fail
  refine (head_any _ ht).mono ?_
  rintro e w1 ⟨rfl, hb⟩
  go_wp2_with fail
  have hbk : Blk (w1.alloc (.cells (Array.replicate n (.int .i64 0)) 3)) w1.heap.size 3 (fillL b n 0) := by
    have := Blk.new w1 3 (Array.replicate n (.int .i64 0))
    simpa [fillL, rngL] using this
  have hb2 := hb.alloc hb.size (.cells (Array.replicate n (.int .i64 0)) 3)
  generalize w1.alloc (.cells (Array.replicate n (.int .i64 0)) 3) = w2 at *
  have hs := hb.size
  generalize w1.heap.size = g at *
  clear hb mk
  have HM := Lib.hid hmod
  have HN := Lib.hid hn
  clear hmod hn
  go_loopw [8] (fun i wr => ∃ k : Nat, k ≤ n ∧ i = .int .i64 (k : Int) ∧ Blk wr g 3 (fillL b n k) ∧ Below w.heap.size w wr) (fun i _ => n - (intOf i).toNat)
  case atStart => exact ⟨0, Nat.zero_le _, rfl, hbk, hb2⟩
  case round =>
    clear hbk hb2
    obtain ⟨k, hk, rfl, hbk, hbw⟩ := hrel
    by_cases hlt : k < n
    · have hsz := fillL_size b hk
      have hst := Lib.hid (fillL_set b hlt)
      have hc := hbk.all
      obtain ⟨c0, c1, c2⟩ := hc
      have hck : ∃ v, wr.cell? ⟨g, k, none⟩ = some v := ⟨_, (c0 k).trans (Array.getElem?_eq_getElem (by omega))⟩
      obtain ⟨v, hv⟩ := hck
      clear c0 hsz
      go_wp2
      go_roundw
      case rel => exact ⟨k + 1, by omega, by go_num, by rw [← hst.out]; exact hbk.set_ k _, hbw.setCell (p := ⟨g, k, none⟩) hs _⟩
      case measure => simp [intOf]; omega
    · obtain rfl : k = n := by omega
      go_wp2_with fail
      have hfull : fillL b k k = ((rngL b k).map (Value.int .i64)).toArray := by simp [fillL]
      rw [hfull] at hbk
      refine (term_any _ _ _).mono ?_
      rintro e w3 ⟨rfl, hb3⟩
      have hbk3 := hbk.below hb3 hbk.lt
      replace hbw := Below.then hbw hb3
      clear hb3 hbk HM HN
      go_wp2_with fail
      have ha := add_any w3 w3.heap.size _ (rngL b k) k (IntsAt.of_blk hbk3) (Nat.le_refl _) (fun x hx => by have := rngL_mem.1 hx; exact ⟨by omega, by omega⟩) b 0 1
      rw [rngL_len] at ha
      by_cases h5 : 1000 < k
      · have he : addS (rngL b k) b 0 1 = (0, 2) := by
          unfold addS
          rw [if_neg (by rw [(isB_iff b).2 ⟨b0, by omega⟩]; simp), if_pos (by rw [rngL_len]; exact h5)]
        rw [he] at ha
        refine ha.mono ?_
        rintro e w4 ⟨rfl, hb4⟩
        replace hbw := Below.then hbw hb4
        clear ha he hfull hb4 hbk3
        go_wp2
        go_ret
        exact ⟨rfl, hbw⟩
      · obtain ⟨e, he, e1, e2⟩ := many_end b0 b1 (show k ≤ 1000 by omega)
        rw [he] at ha
        refine ha.mono ?_
        rintro e w4 ⟨rfl, hb4⟩
        replace hbw := Below.then hbw hb4
        have h6 : k ≤ 1000 := by omega
        clear ha he hfull hb4 hbk3 h5
        go_wp2
        go_ret
        exact ⟨rfl, hbw⟩
theorem wfu16 {x : Int} (h : (Lit.int .u16 x).wf = true) : 0 ≤ x ∧ x ≤ 65535 := by
  simpa [Lit.wf, IntKind.min, IntKind.max, IntKind.signed, IntKind.bits] using h
theorem many_walk' (w : World) (ht : Tab w) (a : Int) (wa : (Lit.int .u16 a).wf = true) (b : Int) (wb : (Lit.int .u16 b).wf = true) : Calls Tryd.prog 3 #[.int .u16 a, .int .u16 b] w fun e w' => e = .returned (.bool true) ∧ Below w.heap.size w w' :=
  many_walk w ht a b (wfu16 wa).1 (wfu16 wa).2 (wfu16 wb).1 (wfu16 wb).2
end Go.Proofs.YtfblngdmeliabaaDoor
