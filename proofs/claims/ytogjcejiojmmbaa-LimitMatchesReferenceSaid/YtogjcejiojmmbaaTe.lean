/- after, paused, open: what a clock tells. -/
import Derived.Test.YtogjcejiojmmbaaTd
namespace Go.Proofs.Ytogjcejiojmmbaa
open Go.RowKit Go.Shelf

theorem aftJ_app (n : Int) : ∀ (J K : List Stp2) (d : Int), aftJ n (J ++ K) d = aftJ n K (aftJ n J d)
  | [], _, _ => rfl
  | _ :: J, K, _ => aftJ_app n J K _
theorem aftJ_at {n : Int} {J : List Stp2} {k : Nat} {s : Stp2} (h : J[k]? = some s) (d : Int) :
    aftJ n (J.take (k + 1)) d = if s.1 ≤ aftJ n (J.take k) d ∧ 0 < n then aftJ n (J.take k) d + (s.2 - s.1) else aftJ n (J.take k) d := by
  obtain ⟨hk, hs⟩ := List.getElem?_eq_some_iff.1 h
  rw [List.take_succ_eq_append_getElem hk, hs, aftJ_app]
  rfl

set_option maxHeartbeats 1000000 in
theorem after_any (w : World) (g : Nat) (f n : Int) (J : List Stp2) (h : ClockAt w g f J) (f0 : 0 ≤ f) (f1 : f ≤ 1000000) (n0 : 0 ≤ n) (n1 : n ≤ 1000000) (hl : J.length ≤ 60) (hJ : ∀ s ∈ J, f < s.1 ∧ s.1 < s.2 ∧ s.2 ≤ 1000000) :
    Calls Try.prog 31 #[.pointer (some ⟨g, 0, none⟩), .int .i64 n] w fun e w' => e = .returned (.int .i64 (aftJ n J (f + n))) ∧ Below w.heap.size w w' := by
  obtain ⟨A, c, hk, hs⟩ := h
  have HS := Lib.hid hs
  have HJ := Lib.hid hJ
  clear hs hJ
  obtain ⟨x0, x1, x2⟩ := hk.all
  go_enter Try.func31, Try.ntmps31
  go_wp2_with fail
  clear x0 x1 hk
  go_loopw [5, 19] (fun v i wr => ∃ (k : Nat) (d : Int), k ≤ J.length ∧ i = .int .i64 (k : Int) ∧ v = .int .i64 d ∧ Hid (d = aftJ n (J.take k) (f + n)) ∧ 0 ≤ d ∧ d ≤ 2000000 + 1000000 * (k : Int) ∧ Below w.heap.size w wr) (fun _ i _ => J.length - (intOf i).toNat)
  case atStart => exact ⟨0, f + n, Nat.zero_le _, rfl, rfl, Lib.hid rfl, by omega, by omega, Below.refl _ _⟩
  case round =>
    obtain ⟨k, d, hk, rfl, rfl, hd, d0, d1, hb⟩ := hrel
    by_cases hlt : k < J.length
    · obtain ⟨s, hs⟩ : ∃ s, J[k]? = some s := ⟨_, List.getElem?_eq_getElem hlt⟩
      obtain ⟨gb, off, hA, hg, e0, e1⟩ := (HS.out.below hb) k s hs
      subst hA
      obtain ⟨j0, j1, j2⟩ := HJ.out s (List.mem_of_getElem? hs)
      have hat := aftJ_at (n := n) hs (f + n)
      rw [← hd.out] at hat
      clear hs
      obtain ⟨a, b⟩ := s
      simp only at hat j0 j1 j2 e0 e1
      have hb2 := hb.alloc hb.size (.cells #[.int .i64 a, .int .i64 b] 28)
      by_cases hc : a ≤ d
      · by_cases hn : 0 < n
        · rw [if_pos ⟨hc, hn⟩] at hat
          have HAT := Lib.hid hat.symm
          clear hat
          go_wp2
          go_roundw
          case rel => exact ⟨k + 1, d + (b - a), by omega, by go_num, by go_num, HAT, by omega, by omega, hb2⟩
          case measure => simp [intOf]; omega
        · rw [if_neg (fun h => hn h.2)] at hat
          have HAT := Lib.hid hat.symm
          clear hat
          go_wp2
          go_roundw
          case rel => exact ⟨k + 1, d, by omega, by go_num, rfl, HAT, by omega, by omega, hb2⟩
          case measure => simp [intOf]; omega
      · rw [if_neg (fun h => hc h.1)] at hat
        have HAT := Lib.hid hat.symm
        clear hat
        go_wp2
        go_roundw
        case rel => exact ⟨k + 1, d, by omega, by go_num, rfl, HAT, by omega, by omega, hb2⟩
        case measure => simp [intOf]; omega
    · obtain rfl : k = J.length := by omega
      have hdd := hd.out
      rw [List.take_length] at hdd
      have HD := Lib.hid hdd
      clear hdd hd
      go_wp2
      go_ret
      exact ⟨by rw [← HD.out]; rfl, hb⟩

theorem inst_any (W : World) (b : Nat) (day : Int) (s : Stp2) (hc : W.cell? ⟨b, 0, none⟩ = some (.int .i64 day)) :
    Calls Try.prog 55 (#[.agg (encStop s).toArray] ++ #[.pointer (some ⟨b, 0, none⟩)]) W fun e w' => e = .returned (.bool (inS s day)) ∧ Below W.heap.size W w' := by
  obtain ⟨x, y⟩ := s
  show Calls Try.prog 55 #[.agg #[.int .i64 x, .int .i64 y], .pointer (some ⟨b, 0, none⟩)] W fun e w' => e = .returned (.bool (decide (x ≤ day) && decide (day < y))) ∧ Below W.heap.size W w'
  have hlt := World.block_lt_of_cell? W ⟨b, 0, none⟩ hc
  have hc2 := ((Below.refl W.heap.size W).alloc (Nat.le_refl _) (.cells #[.int .i64 x, .int .i64 y] 28)).cell (p := ⟨b, 0, none⟩) hlt
  rw [hc] at hc2
  have hb := (Below.refl W.heap.size W).alloc (Nat.le_refl _) (.cells #[.int .i64 x, .int .i64 y] 28)
  by_cases h1 : x ≤ day
  · have d1 : decide (x ≤ day) = true := decide_eq_true h1
    rw [d1, Bool.true_and]
    go_enter Try.func55, Try.ntmps55
    go_wp2
    go_ret
    exact ⟨rfl, hb⟩
  · have d1 : decide (x ≤ day) = false := decide_eq_false h1
    rw [d1, Bool.false_and]
    go_enter Try.func55, Try.ntmps55
    go_wp2
    go_ret
    exact ⟨rfl, hb⟩

theorem paused_any (w : World) (g : Nat) (f day : Int) (J : List Stp2) (h : ClockAt w g f J) (hl : J.length ≤ 60) :
    Calls Try.prog 32 #[.pointer (some ⟨g, 0, none⟩), .int .i64 day] w fun e w' => e = .returned (.bool (anyS J day)) ∧ Below w.heap.size w w' := by
  have eg : ∀ args w, (callFunc 55 args).run Try.prog w = .ok (.enter 55 args) w := enters_of Try.func55 (by kernel_rfl) rfl
  obtain ⟨A, c, hk, hs⟩ := h
  have hk1 := hk.alloc (.cells #[.int .i64 day] 3)
  have hb := (Below.refl w.heap.size w).alloc (Nat.le_refl _) (.cells #[.int .i64 day] 3)
  have hs1 := hs.below hb
  have kd := Blk.new w 3 #[.int .i64 day]
  have hcon := contains_any (w.alloc (.cells #[.int .i64 day] 3)) w.heap.size A J c hs1 (by simp) (by omega) (fun s => inS s day) 55 #[.pointer (some ⟨w.heap.size, 0, none⟩)] eg
    (fun W s hW => inst_any W w.heap.size day s ((hW.cell (p := ⟨w.heap.size, 0, none⟩) kd.lt).trans (by rw [kd.cell 0]; rfl)))
  have e1 : (J.any fun s => inS s day) = anyS J day := rfl
  rw [e1] at hcon
  generalize anyS J day = r at *
  have HCON := Lib.hid hcon
  clear hcon e1 eg hs hs1
  obtain ⟨x0, x1, x2⟩ := hk1.all
  go_enter Try.func32, Try.ntmps32
  go_wp2_with fail
  refine HCON.out.mono ?_
  rintro e w1 ⟨rfl, b⟩
  replace hb := hb.trans (b.mono (by simp))
  clear b x0 x1 HCON
  go_wp2
  go_ret
  exact ⟨rfl, hb⟩
end Go.Proofs.Ytogjcejiojmmbaa
