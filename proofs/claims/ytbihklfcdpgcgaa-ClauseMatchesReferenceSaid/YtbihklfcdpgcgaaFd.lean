/- ClauseOrders, walked. -/
import Derived.Test.YtbihklfcdpgcgaaEz
namespace Go.Proofs.Ytbihklfcdpgcgaa
open Go.RowKit

/-- few, at a slice that the law has just made. -/
theorem ex_few (w : World) (vs : List (Option Addr × Nat × Nat)) (hl : vs.length ≤ 100) (n : Nat) (hn : vs.length = n) :
    Calls Try.prog 24 #[.slice (some ⟨w.heap.size, 0, none⟩) n n] (w.alloc (.cells (vs.map slV).toArray 42)) fun e w' => e = .returned (.bool (fewS vs)) ∧ Below w.heap.size w w' := by
  subst hn
  refine (few_any _ w.heap.size vs (Blk.new w _ _) hl).mono ?_
  rintro e w' ⟨h1, rfl⟩
  exact ⟨h1, below_self_alloc w _⟩
set_option maxRecDepth 100000 in
set_option maxHeartbeats 8000000 in
theorem orders_walk (w : World) (A : Option Addr) (cap : Nat) (l : List Cl) (h : ClsAt w w.heap.size A l) :
    Calls Try.prog 5 #[.slice A l.length cap] w fun e w' => e = .returned (.bool true) ∧ Below w.heap.size w w' := by
  have HH := Lib.hid h
  obtain ⟨N, hN⟩ : ∃ N, l.length = N := ⟨_, rfl⟩
  rw [hN]
  have HN := Lib.hid hN
  clear h hN
  go_enter Try.func5, Try.ntmps5
  go_wp2_with fail
  refine (head_any _).mono ?_
  rintro e w1 ⟨rfl, b1⟩
  have HB1 := Lib.hid b1
  have HA1 := Lib.hid (HH.out.below b1)
  clear b1 HH
  go_wp2_with fail
  refine (ex_few w1 [(A, N, cap)] (by simp) 1 rfl).mono ?_
  rintro e w2 ⟨rfl, b2⟩
  have HB2 := Lib.hid (HB1.out.trans (b2.mono HB1.out.size))
  have HA2 := Lib.hid (HA1.out.below (b2.mono HB1.out.size))
  clear b2 HB1 HA1
  by_cases hf : N ≤ 80
  · have hfw : fewS [(A, N, cap)] = true := by simp [fewS, hf]
    rw [hfw]
    have HF := Lib.hid hf
    clear hf hfw
    go_wp2_with fail
    have HP := Lib.hid (pp_page w2 w.heap.size _ A cap l HA2.out HB2.out.size (by have := HN.out; have := HF.out; omega) HB2.out.size)
    rw [HN.out] at HP
    refine HP.out.mono ?_
    rintro e w3 ⟨p, m, rfl, P3, -, -, b3⟩
    have HB3 := Lib.hid (HB2.out.trans (b3.mono HB2.out.size))
    have HP3 := Lib.hid P3
    clear HB2 b3 P3 HP HA2
    go_wp2_with fail
    refine (pp_list _ HP3.out (by decide)).mono ?_
    rintro e w4 ⟨v, rfl, o4, b4⟩
    have HB4 := Lib.hid (HB3.out.trans (b4.mono HB3.out.size))
    have HO4 := Lib.hid o4
    have HL := Lib.hid (show (walkS (pageS l)).length ≤ 160 from by rw [walk_len (page_pg l)]; exact HP3.out.len)
    clear HB3 b4 o4 HP3
    obtain ⟨A4, c4, rfl⟩ := HO4.out.len
    go_wp2_with fail
    refine (own_page _ HO4.out HL.out HB4.out.size).mono ?_
    rintro e w5 ⟨p5, m5, rfl, P5, -, -, b5⟩
    have HB5 := Lib.hid (HB4.out.trans (b5.mono HB4.out.size))
    have HP5 := Lib.hid P5
    have HO5 := Lib.hid (HO4.out.below b5)
    clear HB4 b5 P5 HO4
    go_wp2_with fail
    refine (pp_list _ HP5.out (by decide)).mono ?_
    rintro e w6 ⟨v6, rfl, o6, b6⟩
    rw [walk_page (page_pg l)] at o6
    have HB6 := Lib.hid (HB5.out.trans (b6.mono HB5.out.size))
    have HO6 := Lib.hid o6
    have HO7 := Lib.hid (HO5.out.below b6)
    clear HB5 b6 o6 HP5 HO5
    obtain ⟨A6, c6, rfl⟩ := HO6.out.len
    go_wp2_with fail
    refine (own_same _ HO6.out HO7.out (by have := HL.out; omega) (by have := HL.out; omega)).mono ?_
    rintro e w7 ⟨he, q, rfl⟩
    obtain rfl : e = .returned (.bool true) := he.trans (by rw [decide_eq_true rfl])
    go_wp2
    go_ret
    exact ⟨rfl, below_drewN HB6.out q⟩
  · have hfw : fewS [(A, N, cap)] = false := by simp [fewS, hf]
    rw [hfw]
    clear hf hfw
    go_wp2
    go_ret
    exact ⟨rfl, HB2.out⟩
end Go.Proofs.Ytbihklfcdpgcgaa
