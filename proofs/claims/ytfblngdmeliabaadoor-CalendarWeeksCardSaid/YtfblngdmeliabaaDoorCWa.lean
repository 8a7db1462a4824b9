/- The walk of CalendarWeeks. -/
import Derived.Test.YtfblngdmeliabaaDoorCk
import Derived.Test.YtfblngdmeliabaaDoorOi
import Derived.Test.YtfblngdmeliabaaDoorMm
namespace Go.Proofs.YtfblngdmeliabaaDoor
open Go.RowKit

def sB (r k : Nat) : List Bool := (List.range 7).map fun w => (List.range k).any fun j => (r + j) % 7 == w
def opn (r k : Nat) : Nat := (List.range k).countP fun j => decide ((r + j) % 7 < 5)
theorem sB_set : ∀ r < 7, ∀ k < 7, (sB r k).set ((r + k) % 7) true = sB r (k + 1) := by decide
theorem sB_at : ∀ r < 7, ∀ k < 7, (sB r k)[(r + k) % 7]? = some false := by decide
theorem opn_succ : ∀ r < 7, ∀ k < 7, opn r (k + 1) = opn r k + (if (r + k) % 7 < 5 then 1 else 0) := by decide
theorem opn_7 : ∀ r < 7, opn r 7 = 5 := by decide
theorem opn_le (r k : Nat) : opn r k ≤ k := by unfold opn; exact Nat.le_trans List.countP_le_length (by simp)
theorem Tryd.infoBool : (Tryd.prog.info? 4).map (fun i => (i.zero, i.size, i.bytes)) = some (some (Value.bool false), 1, 1) := by kernel_rfl

set_option maxRecDepth 100000 in
set_option maxHeartbeats 4000000 in
theorem weeks_walk (w : World) (ht : Tab w) (d : Int) (A : Option Addr) (c : Nat) (l : List Int) (h : Ints w w.heap.size A l) : Calls Tryd.prog 5 #[.int .i64 d, .slice A l.length c] w fun e w' => e = .returned (.bool true) ∧ Below w.heap.size w w' := by
  obtain ⟨hA, hw, hl⟩ := h
  by_cases h1 : d < 0
  · clear hA hw
    go_enter Tryd.func5, Tryd.ntmps5
    go_wp2_with fail
    refine (head_any _ ht).mono ?_
    rintro e w1 ⟨rfl, b⟩
    go_wp2
    go_ret
    exact ⟨rfl, b⟩
  by_cases h2 : 999993 < d
  · have h1' : 0 ≤ d := by omega
    clear hA hw h1
    go_enter Tryd.func5, Tryd.ntmps5
    go_wp2_with fail
    refine (head_any _ ht).mono ?_
    rintro e w1 ⟨rfl, b⟩
    go_wp2
    go_ret
    exact ⟨rfl, b⟩
  have d0 : 0 ≤ d := by omega
  have d1 : d ≤ 999993 := by omega
  clear h1 h2
  by_cases h3 : 60 < l.length
  · clear hA hw
    go_enter Tryd.func5, Tryd.ntmps5
    go_wp2_with fail
    refine (head_any _ ht).mono ?_
    rintro e w1 ⟨rfl, b⟩
    go_wp2
    go_ret
    exact ⟨rfl, b⟩
  have l1 : l.length ≤ 60 := by omega
  clear h3 hl
  have HA := Lib.hid hA
  have HW := Lib.hid hw
  clear hA hw
  have mk := run_make_one (P := Tryd.prog) 36 4 (.bool false) 1 (by kernel_rfl) Tryd.infoBool rfl 7 7 rfl (by omega) (by omega)
  go_enter Tryd.func5, Tryd.ntmps5
  go_wp2_with fail
  refine (head_any _ ht).mono ?_
  rintro e w1 ⟨rfl, b⟩
  go_wp2_with fail
  obtain ⟨r, hr⟩ : ∃ r : Nat, (d + 5) % 7 = r := ⟨((d + 5) % 7).toNat, by omega⟩
  have hr7 : r < 7 := by omega
  have hbk : Blk (w1.alloc (.cells #[.bool false, .bool false, .bool false, .bool false, .bool false, .bool false, .bool false] 4)) w1.heap.size 4 ((sB r 0).map Value.bool).toArray := Blk.new w1 4 _
  have hb2 := b.alloc b.size (.cells #[.bool false, .bool false, .bool false, .bool false, .bool false, .bool false, .bool false] 4)
  generalize w1.alloc (.cells #[.bool false, .bool false, .bool false, .bool false, .bool false, .bool false, .bool false] 4) = w2 at *
  have hs := b.size
  generalize w1.heap.size = g at *
  have HR := Lib.hid hr
  clear b mk hr
  go_loopw [7, 8] (fun o i wr => ∃ k : Nat, k ≤ 7 ∧ o = .int .i64 (opn r k : Int) ∧ i = .int .i64 (k : Int) ∧ Blk wr g 4 ((sB r k).map Value.bool).toArray ∧ Below w.heap.size w wr) (fun _ i _ => 7 - (intOf i).toNat)
  case atStart => exact ⟨0, Nat.zero_le _, rfl, rfl, hbk, hb2⟩
  case round =>
    clear hbk hb2
    obtain ⟨k, hk, rfl, rfl, hbk, hbw⟩ := hrel
    by_cases hlt : k < 7
    · obtain ⟨q, hq⟩ : ∃ q, (r + k) % 7 = q := ⟨_, rfl⟩
      have hq7 : q < 7 := by omega
      have HSet := Lib.hid (sB_set r hr7 k hlt)
      have HAt := sB_at r hr7 k hlt
      have HOp := Lib.hid (opn_succ r hr7 k hlt)
      have hol := opn_le r k
      rw [hq] at HSet HAt HOp
      have hwd : wkd (d + (k : Int)) = q := by
        have := HR.out
        unfold wkd
        rw [if_pos ((isB_iff _).2 ⟨by omega, by omega⟩)]
        omega
      have hop : ∀ l, opB l (d + (k : Int)) = (decide (q < 5) && !decide (d + (k : Int) ∈ l)) := fun l => by
        unfold opB
        rw [hwd, (isB_iff _).2 ⟨by omega, by omega⟩]
        have : decide ((q : Int) < 5) = decide (q < 5) := by
          by_cases h : q < 5
          · rw [decide_eq_true h, decide_eq_true (by omega)]
          · rw [decide_eq_false h, decide_eq_false (by omega)]
        rw [this]
        rfl
      have HD := Lib.hid hwd
      have HP := Lib.hid hop
      obtain ⟨c0, c1, c2⟩ := hbk.all
      have hck : wr.cell? ⟨g, q, none⟩ = some (.bool false) := by
        rw [c0]
        simp only [List.getElem?_toArray, List.getElem?_map, HAt]
        rfl
      clear HAt hwd hop c0 hq
      go_wp2_with fail
      refine (wkd_at _ _ _ HD.out).mono ?_
      rintro e w3 ⟨rfl, rfl⟩
      go_wp2_with fail
      have hbk2 := hbk.set_ q (.bool true)
      have e1 : ((sB r k).map Value.bool).toArray.setIfInBounds q (Value.bool true) = ((sB r (k + 1)).map Value.bool).toArray := by
        rw [← HSet.out, List.setIfInBounds_toArray, List.map_set]
      rw [e1] at hbk2
      have hbw2 := hbw.setCell (p := ⟨g, q, none⟩) hs (.bool true)
      generalize wr.setCell ⟨g, q, none⟩ (.bool true) = w4 at *
      clear hbk hbw hck c1 c2 e1 HSet
      have hin : ∀ W, Below w.heap.size w W → ∀ m, decide (d + (k : Int) ∈ l) = m → Calls Tryd.prog 18 #[.slice A l.length c, .int .i64 (d + (k : Int))] W fun e w' => e = .returned (.bool m) ∧ W = w' := fun W hb m hm => by
        have := in_any W w.heap.size A l c (HA.out.below hb) (by omega) (d + (k : Int))
        rw [hm] at this
        exact this
      have hwk : ∀ W, Below w.heap.size w W → ∀ m, opB l (d + (k : Int)) = m → Calls Tryd.prog 17 #[.int .i64 (d + (k : Int)), .slice A l.length c] W fun e w' => e = .returned (.bool m) ∧ Below W.heap.size W w' := fun W hb m hm => by
        have := work_any W w.heap.size A l c (HA.out.below hb) hb.size (by omega) HW.out (d + (k : Int))
        rw [hm] at this
        exact this
      have HI := Lib.hid hin
      have HK := Lib.hid hwk
      clear hin hwk
      by_cases hq5 : q < 5
      · have ho := HOp.out
        rw [if_pos hq5] at ho
        have HO := Lib.hid ho
        clear ho
        have hq5' : (q : Int) ≤ 4 := by omega
        refine (work_nil _ _ true (by rw [HP.out, decide_eq_true hq5]; rfl)).mono ?_
        rintro e w5 ⟨rfl, hb5⟩
        have hbk5 := hbk2.below hb5 hbk2.lt
        replace hbw2 := Below.then hbw2 hb5
        clear hb5 hbk2
        go_wp2_with fail
        by_cases hm : d + (k : Int) ∈ l
        · refine (HK.out _ hbw2 false (by rw [HP.out, decide_eq_true hq5, decide_eq_true hm]; rfl)).mono ?_
          rintro e w6 ⟨rfl, hb6⟩
          have hbk6 := hbk5.below hb6 hbk5.lt
          replace hbw2 := Below.then hbw2 hb6
          have HM := Lib.hid hm
          clear hb6 hbk5 hm
          go_wp2_with fail
          refine (HI.out _ hbw2 true (decide_eq_true HM.out)).mono ?_
          rintro e w7 ⟨rfl, rfl⟩
          go_wp2
          go_roundw
          case rel => exact ⟨k + 1, by omega, by rw [HO.out]; go_num, by go_num, hbk6, hbw2⟩
          case measure => simp [intOf]; omega
        · refine (HK.out _ hbw2 true (by rw [HP.out, decide_eq_true hq5, decide_eq_false hm]; rfl)).mono ?_
          rintro e w6 ⟨rfl, hb6⟩
          have hbk6 := hbk5.below hb6 hbk5.lt
          replace hbw2 := Below.then hbw2 hb6
          have HM := Lib.hid hm
          clear hb6 hbk5 hm
          go_wp2_with fail
          refine (HI.out _ hbw2 false (decide_eq_false HM.out)).mono ?_
          rintro e w7 ⟨rfl, rfl⟩
          go_wp2
          go_roundw
          case rel => exact ⟨k + 1, by omega, by rw [HO.out]; go_num, by go_num, hbk6, hbw2⟩
          case measure => simp [intOf]; omega
      · have ho := HOp.out
        rw [if_neg hq5] at ho
        have HO := Lib.hid ho
        clear ho
        have hq5' : (4 : Int) < q := by omega
        refine (work_nil _ _ false (by rw [HP.out, decide_eq_false hq5]; rfl)).mono ?_
        rintro e w5 ⟨rfl, hb5⟩
        have hbk5 := hbk2.below hb5 hbk2.lt
        replace hbw2 := Below.then hbw2 hb5
        clear hb5 hbk2
        go_wp2_with fail
        refine (HK.out _ hbw2 false (by rw [HP.out, decide_eq_false hq5]; rfl)).mono ?_
        rintro e w6 ⟨rfl, hb6⟩
        have hbk6 := hbk5.below hb6 hbk5.lt
        replace hbw2 := Below.then hbw2 hb6
        clear hb6 hbk5
        go_wp2
        go_roundw
        case rel => exact ⟨k + 1, by omega, by rw [HO.out]; go_num, by go_num, hbk6, hbw2⟩
        case measure => simp [intOf]; omega
    · obtain rfl : k = 7 := by omega
      have h5 : opn r 7 = 5 := opn_7 r hr7
      rw [h5]
      clear h5 hbk
      have hw1 : wkd (d + 7) = r := by
        have := HR.out
        unfold wkd
        rw [if_pos ((isB_iff _).2 ⟨by omega, by omega⟩)]
        omega
      have hw2 : wkd d = r := by
        have := HR.out
        unfold wkd
        rw [if_pos ((isB_iff _).2 ⟨by omega, by omega⟩)]
        omega
      have H1 := Lib.hid hw1
      have H2 := Lib.hid hw2
      clear hw1 hw2
      go_wp2_with fail
      refine (wkd_at _ _ _ H1.out).mono ?_
      rintro e w3 ⟨rfl, rfl⟩
      go_wp2_with fail
      refine (wkd_at _ _ _ H2.out).mono ?_
      rintro e w3 ⟨rfl, rfl⟩
      go_wp2
      go_ret
      exact ⟨rfl, hbw⟩
theorem weeks_walk' (w : World) (ht : Tab w) (d : Int) (_wd : (Lit.int .i64 d).wf = true) (A : Option Addr) (c : Nat) (l : List Int) (h : Ints w w.heap.size A l) : Calls Tryd.prog 5 #[.int .i64 d, .slice A l.length c] w fun e w' => e = .returned (.bool true) ∧ Below w.heap.size w w' := weeks_walk w ht d A c l h
end Go.Proofs.YtfblngdmeliabaaDoor
