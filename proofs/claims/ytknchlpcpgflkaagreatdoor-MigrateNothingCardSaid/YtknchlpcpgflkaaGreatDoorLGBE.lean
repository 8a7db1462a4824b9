/- The reference's Few, and Same at two limits that are one. How far the last day of a short limit lies from its first day. -/
import Derived.Test.YtknchlpcpgflkaaGreatDoorLGBD
namespace Go.Proofs.YtknchlpcpgflkaaGreatDoor.Lim
open Go.Proofs.YtknchlpcpgflkaaGreatDoor
open Go.RowKit Go.Shelf

theorem below_dN {B : Nat} {w w1 : World} (h : Below B w w1) (n : Nat) : Below B w (w1.drewN n) := ⟨h.os, h.tape, h.output, h.size, h.block⟩
/-- The days of the stops that are as required, one by one. -/
def smS (S : List Stp2) : Int := (S.map fun s => if psB s = true then s.2 - s.1 else 0).sum
theorem smS_at {S : List Stp2} {k : Nat} {s : Stp2} (h : S[k]? = some s) : smS (S.take (k + 1)) = smS (S.take k) + if psB s = true then s.2 - s.1 else 0 := by
  obtain ⟨hk, hs⟩ := List.getElem?_eq_some_iff.1 h
  unfold smS
  rw [List.take_succ_eq_append_getElem hk, hs, List.map_append, List.sum_append]
  simp
def frB (L : Lm) (m : Nat) : Bool := decide (L.S.length ≤ 10) && decide (L.id.size ≤ 60) && (decide (smS L.S ≤ 2000) && (shB L.n L.u && decide ((m : Int) ≤ 300)))
set_option maxHeartbeats 4000000 in
set_option maxRecDepth 100000 in
theorem Few_any (w : World) (L : Lm) (B : Nat) (A : Option Addr) (c : Nat) (h : LmAt w B A L) (hB : B ≤ w.heap.size) (C : Option Addr) (m cl : Nat) (_hm : m ≤ 9223372036854775807) :
    Calls Tryz.prog 33 #[.agg (L.cells A c), .slice C m cl, .int .i64 10] w fun e w' => e = .returned (.bool (frB L m)) ∧ Below w.heap.size w w' := by
  obtain ⟨hs, hid, hsl⟩ := h
  obtain ⟨id, n, u, f, S⟩ := L
  show Calls Tryz.prog 33 #[.agg #[.string id, .int .i64 n, .int .i64 u, .int .i64 f, .slice A S.length c], .slice C m cl, .int .i64 10] w _
  have hr : frB ⟨id, n, u, f, S⟩ m = (decide (S.length ≤ 10) && decide (id.size ≤ 60) && (decide (smS S ≤ 2000) && (shB n u && decide ((m : Int) ≤ 300)))) := rfl
  obtain ⟨r, hrr⟩ : ∃ r, frB ⟨id, n, u, f, S⟩ m = r := ⟨_, rfl⟩
  rw [hrr] at hr ⊢
  clear hrr
  have hb := (Below.refl w.heap.size w).alloc (Nat.le_refl _) (.cells #[.string id, .int .i64 n, .int .i64 u, .int .i64 f, .slice A S.length c] 44)
  have k0 := Blk.new w 44 #[.string id, .int .i64 n, .int .i64 u, .int .i64 f, .slice A S.length c]
  simp only at hid hsl hs
  have hsh := fun W => short_any W n u
  have HS := Lib.hid hs
  have HR := Lib.hid hr
  clear hs hr
  by_cases hl : 10 < S.length
  · have hno : r = false := by rw [HR.out, decide_eq_false (show ¬ S.length ≤ 10 by omega)]; rfl
    subst hno
    clear HR hsh
    go_enter Tryz.func33, Tryz.ntmps33
    go_wp2
    go_ret
    exact ⟨rfl, hb⟩
  have hl10 : S.length ≤ 10 := by omega
  by_cases hi : 60 < id.size
  · have hno : r = false := by rw [HR.out, decide_eq_false (show ¬ id.size ≤ 60 by omega), Bool.and_false]; rfl
    subst hno
    have d60 : decide ((60 : Int) < (id.size : Int)) = true := decide_eq_true (by omega)
    clear HR hsh hl
    go_enter Tryz.func33, Tryz.ntmps33
    go_wp2
    go_ret
    exact ⟨rfl, hb⟩
  have hi60 : id.size ≤ 60 := by omega
  have hrr := HR.out
  rw [decide_eq_true hl10, decide_eq_true hi60, Bool.true_and, Bool.true_and] at hrr
  have HRR := Lib.hid hrr
  have HSH := Lib.hid hsh
  clear hrr HR hl hi hsh
  go_enter Tryz.func33, Tryz.ntmps33
  go_wp2_with fail
  go_loopw [7, 8] (fun v i wr => ∃ (k : Nat) (q : Int), k ≤ S.length ∧ i = .int .i64 (k : Int) ∧ v = .int .i64 q ∧ Hid (q = smS (S.take k)) ∧ 0 ≤ q ∧ q ≤ 1000000 * (k : Int) ∧ Blk wr w.heap.size 44 #[.string id, .int .i64 n, .int .i64 u, .int .i64 f, .slice A S.length c] ∧ Below w.heap.size w wr) (fun _ i _ => S.length - (intOf i).toNat)
  case atStart => exact ⟨0, 0, Nat.zero_le _, rfl, rfl, Lib.hid rfl, Int.le_refl _, by omega, k0, hb⟩
  case round =>
    clear k0 hb
    obtain ⟨k, q, hk, rfl, rfl, hq, q0, q1, k0, hb⟩ := hrel
    obtain ⟨t0, t1, -⟩ := k0.all
    by_cases hlt : k < S.length
    · obtain ⟨s, hss⟩ : ∃ s, S[k]? = some s := ⟨_, List.getElem?_eq_getElem hlt⟩
      have hat := smS_at hss
      rw [← hq.out] at hat
      have HSS := Lib.hid hss
      obtain ⟨gb, off, hA, hg, e0, e1⟩ := (HS.out.below (hb.mono hB)) k s hss
      subst hA
      clear hss
      obtain ⟨a, b⟩ := s
      simp only at e0 e1 hat
      have hst := fun W => rStop_any W a b
      cases hp : psB (a, b) with
      | true =>
        rw [hp, if_pos rfl] at hat
        rw [hp] at hst
        obtain ⟨p0, p1, p2⟩ := psB_iff.1 hp
        simp only at p0 p1 p2
        have HAT := Lib.hid hat.symm
        have HST := Lib.hid hst
        clear hat hst hp
        go_wp2_with fail
        refine (HST.out _).mono ?_
        rintro e w1 ⟨rfl, b1⟩
        have k1 := k0.below b1 k0.lt
        replace hb := hb.trans (b1.mono hb.size)
        clear b1 k0 t0 t1 e0 e1
        obtain ⟨t0, t1, -⟩ := k1.all
        obtain ⟨gb', off', hA', hg', e0, e1⟩ := (HS.out.below (hb.mono hB)) k (a, b) HSS.out
        injection hA' with hA'
        injection hA' with hA1 hA2
        subst hA1 hA2
        simp only at e0 e1
        go_wp2_with fail
        have ib0 : (0 : Int) ≤ (k : Int) := by omega
        have ib1 : (k : Int) < (S.length : Int) := by omega
        go_quiet (fail)
        have k2 := k1.drewN nq
        have hb2 := below_dN hb nq
        clear k1 hb t0 t1 e0 e1
        go_wp2
        go_roundw
        case rel => exact ⟨k + 1, q + (b - a), by omega, by go_num, rfl, HAT, by omega, by omega, k2, hb2⟩
        case measure => simp [intOf]; omega
      | false =>
        rw [hp, if_neg (by simp), Int.add_zero] at hat
        rw [hp] at hst
        have HAT := Lib.hid hat.symm
        have HST := Lib.hid hst
        clear hat hst hp
        go_wp2_with fail
        refine (HST.out _).mono ?_
        rintro e w1 ⟨rfl, b1⟩
        have k1 := k0.below b1 k0.lt
        replace hb := hb.trans (b1.mono hb.size)
        clear b1 k0 t0 t1 e0 e1
        go_wp2
        go_roundw
        case rel => exact ⟨k + 1, q, by omega, by go_num, rfl, HAT, q0, by omega, k1, hb⟩
        case measure => simp [intOf]; omega
    · obtain rfl : k = S.length := by omega
      have hqq := hq.out
      rw [List.take_length] at hqq
      have hrr := HRR.out
      rw [← hqq] at hrr
      have HR3 := Lib.hid hrr
      clear hqq hrr HRR hq
      by_cases h2 : q ≤ 2000
      · have e2 : Hid (decide (q ≤ 2000) = true) := Lib.hid (decide_eq_true h2)
        generalize shB n u = b at *
        cases b with
        | true =>
          cases h3 : decide ((m : Int) ≤ 300)
          all_goals
            have hrr := HR3.out
            rw [e2.out, h3] at hrr
            have HE := Lib.hid hrr
            clear hrr HR3
            go_wp2_with fail
            refine (HSH.out _).mono ?_
            rintro e w1 ⟨rfl, b1⟩
            replace hb := hb.trans (b1.mono hb.size)
            clear b1 k0 t0 t1
            go_wp2
            go_ret
            exact ⟨by rw [HE.out]; rfl, hb⟩
        | false =>
          have hrr := HR3.out
          rw [Bool.false_and, Bool.and_false] at hrr
          have HE := Lib.hid hrr
          clear hrr HR3
          go_wp2_with fail
          refine (HSH.out _).mono ?_
          rintro e w1 ⟨rfl, b1⟩
          replace hb := hb.trans (b1.mono hb.size)
          clear b1 k0 t0 t1
          go_wp2
          go_ret
          exact ⟨by rw [HE.out]; rfl, hb⟩
      · have e2 : decide (q ≤ 2000) = false := decide_eq_false h2
        have hrr := HR3.out
        rw [e2, Bool.false_and] at hrr
        have HE := Lib.hid hrr
        clear hrr HR3
        go_wp2
        go_ret
        exact ⟨by rw [HE.out]; rfl, hb⟩

def frB5 (L : Lm) (m : Nat) : Bool := decide (L.S.length ≤ 5) && decide (L.id.size ≤ 60) && (decide (smS L.S ≤ 2000) && (shB L.n L.u && decide ((m : Int) ≤ 300)))
set_option maxHeartbeats 4000000 in
set_option maxRecDepth 100000 in
theorem Few5_any (w : World) (L : Lm) (B : Nat) (A : Option Addr) (c : Nat) (h : LmAt w B A L) (hB : B ≤ w.heap.size) (C : Option Addr) (m cl : Nat) (_hm : m ≤ 9223372036854775807) :
    Calls Tryz.prog 33 #[.agg (L.cells A c), .slice C m cl, .int .i64 5] w fun e w' => e = .returned (.bool (frB5 L m)) ∧ Below w.heap.size w w' := by
  obtain ⟨hs, hid, hsl⟩ := h
  obtain ⟨id, n, u, f, S⟩ := L
  show Calls Tryz.prog 33 #[.agg #[.string id, .int .i64 n, .int .i64 u, .int .i64 f, .slice A S.length c], .slice C m cl, .int .i64 5] w _
  have hr : frB5 ⟨id, n, u, f, S⟩ m = (decide (S.length ≤ 5) && decide (id.size ≤ 60) && (decide (smS S ≤ 2000) && (shB n u && decide ((m : Int) ≤ 300)))) := rfl
  obtain ⟨r, hrr⟩ : ∃ r, frB5 ⟨id, n, u, f, S⟩ m = r := ⟨_, rfl⟩
  rw [hrr] at hr ⊢
  clear hrr
  have hb := (Below.refl w.heap.size w).alloc (Nat.le_refl _) (.cells #[.string id, .int .i64 n, .int .i64 u, .int .i64 f, .slice A S.length c] 44)
  have k0 := Blk.new w 44 #[.string id, .int .i64 n, .int .i64 u, .int .i64 f, .slice A S.length c]
  simp only at hid hsl hs
  have hsh := fun W => short_any W n u
  have HS := Lib.hid hs
  have HR := Lib.hid hr
  clear hs hr
  by_cases hl : 5 < S.length
  · have hno : r = false := by rw [HR.out, decide_eq_false (show ¬ S.length ≤ 5 by omega)]; rfl
    subst hno
    clear HR hsh
    go_enter Tryz.func33, Tryz.ntmps33
    go_wp2
    go_ret
    exact ⟨rfl, hb⟩
  have hl10 : S.length ≤ 5 := by omega
  by_cases hi : 60 < id.size
  · have hno : r = false := by rw [HR.out, decide_eq_false (show ¬ id.size ≤ 60 by omega), Bool.and_false]; rfl
    subst hno
    have d60 : decide ((60 : Int) < (id.size : Int)) = true := decide_eq_true (by omega)
    clear HR hsh hl
    go_enter Tryz.func33, Tryz.ntmps33
    go_wp2
    go_ret
    exact ⟨rfl, hb⟩
  have hi60 : id.size ≤ 60 := by omega
  have hrr := HR.out
  rw [decide_eq_true hl10, decide_eq_true hi60, Bool.true_and, Bool.true_and] at hrr
  have HRR := Lib.hid hrr
  have HSH := Lib.hid hsh
  clear hrr HR hl hi hsh
  go_enter Tryz.func33, Tryz.ntmps33
  go_wp2_with fail
  go_loopw [7, 8] (fun v i wr => ∃ (k : Nat) (q : Int), k ≤ S.length ∧ i = .int .i64 (k : Int) ∧ v = .int .i64 q ∧ Hid (q = smS (S.take k)) ∧ 0 ≤ q ∧ q ≤ 1000000 * (k : Int) ∧ Blk wr w.heap.size 44 #[.string id, .int .i64 n, .int .i64 u, .int .i64 f, .slice A S.length c] ∧ Below w.heap.size w wr) (fun _ i _ => S.length - (intOf i).toNat)
  case atStart => exact ⟨0, 0, Nat.zero_le _, rfl, rfl, Lib.hid rfl, Int.le_refl _, by omega, k0, hb⟩
  case round =>
    clear k0 hb
    obtain ⟨k, q, hk, rfl, rfl, hq, q0, q1, k0, hb⟩ := hrel
    obtain ⟨t0, t1, -⟩ := k0.all
    by_cases hlt : k < S.length
    · obtain ⟨s, hss⟩ : ∃ s, S[k]? = some s := ⟨_, List.getElem?_eq_getElem hlt⟩
      have hat := smS_at hss
      rw [← hq.out] at hat
      have HSS := Lib.hid hss
      obtain ⟨gb, off, hA, hg, e0, e1⟩ := (HS.out.below (hb.mono hB)) k s hss
      subst hA
      clear hss
      obtain ⟨a, b⟩ := s
      simp only at e0 e1 hat
      have hst := fun W => rStop_any W a b
      cases hp : psB (a, b) with
      | true =>
        rw [hp, if_pos rfl] at hat
        rw [hp] at hst
        obtain ⟨p0, p1, p2⟩ := psB_iff.1 hp
        simp only at p0 p1 p2
        have HAT := Lib.hid hat.symm
        have HST := Lib.hid hst
        clear hat hst hp
        go_wp2_with fail
        refine (HST.out _).mono ?_
        rintro e w1 ⟨rfl, b1⟩
        have k1 := k0.below b1 k0.lt
        replace hb := hb.trans (b1.mono hb.size)
        clear b1 k0 t0 t1 e0 e1
        obtain ⟨t0, t1, -⟩ := k1.all
        obtain ⟨gb', off', hA', hg', e0, e1⟩ := (HS.out.below (hb.mono hB)) k (a, b) HSS.out
        injection hA' with hA'
        injection hA' with hA1 hA2
        subst hA1 hA2
        simp only at e0 e1
        go_wp2_with fail
        have ib0 : (0 : Int) ≤ (k : Int) := by omega
        have ib1 : (k : Int) < (S.length : Int) := by omega
        go_quiet (fail)
        have k2 := k1.drewN nq
        have hb2 := below_dN hb nq
        clear k1 hb t0 t1 e0 e1
        go_wp2
        go_roundw
        case rel => exact ⟨k + 1, q + (b - a), by omega, by go_num, rfl, HAT, by omega, by omega, k2, hb2⟩
        case measure => simp [intOf]; omega
      | false =>
        rw [hp, if_neg (by simp), Int.add_zero] at hat
        rw [hp] at hst
        have HAT := Lib.hid hat.symm
        have HST := Lib.hid hst
        clear hat hst hp
        go_wp2_with fail
        refine (HST.out _).mono ?_
        rintro e w1 ⟨rfl, b1⟩
        have k1 := k0.below b1 k0.lt
        replace hb := hb.trans (b1.mono hb.size)
        clear b1 k0 t0 t1 e0 e1
        go_wp2
        go_roundw
        case rel => exact ⟨k + 1, q, by omega, by go_num, rfl, HAT, q0, by omega, k1, hb⟩
        case measure => simp [intOf]; omega
    · obtain rfl : k = S.length := by omega
      have hqq := hq.out
      rw [List.take_length] at hqq
      have hrr := HRR.out
      rw [← hqq] at hrr
      have HR3 := Lib.hid hrr
      clear hqq hrr HRR hq
      by_cases h2 : q ≤ 2000
      · have e2 : Hid (decide (q ≤ 2000) = true) := Lib.hid (decide_eq_true h2)
        generalize shB n u = b at *
        cases b with
        | true =>
          cases h3 : decide ((m : Int) ≤ 300)
          all_goals
            have hrr := HR3.out
            rw [e2.out, h3] at hrr
            have HE := Lib.hid hrr
            clear hrr HR3
            go_wp2_with fail
            refine (HSH.out _).mono ?_
            rintro e w1 ⟨rfl, b1⟩
            replace hb := hb.trans (b1.mono hb.size)
            clear b1 k0 t0 t1
            go_wp2
            go_ret
            exact ⟨by rw [HE.out]; rfl, hb⟩
        | false =>
          have hrr := HR3.out
          rw [Bool.false_and, Bool.and_false] at hrr
          have HE := Lib.hid hrr
          clear hrr HR3
          go_wp2_with fail
          refine (HSH.out _).mono ?_
          rintro e w1 ⟨rfl, b1⟩
          replace hb := hb.trans (b1.mono hb.size)
          clear b1 k0 t0 t1
          go_wp2
          go_ret
          exact ⟨by rw [HE.out]; rfl, hb⟩
      · have e2 : decide (q ≤ 2000) = false := decide_eq_false h2
        have hrr := HR3.out
        rw [e2, Bool.false_and] at hrr
        have HE := Lib.hid hrr
        clear hrr HR3
        go_wp2
        go_ret
        exact ⟨by rw [HE.out]; rfl, hb⟩

end Go.Proofs.YtknchlpcpgflkaaGreatDoor.Lim

namespace Go.Proofs.YtknchlpcpgflkaaGreatDoor
open Go.RowKit Go.Shelf Lim

section
variable {p q r : Int → Bool}
end
end Go.Proofs.YtknchlpcpgflkaaGreatDoor
