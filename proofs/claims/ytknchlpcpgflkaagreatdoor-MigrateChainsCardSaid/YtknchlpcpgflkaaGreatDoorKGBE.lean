/- The reference's Few, and Same at two limits that are one. How far the last day of a short limit lies from its first day. -/
import Derived.Test.YtknchlpcpgflkaaGreatDoorKGBD
namespace Go.Proofs.YtknchlpcpgflkaaGreatDoor.Lim
open Go.Proofs.YtknchlpcpgflkaaGreatDoor
open Go.RowKit Go.Shelf

theorem below_dN {B : Nat} {w w1 : World} (h : Below B w w1) (n : Nat) : Below B w (w1.drewN n) := ⟨h.os, h.tape, h.output, h.size, h.block⟩
/-- The days of the stops that are as required, one by one. -/
def smS (S : List Stp2) : Int := (S.map fun s => if psB s = true then s.2 - s.1 else 0).sum
theorem smS_at {S : List Stp2} {k : Nat} {s : Stp2} (h : S[k]? = some s) : smS (S.take (k + 1)) = smS (S.take k) + if psB s = true then s.2 - s.1 else 0 := by
  obtain ⟨hk, hs⟩ := List.getElem?_eq_some_iff.1 h
  unfold smS
  rw [List.take_succ_eq_append_getElem hk, hs, List.map_append, List.sum_append]
  simp
def frB (L : Lm) (m : Nat) : Bool := decide (L.S.length ≤ 10) && decide (L.id.size ≤ 60) && (decide (smS L.S ≤ 2000) && (shB L.n L.u && decide ((m : Int) ≤ 300)))
theorem frB_iff {L : Lm} {m : Nat} : frB L m = true ↔ L.S.length ≤ 10 ∧ L.id.size ≤ 60 ∧ smS L.S ≤ 2000 ∧ shB L.n L.u = true ∧ m ≤ 300 := by
  unfold frB
  simp only [Bool.and_eq_true, decide_eq_true_eq]
  constructor
  · rintro ⟨⟨a, b⟩, c, d, e⟩; exact ⟨a, b, c, d, by omega⟩
  · rintro ⟨a, b, c, d, e⟩; exact ⟨⟨a, b⟩, c, d, by omega⟩

set_option maxHeartbeats 4000000 in
set_option maxRecDepth 100000 in
theorem Few_any (w : World) (L : Lm) (B : Nat) (A : Option Addr) (c : Nat) (h : LmAt w B A L) (hB : B ≤ w.heap.size) (C : Option Addr) (m cl : Nat) (_hm : m ≤ 9223372036854775807) :
    Calls Tryz.prog 33 #[.agg (L.cells A c), .slice C m cl, .int .i64 10] w fun e w' => e = .returned (.bool (frB L m)) ∧ Below w.heap.size w w' := by
  obtain ⟨hs, hid, hsl⟩ := h
  obtain ⟨id, n, u, f, S⟩ := L
  show Calls Tryz.prog 33 #[.agg #[.string id, .int .i64 n, .int .i64 u, .int .i64 f, .slice A S.length c], .slice C m cl, .int .i64 10] w _
  have hr : frB ⟨id, n, u, f, S⟩ m = (decide (S.length ≤ 10) && decide (id.size ≤ 60) && (decide (smS S ≤ 2000) && (shB n u && decide ((m : Int) ≤ 300)))) := rfl
  obtain ⟨r, hrr⟩ : ∃ r, frB ⟨id, n, u, f, S⟩ m = r := ⟨_, rfl⟩
  rw [hrr] at hr ⊢
  clear hrr
  have hb := (Below.refl w.heap.size w).alloc (Nat.le_refl _) (.cells #[.string id, .int .i64 n, .int .i64 u, .int .i64 f, .slice A S.length c] 44)
  have k0 := Blk.new w 44 #[.string id, .int .i64 n, .int .i64 u, .int .i64 f, .slice A S.length c]
  simp only at hid hsl hs
  have hsh := fun W => short_any W n u
  have HS := Lib.hid hs
  have HR := Lib.hid hr
  clear hs hr
  by_cases hl : 10 < S.length
  · have hno : r = false := by rw [HR.out, decide_eq_false (show ¬ S.length ≤ 10 by omega)]; rfl
    subst hno
    clear HR hsh
    go_enter Tryz.func33, Tryz.ntmps33
    go_wp2
    go_ret
    exact ⟨rfl, hb⟩
  have hl10 : S.length ≤ 10 := by omega
  by_cases hi : 60 < id.size
  · have hno : r = false := by rw [HR.out, decide_eq_false (show ¬ id.size ≤ 60 by omega), Bool.and_false]; rfl
    subst hno
    have d60 : decide ((60 : Int) < (id.size : Int)) = true := decide_eq_true (by omega)
    clear HR hsh hl
    go_enter Tryz.func33, Tryz.ntmps33
    go_wp2
    go_ret
    exact ⟨rfl, hb⟩
  have hi60 : id.size ≤ 60 := by omega
  have hrr := HR.out
  rw [decide_eq_true hl10, decide_eq_true hi60, Bool.true_and, Bool.true_and] at hrr
  have HRR := Lib.hid hrr
  have HSH := Lib.hid hsh
  clear hrr HR hl hi hsh
  go_enter Tryz.func33, Tryz.ntmps33
  go_wp2_with fail
  go_loopw [7, 8] (fun v i wr => ∃ (k : Nat) (q : Int), k ≤ S.length ∧ i = .int .i64 (k : Int) ∧ v = .int .i64 q ∧ Hid (q = smS (S.take k)) ∧ 0 ≤ q ∧ q ≤ 1000000 * (k : Int) ∧ Blk wr w.heap.size 44 #[.string id, .int .i64 n, .int .i64 u, .int .i64 f, .slice A S.length c] ∧ Below w.heap.size w wr) (fun _ i _ => S.length - (intOf i).toNat)
  case atStart => exact ⟨0, 0, Nat.zero_le _, rfl, rfl, Lib.hid rfl, Int.le_refl _, by omega, k0, hb⟩
  case round =>
    clear k0 hb
    obtain ⟨k, q, hk, rfl, rfl, hq, q0, q1, k0, hb⟩ := hrel
    obtain ⟨t0, t1, -⟩ := k0.all
    by_cases hlt : k < S.length
    · obtain ⟨s, hss⟩ : ∃ s, S[k]? = some s := ⟨_, List.getElem?_eq_getElem hlt⟩
      have hat := smS_at hss
      rw [← hq.out] at hat
      have HSS := Lib.hid hss
      obtain ⟨gb, off, hA, hg, e0, e1⟩ := (HS.out.below (hb.mono hB)) k s hss
      subst hA
      clear hss
      obtain ⟨a, b⟩ := s
      simp only at e0 e1 hat
      have hst := fun W => rStop_any W a b
      cases hp : psB (a, b) with
      | true =>
        rw [hp, if_pos rfl] at hat
        rw [hp] at hst
        obtain ⟨p0, p1, p2⟩ := psB_iff.1 hp
        simp only at p0 p1 p2
        have HAT := Lib.hid hat.symm
        have HST := Lib.hid hst
        clear hat hst hp
        go_wp2_with fail
        refine (HST.out _).mono ?_
        rintro e w1 ⟨rfl, b1⟩
        have k1 := k0.below b1 k0.lt
        replace hb := hb.trans (b1.mono hb.size)
        clear b1 k0 t0 t1 e0 e1
        obtain ⟨t0, t1, -⟩ := k1.all
        obtain ⟨gb', off', hA', hg', e0, e1⟩ := (HS.out.below (hb.mono hB)) k (a, b) HSS.out
        injection hA' with hA'
        injection hA' with hA1 hA2
        subst hA1 hA2
        simp only at e0 e1
        go_wp2_with fail
        have ib0 : (0 : Int) ≤ (k : Int) := by omega
        have ib1 : (k : Int) < (S.length : Int) := by omega
        go_quiet (fail)
        have k2 := k1.drewN nq
        have hb2 := below_dN hb nq
        clear k1 hb t0 t1 e0 e1
        go_wp2
        go_roundw
        case rel => exact ⟨k + 1, q + (b - a), by omega, by go_num, rfl, HAT, by omega, by omega, k2, hb2⟩
        case measure => simp [intOf]; omega
      | false =>
        rw [hp, if_neg (by simp), Int.add_zero] at hat
        rw [hp] at hst
        have HAT := Lib.hid hat.symm
        have HST := Lib.hid hst
        clear hat hst hp
        go_wp2_with fail
        refine (HST.out _).mono ?_
        rintro e w1 ⟨rfl, b1⟩
        have k1 := k0.below b1 k0.lt
        replace hb := hb.trans (b1.mono hb.size)
        clear b1 k0 t0 t1 e0 e1
        go_wp2
        go_roundw
        case rel => exact ⟨k + 1, q, by omega, by go_num, rfl, HAT, q0, by omega, k1, hb⟩
        case measure => simp [intOf]; omega
    · obtain rfl : k = S.length := by omega
      have hqq := hq.out
      rw [List.take_length] at hqq
      have hrr := HRR.out
      rw [← hqq] at hrr
      have HR3 := Lib.hid hrr
      clear hqq hrr HRR hq
      by_cases h2 : q ≤ 2000
      · have e2 : Hid (decide (q ≤ 2000) = true) := Lib.hid (decide_eq_true h2)
        generalize shB n u = b at *
        cases b with
        | true =>
          cases h3 : decide ((m : Int) ≤ 300)
          all_goals
            have hrr := HR3.out
            rw [e2.out, h3] at hrr
            have HE := Lib.hid hrr
            clear hrr HR3
            go_wp2_with fail
            refine (HSH.out _).mono ?_
            rintro e w1 ⟨rfl, b1⟩
            replace hb := hb.trans (b1.mono hb.size)
            clear b1 k0 t0 t1
            go_wp2
            go_ret
            exact ⟨by rw [HE.out]; rfl, hb⟩
        | false =>
          have hrr := HR3.out
          rw [Bool.false_and, Bool.and_false] at hrr
          have HE := Lib.hid hrr
          clear hrr HR3
          go_wp2_with fail
          refine (HSH.out _).mono ?_
          rintro e w1 ⟨rfl, b1⟩
          replace hb := hb.trans (b1.mono hb.size)
          clear b1 k0 t0 t1
          go_wp2
          go_ret
          exact ⟨by rw [HE.out]; rfl, hb⟩
      · have e2 : decide (q ≤ 2000) = false := decide_eq_false h2
        have hrr := HR3.out
        rw [e2, Bool.false_and] at hrr
        have HE := Lib.hid hrr
        clear hrr HR3
        go_wp2
        go_ret
        exact ⟨by rw [HE.out]; rfl, hb⟩

def frB5 (L : Lm) (m : Nat) : Bool := decide (L.S.length ≤ 5) && decide (L.id.size ≤ 60) && (decide (smS L.S ≤ 2000) && (shB L.n L.u && decide ((m : Int) ≤ 300)))
set_option maxHeartbeats 4000000 in
set_option maxRecDepth 100000 in
theorem Few5_any (w : World) (L : Lm) (B : Nat) (A : Option Addr) (c : Nat) (h : LmAt w B A L) (hB : B ≤ w.heap.size) (C : Option Addr) (m cl : Nat) (_hm : m ≤ 9223372036854775807) :
    Calls Tryz.prog 33 #[.agg (L.cells A c), .slice C m cl, .int .i64 5] w fun e w' => e = .returned (.bool (frB5 L m)) ∧ Below w.heap.size w w' := by
  obtain ⟨hs, hid, hsl⟩ := h
  obtain ⟨id, n, u, f, S⟩ := L
  show Calls Tryz.prog 33 #[.agg #[.string id, .int .i64 n, .int .i64 u, .int .i64 f, .slice A S.length c], .slice C m cl, .int .i64 5] w _
  have hr : frB5 ⟨id, n, u, f, S⟩ m = (decide (S.length ≤ 5) && decide (id.size ≤ 60) && (decide (smS S ≤ 2000) && (shB n u && decide ((m : Int) ≤ 300)))) := rfl
  obtain ⟨r, hrr⟩ : ∃ r, frB5 ⟨id, n, u, f, S⟩ m = r := ⟨_, rfl⟩
  rw [hrr] at hr ⊢
  clear hrr
  have hb := (Below.refl w.heap.size w).alloc (Nat.le_refl _) (.cells #[.string id, .int .i64 n, .int .i64 u, .int .i64 f, .slice A S.length c] 44)
  have k0 := Blk.new w 44 #[.string id, .int .i64 n, .int .i64 u, .int .i64 f, .slice A S.length c]
  simp only at hid hsl hs
  have hsh := fun W => short_any W n u
  have HS := Lib.hid hs
  have HR := Lib.hid hr
  clear hs hr
  by_cases hl : 5 < S.length
  · have hno : r = false := by rw [HR.out, decide_eq_false (show ¬ S.length ≤ 5 by omega)]; rfl
    subst hno
    clear HR hsh
    go_enter Tryz.func33, Tryz.ntmps33
    go_wp2
    go_ret
    exact ⟨rfl, hb⟩
  have hl10 : S.length ≤ 5 := by omega
  by_cases hi : 60 < id.size
  · have hno : r = false := by rw [HR.out, decide_eq_false (show ¬ id.size ≤ 60 by omega), Bool.and_false]; rfl
    subst hno
    have d60 : decide ((60 : Int) < (id.size : Int)) = true := decide_eq_true (by omega)
    clear HR hsh hl
    go_enter Tryz.func33, Tryz.ntmps33
    go_wp2
    go_ret
    exact ⟨rfl, hb⟩
  have hi60 : id.size ≤ 60 := by omega
  have hrr := HR.out
  rw [decide_eq_true hl10, decide_eq_true hi60, Bool.true_and, Bool.true_and] at hrr
  have HRR := Lib.hid hrr
  have HSH := Lib.hid hsh
  clear hrr HR hl hi hsh
  go_enter Tryz.func33, Tryz.ntmps33
  go_wp2_with fail
  go_loopw [7, 8] (fun v i wr => ∃ (k : Nat) (q : Int), k ≤ S.length ∧ i = .int .i64 (k : Int) ∧ v = .int .i64 q ∧ Hid (q = smS (S.take k)) ∧ 0 ≤ q ∧ q ≤ 1000000 * (k : Int) ∧ Blk wr w.heap.size 44 #[.string id, .int .i64 n, .int .i64 u, .int .i64 f, .slice A S.length c] ∧ Below w.heap.size w wr) (fun _ i _ => S.length - (intOf i).toNat)
  case atStart => exact ⟨0, 0, Nat.zero_le _, rfl, rfl, Lib.hid rfl, Int.le_refl _, by omega, k0, hb⟩
  case round =>
    clear k0 hb
    obtain ⟨k, q, hk, rfl, rfl, hq, q0, q1, k0, hb⟩ := hrel
    obtain ⟨t0, t1, -⟩ := k0.all
    by_cases hlt : k < S.length
    · obtain ⟨s, hss⟩ : ∃ s, S[k]? = some s := ⟨_, List.getElem?_eq_getElem hlt⟩
      have hat := smS_at hss
      rw [← hq.out] at hat
      have HSS := Lib.hid hss
      obtain ⟨gb, off, hA, hg, e0, e1⟩ := (HS.out.below (hb.mono hB)) k s hss
      subst hA
      clear hss
      obtain ⟨a, b⟩ := s
      simp only at e0 e1 hat
      have hst := fun W => rStop_any W a b
      cases hp : psB (a, b) with
      | true =>
        rw [hp, if_pos rfl] at hat
        rw [hp] at hst
        obtain ⟨p0, p1, p2⟩ := psB_iff.1 hp
        simp only at p0 p1 p2
        have HAT := Lib.hid hat.symm
        have HST := Lib.hid hst
        clear hat hst hp
        go_wp2_with fail
        refine (HST.out _).mono ?_
        rintro e w1 ⟨rfl, b1⟩
        have k1 := k0.below b1 k0.lt
        replace hb := hb.trans (b1.mono hb.size)
        clear b1 k0 t0 t1 e0 e1
        obtain ⟨t0, t1, -⟩ := k1.all
        obtain ⟨gb', off', hA', hg', e0, e1⟩ := (HS.out.below (hb.mono hB)) k (a, b) HSS.out
        injection hA' with hA'
        injection hA' with hA1 hA2
        subst hA1 hA2
        simp only at e0 e1
        go_wp2_with fail
        have ib0 : (0 : Int) ≤ (k : Int) := by omega
        have ib1 : (k : Int) < (S.length : Int) := by omega
        go_quiet (fail)
        have k2 := k1.drewN nq
        have hb2 := below_dN hb nq
        clear k1 hb t0 t1 e0 e1
        go_wp2
        go_roundw
        case rel => exact ⟨k + 1, q + (b - a), by omega, by go_num, rfl, HAT, by omega, by omega, k2, hb2⟩
        case measure => simp [intOf]; omega
      | false =>
        rw [hp, if_neg (by simp), Int.add_zero] at hat
        rw [hp] at hst
        have HAT := Lib.hid hat.symm
        have HST := Lib.hid hst
        clear hat hst hp
        go_wp2_with fail
        refine (HST.out _).mono ?_
        rintro e w1 ⟨rfl, b1⟩
        have k1 := k0.below b1 k0.lt
        replace hb := hb.trans (b1.mono hb.size)
        clear b1 k0 t0 t1 e0 e1
        go_wp2
        go_roundw
        case rel => exact ⟨k + 1, q, by omega, by go_num, rfl, HAT, q0, by omega, k1, hb⟩
        case measure => simp [intOf]; omega
    · obtain rfl : k = S.length := by omega
      have hqq := hq.out
      rw [List.take_length] at hqq
      have hrr := HRR.out
      rw [← hqq] at hrr
      have HR3 := Lib.hid hrr
      clear hqq hrr HRR hq
      by_cases h2 : q ≤ 2000
      · have e2 : Hid (decide (q ≤ 2000) = true) := Lib.hid (decide_eq_true h2)
        generalize shB n u = b at *
        cases b with
        | true =>
          cases h3 : decide ((m : Int) ≤ 300)
          all_goals
            have hrr := HR3.out
            rw [e2.out, h3] at hrr
            have HE := Lib.hid hrr
            clear hrr HR3
            go_wp2_with fail
            refine (HSH.out _).mono ?_
            rintro e w1 ⟨rfl, b1⟩
            replace hb := hb.trans (b1.mono hb.size)
            clear b1 k0 t0 t1
            go_wp2
            go_ret
            exact ⟨by rw [HE.out]; rfl, hb⟩
        | false =>
          have hrr := HR3.out
          rw [Bool.false_and, Bool.and_false] at hrr
          have HE := Lib.hid hrr
          clear hrr HR3
          go_wp2_with fail
          refine (HSH.out _).mono ?_
          rintro e w1 ⟨rfl, b1⟩
          replace hb := hb.trans (b1.mono hb.size)
          clear b1 k0 t0 t1
          go_wp2
          go_ret
          exact ⟨by rw [HE.out]; rfl, hb⟩
      · have e2 : decide (q ≤ 2000) = false := decide_eq_false h2
        have hrr := HR3.out
        rw [e2, Bool.false_and] at hrr
        have HE := Lib.hid hrr
        clear hrr HR3
        go_wp2
        go_ret
        exact ⟨by rw [HE.out]; rfl, hb⟩

end Go.Proofs.YtknchlpcpgflkaaGreatDoor.Lim

namespace Go.Proofs.YtknchlpcpgflkaaGreatDoor
open Go.RowKit Go.Shelf Lim

/-- How many of the k days behind a have p. -/
def cT (p : Int → Bool) (a : Int) : Nat → Nat
  | 0 => 0
  | k + 1 => cT p a k + if p (a + 1 + (k : Int)) = true then 1 else 0
section
variable {p q r : Int → Bool}
theorem cT_cntU (p : Int → Bool) (a : Int) : ∀ k : Nat, cntU p a k + cT p a k = k
  | 0 => rfl
  | k + 1 => by
    have ih := cT_cntU p a k
    show cntU p a k + (if p (a + 1 + (k : Int)) = true then 0 else 1) + (cT p a k + if p (a + 1 + (k : Int)) = true then 1 else 0) = k + 1
    split <;> omega
theorem cT_add (p : Int → Bool) (a : Int) (k : Nat) : ∀ j, cT p a (k + j) = cT p a k + cT p (a + k) j
  | 0 => rfl
  | j + 1 => by
    have ih := cT_add p a k j
    have e : a + 1 + ((k + j : Nat) : Int) = a + k + 1 + (j : Int) := by omega
    have e1 : cT p a (k + j + 1) = cT p a (k + j) + if p (a + 1 + ((k + j : Nat) : Int)) = true then 1 else 0 := rfl
    have e2 : cT p (a + k) (j + 1) = cT p (a + k) j + if p (a + k + 1 + (j : Int)) = true then 1 else 0 := rfl
    rw [← Nat.add_assoc, e1, e2, ih, e]
    omega
theorem cT_or (h : ∀ x, r x = true → p x = true ∨ q x = true) (a : Int) : ∀ k : Nat, cT r a k ≤ cT p a k + cT q a k
  | 0 => Nat.le_refl _
  | k + 1 => by
    have ih := cT_or h a k
    have h1 := h (a + 1 + (k : Int))
    show cT r a k + (if r (a + 1 + (k : Int)) = true then 1 else 0) ≤ cT p a k + (if p (a + 1 + (k : Int)) = true then 1 else 0) + (cT q a k + if q (a + 1 + (k : Int)) = true then 1 else 0)
    by_cases hr : r (a + 1 + (k : Int)) = true
    · rw [if_pos hr]
      rcases h1 hr with h2 | h2
      · rw [if_pos h2]; omega
      · rw [if_pos h2]; omega
    · rw [if_neg hr]; omega
theorem cT_all (a : Int) : ∀ k : Nat, (∀ i : Int, a + 1 ≤ i → i < a + 1 + (k : Int) → p i = true) → cT p a k = k
  | 0, _ => rfl
  | k + 1, h => by
    show cT p a k + (if p (a + 1 + (k : Int)) = true then 1 else 0) = k + 1
    rw [h (a + 1 + (k : Int)) (by omega) (by omega), cT_all a k (fun i h1 h2 => h i h1 (by omega))]
    rfl
theorem cT_none (a : Int) : ∀ k : Nat, (∀ i : Int, p i = false) → cT p a k = 0
  | 0, _ => rfl
  | k + 1, h => by
    show cT p a k + (if p (a + 1 + (k : Int)) = true then 1 else 0) = 0
    rw [h, cT_none a k h]
    rfl
end
theorem cT_in (s : Stp2) (a : Int) : ∀ k : Nat, (cT (inS s) a k : Int) ≤ max 0 (min s.2 (a + 1 + k) - s.1)
  | 0 => by show (0 : Int) ≤ _; omega
  | k + 1 => by
    have ih := cT_in s a k
    show ((cT (inS s) a k + (if inS s (a + 1 + (k : Int)) = true then 1 else 0) : Nat) : Int) ≤ _
    by_cases h : inS s (a + 1 + (k : Int)) = true
    · rw [if_pos h]
      have := inS_iff.1 h
      omega
    · rw [if_neg h]
      omega
theorem cT_any : ∀ {S : List Stp2}, (∀ s ∈ S, psB s = true) → ∀ (a : Int) (k : Nat), (cT (anyS S) a k : Int) ≤ smS S
  | [], _, a, k => by rw [cT_none (p := anyS []) a k (fun i => rfl)]; exact Int.le_refl _
  | s :: S, h, a, k => by
    have ih := cT_any (S := S) (fun t ht => h t (.tail _ ht)) a k
    have h1 := cT_in s a k
    have h2 := cT_or (r := anyS (s :: S)) (p := inS s) (q := anyS S) (fun x hx => by
      have e : anyS (s :: S) x = (inS s x || anyS S x) := rfl
      rw [e, Bool.or_eq_true] at hx
      exact hx) a k
    have hs := h s (.head _)
    have e : smS (s :: S) = (s.2 - s.1) + smS S := by
      show (if psB s = true then s.2 - s.1 else 0) + smS S = _
      rw [if_pos hs]
    have h3 := psB_iff.1 hs
    rw [e]
    omega
theorem cT_pz {S : List Stp2} (hS : ∀ s ∈ S, psB s = true) (f a : Int) (k : Nat) : (cT (pzB f S) a k : Int) ≤ smS S := by
  have h1 := cT_any hS a k
  have h2 := cT_or (r := pzB f S) (p := anyS S) (q := fun _ => false) (fun x hx => by
    unfold pzB at hx
    rw [Bool.and_eq_true] at hx
    exact .inl hx.2) a k
  rw [cT_none a k (p := fun _ => false) (fun _ => rfl)] at h2
  omega
theorem cT_mem : ∀ (l : List Int) (a : Int) (k : Nat), cT (fun x => decide (x ∈ l)) a k ≤ l.length
  | [], a, k => by rw [cT_none (p := fun x => decide (x ∈ ([] : List Int))) a k (fun i => by simp)]; exact Nat.le_refl _
  | y :: l, a, k => by
    have ih := cT_mem l a k
    have h1 := cT_in (y, y + 1) a k
    have h2 := cT_or (r := fun x => decide (x ∈ y :: l)) (p := inS (y, y + 1)) (q := fun x => decide (x ∈ l)) (fun x hx => by
      have hx := of_decide_eq_true hx
      cases hx with
      | head => exact .inl (inS_iff.2 ⟨Int.le_refl _, by show y < y + 1; omega⟩)
      | tail _ h => exact .inr (decide_eq_true h)) a k
    simp only at h1
    rw [List.length_cons]
    omega
/-- Saturdays and Sundays. -/
def wkE (x : Int) : Bool := decide (4 < (x + 5) % 7)
theorem cT_wk7 (a : Int) : cT wkE a 7 = 2 := by
  have h : ∀ r : Fin 7, cT wkE (r.val : Int) 7 = 2 := by decide
  have key : ∀ k : Nat, cT wkE a k = cT wkE (a % 7) k := by
    intro k
    induction k with
    | zero => rfl
    | succ k ih =>
      show cT wkE a k + (if wkE (a + 1 + (k : Int)) = true then 1 else 0) = cT wkE (a % 7) k + (if wkE (a % 7 + 1 + (k : Int)) = true then 1 else 0)
      have e : wkE (a + 1 + (k : Int)) = wkE (a % 7 + 1 + (k : Int)) := by
        unfold wkE
        have : (a + 1 + (k : Int) + 5) % 7 = (a % 7 + 1 + (k : Int) + 5) % 7 := by omega
        rw [this]
      rw [ih, e]
  have h7 := h ⟨(a % 7).toNat, by omega⟩
  have e : (((a % 7).toNat : Nat) : Int) = a % 7 := by omega
  rw [key]
  rw [← e]
  exact h7
theorem cT_wk (a : Int) : ∀ m : Nat, cT wkE a (7 * m) = 2 * m
  | 0 => rfl
  | m + 1 => by
    rw [show 7 * (m + 1) = 7 * m + 7 by omega, cT_add, cT_wk a m, cT_wk7]
    omega
/-- In a window of 7 m days that are days of the calendar, all paused or not open: m is small. -/
theorem win {p : Int → Bool} {l : List Int} {x : Int} {m : Nat} (P : Int) (hp : ∀ (a : Int) (k : Nat), (cT p a k : Int) ≤ P) (h : ∀ i, x ≤ i → i < x + 7 * (m : Int) → isB i = true ∧ (p i = true ∨ opB l i = false)) : 5 * (m : Int) ≤ P + l.length := by
  have h1 := hp (x - 1) (7 * m)
  have h2 := cT_mem l (x - 1) (7 * m)
  have h3 := cT_wk (x - 1) m
  let bad : Int → Bool := fun i => isB i && (p i || !opB l i)
  have h4 : cT bad (x - 1) (7 * m) = 7 * m := cT_all (p := bad) (x - 1) (7 * m) (fun i g1 g2 => by
    obtain ⟨b1, b2⟩ := h i (by omega) (by omega)
    show (isB i && (p i || !opB l i)) = true
    rw [b1]
    rcases b2 with b2 | b2 <;> rw [b2] <;> simp)
  have h5 := cT_or (r := bad) (p := p) (q := fun i => wkE i || decide (i ∈ l)) (fun i hi => by
    have hi : (isB i && (p i || !opB l i)) = true := hi
    rw [Bool.and_eq_true, Bool.or_eq_true] at hi
    obtain ⟨b1, b2⟩ := hi
    rcases b2 with b2 | b2
    · exact .inl b2
    · refine .inr ?_
      unfold opB wkd at b2
      rw [b1] at b2
      simp only [Bool.true_and, if_true, Bool.not_and, Bool.not_not, Bool.or_eq_true, Bool.not_eq_true', decide_eq_false_iff_not, decide_eq_true_eq] at b2
      show (wkE i || decide (i ∈ l)) = true
      rw [Bool.or_eq_true]
      rcases b2 with b2 | b2
      · left; unfold wkE; exact decide_eq_true (by omega)
      · right; exact decide_eq_true b2) (x - 1) (7 * m)
  have h6 := cT_or (r := fun i => wkE i || decide (i ∈ l)) (p := wkE) (q := fun i => decide (i ∈ l)) (fun i hi => by
    rw [Bool.or_eq_true] at hi
    exact hi) (x - 1) (7 * m)
  omega
theorem win0 {l : List Int} {x y : Int} (h0 : 0 ≤ x) (h1 : y ≤ 1000001) (hl : l.length ≤ 300) (h : ∀ i, x ≤ i → i < y → opB l i = false) : y - x ≤ 427 := by
  rcases Int.lt_or_le (y - x) 427 with c | c
  · omega
  · have := win (p := fun _ => false) (l := l) (x := x) (m := 61) 0 (fun a k => by rw [cT_none a k (p := fun _ => false) (fun _ => rfl)]; exact Int.le_refl _)
      (fun i g1 g2 => ⟨(isB_iff i).2 (by omega), .inr (h i g1 (by omega))⟩)
    omega
theorem win1 {p : Int → Bool} {l : List Int} {x y : Int} (hp : ∀ (a : Int) (k : Nat), (cT p a k : Int) ≤ 2000) (h0 : 0 ≤ x) (h1 : y ≤ 1000001) (hl : l.length ≤ 300) (h : ∀ i, x ≤ i → i < y → p i = true ∨ opB l i = false) : y - x ≤ 3227 := by
  rcases Int.lt_or_le (y - x) 3227 with c | c
  · omega
  · have := win (p := p) (l := l) (x := x) (m := 461) 2000 hp (fun i g1 g2 => ⟨(isB_iff i).2 (by omega), h i g1 (by omega)⟩)
    omega
theorem cntS_cT (l : List Int) (a : Int) : ∀ k : Nat, cntS l a k + cT (fun i => !opB l i) a k = k
  | 0 => rfl
  | k + 1 => by
    have ih := cntS_cT l a k
    show cntS l a k + (if opB l (a + 1 + (k : Int)) = true then 1 else 0) + (cT (fun i => !opB l i) a k + if (!opB l (a + 1 + (k : Int))) = true then 1 else 0) = k + 1
    cases opB l (a + 1 + (k : Int)) <;> simp <;> omega
theorem nthS_near {l : List Int} {x : Int} {k : Nat} (h0 : 0 ≤ x) (hk : k ≤ 3000) (hl : l.length ≤ 300) (h : isB (nthS l k x) = true) : nthS l k x - x ≤ 4627 := by
  have hc := nthS_cnt l x k h
  have hle := nthS_le l x k
  have hb := (isB_iff _).1 h
  generalize nthS l k x = y at *
  rcases Int.lt_or_le (y - x) 4627 with c | c
  · omega
  · obtain ⟨j, hj⟩ : ∃ j : Nat, (y - x).toNat = 7 * 661 + j := ⟨(y - x).toNat - 4627, by omega⟩
    rw [hj, cntS_add] at hc
    have h1 := cntS_cT l x (7 * 661)
    have h2 := cT_mem l x (7 * 661)
    have h3 := cT_wk x 661
    have h6 := cT_or (r := fun i => isB i && !opB l i) (p := wkE) (q := fun i => decide (i ∈ l)) (fun i b2 => by
      rw [Bool.and_eq_true] at b2
      obtain ⟨b1, b2⟩ := b2
      unfold opB wkd at b2
      rw [b1] at b2
      simp only [Bool.true_and, if_true, Bool.not_and, Bool.not_not, Bool.or_eq_true, Bool.not_eq_true', decide_eq_false_iff_not, decide_eq_true_eq] at b2
      rcases b2 with b2 | b2
      · left; unfold wkE; exact decide_eq_true (by omega)
      · right; exact decide_eq_true b2) x (7 * 661)
    have h7 : ∀ k : Nat, x + (k : Int) ≤ 1000000 → cT (fun i => !opB l i) x k = cT (fun i => isB i && !opB l i) x k := by
      intro k
      induction k with
      | zero => intro _; rfl
      | succ k ih =>
        intro hk
        have ih := ih (by omega)
        show cT (fun i => !opB l i) x k + (if (!opB l (x + 1 + (k : Int))) = true then 1 else 0) = cT (fun i => isB i && !opB l i) x k + (if (isB (x + 1 + (k : Int)) && !opB l (x + 1 + (k : Int))) = true then 1 else 0)
        rw [ih, (isB_iff (x + 1 + (k : Int))).2 (by omega)]
        rfl
    rw [h7 _ (by omega)] at h1
    omega
theorem beg_near {y Y : Int} (h : Y ≤ y + 14) : beg Y - beg y ≤ 5200 := by
  have := beg_mono h
  have e : beg (y + 14) - beg y ≤ 5200 := by unfold beg; omega
  omega
theorem monS_near {y m d n : Int} (hv : Vd y m d) (hn : 0 ≤ n) (hn1 : n ≤ 150) (h : (monS y m d n).2 = 0) : (monS y m d n).1 - num y m d ≤ 5200 := by
  unfold monS at h ⊢
  split at h
  · cases h
  · rename_i h1
    rw [if_neg h1]
    obtain ⟨hv2, he, -, -⟩ := dayS_ok h
    rw [he]
    have a1 := num_in hv
    have a2 := num_in hv2
    obtain ⟨y1, y2, m1, m2, d1, d2⟩ := hv
    generalize hY : (n + (12 * y + m - 1)) / 12 = Y at *
    generalize hM : (n + (12 * y + m - 1)) % 12 + 1 = M at *
    have := beg_near (y := y) (Y := Y + 1) (by omega)
    omega
/-- The end of a short term is near. -/
theorem add_near {l : List Int} {f n u : Int} (h : (addS l f n u).2 = 0) (hl : l.length ≤ 300) (hs : shB n u = true) : (addS l f n u).1 - f ≤ 5627 := by
  obtain ⟨h1, h2, h3, h4, h5, h6, p, h7, h8, h9, h10⟩ := addS_ok h
  rw [h9]
  obtain ⟨f0, f1⟩ := (isB_iff _).1 h1
  obtain ⟨p0, p1⟩ := (isB_iff _).1 h8
  obtain ⟨g0, g1⟩ := (isB_iff _).1 h10
  have hw := win0 (l := l) (x := p) (y := fromS l p) p0 (by omega) hl (fun i a b => (fromS_no l (x := p) (i := i) a b).2.2)
  have hv := ymd_of h1
  have hn : n ≤ mostU u := by
    unfold shB at hs
    rw [Bool.or_eq_true, decide_eq_true_eq, decide_eq_true_eq] at hs
    omega
  suffices p - f ≤ 5200 by omega
  unfold mostU at hn
  unfold stepS at h7
  by_cases u1 : u = 1
  · subst u1
    simp at h7 hn
    omega
  rw [if_neg u1] at h7
  by_cases u2 : u = 2
  · subst u2
    simp at h7 hn
    omega
  rw [if_neg u2] at h7
  by_cases u3 : u = 3
  · subst u3
    rw [if_pos rfl] at h7
    simp at hn
    have := monS_near (n := n) hv.1 h4 hn (by rw [h7])
    rw [h7, hv.2] at this
    exact this
  rw [if_neg u3] at h7
  by_cases u4 : u = 4
  · subst u4
    rw [if_pos rfl] at h7
    simp at hn
    have := monS_near (n := 12 * n) hv.1 (by omega) (by omega) (by rw [h7])
    rw [h7, hv.2] at this
    exact this
  rw [if_neg u4] at h7
  have u5 : u = 5 := by omega
  subst u5
  simp at hn
  injection h7 with h7 _
  have := nthS_near (l := l) (x := f) (k := n.toNat) f0 (by omega) hl (by rw [h7]; exact h8)
  rw [h7] at this
  omega
/-- What LimitLast asks of the last day. -/
theorem last_day {L : Lm} {l : List Int} (h : (dueS L l).2 = 0) (hf : frB L l.length = true) :
    (addS l L.f L.n L.u).2 = 0 ∧ L.f ≤ (addS l L.f L.n L.u).1 ∧ (addS l L.f L.n L.u).1 ≤ (dueS L l).1 ∧ opB l (dueS L l).1 = true ∧ pzB L.f L.S (dueS L l).1 = false ∧ (dueS L l).1 - L.f ≤ 20000 ∧ 0 ≤ L.f ∧ (dueS L l).1 ≤ 1000000 ∧
      (addS l L.f L.n L.u).1 - L.f ≤ (cntU (pzB L.f L.S) L.f ((dueS L l).1 - L.f).toNat : Int) := by
  obtain ⟨-, -, hsm, hsh, hm⟩ := frB_iff.1 hf
  obtain ⟨hp, hfb, hd1, hd2⟩ := due_day h
  obtain ⟨-, -, -, -, hS⟩ := prB_iff.1 hp
  obtain ⟨f0, f1⟩ := (isB_iff _).1 hfb
  unfold dueS at h hd1 hd2 ⊢
  rw [hp, if_pos rfl] at h hd1 hd2 ⊢
  by_cases ha : (addS l L.f L.n L.u).2 = 0
  · rw [if_pos ha] at h hd1 hd2 ⊢
    obtain ⟨g1, g2, g3⟩ := add_ge ha
    have hnear := add_near ha hm hsh
    obtain ⟨o1, o2, o3, o4, o5⟩ := openS_ok h
    obtain ⟨n1, n2, -⟩ := nthU_spec (pz_far (f := L.f) hS) L.f ((addS l L.f L.n L.u).1 - L.f).toNat
    have hcp := cT_cntU (pzB L.f L.S) L.f (nthU (pzB L.f L.S) L.f ((addS l L.f L.n L.u).1 - L.f).toNat - L.f).toNat
    have hcz := cT_pz hS L.f L.f (nthU (pzB L.f L.S) L.f ((addS l L.f L.n L.u).1 - L.f).toNat - L.f).toNat
    generalize nthU (pzB L.f L.S) L.f ((addS l L.f L.n L.u).1 - L.f).toNat = N at *
    have hw := win1 (p := pzB L.f L.S) (l := l) (x := N) (y := (openS (pzB L.f L.S) l N).1) (fun a k => Int.le_trans (cT_pz hS L.f a k) hsm) (by omega) (by omega) hm o5
    have hmono := cntU_mono (p := pzB L.f L.S) L.f (k := (N - L.f).toNat) (j := ((openS (pzB L.f L.S) l N).1 - L.f).toNat) (by omega)
    exact ⟨ha, g1, by omega, o4, o3, by omega, f0, o2, by omega⟩
  · rw [if_neg ha] at h
    exact absurd h ha
end Go.Proofs.YtknchlpcpgflkaaGreatDoor
