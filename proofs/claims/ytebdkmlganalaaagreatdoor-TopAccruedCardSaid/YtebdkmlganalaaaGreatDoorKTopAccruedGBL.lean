/- The small functions of the reference: names, stops, terms, Is; Short. The reference's Proper, Paused, Short, Few; Same at two limits that are one. The reference's Proper, Paused, Few. The reference's Few, and Same at two limits that are one. -/
import Derived.Test.YtebdkmlganalaaaGreatDoorKTopAccruedTj
namespace Go.Proofs.YtebdkmlganalaaaGreatDoor.Lim
open Go.Proofs.YtebdkmlganalaaaGreatDoor
open Go.RowKit Go.Shelf

def wrdB (c : UInt8) : Bool := letB c || digB c
theorem wrd_go : ∀ (l : List UInt8) (i : Nat), 0 < i → nmGo i l = l.all wrdB
  | [], _, _ => rfl
  | c :: l, i, h => by
    show (okAt i c && nmGo (i + 1) l) = (wrdB c && l.all wrdB)
    rw [wrd_go l (i + 1) (by omega)]
    unfold okAt wrdB
    rw [decide_eq_true h, Bool.true_and]
theorem nm_wrd (l : List UInt8) : nmB l = match l with
    | [] => false
    | c :: cs => letB c && (cs.all wrdB && decide ((c :: cs).length ≤ 24)) := by
  cases l with
  | nil => rfl
  | cons c cs =>
    show ((okAt 0 c && nmGo 1 cs) && (true && decide ((c :: cs).length ≤ 24))) = _
    rw [wrd_go cs 1 (by omega)]
    unfold okAt
    simp [Bool.and_assoc]
theorem wrd_no {l : List UInt8} {c : UInt8} (h : c ∈ l) (hc : wrdB c = false) : nmB l = false := by
  rw [nm_wrd]
  cases l with
  | nil => rfl
  | cons d cs =>
    simp only
    rcases List.mem_cons.1 h with rfl | h
    · unfold wrdB at hc
      rw [(Bool.or_eq_false_iff.1 hc).1]
      rfl
    · have : cs.all wrdB = false := by
        rw [List.all_eq_false]
        exact ⟨c, h, by rw [hc]; simp⟩
      rw [this]
      simp

end Go.Proofs.YtebdkmlganalaaaGreatDoor.Lim

namespace Go.Proofs.YtebdkmlganalaaaGreatDoor.Lim
open Go.Proofs.YtebdkmlganalaaaGreatDoor
open Go.RowKit Go.Shelf

theorem rStop_any (w : World) (a b : Int) : Calls Tryz.prog 44 #[.agg #[.int .i64 a, .int .i64 b]] w fun e w' => e = .returned (.bool (psB (a, b))) ∧ Below w.heap.size w w' := by
  have hb := (Below.refl w.heap.size w).alloc (Nat.le_refl _) (.cells #[.int .i64 a, .int .i64 b] 102)
  cases hp : psB (a, b) with
  | true =>
    obtain ⟨h0, h1, h2⟩ := psB_iff.1 hp
    simp only at h0 h1 h2
    clear hp
    go_enter Tryz.func44, Tryz.ntmps44
    go_wp2
    go_ret
    exact ⟨rfl, hb⟩
  | false =>
    have h : a < 0 ∨ (0 ≤ a ∧ b < a) ∨ (0 ≤ a ∧ a ≤ b ∧ 1000000 < b) := by
      simp [psB] at hp
      omega
    clear hp
    rcases h with h | ⟨h, h1⟩ | ⟨h, h1, h2⟩
    all_goals cases d6 : decide (b ≤ 1000000)
    all_goals cases d7 : decide (a ≤ b)
    all_goals try (exfalso; simp at d6 d7; omega)
    all_goals
      go_enter Tryz.func44, Tryz.ntmps44
      go_wp2
      go_ret
      exact ⟨rfl, hb⟩

/-- Whether a term is short. -/
def mostU (u : Int) : Int := if u = 5 then 3000 else if u = 4 then 12 else if u = 3 then 150 else if u = 2 then 600 else 4000
def shB (n u : Int) : Bool := decide (n ≤ mostU u) || decide (1000000 < n)
theorem short_any (w : World) (n u : Int) : Calls Tryz.prog 45 #[.agg #[.int .i64 n, .int .i64 u]] w fun e w' => e = .returned (.bool (shB n u)) ∧ Below w.heap.size w w' := by
  have hb := (Below.refl w.heap.size w).alloc (Nat.le_refl _) (.cells #[.int .i64 n, .int .i64 u] 63)
  have key : ∀ m : Int, mostU u = m → shB n u = (decide (n ≤ m) || decide (1000000 < n)) := fun m h => by unfold shB; rw [h]
  have hcase : (u = 5 ∧ mostU u = 3000) ∨ (u = 4 ∧ mostU u = 12) ∨ (u = 3 ∧ mostU u = 150) ∨ (u = 2 ∧ mostU u = 600) ∨ ((u == 5) = false ∧ (u == 4) = false ∧ (u == 3) = false ∧ (u == 2) = false ∧ mostU u = 4000) := by
    unfold mostU
    by_cases h5 : u = 5
    · exact .inl ⟨h5, by rw [if_pos h5]⟩
    by_cases h4 : u = 4
    · exact .inr (.inl ⟨h4, by rw [if_neg h5, if_pos h4]⟩)
    by_cases h3 : u = 3
    · exact .inr (.inr (.inl ⟨h3, by rw [if_neg h5, if_neg h4, if_pos h3]⟩))
    by_cases h2 : u = 2
    · exact .inr (.inr (.inr (.inl ⟨h2, by rw [if_neg h5, if_neg h4, if_neg h3, if_pos h2]⟩)))
    · exact .inr (.inr (.inr (.inr ⟨by simpa using h5, by simpa using h4, by simpa using h3, by simpa using h2, by rw [if_neg h5, if_neg h4, if_neg h3, if_neg h2]⟩)))
  obtain ⟨r, hr⟩ : ∃ r, shB n u = r := ⟨_, rfl⟩
  rw [hr]
  rcases hcase with ⟨h, hm⟩ | ⟨h, hm⟩ | ⟨h, hm⟩ | ⟨h, hm⟩ | ⟨h, h4, h3, h2, hm⟩
  all_goals
    have hk := key _ hm
    rw [hr] at hk
    have HK := Lib.hid hk
    clear hk hm key hr
  · subst h
    by_cases hle : n ≤ 3000
    · have e : Hid (decide (n ≤ 3000) = true) := Lib.hid (decide_eq_true hle)
      go_enter Tryz.func45, Tryz.ntmps45
      go_wp2
      go_ret
      exact ⟨by rw [HK.out, e.out]; rfl, hb⟩
    · have e : Hid (decide (n ≤ 3000) = false) := Lib.hid (decide_eq_false hle)
      go_enter Tryz.func45, Tryz.ntmps45
      go_wp2
      go_ret
      exact ⟨by rw [HK.out, e.out]; rfl, hb⟩
  · subst h
    by_cases hle : n ≤ 12
    · have e : Hid (decide (n ≤ 12) = true) := Lib.hid (decide_eq_true hle)
      go_enter Tryz.func45, Tryz.ntmps45
      go_wp2
      go_ret
      exact ⟨by rw [HK.out, e.out]; rfl, hb⟩
    · have e : Hid (decide (n ≤ 12) = false) := Lib.hid (decide_eq_false hle)
      go_enter Tryz.func45, Tryz.ntmps45
      go_wp2
      go_ret
      exact ⟨by rw [HK.out, e.out]; rfl, hb⟩
  · subst h
    by_cases hle : n ≤ 150
    · have e : Hid (decide (n ≤ 150) = true) := Lib.hid (decide_eq_true hle)
      go_enter Tryz.func45, Tryz.ntmps45
      go_wp2
      go_ret
      exact ⟨by rw [HK.out, e.out]; rfl, hb⟩
    · have e : Hid (decide (n ≤ 150) = false) := Lib.hid (decide_eq_false hle)
      go_enter Tryz.func45, Tryz.ntmps45
      go_wp2
      go_ret
      exact ⟨by rw [HK.out, e.out]; rfl, hb⟩
  · subst h
    by_cases hle : n ≤ 600
    · have e : Hid (decide (n ≤ 600) = true) := Lib.hid (decide_eq_true hle)
      go_enter Tryz.func45, Tryz.ntmps45
      go_wp2
      go_ret
      exact ⟨by rw [HK.out, e.out]; rfl, hb⟩
    · have e : Hid (decide (n ≤ 600) = false) := Lib.hid (decide_eq_false hle)
      go_enter Tryz.func45, Tryz.ntmps45
      go_wp2
      go_ret
      exact ⟨by rw [HK.out, e.out]; rfl, hb⟩
  · by_cases hle : n ≤ 4000
    · have e : Hid (decide (n ≤ 4000) = true) := Lib.hid (decide_eq_true hle)
      go_enter Tryz.func45, Tryz.ntmps45
      go_wp2
      go_ret
      exact ⟨by rw [HK.out, e.out]; rfl, hb⟩
    · have e : Hid (decide (n ≤ 4000) = false) := Lib.hid (decide_eq_false hle)
      go_enter Tryz.func45, Tryz.ntmps45
      go_wp2
      go_ret
      exact ⟨by rw [HK.out, e.out]; rfl, hb⟩
end Go.Proofs.YtebdkmlganalaaaGreatDoor.Lim

namespace Go.Proofs.YtebdkmlganalaaaGreatDoor.Lim
open Go.Proofs.YtebdkmlganalaaaGreatDoor
open Go.RowKit Go.Shelf

theorem all_take {S : List Stp2} {p : Stp2 → Bool} {k : Nat} {s : Stp2} (h : S[k]? = some s) : (S.take (k + 1)).all p = ((S.take k).all p && p s) := by
  obtain ⟨hk, hs⟩ := List.getElem?_eq_some_iff.1 h
  rw [List.take_succ_eq_append_getElem hk, hs, List.all_append]
  simp
theorem any_take {S : List Stp2} {p : Stp2 → Bool} {k : Nat} {s : Stp2} (h : S[k]? = some s) : (S.take (k + 1)).any p = ((S.take k).any p || p s) := by
  obtain ⟨hk, hs⟩ := List.getElem?_eq_some_iff.1 h
  rw [List.take_succ_eq_append_getElem hk, hs, List.any_append]
  simp

end Go.Proofs.YtebdkmlganalaaaGreatDoor.Lim

namespace Go.Proofs.YtebdkmlganalaaaGreatDoor.Lim
open Go.Proofs.YtebdkmlganalaaaGreatDoor
open Go.RowKit Go.Shelf

theorem below_dN {B : Nat} {w w1 : World} (h : Below B w w1) (n : Nat) : Below B w (w1.drewN n) := ⟨h.os, h.tape, h.output, h.size, h.block⟩
/-- The days of the stops that are as required, one by one. -/
def smS (S : List Stp2) : Int := (S.map fun s => if psB s = true then s.2 - s.1 else 0).sum
theorem smS_at {S : List Stp2} {k : Nat} {s : Stp2} (h : S[k]? = some s) : smS (S.take (k + 1)) = smS (S.take k) + if psB s = true then s.2 - s.1 else 0 := by
  obtain ⟨hk, hs⟩ := List.getElem?_eq_some_iff.1 h
  unfold smS
  rw [List.take_succ_eq_append_getElem hk, hs, List.map_append, List.sum_append]
  simp
def frB (L : Lm) (m : Nat) : Bool := decide (L.S.length ≤ 10) && decide (L.id.size ≤ 60) && (decide (smS L.S ≤ 2000) && (shB L.n L.u && decide ((m : Int) ≤ 300)))
theorem frB_iff {L : Lm} {m : Nat} : frB L m = true ↔ L.S.length ≤ 10 ∧ L.id.size ≤ 60 ∧ smS L.S ≤ 2000 ∧ shB L.n L.u = true ∧ m ≤ 300 := by
  unfold frB
  simp only [Bool.and_eq_true, decide_eq_true_eq]
  constructor
  · rintro ⟨⟨a, b⟩, c, d, e⟩; exact ⟨a, b, c, d, by omega⟩
  · rintro ⟨a, b, c, d, e⟩; exact ⟨⟨a, b⟩, c, d, by omega⟩

set_option maxHeartbeats 4000000 in
set_option maxRecDepth 100000 in
theorem Few_any (w : World) (L : Lm) (B : Nat) (A : Option Addr) (c : Nat) (h : LmAt w B A L) (hB : B ≤ w.heap.size) (C : Option Addr) (m cl : Nat) (_hm : m ≤ 9223372036854775807) :
    Calls Tryz.prog 20 #[.agg (L.cells A c), .slice C m cl, .int .i64 10] w fun e w' => e = .returned (.bool (frB L m)) ∧ Below w.heap.size w w' := by
  obtain ⟨hs, hid, hsl⟩ := h
  obtain ⟨id, n, u, f, S⟩ := L
  show Calls Tryz.prog 20 #[.agg #[.string id, .int .i64 n, .int .i64 u, .int .i64 f, .slice A S.length c], .slice C m cl, .int .i64 10] w _
  have hr : frB ⟨id, n, u, f, S⟩ m = (decide (S.length ≤ 10) && decide (id.size ≤ 60) && (decide (smS S ≤ 2000) && (shB n u && decide ((m : Int) ≤ 300)))) := rfl
  obtain ⟨r, hrr⟩ : ∃ r, frB ⟨id, n, u, f, S⟩ m = r := ⟨_, rfl⟩
  rw [hrr] at hr ⊢
  clear hrr
  have hb := (Below.refl w.heap.size w).alloc (Nat.le_refl _) (.cells #[.string id, .int .i64 n, .int .i64 u, .int .i64 f, .slice A S.length c] 66)
  have k0 := Blk.new w 66 #[.string id, .int .i64 n, .int .i64 u, .int .i64 f, .slice A S.length c]
  simp only at hid hsl hs
  have hsh := fun W => short_any W n u
  have HS := Lib.hid hs
  have HR := Lib.hid hr
  clear hs hr
  by_cases hl : 10 < S.length
  · have hno : r = false := by rw [HR.out, decide_eq_false (show ¬ S.length ≤ 10 by omega)]; rfl
    subst hno
    clear HR hsh
    go_enter Tryz.func20, Tryz.ntmps20
    go_wp2
    go_ret
    exact ⟨rfl, hb⟩
  have hl10 : S.length ≤ 10 := by omega
  by_cases hi : 60 < id.size
  · have hno : r = false := by rw [HR.out, decide_eq_false (show ¬ id.size ≤ 60 by omega), Bool.and_false]; rfl
    subst hno
    have d60 : decide ((60 : Int) < (id.size : Int)) = true := decide_eq_true (by omega)
    clear HR hsh hl
    go_enter Tryz.func20, Tryz.ntmps20
    go_wp2
    go_ret
    exact ⟨rfl, hb⟩
  have hi60 : id.size ≤ 60 := by omega
  have hrr := HR.out
  rw [decide_eq_true hl10, decide_eq_true hi60, Bool.true_and, Bool.true_and] at hrr
  have HRR := Lib.hid hrr
  have HSH := Lib.hid hsh
  clear hrr HR hl hi hsh
  go_enter Tryz.func20, Tryz.ntmps20
  go_wp2_with fail
  go_loopw [7, 8] (fun v i wr => ∃ (k : Nat) (q : Int), k ≤ S.length ∧ i = .int .i64 (k : Int) ∧ v = .int .i64 q ∧ Hid (q = smS (S.take k)) ∧ 0 ≤ q ∧ q ≤ 1000000 * (k : Int) ∧ Blk wr w.heap.size 66 #[.string id, .int .i64 n, .int .i64 u, .int .i64 f, .slice A S.length c] ∧ Below w.heap.size w wr) (fun _ i _ => S.length - (intOf i).toNat)
  case atStart => exact ⟨0, 0, Nat.zero_le _, rfl, rfl, Lib.hid rfl, Int.le_refl _, by omega, k0, hb⟩
  case round =>
    clear k0 hb
    obtain ⟨k, q, hk, rfl, rfl, hq, q0, q1, k0, hb⟩ := hrel
    obtain ⟨t0, t1, -⟩ := k0.all
    by_cases hlt : k < S.length
    · obtain ⟨s, hss⟩ : ∃ s, S[k]? = some s := ⟨_, List.getElem?_eq_getElem hlt⟩
      have hat := smS_at hss
      rw [← hq.out] at hat
      have HSS := Lib.hid hss
      obtain ⟨gb, off, hA, hg, e0, e1⟩ := (HS.out.below (hb.mono hB)) k s hss
      subst hA
      clear hss
      obtain ⟨a, b⟩ := s
      simp only at e0 e1 hat
      have hst := fun W => rStop_any W a b
      cases hp : psB (a, b) with
      | true =>
        rw [hp, if_pos rfl] at hat
        rw [hp] at hst
        obtain ⟨p0, p1, p2⟩ := psB_iff.1 hp
        simp only at p0 p1 p2
        have HAT := Lib.hid hat.symm
        have HST := Lib.hid hst
        clear hat hst hp
        go_wp2_with fail
        refine (HST.out _).mono ?_
        rintro e w1 ⟨rfl, b1⟩
        have k1 := k0.below b1 k0.lt
        replace hb := hb.trans (b1.mono hb.size)
        clear b1 k0 t0 t1 e0 e1
        obtain ⟨t0, t1, -⟩ := k1.all
        obtain ⟨gb', off', hA', hg', e0, e1⟩ := (HS.out.below (hb.mono hB)) k (a, b) HSS.out
        injection hA' with hA'
        injection hA' with hA1 hA2
        subst hA1 hA2
        simp only at e0 e1
        go_wp2_with fail
        have ib0 : (0 : Int) ≤ (k : Int) := by omega
        have ib1 : (k : Int) < (S.length : Int) := by omega
        go_quiet (fail)
        have k2 := k1.drewN nq
        have hb2 := below_dN hb nq
        clear k1 hb t0 t1 e0 e1
        go_wp2
        go_roundw
        case rel => exact ⟨k + 1, q + (b - a), by omega, by go_num, rfl, HAT, by omega, by omega, k2, hb2⟩
        case measure => simp [intOf]; omega
      | false =>
        rw [hp, if_neg (by simp), Int.add_zero] at hat
        rw [hp] at hst
        have HAT := Lib.hid hat.symm
        have HST := Lib.hid hst
        clear hat hst hp
        go_wp2_with fail
        refine (HST.out _).mono ?_
        rintro e w1 ⟨rfl, b1⟩
        have k1 := k0.below b1 k0.lt
        replace hb := hb.trans (b1.mono hb.size)
        clear b1 k0 t0 t1 e0 e1
        go_wp2
        go_roundw
        case rel => exact ⟨k + 1, q, by omega, by go_num, rfl, HAT, q0, by omega, k1, hb⟩
        case measure => simp [intOf]; omega
    · obtain rfl : k = S.length := by omega
      have hqq := hq.out
      rw [List.take_length] at hqq
      have hrr := HRR.out
      rw [← hqq] at hrr
      have HR3 := Lib.hid hrr
      clear hqq hrr HRR hq
      by_cases h2 : q ≤ 2000
      · have e2 : Hid (decide (q ≤ 2000) = true) := Lib.hid (decide_eq_true h2)
        generalize shB n u = b at *
        cases b with
        | true =>
          cases h3 : decide ((m : Int) ≤ 300)
          all_goals
            have hrr := HR3.out
            rw [e2.out, h3] at hrr
            have HE := Lib.hid hrr
            clear hrr HR3
            go_wp2_with fail
            refine (HSH.out _).mono ?_
            rintro e w1 ⟨rfl, b1⟩
            replace hb := hb.trans (b1.mono hb.size)
            clear b1 k0 t0 t1
            go_wp2
            go_ret
            exact ⟨by rw [HE.out]; rfl, hb⟩
        | false =>
          have hrr := HR3.out
          rw [Bool.false_and, Bool.and_false] at hrr
          have HE := Lib.hid hrr
          clear hrr HR3
          go_wp2_with fail
          refine (HSH.out _).mono ?_
          rintro e w1 ⟨rfl, b1⟩
          replace hb := hb.trans (b1.mono hb.size)
          clear b1 k0 t0 t1
          go_wp2
          go_ret
          exact ⟨by rw [HE.out]; rfl, hb⟩
      · have e2 : decide (q ≤ 2000) = false := decide_eq_false h2
        have hrr := HR3.out
        rw [e2, Bool.false_and] at hrr
        have HE := Lib.hid hrr
        clear hrr HR3
        go_wp2
        go_ret
        exact ⟨by rw [HE.out]; rfl, hb⟩

def frB5 (L : Lm) (m : Nat) : Bool := decide (L.S.length ≤ 5) && decide (L.id.size ≤ 60) && (decide (smS L.S ≤ 2000) && (shB L.n L.u && decide ((m : Int) ≤ 300)))
set_option maxHeartbeats 4000000 in
set_option maxRecDepth 100000 in
theorem Few5_any (w : World) (L : Lm) (B : Nat) (A : Option Addr) (c : Nat) (h : LmAt w B A L) (hB : B ≤ w.heap.size) (C : Option Addr) (m cl : Nat) (_hm : m ≤ 9223372036854775807) :
    Calls Tryz.prog 20 #[.agg (L.cells A c), .slice C m cl, .int .i64 5] w fun e w' => e = .returned (.bool (frB5 L m)) ∧ Below w.heap.size w w' := by
  obtain ⟨hs, hid, hsl⟩ := h
  obtain ⟨id, n, u, f, S⟩ := L
  show Calls Tryz.prog 20 #[.agg #[.string id, .int .i64 n, .int .i64 u, .int .i64 f, .slice A S.length c], .slice C m cl, .int .i64 5] w _
  have hr : frB5 ⟨id, n, u, f, S⟩ m = (decide (S.length ≤ 5) && decide (id.size ≤ 60) && (decide (smS S ≤ 2000) && (shB n u && decide ((m : Int) ≤ 300)))) := rfl
  obtain ⟨r, hrr⟩ : ∃ r, frB5 ⟨id, n, u, f, S⟩ m = r := ⟨_, rfl⟩
  rw [hrr] at hr ⊢
  clear hrr
  have hb := (Below.refl w.heap.size w).alloc (Nat.le_refl _) (.cells #[.string id, .int .i64 n, .int .i64 u, .int .i64 f, .slice A S.length c] 66)
  have k0 := Blk.new w 66 #[.string id, .int .i64 n, .int .i64 u, .int .i64 f, .slice A S.length c]
  simp only at hid hsl hs
  have hsh := fun W => short_any W n u
  have HS := Lib.hid hs
  have HR := Lib.hid hr
  clear hs hr
  by_cases hl : 5 < S.length
  · have hno : r = false := by rw [HR.out, decide_eq_false (show ¬ S.length ≤ 5 by omega)]; rfl
    subst hno
    clear HR hsh
    go_enter Tryz.func20, Tryz.ntmps20
    go_wp2
    go_ret
    exact ⟨rfl, hb⟩
  have hl10 : S.length ≤ 5 := by omega
  by_cases hi : 60 < id.size
  · have hno : r = false := by rw [HR.out, decide_eq_false (show ¬ id.size ≤ 60 by omega), Bool.and_false]; rfl
    subst hno
    have d60 : decide ((60 : Int) < (id.size : Int)) = true := decide_eq_true (by omega)
    clear HR hsh hl
    go_enter Tryz.func20, Tryz.ntmps20
    go_wp2
    go_ret
    exact ⟨rfl, hb⟩
  have hi60 : id.size ≤ 60 := by omega
  have hrr := HR.out
  rw [decide_eq_true hl10, decide_eq_true hi60, Bool.true_and, Bool.true_and] at hrr
  have HRR := Lib.hid hrr
  have HSH := Lib.hid hsh
  clear hrr HR hl hi hsh
  go_enter Tryz.func20, Tryz.ntmps20
  go_wp2_with fail
  go_loopw [7, 8] (fun v i wr => ∃ (k : Nat) (q : Int), k ≤ S.length ∧ i = .int .i64 (k : Int) ∧ v = .int .i64 q ∧ Hid (q = smS (S.take k)) ∧ 0 ≤ q ∧ q ≤ 1000000 * (k : Int) ∧ Blk wr w.heap.size 66 #[.string id, .int .i64 n, .int .i64 u, .int .i64 f, .slice A S.length c] ∧ Below w.heap.size w wr) (fun _ i _ => S.length - (intOf i).toNat)
  case atStart => exact ⟨0, 0, Nat.zero_le _, rfl, rfl, Lib.hid rfl, Int.le_refl _, by omega, k0, hb⟩
  case round =>
    clear k0 hb
    obtain ⟨k, q, hk, rfl, rfl, hq, q0, q1, k0, hb⟩ := hrel
    obtain ⟨t0, t1, -⟩ := k0.all
    by_cases hlt : k < S.length
    · obtain ⟨s, hss⟩ : ∃ s, S[k]? = some s := ⟨_, List.getElem?_eq_getElem hlt⟩
      have hat := smS_at hss
      rw [← hq.out] at hat
      have HSS := Lib.hid hss
      obtain ⟨gb, off, hA, hg, e0, e1⟩ := (HS.out.below (hb.mono hB)) k s hss
      subst hA
      clear hss
      obtain ⟨a, b⟩ := s
      simp only at e0 e1 hat
      have hst := fun W => rStop_any W a b
      cases hp : psB (a, b) with
      | true =>
        rw [hp, if_pos rfl] at hat
        rw [hp] at hst
        obtain ⟨p0, p1, p2⟩ := psB_iff.1 hp
        simp only at p0 p1 p2
        have HAT := Lib.hid hat.symm
        have HST := Lib.hid hst
        clear hat hst hp
        go_wp2_with fail
        refine (HST.out _).mono ?_
        rintro e w1 ⟨rfl, b1⟩
        have k1 := k0.below b1 k0.lt
        replace hb := hb.trans (b1.mono hb.size)
        clear b1 k0 t0 t1 e0 e1
        obtain ⟨t0, t1, -⟩ := k1.all
        obtain ⟨gb', off', hA', hg', e0, e1⟩ := (HS.out.below (hb.mono hB)) k (a, b) HSS.out
        injection hA' with hA'
        injection hA' with hA1 hA2
        subst hA1 hA2
        simp only at e0 e1
        go_wp2_with fail
        have ib0 : (0 : Int) ≤ (k : Int) := by omega
        have ib1 : (k : Int) < (S.length : Int) := by omega
        go_quiet (fail)
        have k2 := k1.drewN nq
        have hb2 := below_dN hb nq
        clear k1 hb t0 t1 e0 e1
        go_wp2
        go_roundw
        case rel => exact ⟨k + 1, q + (b - a), by omega, by go_num, rfl, HAT, by omega, by omega, k2, hb2⟩
        case measure => simp [intOf]; omega
      | false =>
        rw [hp, if_neg (by simp), Int.add_zero] at hat
        rw [hp] at hst
        have HAT := Lib.hid hat.symm
        have HST := Lib.hid hst
        clear hat hst hp
        go_wp2_with fail
        refine (HST.out _).mono ?_
        rintro e w1 ⟨rfl, b1⟩
        have k1 := k0.below b1 k0.lt
        replace hb := hb.trans (b1.mono hb.size)
        clear b1 k0 t0 t1 e0 e1
        go_wp2
        go_roundw
        case rel => exact ⟨k + 1, q, by omega, by go_num, rfl, HAT, q0, by omega, k1, hb⟩
        case measure => simp [intOf]; omega
    · obtain rfl : k = S.length := by omega
      have hqq := hq.out
      rw [List.take_length] at hqq
      have hrr := HRR.out
      rw [← hqq] at hrr
      have HR3 := Lib.hid hrr
      clear hqq hrr HRR hq
      by_cases h2 : q ≤ 2000
      · have e2 : Hid (decide (q ≤ 2000) = true) := Lib.hid (decide_eq_true h2)
        generalize shB n u = b at *
        cases b with
        | true =>
          cases h3 : decide ((m : Int) ≤ 300)
          all_goals
            have hrr := HR3.out
            rw [e2.out, h3] at hrr
            have HE := Lib.hid hrr
            clear hrr HR3
            go_wp2_with fail
            refine (HSH.out _).mono ?_
            rintro e w1 ⟨rfl, b1⟩
            replace hb := hb.trans (b1.mono hb.size)
            clear b1 k0 t0 t1
            go_wp2
            go_ret
            exact ⟨by rw [HE.out]; rfl, hb⟩
        | false =>
          have hrr := HR3.out
          rw [Bool.false_and, Bool.and_false] at hrr
          have HE := Lib.hid hrr
          clear hrr HR3
          go_wp2_with fail
          refine (HSH.out _).mono ?_
          rintro e w1 ⟨rfl, b1⟩
          replace hb := hb.trans (b1.mono hb.size)
          clear b1 k0 t0 t1
          go_wp2
          go_ret
          exact ⟨by rw [HE.out]; rfl, hb⟩
      · have e2 : decide (q ≤ 2000) = false := decide_eq_false h2
        have hrr := HR3.out
        rw [e2, Bool.false_and] at hrr
        have HE := Lib.hid hrr
        clear hrr HR3
        go_wp2
        go_ret
        exact ⟨by rw [HE.out]; rfl, hb⟩

def frB20 (L : Lm) (m : Nat) : Bool := decide (L.S.length ≤ 20) && decide (L.id.size ≤ 60) && (decide (smS L.S ≤ 2000) && (shB L.n L.u && decide ((m : Int) ≤ 300)))
set_option maxHeartbeats 4000000 in
set_option maxRecDepth 100000 in
theorem Few20_any (w : World) (L : Lm) (B : Nat) (A : Option Addr) (c : Nat) (h : LmAt w B A L) (hB : B ≤ w.heap.size) (C : Option Addr) (m cl : Nat) (_hm : m ≤ 9223372036854775807) :
    Calls Tryz.prog 20 #[.agg (L.cells A c), .slice C m cl, .int .i64 20] w fun e w' => e = .returned (.bool (frB20 L m)) ∧ Below w.heap.size w w' := by
  obtain ⟨hs, hid, hsl⟩ := h
  obtain ⟨id, n, u, f, S⟩ := L
  show Calls Tryz.prog 20 #[.agg #[.string id, .int .i64 n, .int .i64 u, .int .i64 f, .slice A S.length c], .slice C m cl, .int .i64 20] w _
  have hr : frB20 ⟨id, n, u, f, S⟩ m = (decide (S.length ≤ 20) && decide (id.size ≤ 60) && (decide (smS S ≤ 2000) && (shB n u && decide ((m : Int) ≤ 300)))) := rfl
  obtain ⟨r, hrr⟩ : ∃ r, frB20 ⟨id, n, u, f, S⟩ m = r := ⟨_, rfl⟩
  rw [hrr] at hr ⊢
  clear hrr
  have hb := (Below.refl w.heap.size w).alloc (Nat.le_refl _) (.cells #[.string id, .int .i64 n, .int .i64 u, .int .i64 f, .slice A S.length c] 66)
  have k0 := Blk.new w 66 #[.string id, .int .i64 n, .int .i64 u, .int .i64 f, .slice A S.length c]
  simp only at hid hsl hs
  have hsh := fun W => short_any W n u
  have HS := Lib.hid hs
  have HR := Lib.hid hr
  clear hs hr
  by_cases hl : 20 < S.length
  · have hno : r = false := by rw [HR.out, decide_eq_false (show ¬ S.length ≤ 20 by omega)]; rfl
    subst hno
    clear HR hsh
    go_enter Tryz.func20, Tryz.ntmps20
    go_wp2
    go_ret
    exact ⟨rfl, hb⟩
  have hl10 : S.length ≤ 20 := by omega
  by_cases hi : 60 < id.size
  · have hno : r = false := by rw [HR.out, decide_eq_false (show ¬ id.size ≤ 60 by omega), Bool.and_false]; rfl
    subst hno
    have d60 : decide ((60 : Int) < (id.size : Int)) = true := decide_eq_true (by omega)
    clear HR hsh hl
    go_enter Tryz.func20, Tryz.ntmps20
    go_wp2
    go_ret
    exact ⟨rfl, hb⟩
  have hi60 : id.size ≤ 60 := by omega
  have hrr := HR.out
  rw [decide_eq_true hl10, decide_eq_true hi60, Bool.true_and, Bool.true_and] at hrr
  have HRR := Lib.hid hrr
  have HSH := Lib.hid hsh
  clear hrr HR hl hi hsh
  go_enter Tryz.func20, Tryz.ntmps20
  go_wp2_with fail
  go_loopw [7, 8] (fun v i wr => ∃ (k : Nat) (q : Int), k ≤ S.length ∧ i = .int .i64 (k : Int) ∧ v = .int .i64 q ∧ Hid (q = smS (S.take k)) ∧ 0 ≤ q ∧ q ≤ 1000000 * (k : Int) ∧ Blk wr w.heap.size 66 #[.string id, .int .i64 n, .int .i64 u, .int .i64 f, .slice A S.length c] ∧ Below w.heap.size w wr) (fun _ i _ => S.length - (intOf i).toNat)
  case atStart => exact ⟨0, 0, Nat.zero_le _, rfl, rfl, Lib.hid rfl, Int.le_refl _, by omega, k0, hb⟩
  case round =>
    clear k0 hb
    obtain ⟨k, q, hk, rfl, rfl, hq, q0, q1, k0, hb⟩ := hrel
    obtain ⟨t0, t1, -⟩ := k0.all
    by_cases hlt : k < S.length
    · obtain ⟨s, hss⟩ : ∃ s, S[k]? = some s := ⟨_, List.getElem?_eq_getElem hlt⟩
      have hat := smS_at hss
      rw [← hq.out] at hat
      have HSS := Lib.hid hss
      obtain ⟨gb, off, hA, hg, e0, e1⟩ := (HS.out.below (hb.mono hB)) k s hss
      subst hA
      clear hss
      obtain ⟨a, b⟩ := s
      simp only at e0 e1 hat
      have hst := fun W => rStop_any W a b
      cases hp : psB (a, b) with
      | true =>
        rw [hp, if_pos rfl] at hat
        rw [hp] at hst
        obtain ⟨p0, p1, p2⟩ := psB_iff.1 hp
        simp only at p0 p1 p2
        have HAT := Lib.hid hat.symm
        have HST := Lib.hid hst
        clear hat hst hp
        go_wp2_with fail
        refine (HST.out _).mono ?_
        rintro e w1 ⟨rfl, b1⟩
        have k1 := k0.below b1 k0.lt
        replace hb := hb.trans (b1.mono hb.size)
        clear b1 k0 t0 t1 e0 e1
        obtain ⟨t0, t1, -⟩ := k1.all
        obtain ⟨gb', off', hA', hg', e0, e1⟩ := (HS.out.below (hb.mono hB)) k (a, b) HSS.out
        injection hA' with hA'
        injection hA' with hA1 hA2
        subst hA1 hA2
        simp only at e0 e1
        go_wp2_with fail
        have ib0 : (0 : Int) ≤ (k : Int) := by omega
        have ib1 : (k : Int) < (S.length : Int) := by omega
        go_quiet (fail)
        have k2 := k1.drewN nq
        have hb2 := below_dN hb nq
        clear k1 hb t0 t1 e0 e1
        go_wp2
        go_roundw
        case rel => exact ⟨k + 1, q + (b - a), by omega, by go_num, rfl, HAT, by omega, by omega, k2, hb2⟩
        case measure => simp [intOf]; omega
      | false =>
        rw [hp, if_neg (by simp), Int.add_zero] at hat
        rw [hp] at hst
        have HAT := Lib.hid hat.symm
        have HST := Lib.hid hst
        clear hat hst hp
        go_wp2_with fail
        refine (HST.out _).mono ?_
        rintro e w1 ⟨rfl, b1⟩
        have k1 := k0.below b1 k0.lt
        replace hb := hb.trans (b1.mono hb.size)
        clear b1 k0 t0 t1 e0 e1
        go_wp2
        go_roundw
        case rel => exact ⟨k + 1, q, by omega, by go_num, rfl, HAT, q0, by omega, k1, hb⟩
        case measure => simp [intOf]; omega
    · obtain rfl : k = S.length := by omega
      have hqq := hq.out
      rw [List.take_length] at hqq
      have hrr := HRR.out
      rw [← hqq] at hrr
      have HR3 := Lib.hid hrr
      clear hqq hrr HRR hq
      by_cases h2 : q ≤ 2000
      · have e2 : Hid (decide (q ≤ 2000) = true) := Lib.hid (decide_eq_true h2)
        generalize shB n u = b at *
        cases b with
        | true =>
          cases h3 : decide ((m : Int) ≤ 300)
          all_goals
            have hrr := HR3.out
            rw [e2.out, h3] at hrr
            have HE := Lib.hid hrr
            clear hrr HR3
            go_wp2_with fail
            refine (HSH.out _).mono ?_
            rintro e w1 ⟨rfl, b1⟩
            replace hb := hb.trans (b1.mono hb.size)
            clear b1 k0 t0 t1
            go_wp2
            go_ret
            exact ⟨by rw [HE.out]; rfl, hb⟩
        | false =>
          have hrr := HR3.out
          rw [Bool.false_and, Bool.and_false] at hrr
          have HE := Lib.hid hrr
          clear hrr HR3
          go_wp2_with fail
          refine (HSH.out _).mono ?_
          rintro e w1 ⟨rfl, b1⟩
          replace hb := hb.trans (b1.mono hb.size)
          clear b1 k0 t0 t1
          go_wp2
          go_ret
          exact ⟨by rw [HE.out]; rfl, hb⟩
      · have e2 : decide (q ≤ 2000) = false := decide_eq_false h2
        have hrr := HR3.out
        rw [e2, Bool.false_and] at hrr
        have HE := Lib.hid hrr
        clear hrr HR3
        go_wp2
        go_ret
        exact ⟨by rw [HE.out]; rfl, hb⟩

end Go.Proofs.YtebdkmlganalaaaGreatDoor.Lim
