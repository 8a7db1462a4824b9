/- The small functions of the reference: names, stops, terms, Is; Short. -/
import Derived.Test.YtogjcejiojmmbaaTj
namespace Go.Proofs.Ytogjcejiojmmbaa
open Go.RowKit Go.Shelf

theorem letter_any (w : World) (c : UInt8) : Calls Try.prog 64 #[.int .u8 (c.toNat : Int)] w fun e w' => e = .returned (.bool (letB c)) ∧ w = w' := by
  have hl : letB c = (decide (97 ≤ c.toNat ∧ c.toNat ≤ 122) || decide (65 ≤ c.toNat ∧ c.toNat ≤ 90)) := rfl
  obtain ⟨r, hr⟩ : ∃ r, letB c = r := ⟨_, rfl⟩
  rw [hr]
  rw [hr] at hl
  have HL := Lib.hid hl
  clear hl hr
  have h255 := c.toNat_lt
  rcases (by omega : c.toNat < 65 ∨ (65 ≤ c.toNat ∧ c.toNat ≤ 90) ∨ (90 < c.toNat ∧ c.toNat < 97) ∨ (97 ≤ c.toNat ∧ c.toNat ≤ 122) ∨ 122 < c.toNat) with h | h | h | h | h <;> cases d90 : decide ((c.toNat : Int) ≤ 90) <;> cases d122 : decide ((c.toNat : Int) ≤ 122)
  all_goals try (exfalso; simp at d90 d122; omega)
  all_goals
    go_enter Try.func64, Try.ntmps64
    go_wp2
    go_ret
    exact ⟨by rw [HL.out]; simp; omega, rfl⟩

theorem digit_any (w : World) (c : UInt8) : Calls Try.prog 74 #[.int .u8 (c.toNat : Int)] w fun e w' => e = .returned (.bool (decide (48 ≤ c.toNat ∧ c.toNat ≤ 57))) ∧ w = w' := by
  obtain ⟨r, hr⟩ : ∃ r, decide (48 ≤ c.toNat ∧ c.toNat ≤ 57) = r := ⟨_, rfl⟩
  rw [hr]
  have HL := Lib.hid hr
  clear hr
  have h255 := c.toNat_lt
  rcases (by omega : c.toNat < 48 ∨ (48 ≤ c.toNat ∧ c.toNat ≤ 57) ∨ 57 < c.toNat) with h | h | h <;> cases d57 : decide ((c.toNat : Int) ≤ 57)
  all_goals try (exfalso; simp at d57; omega)
  all_goals
    go_enter Try.func74, Try.ntmps74
    go_wp2
    go_ret
    exact ⟨by rw [← HL.out]; simp; omega, rfl⟩

def wrdB (c : UInt8) : Bool := letB c || digB c
theorem word_any (w : World) (c : UInt8) : Calls Try.prog 63 #[.int .u8 (c.toNat : Int)] w fun e w' => e = .returned (.bool (wrdB c)) ∧ w = w' := by
  have hw : wrdB c = (letB c || (decide (48 ≤ c.toNat ∧ c.toNat ≤ 57) || decide (c.toNat = 95))) := rfl
  have h1 := fun W => letter_any W c
  have h2 := fun W => digit_any W c
  obtain ⟨r, hr⟩ : ∃ r, wrdB c = r := ⟨_, rfl⟩
  rw [hr]
  rw [hr] at hw
  clear hr
  generalize letB c = b1 at *
  generalize decide (48 ≤ c.toNat ∧ c.toNat ≤ 57) = b2 at *
  have H1 := Lib.hid h1
  have H2 := Lib.hid h2
  have HW := Lib.hid hw
  clear h1 h2 hw
  cases b1 with
  | true =>
    go_enter Try.func63, Try.ntmps63
    go_wp2_with fail
    refine (H1.out _).mono ?_
    rintro e w1 ⟨rfl, rfl⟩
    go_wp2
    go_ret
    exact ⟨by rw [HW.out]; rfl, rfl⟩
  | false =>
    cases b2 with
    | true =>
      go_enter Try.func63, Try.ntmps63
      go_wp2_with fail
      refine (H1.out _).mono ?_
      rintro e w1 ⟨rfl, rfl⟩
      go_wp2_with fail
      refine (H2.out _).mono ?_
      rintro e w1 ⟨rfl, rfl⟩
      go_wp2
      go_ret
      exact ⟨by rw [HW.out]; rfl, rfl⟩
    | false =>
      cases e95 : ((c.toNat : Int) == 95)
      all_goals
        go_enter Try.func63, Try.ntmps63
        go_wp2_with fail
        refine (H1.out _).mono ?_
        rintro e w1 ⟨rfl, rfl⟩
        go_wp2_with fail
        refine (H2.out _).mono ?_
        rintro e w1 ⟨rfl, rfl⟩
        go_wp2
        go_ret
        exact ⟨by rw [HW.out]; simp at e95; simp; omega, rfl⟩

theorem wrd_go : ∀ (l : List UInt8) (i : Nat), 0 < i → nmGo i l = l.all wrdB
  | [], _, _ => rfl
  | c :: l, i, h => by
    show (okAt i c && nmGo (i + 1) l) = (wrdB c && l.all wrdB)
    rw [wrd_go l (i + 1) (by omega)]
    unfold okAt wrdB
    rw [decide_eq_true h, Bool.true_and]
theorem nm_wrd (l : List UInt8) : nmB l = match l with
    | [] => false
    | c :: cs => letB c && (cs.all wrdB && decide ((c :: cs).length ≤ 24)) := by
  cases l with
  | nil => rfl
  | cons c cs =>
    show ((okAt 0 c && nmGo 1 cs) && (true && decide ((c :: cs).length ≤ 24))) = _
    rw [wrd_go cs 1 (by omega)]
    unfold okAt
    simp [Bool.and_assoc]
theorem wrd_no {l : List UInt8} {c : UInt8} (h : c ∈ l) (hc : wrdB c = false) : nmB l = false := by
  rw [nm_wrd]
  cases l with
  | nil => rfl
  | cons d cs =>
    simp only
    rcases List.mem_cons.1 h with rfl | h
    · unfold wrdB at hc
      rw [(Bool.or_eq_false_iff.1 hc).1]
      rfl
    · have : cs.all wrdB = false := by
        rw [List.all_eq_false]
        exact ⟨c, h, by rw [hc]; simp⟩
      rw [this]
      simp

set_option maxHeartbeats 1000000 in
theorem name_any (w : World) (s : ByteArray) (hs : s.size ≤ 9223372036854775807) : Calls Try.prog 48 #[.string s] w fun e w' => e = .returned (.bool (nmB s.data.toList)) ∧ w = w' := by
  have hsz : s.data.toList.length = s.size := rfl
  have HL := Lib.hid hsz
  obtain ⟨r, hr⟩ : ∃ r, r = nmB s.data.toList := ⟨_, rfl⟩
  rw [← hr]
  have HR := Lib.hid hr
  clear hsz hr
  go_enter Try.func48, Try.ntmps48
  go_wp2_with fail
  go_loop [3] (fun i => ∃ k : Nat, k ≤ s.size ∧ i = .int .i64 (k : Int) ∧ Hid ((s.data.toList.take k).all wrdB = true)) (fun i => s.size - (intOf i).toNat)
  case atStart => exact ⟨0, Nat.zero_le _, rfl, Lib.hid rfl⟩
  case round =>
    obtain ⟨k, hk, rfl, hn⟩ := hrel
    by_cases hlt : k < s.size
    · obtain ⟨c, hc⟩ : ∃ c, s.data.toList[k]? = some c := ⟨_, List.getElem?_eq_getElem (by rw [HL.out]; exact hlt)⟩
      have hget : s[k] = c := by
        obtain ⟨h1, h2⟩ := List.getElem?_eq_some_iff.1 hc
        rw [← h2]
        rfl
      have hwd := fun W => word_any W c
      have HC := Lib.hid hc
      clear hc
      cases hb : wrdB c with
      | true =>
        rw [hb] at hwd
        have hnx : (s.data.toList.take (k + 1)).all wrdB = true := by
          obtain ⟨h1, h2⟩ := List.getElem?_eq_some_iff.1 HC.out
          rw [List.take_succ_eq_append_getElem h1, h2, List.all_append, hn.out]
          simp [hb]
        have HX := Lib.hid hnx
        have HW := Lib.hid hwd
        clear hnx hb hwd
        go_wp2_with fail
        refine (HW.out _).mono ?_
        rintro e w1 ⟨rfl, rfl⟩
        go_wp2
        go_round
        case rel => exact ⟨k + 1, by omega, by go_num, HX⟩
        case measure => simp [intOf]; omega
      | false =>
        rw [hb] at hwd
        have hno := HR.out.trans (wrd_no (List.mem_of_getElem? HC.out) hb)
        have HE := Lib.hid hno
        have HW := Lib.hid hwd
        clear hno hb hwd
        go_wp2_with fail
        refine (HW.out _).mono ?_
        rintro e w1 ⟨rfl, rfl⟩
        go_wp2
        go_ret
        exact ⟨by rw [HE.out]; rfl, rfl⟩
    · obtain rfl : k = s.size := by omega
      have hall := hn.out
      rw [List.take_of_length_le (by rw [HL.out]; exact Nat.le_refl _)] at hall
      clear hn
      cases hcs : s.data.toList with
      | nil =>
        have hz : s.size = 0 := by rw [← HL.out, hcs]; rfl
        have hz2 : s.size ≤ 0 := by omega
        have HE : Hid (r = false) := Lib.hid (by rw [HR.out, hcs]; rfl)
        clear hz hall hcs
        have d0 : decide (0 < (s.size : Int)) = false := decide_eq_false (by omega)
        go_wp2
        go_ret
        exact ⟨by rw [HE.out]; rfl, rfl⟩
      | cons c cs =>
        have hz : 0 < s.size := by rw [← HL.out, hcs]; simp
        have hget : s[0] = c := by
          have h1 : s.data.toList[0]? = some c := by rw [hcs]; rfl
          obtain ⟨h1, h2⟩ := List.getElem?_eq_some_iff.1 h1
          rw [← h2]
          rfl
        have hle := fun W => letter_any W c
        have hrr : r = (letB c && decide ((s.size : Int) ≤ 24)) := by
          rw [HR.out, nm_wrd, hcs]
          rw [hcs] at hall
          have h2 : cs.all wrdB = true := by
            rw [List.all_cons, Bool.and_eq_true] at hall
            exact hall.2
          simp only
          rw [h2, Bool.true_and]
          congr 1
          rw [decide_eq_decide, ← HL.out, hcs]
          omega
        generalize letB c = b at *
        have HRR := Lib.hid hrr
        have HLE := Lib.hid hle
        clear hrr hle hall hcs
        by_cases h24 : s.size ≤ 24
        · have e24 : Hid (decide ((s.size : Int) ≤ 24) = true) := Lib.hid (decide_eq_true (by omega))
          go_wp2_with fail
          refine (HLE.out _).mono ?_
          rintro e w1 ⟨rfl, rfl⟩
          cases b
          all_goals
            go_wp2
            go_ret
            exact ⟨by rw [HRR.out, e24.out]; rfl, rfl⟩
        · have d24 : decide ((s.size : Int) ≤ 24) = false := decide_eq_false (by omega)
          go_wp2
          go_ret
          exact ⟨by rw [HRR.out, d24, Bool.and_false]; rfl, rfl⟩
end Go.Proofs.Ytogjcejiojmmbaa
