/- The reference's Proper, Paused, Few. -/
import Derived.Test.YtogjcejiojmmbaaTl
namespace Go.Proofs.Ytogjcejiojmmbaa
open Go.RowKit Go.Shelf

theorem all_take {S : List Stp2} {p : Stp2 → Bool} {k : Nat} {s : Stp2} (h : S[k]? = some s) : (S.take (k + 1)).all p = ((S.take k).all p && p s) := by
  obtain ⟨hk, hs⟩ := List.getElem?_eq_some_iff.1 h
  rw [List.take_succ_eq_append_getElem hk, hs, List.all_append]
  simp
theorem any_take {S : List Stp2} {p : Stp2 → Bool} {k : Nat} {s : Stp2} (h : S[k]? = some s) : (S.take (k + 1)).any p = ((S.take k).any p || p s) := by
  obtain ⟨hk, hs⟩ := List.getElem?_eq_some_iff.1 h
  rw [List.take_succ_eq_append_getElem hk, hs, List.any_append]
  simp

set_option maxHeartbeats 2000000 in
set_option maxRecDepth 100000 in
theorem rProper_any (w : World) (L : Lm) (B : Nat) (A : Option Addr) (c : Nat) (h : LmAt w B A L) (hB : B ≤ w.heap.size) :
    Calls Try.prog 23 #[.agg (L.cells A c)] w fun e w' => e = .returned (.bool (prB L)) ∧ Below w.heap.size w w' := by
  obtain ⟨hs, hid, hsl⟩ := h
  obtain ⟨id, n, u, f, S⟩ := L
  show Calls Try.prog 23 #[.agg #[.string id, .int .i64 n, .int .i64 u, .int .i64 f, .slice A S.length c]] w _
  have hr : prB ⟨id, n, u, f, S⟩ = (nmB id.data.toList && isB f && ptB n u && decide (S.length ≤ 60) && S.all psB) := rfl
  obtain ⟨r, hrr⟩ : ∃ r, prB ⟨id, n, u, f, S⟩ = r := ⟨_, rfl⟩
  rw [hrr] at hr ⊢
  clear hrr
  have hb := (Below.refl w.heap.size w).alloc (Nat.le_refl _) (.cells #[.string id, .int .i64 n, .int .i64 u, .int .i64 f, .slice A S.length c] 26)
  have k0 := Blk.new w 26 #[.string id, .int .i64 n, .int .i64 u, .int .i64 f, .slice A S.length c]
  simp only at hid hsl hs
  have h1 := fun W => name_any W id hid
  have h2 := fun W => rIs_any W f
  have h3 := fun W => rTerm_any W n u
  have HS := Lib.hid hs
  have HR := Lib.hid hr
  clear hs hr
  go_enter Try.func23, Try.ntmps23
  go_wp2_with fail
  go_loopw [3] (fun i wr => ∃ k : Nat, k ≤ S.length ∧ i = .int .i64 (k : Int) ∧ Hid ((S.take k).all psB = true) ∧ Blk wr w.heap.size 26 #[.string id, .int .i64 n, .int .i64 u, .int .i64 f, .slice A S.length c] ∧ Below w.heap.size w wr) (fun i _ => S.length - (intOf i).toNat)
  case atStart => exact ⟨0, Nat.zero_le _, rfl, Lib.hid rfl, k0, hb⟩
  case round =>
    clear k0 hb
    obtain ⟨k, hk, rfl, hall, k0, hb⟩ := hrel
    obtain ⟨t0, t1, -⟩ := k0.all
    by_cases hlt : k < S.length
    · obtain ⟨s, hss⟩ : ∃ s, S[k]? = some s := ⟨_, List.getElem?_eq_getElem hlt⟩
      obtain ⟨gb, off, hA, hg, e0, e1⟩ := (HS.out.below (hb.mono hB)) k s hss
      subst hA
      have hat := all_take (p := psB) hss
      rw [hall.out, Bool.true_and] at hat
      have hmem := List.mem_of_getElem? hss
      clear hss
      obtain ⟨a, b⟩ := s
      simp only at e0 e1
      have hst := fun W => rStop_any W a b
      cases hp : psB (a, b) with
      | true =>
        rw [hp] at hat hst
        have HAT := Lib.hid hat
        have HST := Lib.hid hst
        clear hat hst hp hmem h1 h2 h3
        go_wp2_with fail
        refine (HST.out _).mono ?_
        rintro e w1 ⟨rfl, b1⟩
        have k1 := k0.below b1 k0.lt
        replace hb := hb.trans (b1.mono hb.size)
        clear b1 k0 t0 t1 e0 e1
        go_wp2
        go_roundw
        case rel => exact ⟨k + 1, by omega, by go_num, HAT, k1, hb⟩
        case measure => simp [intOf]; omega
      | false =>
        have hno : r = false := by
          rw [HR.out]
          have : S.all psB = false := by rw [List.all_eq_false]; exact ⟨_, hmem, by rw [hp]; simp⟩
          rw [this, Bool.and_false]
        rw [hp] at hst
        have HNO := Lib.hid hno
        have HST := Lib.hid hst
        clear hat hst hp hmem hno h1 h2 h3
        go_wp2_with fail
        refine (HST.out _).mono ?_
        rintro e w1 ⟨rfl, b1⟩
        replace hb := hb.trans (b1.mono hb.size)
        clear b1 k0 t0 t1 e0 e1
        go_wp2
        go_ret
        exact ⟨by rw [HNO.out]; rfl, hb⟩
    · obtain rfl : k = S.length := by omega
      have hal := hall.out
      rw [List.take_length] at hal
      have hrr := HR.out
      rw [hal, Bool.and_true] at hrr
      have HRR := Lib.hid hrr
      generalize nmB id.data.toList = b1 at *
      generalize isB f = b2 at *
      generalize ptB n u = b3 at *
      have H1 := Lib.hid h1
      have H2 := Lib.hid h2
      have H3 := Lib.hid h3
      clear hrr hal hall HR h1 h2 h3
      cases b1 with
      | false =>
        go_wp2_with fail
        refine (H1.out _).mono ?_
        rintro e w1 ⟨rfl, rfl⟩
        go_wp2
        go_ret
        exact ⟨by rw [HRR.out]; rfl, hb⟩
      | true =>
        cases b2 with
        | false =>
          go_wp2_with fail
          refine (H1.out _).mono ?_
          rintro e w1 ⟨rfl, rfl⟩
          go_wp2_with fail
          refine (H2.out _).mono ?_
          rintro e w1 ⟨rfl, rfl⟩
          go_wp2
          go_ret
          exact ⟨by rw [HRR.out]; rfl, hb⟩
        | true =>
          cases b3 with
          | false =>
            go_wp2_with fail
            refine (H1.out _).mono ?_
            rintro e w1 ⟨rfl, rfl⟩
            go_wp2_with fail
            refine (H2.out _).mono ?_
            rintro e w1 ⟨rfl, rfl⟩
            go_wp2_with fail
            refine (H3.out _).mono ?_
            rintro e w1 ⟨rfl, b⟩
            replace hb := hb.trans (b.mono hb.size)
            clear b t0 t1
            go_wp2
            go_ret
            exact ⟨by rw [HRR.out]; rfl, hb⟩
          | true =>
            cases h60 : decide (S.length ≤ 60)
            all_goals
              have hrr := HRR.out
              rw [h60] at hrr
              have HE := Lib.hid hrr
              clear hrr HRR
              have h60' : decide ((S.length : Int) ≤ 60) = decide (S.length ≤ 60) := by rw [decide_eq_decide]; omega
              rw [h60] at h60'
              clear h60
              go_wp2_with fail
              refine (H1.out _).mono ?_
              rintro e w1 ⟨rfl, rfl⟩
              go_wp2_with fail
              refine (H2.out _).mono ?_
              rintro e w1 ⟨rfl, rfl⟩
              go_wp2_with fail
              refine (H3.out _).mono ?_
              rintro e w1 ⟨rfl, b⟩
              have k1 := k0.below b k0.lt
              replace hb := hb.trans (b.mono hb.size)
              clear b t0 t1 k0
              obtain ⟨t0, t1, -⟩ := k1.all
              go_wp2
              go_ret
              exact ⟨by rw [HE.out]; rfl, hb⟩

set_option maxHeartbeats 2000000 in
set_option maxRecDepth 100000 in
theorem rPaused_any (w : World) (L : Lm) (day : Int) (B : Nat) (A : Option Addr) (c : Nat) (h : LmAt w B A L) (hB : B ≤ w.heap.size) :
    Calls Try.prog 25 #[.agg (L.cells A c), .int .i64 day] w fun e w' => e = .returned (.bool (pzB L.f L.S day)) ∧ Below w.heap.size w w' := by
  obtain ⟨hs, hid, hsl⟩ := h
  obtain ⟨id, n, u, f, S⟩ := L
  show Calls Try.prog 25 #[.agg #[.string id, .int .i64 n, .int .i64 u, .int .i64 f, .slice A S.length c], .int .i64 day] w fun e w' => e = .returned (.bool (pzB f S day)) ∧ Below w.heap.size w w'
  have hr : pzB f S day = (decide (f < day) && S.any fun s => inS s day) := rfl
  obtain ⟨r, hrr⟩ : ∃ r, pzB f S day = r := ⟨_, rfl⟩
  rw [hrr] at hr ⊢
  clear hrr
  have hb := (Below.refl w.heap.size w).alloc (Nat.le_refl _) (.cells #[.string id, .int .i64 n, .int .i64 u, .int .i64 f, .slice A S.length c] 26)
  have k0 := Blk.new w 26 #[.string id, .int .i64 n, .int .i64 u, .int .i64 f, .slice A S.length c]
  have hs1 := hs.below (hb.mono hB)
  simp only at hid hsl hs1
  obtain ⟨t0, t1, -⟩ := k0.all
  have HR := Lib.hid hr
  have HS := Lib.hid hs1
  clear hr hs hs1
  go_enter Try.func25, Try.ntmps25
  go_wp2_with fail
  generalize w.alloc (.cells #[.string id, .int .i64 n, .int .i64 u, .int .i64 f, .slice A S.length c] 26) = w1 at *
  go_loop [5] (fun i => ∃ k : Nat, k ≤ S.length ∧ i = .int .i64 (k : Int) ∧ Hid ((decide (f < day) && (S.take k).any fun s => inS s day) = false)) (fun i => S.length - (intOf i).toNat)
  case atStart => exact ⟨0, Nat.zero_le _, rfl, Lib.hid (by rw [List.take_zero]; simp)⟩
  case round =>
    obtain ⟨k, hk, rfl, hno⟩ := hrel
    by_cases hlt : k < S.length
    · obtain ⟨s, hss⟩ : ∃ s, S[k]? = some s := ⟨_, List.getElem?_eq_getElem hlt⟩
      obtain ⟨gb, off, hA, hg, e0, e1⟩ := HS.out k s hss
      subst hA
      have hat := any_take (p := fun s => inS s day) hss
      have hmem := List.mem_of_getElem? hss
      clear hss
      obtain ⟨a, b⟩ := s
      simp only at e0 e1
      have hin : inS (a, b) day = (decide (a ≤ day) && decide (day < b)) := rfl
      cases d1 : decide (f < day) with
      | false =>
        have hfd : ¬ f < day := of_decide_eq_false d1
        have HNX : Hid ((decide (f < day) && (S.take (k + 1)).any fun s => inS s day) = false) := Lib.hid (by rw [d1]; rfl)
        clear hat hin hmem
        go_wp2
        go_round
        case rel => exact ⟨k + 1, by omega, by go_num, Lib.hid (by have := HNX.out; rw [d1] at this; exact this)⟩
        case measure => simp [intOf]; omega
      | true =>
        have hfd : f < day := of_decide_eq_true d1
        have hno2 := hno.out
        rw [d1, Bool.true_and] at hno2
        cases hi : inS (a, b) day with
        | true =>
          have hr2 : r = true := by
            rw [HR.out, d1, Bool.true_and]
            exact List.any_eq_true.2 ⟨_, hmem, hi⟩
          have HR2 := Lib.hid hr2
          rw [hi] at hin
          have h4 := inS_iff.1 hi
          simp only at h4
          obtain ⟨h5, h6⟩ := h4
          clear hat hin hmem hno hno2 hr2 hi
          go_wp2
          go_ret
          exact ⟨by rw [HR2.out]; rfl, hb⟩
        | false =>
          have HNX : Hid ((decide (f < day) && (S.take (k + 1)).any fun s => inS s day) = false) := Lib.hid (by rw [d1, Bool.true_and, hat, hno2, hi]; rfl)
          rw [hi] at hin
          clear hat hmem hno hno2 hi
          by_cases h5 : a ≤ day
          · have d5 : decide (a ≤ day) = true := decide_eq_true h5
            have d6 : decide (day < b) = false := by rw [d5, Bool.true_and] at hin; exact hin.symm
            have h6 : ¬ day < b := of_decide_eq_false d6
            clear hin
            go_wp2
            go_round
            case rel => exact ⟨k + 1, by omega, by go_num, Lib.hid (by have := HNX.out; rw [d1] at this; exact this)⟩
            case measure => simp [intOf]; omega
          · clear hin
            go_wp2
            go_round
            case rel => exact ⟨k + 1, by omega, by go_num, Lib.hid (by have := HNX.out; rw [d1] at this; exact this)⟩
            case measure => simp [intOf]; omega
    · obtain rfl : k = S.length := by omega
      have hno2 := hno.out
      rw [List.take_length, ← HR.out] at hno2
      have HE := Lib.hid hno2
      clear hno hno2
      go_wp2
      go_ret
      exact ⟨by rw [HE.out]; rfl, hb⟩
end Go.Proofs.Ytogjcejiojmmbaa
