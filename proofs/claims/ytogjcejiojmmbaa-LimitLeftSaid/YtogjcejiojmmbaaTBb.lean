/- The walk of LimitLeft. -/
import Derived.Test.YtogjcejiojmmbaaTu
namespace Go.Proofs.Ytogjcejiojmmbaa
open Go.RowKit Go.Shelf

/-- Left stands where there is a last day. -/
theorem left_of {L : Lm} {l : List Int} {day : Int} (h : (dueS L l).2 = 0) (h0 : 0 ≤ day) (h1 : day ≤ 1000000) : leftS L day l = ((cntU (pzB L.f L.S) (day - 1) ((dueS L l).1 - day + 1).toNat : Int), 0) := by
  unfold leftS
  rw [if_pos ((isB_iff _).2 ⟨h0, h1⟩), if_pos h]
theorem due_free {L : Lm} {l : List Int} (h : (dueS L l).2 = 0) : pzB L.f L.S (dueS L l).1 = false := by
  have h' := h
  unfold dueS at h' ⊢
  cases hp : prB L with
  | false => rw [hp, if_neg (by simp)] at h'; cases h'
  | true =>
    rw [hp, if_pos rfl] at h'
    rw [if_pos rfl]
    by_cases ha : (addS l L.f L.n L.u).2 = 0
    · rw [if_pos ha] at h' ⊢
      exact (openS_ok h').2.2.1
    · rw [if_neg ha] at h'
      exact absurd h' ha
theorem cntU_first (p : Int → Bool) (day : Int) (k : Nat) : cntU p (day - 1) (k + 1) = (if p day = true then 0 else 1) + cntU p day k := by
  have h := cntU_add p (day - 1) 1 k
  have e : day - 1 + ((1 : Nat) : Int) = day := by omega
  rw [e] at h
  rw [Nat.add_comm k 1, h]
  have e2 : cntU p (day - 1) 1 = cntU p (day - 1) 0 + if p (day - 1 + 1 + ((0 : Nat) : Int)) = true then 0 else 1 := rfl
  have e3 : day - 1 + 1 + ((0 : Nat) : Int) = day := by omega
  have e4 : cntU p (day - 1) 0 = 0 := rfl
  rw [e2, e3, e4, Nat.zero_add]
theorem left_step {L : Lm} {l : List Int} {day : Int} (h : (dueS L l).2 = 0) (h0 : 0 ≤ day) (h1 : day < 1000000) :
    (leftS L day l).2 = 0 ∧ (leftS L (day + 1) l).2 = 0 ∧ (leftS L day l).1 = (leftS L (day + 1) l).1 + (if day ≤ (dueS L l).1 ∧ pzB L.f L.S day = false then 1 else 0) ∧ 0 ≤ (leftS L (day + 1) l).1 ∧ (leftS L (day + 1) l).1 ≤ 1000001 ∧ leftS L (dueS L l).1 l = (1, 0) := by
  obtain ⟨hp, hf, h2, h3⟩ := due_day h
  obtain ⟨f0, f1⟩ := (isB_iff _).1 hf
  have e3 := left_of (day := (dueS L l).1) h (by omega) h3
  rw [left_of h h0 (by omega), left_of (day := day + 1) h (by omega) (by omega), e3]
  have hle := cntU_le (pzB L.f L.S) (day + 1 - 1) ((dueS L l).1 - (day + 1) + 1).toNat
  refine ⟨rfl, rfl, ?_, by show (0:Int) ≤ _; omega, by show _ ≤ (1000001 : Int); omega, ?_⟩
  · show ((cntU _ _ _ : Nat) : Int) = ((cntU _ _ _ : Nat) : Int) + _
    by_cases hd : day ≤ (dueS L l).1
    · have e : ((dueS L l).1 - day + 1).toNat = ((dueS L l).1 - (day + 1) + 1).toNat + 1 := by omega
      have e1 : day + 1 - 1 = day := by omega
      rw [e, e1, cntU_first]
      cases hz : pzB L.f L.S day with
      | true => simp
      | false => simp [hd]; omega
    · have e : ((dueS L l).1 - day + 1).toNat = 0 := by omega
      have e1 : ((dueS L l).1 - (day + 1) + 1).toNat = 0 := by omega
      rw [e, e1, if_neg (fun hh => hd hh.1)]
      rfl
  · have e : ((dueS L l).1 - (dueS L l).1 + 1).toNat = 0 + 1 := by omega
    rw [e, cntU_first, due_free h]
    rfl
theorem left_bad {L : Lm} {l : List Int} {day : Int} (h : ¬ ((dueS L l).2 = 0 ∧ 0 ≤ day)) : (leftS L day l).1 = 0 ∧ (leftS L day l).2 ≠ 0 := by
  unfold leftS
  by_cases hd : isB day = true
  · rw [if_pos hd]
    by_cases hz : (dueS L l).2 = 0
    · exact absurd ⟨hz, ((isB_iff _).1 hd).1⟩ h
    · rw [if_neg hz]; exact ⟨rfl, hz⟩
  · rw [if_neg hd]; exact ⟨rfl, by simp⟩

set_option maxRecDepth 100000 in
set_option maxHeartbeats 4000000 in
theorem left_walk (w : World) (x : Lm × Option Addr × Nat) (hx : LmAt w w.heap.size x.2.1 x.1) (day : Int) (wd : (Lit.int .i64 day).wf = true) (C : Option Addr) (cl : Nat) (l : List Int) (h : Ints w w.heap.size C l) :
    Calls Try.prog 9 #[.agg (x.1.cells x.2.1 x.2.2), .int .i64 day, .slice C l.length cl] w fun e w' => e = .returned (.bool true) ∧ Below w.heap.size w w' := by
  obtain ⟨hA, hw, hl⟩ := h
  obtain ⟨L, A, c⟩ := x
  obtain ⟨d0, d1⟩ := wf64_lit.1 wd
  simp only at hx
  have HA := Lib.hid hA
  have HW := Lib.hid hw
  have HX := Lib.hid hx
  clear hA hw hx wd
  have e0 : Array.size #[Value.string L.id] = 1 := rfl
  show Calls Try.prog 9 #[.agg #[.string L.id, .int .i64 L.n, .int .i64 L.u, .int .i64 L.f, .slice A L.S.length c], .int .i64 day, .slice C l.length cl] w _
  have hb := (Below.refl w.heap.size w).alloc (Nat.le_refl _) (.cells #[.string L.id, .int .i64 L.n, .int .i64 L.u, .int .i64 L.f, .slice A L.S.length c] 26)
  have k0 := Blk.new w 26 #[.string L.id, .int .i64 L.n, .int .i64 L.u, .int .i64 L.f, .slice A L.S.length c]
  clear e0
  go_enter Try.func9, Try.ntmps9
  go_wp2_with fail
  refine (head_any _).mono ?_
  rintro e w1 ⟨rfl, b⟩
  have k1 := k0.below b k0.lt
  replace hb := hb.trans (b.mono hb.size)
  clear b k0
  obtain ⟨t0, t1, -⟩ := k1.all
  obtain ⟨r, hr⟩ : ∃ r, frB L l.length = r := ⟨_, rfl⟩
  have hfew := few_any w1 L w.heap.size A c (HX.out.below hb) hb.size C l.length cl hl
  rw [hr] at hfew
  have HF := Lib.hid hfew
  clear hfew
  go_wp2_with fail
  refine HF.out.mono ?_
  rintro e w2 ⟨rfl, b⟩
  have k2 := k1.below b k1.lt
  replace hb := hb.trans (b.mono hb.size)
  clear b HF k1 t0 t1
  obtain ⟨t0, t1, -⟩ := k2.all
  cases r with
  | false =>
    clear hr
    go_wp2
    go_ret
    exact ⟨rfl, hb⟩
  | true =>
    obtain ⟨-, -, -, -, hm⟩ := frB_iff.1 hr
    clear hr
    by_cases hd : 1000000 ≤ day
    · have t2 : decide (1000000 ≤ day) = true := decide_eq_true hd
      go_wp2
      go_ret
      exact ⟨rfl, hb⟩
    · have t2 : decide (1000000 ≤ day) = false := decide_eq_false hd
      obtain ⟨q1, q2, hq⟩ : ∃ q1 q2, dueS L l = (q1, q2) := ⟨_, _, rfl⟩
      obtain ⟨a1, a2, ha⟩ : ∃ a1 a2, leftS L day l = (a1, a2) := ⟨_, _, rfl⟩
      obtain ⟨b1, b2, hb'⟩ : ∃ b1 b2, leftS L (day + 1) l = (b1, b2) := ⟨_, _, rfl⟩
      obtain ⟨l1, l2, hl'⟩ : ∃ l1 l2, leftS L q1 l = (l1, l2) := ⟨_, _, rfl⟩
      obtain ⟨z, hz⟩ : ∃ z, pzB L.f L.S day = z := ⟨_, rfl⟩
      have hrel : (q2 = 0 ∧ a2 = 0 ∧ b2 = 0 ∧ a1 = b1 + (if day ≤ q1 ∧ z = false then 1 else 0) ∧ 0 ≤ b1 ∧ b1 ≤ 1000001 ∧ l1 = 1 ∧ l2 = 0) ∨ (a1 = 0 ∧ a2 ≠ 0) := by
        by_cases hc : (dueS L l).2 = 0 ∧ 0 ≤ day
        · obtain ⟨i1, i2, i3, i4, i5, i6⟩ := left_step hc.1 hc.2 (by omega)
          have h1 := hc.1
          rw [hq] at h1 i3 i6
          rw [ha] at i1 i3
          rw [hb'] at i2 i3 i4 i5
          rw [hz] at i3
          simp only at i6
          rw [hl'] at i6
          injection i6 with i6 i7
          exact .inl ⟨h1, i1, i2, i3, i4, i5, i6, i7⟩
        · have := left_bad hc
          rw [ha] at this
          exact .inr this
      have HQ := Lib.hid hq
      have HAD := Lib.hid ha
      have HB := Lib.hid hb'
      have HL := Lib.hid hl'
      have HZ := Lib.hid hz
      clear hq ha hb' hl' hz
      go_wp2_with fail
      have hdue := due_any w2 L w.heap.size A c (HX.out.below hb) hb.size C l cl (HA.out.below hb) (by omega) HW.out
      rw [HQ.out] at hdue
      refine hdue.mono ?_
      rintro e w3 ⟨rfl, b⟩
      have k3 := k2.below b k2.lt
      replace hb := hb.trans (b.mono hb.size)
      clear b hdue k2 t0 t1
      obtain ⟨t0, t1, -⟩ := k3.all
      go_wp2_with fail
      have hlf := left_any w3 L day w.heap.size A c (HX.out.below hb) hb.size C l cl (HA.out.below hb) (by omega) HW.out
      rw [HAD.out] at hlf
      refine hlf.mono ?_
      rintro e w4 ⟨rfl, b⟩
      have k4 := k3.below b k3.lt
      replace hb := hb.trans (b.mono hb.size)
      clear b hlf k3 t0 t1
      obtain ⟨t0, t1, -⟩ := k4.all
      go_wp2_with fail
      have hlf := left_any w4 L (day + 1) w.heap.size A c (HX.out.below hb) hb.size C l cl (HA.out.below hb) (by omega) HW.out
      rw [HB.out] at hlf
      refine hlf.mono ?_
      rintro e w5 ⟨rfl, b⟩
      have k5 := k4.below b k4.lt
      replace hb := hb.trans (b.mono hb.size)
      clear b hlf k4 t0 t1
      obtain ⟨t0, t1, -⟩ := k5.all
      rcases hrel with ⟨rfl, rfl, rfl, hs, s0, s1, rfl, rfl⟩ | ⟨rfl, h2⟩
      · have HS := Lib.hid hs
        clear hs
        go_wp2_with fail
        have hlf := left_any w5 L q1 w.heap.size A c (HX.out.below hb) hb.size C l cl (HA.out.below hb) (by omega) HW.out
        rw [HL.out] at hlf
        refine hlf.mono ?_
        rintro e w6 ⟨rfl, b⟩
        have k6 := k5.below b k5.lt
        replace hb := hb.trans (b.mono hb.size)
        clear b hlf k5 t0 t1
        obtain ⟨t0, t1, -⟩ := k6.all
        by_cases hle : day ≤ q1
        · have t3 : decide (day ≤ q1) = true := decide_eq_true hle
          go_wp2_with fail
          have hpa := rPaused_any w6 L day w.heap.size A c (HX.out.below hb) hb.size
          rw [HZ.out] at hpa
          refine hpa.mono ?_
          rintro e w7 ⟨rfl, b⟩
          replace hb := hb.trans (b.mono hb.size)
          clear b hpa k6 t0 t1
          cases z with
          | true =>
            have hs := HS.out
            rw [if_neg (by simp)] at hs
            replace hs : a1 = b1 := by omega
            subst hs
            go_wp2
            go_ret
            exact ⟨rfl, hb⟩
          | false =>
            have hs := HS.out
            rw [if_pos ⟨hle, rfl⟩] at hs
            subst hs
            go_wp2
            go_ret
            exact ⟨rfl, hb⟩
        · have t3 : decide (day ≤ q1) = false := decide_eq_false hle
          have hs := HS.out
          rw [if_neg (fun hh => hle hh.1)] at hs
          replace hs : a1 = b1 := by omega
          subst hs
          go_wp2
          go_ret
          exact ⟨rfl, hb⟩
      · have t3 : decide (a2 = 0) = false := decide_eq_false h2
        have t4 : (a2 != 0) = true := by simpa using h2
        by_cases h3 : q2 = 0
        · subst h3
          go_wp2
          go_ret
          exact ⟨rfl, hb⟩
        · have t5 : (q2 != 0) = true := by simpa using h3
          go_wp2
          go_ret
          exact ⟨rfl, hb⟩
end Go.Proofs.Ytogjcejiojmmbaa
