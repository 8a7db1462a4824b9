/- The walk of LimitLast. -/
import Derived.Test.YtogjcejiojmmbaaTDp
namespace Go.Proofs.Ytogjcejiojmmbaa
open Go.RowKit Go.Shelf

set_option maxRecDepth 100000 in
set_option maxHeartbeats 4000000 in
theorem last_walk (w : World) (x : Lm × Option Addr × Nat) (hx : LmAt w w.heap.size x.2.1 x.1) (C : Option Addr) (cl : Nat) (l : List Int) (h : Ints w w.heap.size C l) :
    Calls Try.prog 5 #[.agg (x.1.cells x.2.1 x.2.2), .slice C l.length cl] w fun e w' => e = .returned (.bool true) ∧ Below w.heap.size w w' := by
  obtain ⟨hA, hw, hl⟩ := h
  obtain ⟨L, A, c⟩ := x
  simp only at hx
  have HA := Lib.hid hA
  have HW := Lib.hid hw
  have HX := Lib.hid hx
  clear hA hw hx
  have e0 : Array.size #[Value.string L.id] = 1 := rfl
  show Calls Try.prog 5 #[.agg #[.string L.id, .int .i64 L.n, .int .i64 L.u, .int .i64 L.f, .slice A L.S.length c], .slice C l.length cl] w _
  have hb := (Below.refl w.heap.size w).alloc (Nat.le_refl _) (.cells #[.string L.id, .int .i64 L.n, .int .i64 L.u, .int .i64 L.f, .slice A L.S.length c] 26)
  have k0 := Blk.new w 26 #[.string L.id, .int .i64 L.n, .int .i64 L.u, .int .i64 L.f, .slice A L.S.length c]
  clear e0
  go_enter Try.func5, Try.ntmps5
  go_wp2_with fail
  refine (head_any _).mono ?_
  rintro e w1 ⟨rfl, b⟩
  have k1 := k0.below b k0.lt
  replace hb := hb.trans (b.mono hb.size)
  clear b k0
  obtain ⟨t0, t1, -⟩ := k1.all
  obtain ⟨r, hr⟩ : ∃ r, frB L l.length = r := ⟨_, rfl⟩
  have hfew := few_any w1 L w.heap.size A c (HX.out.below hb) hb.size C l.length cl hl
  rw [hr] at hfew
  have HF := Lib.hid hfew
  clear hfew
  go_wp2_with fail
  refine HF.out.mono ?_
  rintro e w2 ⟨rfl, b⟩
  have k2 := k1.below b k1.lt
  replace hb := hb.trans (b.mono hb.size)
  clear b HF k1 t0 t1
  obtain ⟨t0, t1, -⟩ := k2.all
  cases r with
  | false =>
    clear hr
    go_wp2
    go_ret
    exact ⟨rfl, hb⟩
  | true =>
    have hm := (frB_iff.1 hr).2.2.2.2
    obtain ⟨q1, q2, hq⟩ : ∃ q1 q2, dueS L l = (q1, q2) := ⟨_, _, rfl⟩
    have HQ := Lib.hid hq
    have HR := Lib.hid hr
    clear hq hr
    go_wp2_with fail
    have hdue := due_any w2 L w.heap.size A c (HX.out.below hb) hb.size C l cl (HA.out.below hb) (by omega) HW.out
    rw [HQ.out] at hdue
    refine hdue.mono ?_
    rintro e w3 ⟨rfl, b⟩
    have k3 := k2.below b k2.lt
    replace hb := hb.trans (b.mono hb.size)
    clear b hdue k2 t0 t1
    obtain ⟨t0, t1, -⟩ := k3.all
    by_cases hz : q2 = 0
    · subst hz
      obtain ⟨a1, a2, ha⟩ : ∃ a1 a2, addS l L.f L.n L.u = (a1, a2) := ⟨_, _, rfl⟩
      obtain ⟨g1, g2, g3, g4, g5, g6, g7, g8, g9⟩ := last_day (by rw [HQ.out]) HR.out
      rw [HQ.out] at g3 g4 g5 g6 g8 g9
      rw [ha] at g1 g2 g3 g9
      simp only at g1 g2 g3 g4 g5 g6 g8 g9
      subst g1
      have HAD := Lib.hid ha
      have H4 := Lib.hid g4
      have H5 := Lib.hid g5
      have H9 := Lib.hid g9
      clear ha g4 g5 g9
      have s1 : decide (q1 < a1) = false := decide_eq_false (by omega)
      have s2 : decide (a1 < L.f) = false := decide_eq_false (by omega)
      have s3 : decide (20000 < q1 - L.f) = false := decide_eq_false (by omega)
      go_wp2_with fail
      have hadd := add_any w3 w.heap.size C l cl (HA.out.below hb) hb.size HW.out L.f L.n L.u
      rw [HAD.out] at hadd
      refine hadd.mono ?_
      rintro e w4 ⟨rfl, b⟩
      have k4 := k3.below b k3.lt
      replace hb := hb.trans (b.mono hb.size)
      clear b hadd k3 t0 t1
      obtain ⟨t0, t1, -⟩ := k4.all
      go_wp2_with fail
      have hwk := work_any w4 w.heap.size C l cl (HA.out.below hb) hb.size (by omega) HW.out q1
      rw [H4.out] at hwk
      refine hwk.mono ?_
      rintro e w5 ⟨rfl, b⟩
      have k5 := k4.below b k4.lt
      replace hb := hb.trans (b.mono hb.size)
      clear b hwk k4 t0 t1
      obtain ⟨t0, t1, -⟩ := k5.all
      go_wp2_with fail
      have hpa := rPaused_any w5 L q1 w.heap.size A c (HX.out.below hb) hb.size
      rw [H5.out] at hpa
      refine hpa.mono ?_
      rintro e w6 ⟨rfl, b⟩
      have k6 := k5.below b k5.lt
      replace hb := hb.trans (b.mono hb.size)
      clear b hpa k5 t0 t1
      obtain ⟨t0, t1, -⟩ := k6.all
      go_wp2_with fail
      clear t0 t1
      go_loopw [10, 11] (fun v i wr => ∃ k : Nat, L.f + (k : Int) ≤ q1 ∧ i = .int .i64 (L.f + 1 + (k : Int)) ∧ v = .int .i64 (cntU (pzB L.f L.S) L.f k : Int) ∧ Blk wr w.heap.size 26 #[.string L.id, .int .i64 L.n, .int .i64 L.u, .int .i64 L.f, .slice A L.S.length c] ∧ Below w.heap.size w wr) (fun _ i _ => (q1 + 1 - intOf i).toNat)
      case atStart => exact ⟨0, by omega, by go_num, rfl, k6, hb⟩
      case round =>
        clear hb k6
        obtain ⟨k, hk, rfl, rfl, k6, hb⟩ := hrel
        obtain ⟨t0, t1, -⟩ := k6.all
        have hcl := cntU_le (pzB L.f L.S) L.f k
        have hcs : cntU (pzB L.f L.S) L.f (k + 1) = cntU (pzB L.f L.S) L.f k + if pzB L.f L.S (L.f + 1 + (k : Int)) = true then 0 else 1 := rfl
        have HCS := Lib.hid hcs
        clear hcs
        obtain ⟨cn, hcn⟩ : ∃ cn, cntU (pzB L.f L.S) L.f k = cn := ⟨_, rfl⟩
        have HCN := Lib.hid hcn
        rw [hcn] at hcl
        rw [hcn]
        clear hcn
        by_cases hlt : L.f + 1 + (k : Int) ≤ q1
        · have hpa := rPaused_any wr L (L.f + 1 + (k : Int)) w.heap.size A c (HX.out.below hb) hb.size
          cases hz : pzB L.f L.S (L.f + 1 + (k : Int)) with
          | true =>
            rw [hz] at hpa
            have HPA := Lib.hid hpa
            have HZ := Lib.hid hz
            clear hpa hz
            go_wp2_with fail
            refine HPA.out.mono ?_
            rintro e w7 ⟨rfl, b⟩
            have k7 := k6.below b k6.lt
            replace hb := hb.trans (b.mono hb.size)
            clear b k6 t0 t1
            go_wp2
            go_roundw
            case rel => exact ⟨k + 1, by omega, by go_num, by rw [HCS.out, HZ.out, if_pos rfl, HCN.out]; rfl, k7, hb⟩
            case measure => simp [intOf]; omega
          | false =>
            rw [hz] at hpa
            have HPA := Lib.hid hpa
            have HZ := Lib.hid hz
            clear hpa hz
            go_wp2_with fail
            refine HPA.out.mono ?_
            rintro e w7 ⟨rfl, b⟩
            have k7 := k6.below b k6.lt
            replace hb := hb.trans (b.mono hb.size)
            clear b k6 t0 t1
            go_wp2
            go_roundw
            case rel => exact ⟨k + 1, by omega, by go_num, by rw [HCS.out, HZ.out, if_neg (by simp), HCN.out]; go_num, k7, hb⟩
            case measure => simp [intOf]; omega
        · have hkk : k = (q1 - L.f).toNat := by omega
          have h9 := H9.out
          rw [← hkk, HCN.out] at h9
          have s4 : decide (a1 - L.f ≤ (cn : Int)) = true := decide_eq_true h9
          clear H9
          go_wp2
          go_ret
          exact ⟨rfl, hb⟩
    · have hz2 : (q2 != 0) = true := by simpa using hz
      have hq1 : q1 = 0 := by
        have h := HQ.out
        unfold dueS at h
        cases hp : prB L with
        | false => rw [hp, if_neg (by simp)] at h; injection h with h1 h2; exact h1.symm
        | true =>
          rw [hp, if_pos rfl] at h
          by_cases ha : (addS l L.f L.n L.u).2 = 0
          · rw [if_pos ha] at h
            have := openS_err (p := pzB L.f L.S) (l := l) (x := nthU (pzB L.f L.S) L.f ((addS l L.f L.n L.u).1 - L.f).toNat) (by rw [h]; exact hz)
            rw [this.1] at h
            injection h with h1 h2
            exact h1.symm
          · rw [if_neg ha] at h
            injection h with h1 h2
            exact h1.symm
      subst hq1
      go_wp2
      go_ret
      exact ⟨rfl, hb⟩
end Go.Proofs.Ytogjcejiojmmbaa
