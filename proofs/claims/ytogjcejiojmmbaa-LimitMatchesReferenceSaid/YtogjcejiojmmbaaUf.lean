/- The reference's Due. -/
import Derived.Test.YtogjcejiojmmbaaUe
import Derived.Test.YtogjcejiojmmbaaTEp
namespace Go.Proofs.Ytogjcejiojmmbaa
open Go.RowKit Go.Shelf

theorem add_le {l : List Int} {d n u : Int} (h : (addS l d n u).2 = 0) : (addS l d n u).1 ≤ 1000000 := by
  obtain ⟨-, g2, -⟩ := add_ge h
  exact ((isB_iff _).1 g2).2

set_option maxRecDepth 100000 in
set_option maxHeartbeats 2000000 in
theorem rDue_any (w : World) (L : Lm) (B : Nat) (A : Option Addr) (c : Nat) (h : LmAt w B A L) (hB : B ≤ w.heap.size) (C : Option Addr) (l : List Int) (cl : Nat) (hA : IntsAt w B C l) (hll : l.length ≤ 4611686018427387904) :
    Calls Try.prog 14 #[.agg (L.cells A c), .slice C l.length cl] w fun e w' => e = .returned (.tuple #[.int .i64 (dueS L l).1, .int .i64 (dueS L l).2]) ∧ Below w.heap.size w w' := by
  obtain ⟨r1, r2, hr⟩ : ∃ r1 r2, dueS L l = (r1, r2) := ⟨_, _, rfl⟩
  rw [hr]
  unfold dueS at hr
  have HA := Lib.hid hA
  have HX := Lib.hid h
  clear hA h
  have e0 : Array.size #[Value.string L.id] = 1 := rfl
  show Calls Try.prog 14 #[.agg #[.string L.id, .int .i64 L.n, .int .i64 L.u, .int .i64 L.f, .slice A L.S.length c], .slice C l.length cl] w _
  have hb := (Below.refl w.heap.size w).alloc (Nat.le_refl _) (.cells #[.string L.id, .int .i64 L.n, .int .i64 L.u, .int .i64 L.f, .slice A L.S.length c] 26)
  have k0 := Blk.new w 26 #[.string L.id, .int .i64 L.n, .int .i64 L.u, .int .i64 L.f, .slice A L.S.length c]
  clear e0
  obtain ⟨t0, t1, -⟩ := k0.all
  have hpr := rProper_any _ L B A c (HX.out.below (hb.mono hB)) (Nat.le_trans hB hb.size)
  cases hp : prB L with
  | false =>
    rw [hp, if_neg (by simp)] at hr
    injection hr with h1 h2
    subst h1 h2
    rw [hp] at hpr
    have HPR := Lib.hid hpr
    clear hpr hp
    go_enter Try.func14, Try.ntmps14
    go_wp2_with fail
    refine HPR.out.mono ?_
    rintro e w1 ⟨rfl, b⟩
    replace hb := hb.trans (b.mono hb.size)
    go_wp2
    go_ret2
    exact ⟨rfl, hb⟩
  | true =>
  rw [hp, if_pos rfl] at hr
  rw [hp] at hpr
  obtain ⟨-, hf, -, -, hS⟩ := prB_iff.1 hp
  obtain ⟨f0, f1⟩ := (isB_iff _).1 hf
  have hpf := pz_far (f := L.f) hS
  have HPF := Lib.hid hpf
  have HPR := Lib.hid hpr
  have HR := Lib.hid hr
  clear hpr hp hpf hS hf hr
  obtain ⟨a1, a2, ha⟩ : ∃ a1 a2, addS l L.f L.n L.u = (a1, a2) := ⟨_, _, rfl⟩
  go_enter Try.func14, Try.ntmps14
  go_wp2_with fail
  refine HPR.out.mono ?_
  rintro e w1 ⟨rfl, b⟩
  have k1 := k0.below b k0.lt
  replace hb := hb.trans (b.mono hb.size)
  clear b HPR k0 t0 t1
  obtain ⟨t0, t1, -⟩ := k1.all
  have hadd := rAdd_any w1 B C l cl (HA.out.below (hb.mono hB)) (Nat.le_trans hB hb.size) hll L.f L.n L.u
  rw [ha] at hadd
  have HAD := Lib.hid hadd
  clear hadd
  have HAA := Lib.hid ha
  clear ha
  go_wp2_with fail
  refine HAD.out.mono ?_
  rintro e w2 ⟨rfl, b⟩
  have k2 := k1.below b k1.lt
  replace hb := hb.trans (b.mono hb.size)
  clear b HAD k1 t0 t1
  obtain ⟨t0, t1, -⟩ := k2.all
  by_cases hz : a2 = 0
  case neg =>
    have hz2 : (a2 != 0) = true := by simpa using hz
    have hr := HR.out
    rw [HAA.out, if_neg hz] at hr
    injection hr with h1 h2
    subst h1 h2
    clear HR
    go_wp2
    go_ret2
    exact ⟨rfl, hb⟩
  subst hz
  have hr := HR.out
  rw [HAA.out, if_pos rfl] at hr
  obtain ⟨g1, -, -⟩ := add_ge (l := l) (d := L.f) (n := L.n) (u := L.u) (by rw [HAA.out])
  have g2 := add_le (l := l) (d := L.f) (n := L.n) (u := L.u) (by rw [HAA.out])
  rw [HAA.out] at g1 g2
  simp only at hr g1 g2
  obtain ⟨N, hN⟩ : ∃ N : Nat, (a1 - L.f).toNat = N := ⟨_, rfl⟩
  have hNN : a1 - L.f = (N : Int) := by omega
  rw [hN] at hr
  have HR2 := Lib.hid hr
  have HNN := Lib.hid hNN
  have Nb : (N : Int) ≤ 1000000 := by omega
  clear hr HR hN hNN
  go_wp2_with fail
  clear t0 t1
  go_loopw [8, 9] (fun v dv wr => ∃ (k : Nat) (q : Int), v = .int .i64 q ∧ dv = .int .i64 (L.f + (k : Int)) ∧ 0 ≤ q ∧ q ≤ (N : Int) ∧ L.f + (k : Int) + q ≤ 2000000 ∧ Hid (q = (N : Int) - (cntU (pzB L.f L.S) L.f k : Int) ∧ (q = 0 → 0 < N → pzB L.f L.S (L.f + (k : Int)) = false) ∧ (N = 0 → k = 0)) ∧ Blk wr w.heap.size 26 #[.string L.id, .int .i64 L.n, .int .i64 L.u, .int .i64 L.f, .slice A L.S.length c] ∧ Below w.heap.size w wr) (fun v dv _ => (intOf v).toNat + (1000001 - intOf dv).toNat)
  case atStart => exact ⟨0, (N : Int), by rw [HNN.out], by go_num, by omega, by omega, by omega, Lib.hid ⟨by show (N : Int) = (N : Int) - 0; omega, fun h1 h2 => by omega, fun _ => rfl⟩, k2, hb⟩
  case round =>
    clear hb k2
    obtain ⟨k, q, rfl, rfl, q0, q1, qb, hq, k2, hb⟩ := hrel
    obtain ⟨t0, t1, -⟩ := k2.all
    by_cases hlt : 0 < q
    · have hpa := rPaused_any wr L (L.f + (k : Int) + 1) B A c (HX.out.below (hb.mono hB)) (Nat.le_trans hB hb.size)
      have hcs : cntU (pzB L.f L.S) L.f (k + 1) = cntU (pzB L.f L.S) L.f k + if pzB L.f L.S (L.f + 1 + (k : Int)) = true then 0 else 1 := rfl
      rw [show L.f + 1 + (k : Int) = L.f + (k : Int) + 1 by omega] at hcs
      have hfar := HPF.out (L.f + (k : Int) + 1)
      have hk1 : L.f + ((k + 1 : Nat) : Int) = L.f + (k : Int) + 1 := by omega
      cases hz : pzB L.f L.S (L.f + (k : Int) + 1) with
      | true =>
        rw [hz] at hpa
        rw [hz, if_pos rfl] at hcs
        have hlow : L.f + (k : Int) + 1 < 1000000 := by
          rcases Int.lt_or_le (L.f + (k : Int) + 1) 1000000 with c2 | c2
          · exact c2
          · rw [hfar c2] at hz; cases hz
        have HPA := Lib.hid hpa
        have HCS := Lib.hid hcs
        have HK1 := Lib.hid hk1
        clear hpa hcs hfar hz hk1
        go_wp2_with fail
        refine HPA.out.mono ?_
        rintro e w3 ⟨rfl, b⟩
        have k3 := k2.below b k2.lt
        replace hb := hb.trans (b.mono hb.size)
        clear b k2 t0 t1
        go_wp2
        go_roundw
        case rel => exact ⟨k + 1, q, rfl, by rw [HK1.out], q0, q1, by omega, Lib.hid ⟨by rw [HCS.out]; exact hq.out.1, fun h1 => by omega, fun h1 => by omega⟩, k3, hb⟩
        case measure => simp [intOf]; omega
      | false =>
        rw [hz] at hpa
        rw [hz, if_neg (by simp)] at hcs
        have HPA := Lib.hid hpa
        have HCS := Lib.hid hcs
        have HZ := Lib.hid hz
        have HK1 := Lib.hid hk1
        clear hpa hcs hfar hz hk1
        go_wp2_with fail
        refine HPA.out.mono ?_
        rintro e w3 ⟨rfl, b⟩
        have k3 := k2.below b k2.lt
        replace hb := hb.trans (b.mono hb.size)
        clear b k2 t0 t1
        go_wp2
        go_roundw
        case rel => exact ⟨k + 1, q - 1, by go_num, by rw [HK1.out], by omega, by omega, by omega, Lib.hid ⟨by have := hq.out.1; have := HCS.out; omega, fun _ _ => by rw [HK1.out]; exact HZ.out, fun h1 => by omega⟩, k3, hb⟩
        case measure => simp [intOf]; omega
    · obtain rfl : q = 0 := by omega
      have hnth : nthU (pzB L.f L.S) L.f N = L.f + (k : Int) := by
        obtain ⟨h1, h2, h3⟩ := hq.out
        refine nthU_uniq HPF.out (by omega) (fun h0 => by rw [h3 h0]; simp) (fun h0 => h2 rfl h0) ?_
        rw [show (L.f + (k : Int) - L.f).toNat = k by omega]
        omega
      have hr := HR2.out
      rw [hnth] at hr
      have HR3 := Lib.hid hr
      clear hr hnth hq t0 t1
      go_wp2_with fail
      go_loopw [9] (fun dv wr => ∃ x : Int, 0 ≤ x ∧ x ≤ 3000000 ∧ dv = .int .i64 x ∧ Hid (openS (pzB L.f L.S) l x = (r1, r2)) ∧ Blk wr w.heap.size 26 #[.string L.id, .int .i64 L.n, .int .i64 L.u, .int .i64 L.f, .slice A L.S.length c] ∧ Below w.heap.size w wr) (fun dv _ => (1000001 - intOf dv).toNat)
      case atStart => exact ⟨L.f + (k : Int), by omega, by omega, rfl, HR3, k2, hb⟩
      case round =>
        clear hb k2
        obtain ⟨x, x0, x1, rfl, hx, k2, hb⟩ := hrel
        obtain ⟨t0, t1, -⟩ := k2.all
        by_cases hle : x ≤ 1000000
        · have hin := openS_in (p := pzB L.f L.S) (l := l) hle
          rw [hx.out] at hin
          have hpa := rPaused_any wr L x B A c (HX.out.below (hb.mono hB)) (Nat.le_trans hB hb.size)
          cases hz : pzB L.f L.S x with
          | true =>
            rw [hz] at hpa hin
            rw [if_neg (by simp)] at hin
            have HIN := Lib.hid hin.symm
            have HPA := Lib.hid hpa
            clear hin hpa hz hx
            go_wp2_with fail
            refine HPA.out.mono ?_
            rintro e w3 ⟨rfl, b⟩
            have k3 := k2.below b k2.lt
            replace hb := hb.trans (b.mono hb.size)
            clear b k2 t0 t1
            go_wp2
            go_roundw
            case rel => exact ⟨x + 1, by omega, by omega, by go_num, HIN, k3, hb⟩
            case measure => simp [intOf]; omega
          | false =>
            rw [hz] at hpa hin
            have hwk := fun W (b : Below w.heap.size w W) => rWork_any W B C l cl (HA.out.below (b.mono hB)) hll x
            cases ho : opB l x with
            | true =>
              rw [ho, if_pos (by rfl)] at hin
              rw [ho] at hwk
              injection hin with h1 h2
              subst h1 h2
              have HWK := Lib.hid hwk
              have HPA := Lib.hid hpa
              clear hwk hpa hz ho hx HR2 HR3
              go_wp2_with fail
              refine HPA.out.mono ?_
              rintro e w3 ⟨rfl, b⟩
              replace hb := hb.trans (b.mono hb.size)
              clear b k2 t0 t1
              go_wp2_with fail
              refine (HWK.out _ hb).mono ?_
              rintro e w4 ⟨rfl, rfl⟩
              go_wp2
              go_ret2
              exact ⟨rfl, hb⟩
            | false =>
              rw [ho, if_neg (by simp)] at hin
              rw [ho] at hwk
              have HIN := Lib.hid hin.symm
              have HWK := Lib.hid hwk
              have HPA := Lib.hid hpa
              clear hin hwk hpa hz ho hx
              go_wp2_with fail
              refine HPA.out.mono ?_
              rintro e w3 ⟨rfl, b⟩
              have k3 := k2.below b k2.lt
              replace hb := hb.trans (b.mono hb.size)
              clear b k2 t0 t1
              go_wp2_with fail
              refine (HWK.out _ hb).mono ?_
              rintro e w4 ⟨rfl, rfl⟩
              go_wp2
              go_roundw
              case rel => exact ⟨x + 1, by omega, by omega, by go_num, HIN, k3, hb⟩
              case measure => simp [intOf]; omega
        · have hin := openS_out (p := pzB L.f L.S) (l := l) (x := x) (by omega)
          rw [hx.out] at hin
          injection hin with h1 h2
          subst h1 h2
          have d1 : decide (x ≤ 1000000) = false := decide_eq_false hle
          have d2 : decide (1000000 < x) = true := decide_eq_true (by omega)
          clear hx HR2 HR3
          go_wp2
          go_ret2
          exact ⟨rfl, hb⟩
end Go.Proofs.Ytogjcejiojmmbaa
