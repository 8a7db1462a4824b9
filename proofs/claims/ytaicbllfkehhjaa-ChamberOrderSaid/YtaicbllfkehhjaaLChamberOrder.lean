/- pandectlaw37.ChamberOrder: for every input the law returns true, and each argument reads afterwards as it read before. No condition. -/
import Derived.Test.YtaicbllfkehhjaaZ9
import Derived.Test.YtaicbllfkehhjaaRows
import Derived.WalkKit
import Derived.ProofKit
import Derived.OpenShut
import Derived.ShutString
import Derived.ChangeOld
import Derived.Below

/- ChamberOrder, walked. -/
namespace Go.Proofs.Ytaicbllfkehhjaa
open Go.RowKit

set_option maxRecDepth 100000 in
set_option maxHeartbeats 8000000 in
theorem corder_walk (w : World) (raw : Int) (hr : (Lit.int .u8 raw).wf = true) (A1 : Option Addr) (cap1 : Nat) (l : List OpC) (h1 : OpsIn w w.heap.size A1 l) (A2 : Option Addr) (cap2 : Nat) (one : List OpC) (h2 : OpsIn w w.heap.size A2 one)
    (A3 : Option Addr) (cap3 : Nat) (two : List OpC) (h3 : OpsIn w w.heap.size A3 two) :
    Calls Try.prog 5 #[.int .u8 raw, .slice A1 l.length cap1, .slice A2 one.length cap2, .slice A3 two.length cap3] w fun e w' => e = .returned (.bool true) ∧ Below w.heap.size w w' := by
  obtain ⟨n, hn, hn1, hn5⟩ := num_nat raw
  have hraw := wf_u8 hr
  have HFL := Lib.hid (fun W (hW : Below w.heap.size w W) => few_any W A1 cap1 l ((h1.1.below hW).wide hW.size) h1.2.2)
  have HFO := Lib.hid (fun W (hW : Below w.heap.size w W) => few_any W A2 cap2 one ((h2.1.below hW).wide hW.size) h2.2.2)
  have HFT := Lib.hid (fun W (hW : Below w.heap.size w W) => few_any W A3 cap3 two ((h3.1.below hW).wide hW.size) h3.2.2)
  have HH1 := Lib.hid h1
  have HH2 := Lib.hid h2
  have HH3 := Lib.hid h3
  have hl1 := h1.2.2
  have hl2 := h2.2.2
  have hl3 := h3.2.2
  obtain ⟨N1, hN1⟩ : ∃ N, l.length = N := ⟨_, rfl⟩
  obtain ⟨N2, hN2⟩ : ∃ N, one.length = N := ⟨_, rfl⟩
  obtain ⟨N3, hN3⟩ : ∃ N, two.length = N := ⟨_, rfl⟩
  have HN1 := Lib.hid hN1
  have HN2 := Lib.hid hN2
  have HN3 := Lib.hid hN3
  rw [hN1] at HFL hl1 ⊢
  rw [hN2] at HFO hl2 ⊢
  rw [hN3] at HFT hl3 ⊢
  have g1 : fewB l = true → N1 ≤ 60 := fun e => hN1 ▸ fewB_len e
  have g2 : fewB one = true → N2 ≤ 60 := fun e => hN2 ▸ fewB_len e
  have g3 : fewB two = true → N3 ≤ 60 := fun e => hN3 ▸ fewB_len e
  have HG1 := Lib.hid g1
  have HG2 := Lib.hid g2
  have HG3 := Lib.hid g3
  have HNUM := Lib.hid (show ∀ W, Calls Try.prog 23 #[.int .u8 raw] W fun e w' => e = .returned (.int .i64 (n : Int)) ∧ w' = W from fun W => by
    rw [← hn]
    exact number_any W raw hraw)
  clear h1 h2 h3 hN1 hN2 hN3 hr hn hraw g1 g2 g3
  obtain ⟨F1, hF1⟩ : ∃ b, fewB l = b := ⟨_, rfl⟩
  obtain ⟨F2, hF2⟩ : ∃ b, fewB one = b := ⟨_, rfl⟩
  obtain ⟨F3, hF3⟩ : ∃ b, fewB two = b := ⟨_, rfl⟩
  rw [hF1] at HFL HG1
  rw [hF2] at HFO HG2
  rw [hF3] at HFT HG3
  clear hF1 hF2 hF3
  go_enter Try.func5, Try.ntmps5
  go_upto_region 2 with (go_at_call 8; refine (head_any w).mono ?_; rintro e w1 ⟨rfl, b1⟩)
  have B1 := Lib.hid b1
  clear b1
  cases F1 with
  | false =>
    go_wp2_with (go_at_call 9; refine (HFL.out _ B1.out).mono ?_; rintro e w2 ⟨rfl, b2⟩)
    go_ret
    exact ⟨rfl, B1.out.trans (b2.mono B1.out.size)⟩
  | true =>
    cases F2 with
    | false =>
      go_wp2_with (first | (go_at_call 9; refine (HFL.out _ B1.out).mono ?_; clear HFL; rintro e w2 ⟨rfl, b2⟩; have B2 := Lib.hid (B1.out.trans (b2.mono B1.out.size)); clear b2) | (go_at_call 9; refine (HFO.out _ B2.out).mono ?_; rintro e w3 ⟨rfl, b3⟩))
      go_ret
      exact ⟨rfl, B2.out.trans (b3.mono B2.out.size)⟩
    | true =>
      cases F3 with
      | false =>
        go_wp2_with (first | (go_at_call 9; refine (HFL.out _ B1.out).mono ?_; clear HFL; rintro e w2 ⟨rfl, b2⟩; have B2 := Lib.hid (B1.out.trans (b2.mono B1.out.size)); clear b2) | (go_at_call 9; refine (HFO.out _ B2.out).mono ?_; clear HFO; rintro e w3 ⟨rfl, b3⟩; have B3 := Lib.hid (B2.out.trans (b3.mono B2.out.size)); clear b3) | (go_at_call 9; refine (HFT.out _ B3.out).mono ?_; rintro e w4 ⟨rfl, b4⟩))
        go_ret
        exact ⟨rfl, B3.out.trans (b4.mono B3.out.size)⟩
      | true =>
        have m1 := HG1.out rfl
        have m2 := HG2.out rfl
        have m3 := HG3.out rfl
        clear HG1 HG2 HG3 hl1 hl2 hl3
        go_upto_region 5 with (first | (go_at_call 9; refine (HFL.out _ B1.out).mono ?_; clear HFL; rintro e w2 ⟨rfl, b2⟩; have B2 := Lib.hid (B1.out.trans (b2.mono B1.out.size)); clear b2) | (go_at_call 9; refine (HFO.out _ B2.out).mono ?_; clear HFO; rintro e w3 ⟨rfl, b3⟩; have B3 := Lib.hid (B2.out.trans (b3.mono B2.out.size)); clear b3) | (go_at_call 9; refine (HFT.out _ B3.out).mono ?_; clear HFT; rintro e w4 ⟨rfl, b4⟩; have B4 := Lib.hid (B3.out.trans (b4.mono B3.out.size)); clear b4) | (go_at_call 23; refine (HNUM.out _).mono ?_; rintro e w5 ⟨rfl, rfl⟩))
        go_upto_region 7 with (first | (go_at_call 10; refine (Live.new w _ B4.out n hn1 (by omega)).mono ?_; rintro e w5 ⟨y1, V1, rfl, k1, -, c1⟩; have L1 := Lib.hid k1; clear k1 c1) | (go_at_call 10; refine (Live.new w _ L1.out.bel n hn1 (by omega)).mono ?_; rintro e w6 ⟨y2, V2, rfl, k2, fo2, c2⟩; have TW := Lib.hid (show Two w w6 y1 V1 y2 V2 n (newS n) (newS n) from ⟨L1.out.same c2, k2, fun g a b => by have := L1.out.at_.lt a; have := fo2 g b; omega⟩); clear k2 fo2 c2))
        have hok0 : Ok n 0 (newS n) := Ok.new n
        have HOK := Lib.hid (fun k => (foldP_ok (l.take k) (newS n) 0 hok0 (by have := take_len l k; have := HN1.out; omega)).mono (show 0 + (l.take k).length ≤ 60 by have := take_len l k; have := HN1.out; omega))
        have hn5i : (n : Int) ≤ 5 := by omega
        have hm1 : (N1 : Int) ≤ 60 := by omega
        have hm2 : (N2 : Int) ≤ 60 := by omega
        have hm3 : (N3 : Int) ≤ 60 := by omega
        clear hok0 B4 L1
        go_wp2_with fail
        go_loopw [15] (fun v wr => ∃ k : Nat, k ≤ N1 ∧ v = .int .i64 (k : Int) ∧ ∃ V1 V2, Hid (Two w wr y1 V1 y2 V2 n ((l.take k).foldl (stepP n) (newS n)) ((l.take k).foldl (stepP n) (newS n)))) (fun v _ => N1 - (intOf v).toNat)
        case atStart => exact ⟨0, Nat.zero_le _, rfl, V1, V2, TW⟩
        case round =>
          obtain ⟨k, hk, rfl, U1, U2, TK⟩ := hrel
          clear TW
          by_cases hlt : k < N1
          · obtain ⟨o, ho⟩ : ∃ o, l[k]? = some o := ⟨_, List.getElem?_eq_getElem (by rw [HN1.out]; exact hlt)⟩
            have hops := HH1.out.1.below TK.out.a.bel
            obtain ⟨g, off, rfl, kd⟩ := op_kind hops ho
            have hk0 : (0 : Int) ≤ (k : Int) := by omega
            have hk1 : (k : Int) < (N1 : Int) := by omega
            have HOPS := Lib.hid hops
            have HO := Lib.hid ho
            have HSTEP := Lib.hid (fold_take (stepP n) (newS n) ho)
            have HFIT := Lib.hid ((HOK.out k).fit (by decide))
            obtain ⟨D, hD⟩ : ∃ D, (l.take k).foldl (stepP n) (newS n) = D := ⟨_, rfl⟩
            rw [hD] at TK HSTEP HFIT
            clear hops ho hD
            go_upto_region 12 with fail
            go_cut [70] from 57 to 69 (fun v wx => v = .bool (decide (o.kind = 0 ∨ o.kind = 1)) ∧ wx = wr)
            case first =>
              by_cases e0 : o.kind = 0
              · rw [e0] at kd
                go_wp2_with fail
                go_meet
                exact ⟨by simp [e0], rfl⟩
              · have d0 : (o.kind == 0) = false := by simpa using e0
                go_wp2_with fail
                go_meet
                exact ⟨by simp [e0]; rfl, rfl⟩
            case rest =>
              obtain ⟨rfl, rfl⟩ := hcut
              have HOKO := Lib.hid (within_ok (HH1.out.2.1 o (List.mem_of_getElem? HO.out)) n)
              by_cases h01 : o.kind = 0 ∨ o.kind = 1
              · have hst : stepP n D o = (doI n D (withinS o n)).1 := if_pos h01
                rw [hst] at HSTEP
                rw [decide_eq_true h01]
                have hd1 : decide (o.kind = 0 ∨ o.kind = 1) = true := decide_eq_true h01
                clear kd hst h01
                go_upto_region 14 with (first | (refine wpList_val rfl rfl (.agg (opA o)) (exec_load_ops (x := .tmp 74) rfl rfl HOPS.out rfl HO.out) ?_) | (go_at_call 24; refine (within_any _ o n hn1 hn5).mono ?_; rintro e w7 ⟨rfl, b7⟩; have T7 := Lib.hid (TK.out.same b7); clear b7) | (go_at_call 14; refine (T7.out.a.run HFIT.out (withinS o n) HOKO.out).mono ?_; rintro e w8 ⟨rfl, U3, h8, t8⟩; have T8 := Lib.hid (T7.out.left h8 t8); clear h8 t8))
                have HOPS8 := Lib.hid (HH1.out.1.below T8.out.a.bel)
                clear HOPS T7 TK
                go_wp2_with (first | (refine wpList_val rfl rfl (.agg (opA o)) (exec_load_ops (x := .tmp 82) rfl rfl HOPS8.out rfl HO.out) ?_) | (go_at_call 24; refine (within_any _ o n hn1 hn5).mono ?_; rintro e w9 ⟨rfl, b9⟩; have T9 := Lib.hid (T8.out.same b9); clear b9) | (go_at_call 14; refine (T9.out.b.run HFIT.out (withinS o n) HOKO.out).mono ?_; rintro e w10 ⟨rfl, U4, h10, t10⟩; have T10 := Lib.hid (T9.out.symm.left h10 t10).symm; clear h10 t10))
                exact ⟨⟨k + 1, by omega, by go_num, U3, U4, Lib.hid (by rw [HSTEP.out]; exact T10.out)⟩, by simp [intOf]; omega⟩
              · have hst : stepP n D o = D := if_neg h01
                rw [hst] at HSTEP
                rw [decide_eq_false h01]
                clear kd hst h01
                go_wp2_with fail
                exact ⟨⟨k + 1, by omega, by go_num, U1, U2, Lib.hid (by rw [HSTEP.out]; exact TK.out)⟩, by simp [intOf]; omega⟩
          · obtain rfl : k = N1 := by omega
            obtain ⟨Z, GZ, -, LZ⟩ := HOK.out k
            rw [← HN1.out, List.take_length] at TK GZ LZ
            obtain ⟨CL, hCL⟩ : ∃ D, l.foldl (stepP n) (newS n) = D := ⟨_, rfl⟩
            rw [hCL] at TK GZ LZ
            have HFO := Lib.hid (show ∀ k, Gd Z n ((one.take k).foldl (stepD n) CL) ∧ LB 120 ((one.take k).foldl (stepD n) CL) from fun k => by
              obtain ⟨a, b⟩ := foldD_ok hn1 (one.take k) CL 60 GZ LZ
              exact ⟨a, b.mono (by have := take_len one k; have := HN2.out; omega)⟩)
            have HFT := Lib.hid (show ∀ k, Gd Z n ((two.take k).foldl (stepD n) CL) ∧ LB 120 ((two.take k).foldl (stepD n) CL) from fun k => by
              obtain ⟨a, b⟩ := foldD_ok hn1 (two.take k) CL 60 GZ LZ
              exact ⟨a, b.mono (by have := take_len two k; have := HN3.out; omega)⟩)
            have TL := TK
            clear hCL GZ LZ HOK TK
            go_wp2_with fail
            go_loopw [16] (fun v wr => ∃ k : Nat, k ≤ N2 ∧ v = .int .i64 (k : Int) ∧ ∃ V1 V2, Hid (Two w wr y1 V1 y2 V2 n (((one.take k).foldl (stepD n) CL)) (CL))) (fun v _ => N2 - (intOf v).toNat)
            case atStart => exact ⟨0, Nat.zero_le _, rfl, _, _, TL⟩
            case round =>
              obtain ⟨k, hk, rfl, U1, U2, TK⟩ := hrel
              clear TL
              by_cases hlt : k < N2
              · obtain ⟨o, ho⟩ : ∃ o, one[k]? = some o := ⟨_, List.getElem?_eq_getElem (by rw [HN2.out]; exact hlt)⟩
                have hops := HH2.out.1.below TK.out.a.bel
                obtain ⟨g, off, rfl, kd⟩ := op_kind hops ho
                have hk0 : (0 : Int) ≤ (k : Int) := by omega
                have hk1 : (k : Int) < (N2 : Int) := by omega
                have HOPS := Lib.hid hops
                have HO := Lib.hid ho
                have HSTEP := Lib.hid (fold_take (stepD n) CL ho)
                have HFIT := Lib.hid ((HFO.out k).1.fit (HFO.out k).2 (by decide))
                obtain ⟨D, hD⟩ : ∃ D, (one.take k).foldl (stepD n) CL = D := ⟨_, rfl⟩
                rw [hD] at TK HSTEP HFIT
                clear hops ho hD
                go_upto_region 18 with fail
                go_cut [106] from 93 to 105 (fun v wx => v = .bool (decide (o.kind = 2 ∨ o.kind = 3)) ∧ wx = wr)
                case first =>
                  by_cases e0 : o.kind = 2
                  · rw [e0] at kd
                    go_wp2_with fail
                    go_meet
                    exact ⟨by simp [e0], rfl⟩
                  · have d0 : (o.kind == 2) = false := by simpa using e0
                    go_wp2_with fail
                    go_meet
                    exact ⟨by simp [e0]; rfl, rfl⟩
                case rest =>
                  obtain ⟨rfl, rfl⟩ := hcut
                  have HOKO := Lib.hid (within_ok (HH2.out.2.1 o (List.mem_of_getElem? HO.out)) n)
                  by_cases h01 : o.kind = 2 ∨ o.kind = 3
                  · have hst : stepD n D o = (doI n D (withinS o n)).1 := if_pos h01
                    rw [hst] at HSTEP
                    rw [decide_eq_true h01]
                    clear kd hst h01
                    go_wp2_with (first | (refine wpList_val rfl rfl (.agg (opA o)) (exec_load_ops (x := .tmp 110) rfl rfl HOPS.out rfl HO.out) ?_) | (go_at_call 24; refine (within_any _ o n hn1 hn5).mono ?_; rintro e w7 ⟨rfl, b7⟩; have T7 := Lib.hid (TK.out.same b7); clear b7) | (go_at_call 14; refine (T7.out.a.run HFIT.out (withinS o n) HOKO.out).mono ?_; rintro e w8 ⟨rfl, U3, h8, t8⟩; have T8 := Lib.hid (T7.out.left h8 t8); clear h8 t8))
                    exact ⟨⟨k + 1, by omega, by go_num, _, _, Lib.hid (by rw [HSTEP.out]; exact T8.out)⟩, by simp [intOf]; omega⟩
                  · have hst : stepD n D o = D := if_neg h01
                    rw [hst] at HSTEP
                    rw [decide_eq_false h01]
                    clear kd hst h01
                    go_wp2_with fail
                    exact ⟨⟨k + 1, by omega, by go_num, U1, U2, Lib.hid (by rw [HSTEP.out]; exact TK.out)⟩, by simp [intOf]; omega⟩
              · obtain rfl : k = N2 := by omega
                obtain ⟨GA, LAA⟩ := HFO.out k
                rw [← HN2.out, List.take_length] at TK GA LAA
                obtain ⟨CA, hCA⟩ : ∃ D, one.foldl (stepD n) CL = D := ⟨_, rfl⟩
                rw [hCA] at TK GA LAA
                have TA := TK
                clear hCA HFO TK
                go_wp2_with fail
                go_loopw [17] (fun v wr => ∃ k : Nat, k ≤ N3 ∧ v = .int .i64 (k : Int) ∧ ∃ V1 V2, Hid (Two w wr y1 V1 y2 V2 n (CA) (((two.take k).foldl (stepD n) CL)))) (fun v _ => N3 - (intOf v).toNat)
                case atStart => exact ⟨0, Nat.zero_le _, rfl, _, _, TA⟩
                case round =>
                  obtain ⟨k, hk, rfl, U1, U2, TK⟩ := hrel
                  clear TA
                  by_cases hlt : k < N3
                  · obtain ⟨o, ho⟩ : ∃ o, two[k]? = some o := ⟨_, List.getElem?_eq_getElem (by rw [HN3.out]; exact hlt)⟩
                    have hops := HH3.out.1.below TK.out.a.bel
                    obtain ⟨g, off, rfl, kd⟩ := op_kind hops ho
                    have hk0 : (0 : Int) ≤ (k : Int) := by omega
                    have hk1 : (k : Int) < (N3 : Int) := by omega
                    have HOPS := Lib.hid hops
                    have HO := Lib.hid ho
                    have HSTEP := Lib.hid (fold_take (stepD n) CL ho)
                    have HFIT := Lib.hid ((HFT.out k).1.fit (HFT.out k).2 (by decide))
                    obtain ⟨D, hD⟩ : ∃ D, (two.take k).foldl (stepD n) CL = D := ⟨_, rfl⟩
                    rw [hD] at TK HSTEP HFIT
                    clear hops ho hD
                    go_upto_region 23 with fail
                    go_cut [134] from 121 to 133 (fun v wx => v = .bool (decide (o.kind = 2 ∨ o.kind = 3)) ∧ wx = wr)
                    case first =>
                      by_cases e0 : o.kind = 2
                      · rw [e0] at kd
                        go_wp2_with fail
                        go_meet
                        exact ⟨by simp [e0], rfl⟩
                      · have d0 : (o.kind == 2) = false := by simpa using e0
                        go_wp2_with fail
                        go_meet
                        exact ⟨by simp [e0]; rfl, rfl⟩
                    case rest =>
                      obtain ⟨rfl, rfl⟩ := hcut
                      have HOKO := Lib.hid (within_ok (HH3.out.2.1 o (List.mem_of_getElem? HO.out)) n)
                      by_cases h01 : o.kind = 2 ∨ o.kind = 3
                      · have hst : stepD n D o = (doI n D (withinS o n)).1 := if_pos h01
                        rw [hst] at HSTEP
                        rw [decide_eq_true h01]
                        clear kd hst h01
                        go_wp2_with (first | (refine wpList_val rfl rfl (.agg (opA o)) (exec_load_ops (x := .tmp 138) rfl rfl HOPS.out rfl HO.out) ?_) | (go_at_call 24; refine (within_any _ o n hn1 hn5).mono ?_; rintro e w7 ⟨rfl, b7⟩; have T7 := Lib.hid (TK.out.same b7); clear b7) | (go_at_call 14; refine (T7.out.b.run HFIT.out (withinS o n) HOKO.out).mono ?_; rintro e w8 ⟨rfl, U3, h8, t8⟩; have T8 := Lib.hid (T7.out.symm.left h8 t8).symm; clear h8 t8))
                        exact ⟨⟨k + 1, by omega, by go_num, _, _, Lib.hid (by rw [HSTEP.out]; exact T8.out)⟩, by simp [intOf]; omega⟩
                      · have hst : stepD n D o = D := if_neg h01
                        rw [hst] at HSTEP
                        rw [decide_eq_false h01]
                        clear kd hst h01
                        go_wp2_with fail
                        exact ⟨⟨k + 1, by omega, by go_num, U1, U2, Lib.hid (by rw [HSTEP.out]; exact TK.out)⟩, by simp [intOf]; omega⟩
                  · obtain rfl : k = N3 := by omega
                    obtain ⟨GB, LBB⟩ := HFT.out k
                    rw [← HN3.out, List.take_length] at TK GB LBB
                    obtain ⟨CB, hCB⟩ : ∃ D, two.foldl (stepD n) CL = D := ⟨_, rfl⟩
                    rw [hCB] at TK GB LBB
                    have HGB := Lib.hid GB
                    have HLB := Lib.hid LBB
                    have HGA := Lib.hid GA
                    have HLA := Lib.hid LAA
                    have HFA := Lib.hid (finish_settled hn1 GA LAA (by decide))
                    have HFB := Lib.hid (finish_settled hn1 GB LBB (by decide))
                    have HKA := Lib.hid (finish_ok hn5 GA LAA)
                    have HKB := Lib.hid (finish_ok hn5 GB LBB)
                    have hfA := HFA.out
                    have hfB := HFB.out
                    have HSA := Lib.hid (show ∀ W V1 V2, Two w W y1 V1 y2 V2 n (finishS n CA) (finishS n CB) → Calls Try.prog 21 #[.pointer (some ⟨y1.p, 0, none⟩)] W fun e w' => e = .returned (.bool true) ∧ Below W.heap.size W w' from fun W V1 V2 h => by
                      have := h.a.settled (HKA.out.1.fit HKA.out.2 (by decide))
                      rwa [hfA.1] at this)
                    have HSB := Lib.hid (show ∀ W V1 V2, Two w W y1 V1 y2 V2 n (finishS n CA) (finishS n CB) → Calls Try.prog 21 #[.pointer (some ⟨y2.p, 0, none⟩)] W fun e w' => e = .returned (.bool true) ∧ Below W.heap.size W w' from fun W V1 V2 h => by
                      have := h.b.settled (HKB.out.1.fit HKB.out.2 (by decide))
                      rwa [hfB.1] at this)
                    have HVA := Lib.hid (show ∀ W V1 V2, Two w W y1 V1 y2 V2 n (finishS n CA) (finishS n CB) → Calls Try.prog 20 #[.pointer (some ⟨y1.p, 0, none⟩), .int .i64 0] W fun e w' => ∃ v, e = .returned v ∧ OwnCls w' W.heap.size v (walkS Z) ∧ Below W.heap.size W w' from fun W V1 V2 h => by
                      have := h.a.view (HKA.out.1.fit HKA.out.2 (by decide)) 0
                      rwa [view_zero hn1, hfA.2] at this)
                    have HVB := Lib.hid (show ∀ W V1 V2, Two w W y1 V1 y2 V2 n (finishS n CA) (finishS n CB) → Calls Try.prog 20 #[.pointer (some ⟨y2.p, 0, none⟩), .int .i64 0] W fun e w' => ∃ v, e = .returned v ∧ OwnCls w' W.heap.size v (walkS Z) ∧ Below W.heap.size W w' from fun W V1 V2 h => by
                      have := h.b.view (HKB.out.1.fit HKB.out.2 (by decide)) 0
                      rwa [view_zero hn1, hfB.2] at this)
                    have lZ : (walkS Z).length ≤ 1000000 := by
                      have := view_len (HKA.out.1.fit HKA.out.2 (by decide)).sane 0
                      rwa [view_zero hn1, hfA.2] at this
                    have HLZ := Lib.hid lZ
                    clear hfA hfB lZ HFA HFB
                    clear GB LBB GA LAA HFT hCB
                    go_upto_region 27 with (first | (go_at_call 25; refine (TK.out.a.finish hn5 HGA.out (HLA.out.mono (by decide))).mono ?_; rintro e w11 ⟨⟨r1, rfl⟩, V11, h11, t11⟩; have T11 := Lib.hid (TK.out.left h11 t11); clear h11 t11 TK) | (go_at_call 25; refine (T11.out.b.finish hn5 HGB.out (HLB.out.mono (by decide))).mono ?_; rintro e w12 ⟨⟨r2, rfl⟩, V12, h12, t12⟩; have T12 := Lib.hid (T11.out.symm.left h12 t12).symm; clear h12 t12 T11))
                    obtain ⟨LZ, hLZ⟩ : ∃ L, walkS Z = L := ⟨_, rfl⟩
                    rw [hLZ] at HVA HVB HLZ
                    obtain ⟨NZ, hNZ⟩ : ∃ N, LZ.length = N := ⟨_, rfl⟩
                    have HNZ := Lib.hid hNZ
                    have HSM := Lib.hid (show ∀ (W : World) (B1 B2 : Nat) (A1 A2 : Option Addr) (c1 c2 : Nat), ClsAt W B1 A1 LZ → ClsAt W B2 A2 LZ → Calls Try.prog 19 #[.slice A1 NZ c1, .slice A2 NZ c2] W fun e w' => e = .returned (.bool true) ∧ ∃ q, w' = W.drewN q from fun W B1 B2 A1 A2 c1 c2 k1 k2 => by
                      have := rSame_any W B1 B2 A1 A2 c1 c2 LZ LZ k1 k2 HLZ.out HLZ.out
                      rwa [decide_eq_true rfl, HNZ.out] at this)
                    clear hLZ hNZ
                    go_wp2_with (first | (go_at_call 21; refine (HSA.out _ _ _ T12.out).mono ?_; clear HSA; rintro e w13 ⟨rfl, b⟩; have T13 := Lib.hid (T12.out.same b); clear T12 b) | (go_at_call 21; refine (HSB.out _ _ _ T13.out).mono ?_; clear HSB; rintro e w14 ⟨rfl, b⟩; have T14 := Lib.hid (T13.out.same b); clear T13 b) | (go_at_call 20; refine (HVA.out _ _ _ T14.out).mono ?_; clear HVA; rintro e w15 ⟨v1, rfl, own1, b⟩; have T15 := Lib.hid (T14.out.same b); have O15 := Lib.hid own1; obtain ⟨A5, c5, rfl, -⟩ := own1.form; rw [HNZ.out]; clear T14 b own1) | (go_at_call 20; refine (HVB.out _ _ _ T15.out).mono ?_; clear HVB; rintro e w16 ⟨v2, rfl, own2, b⟩; have T16 := Lib.hid (T15.out.same b); have O16 := Lib.hid (O15.out.below b); obtain ⟨A6, c6, rfl, hc6⟩ := own2.form; rw [HNZ.out]; obtain ⟨A7, c7, hv7, hc7⟩ := O16.out.form; injection hv7 with hA7 _ _; subst hA7; have HC6 := Lib.hid hc6; have HC7 := Lib.hid hc7; clear T15 O15 b own2 hc6 hc7) | (go_at_call 19; refine (HSM.out _ _ _ _ _ _ _ HC7.out HC6.out).mono ?_; rintro e w17 ⟨rfl, q, rfl⟩))
                    go_ret
                    exact ⟨rfl, below_drewN T16.out.a.bel q⟩
end Go.Proofs.Ytaicbllfkehhjaa

/- pandectlaw37.ChamberOrder: for every input the law returns true, and each argument reads afterwards as it read before. No condition. -/
namespace Go.Proofs.Ytaicbllfkehhjaa.chamberOrderDone
open Go.ChangeShapes Go.WideShapes Go.ChangeAt Go.RowKit
open Go.ChangeMaps (open_string shut_string)
set_option linter.unusedVariables false

theorem own : ownKnob Try.prog.godebug = none := by kernel_rfl
theorem laidOut : laidOutB Try.prog = true := by kernel_rfl

set_option maxRecDepth 100000 in
theorem lifted (os : Os) (started : os.Started) (H : Type) (enc : TypeId × Value → H) :
    ReturnsInHanded {} Try.checked os 5 .any (Rows.chamberOrderSpec.pre6 enc Try.prog Try.f5 Rows.chamberOrderRow.domain false) (Rows.chamberOrderSpec.post enc Try.prog Try.f5 false true false false) := by
  refine returnsInHanded_of_change (C := Try.checked) own started (by kernel_rfl) Try.func5
    (ChangeSpec.witness6 (enc := enc) (C := Try.checked) false ⟨#[], #[.int .u8 0, .slice none 0 0, .slice none 0 0, .slice none 0 0], []⟩ 8 (by kernel_rfl) (by kernel_rfl) (by kernel_rfl) (by kernel_rfl)) ?_
  intro W base args ds gs before hval0 hW hcnd _
  have hval : ∀ (j : Nat) t v, Try.f5.params[j]? = some t → args[j]? = some v → Value.okWide Try.prog W .any base t v := hval0
  have hW' := hW
  obtain ⟨p, q, hA0, hV, rfl, hfz, hnd⟩ := hW
  have hA : DataW.TrodAll enc Try.prog W 0 (fun _ => true) true Try.f5.params.toList args.toList ds p := hA0
  rw [Try.params5] at hA hval
  obtain ⟨v0, vs0, d0, ds0, p0, q0, hargs, rfl, rfl, h0, r0⟩ := trodAll_cons hA
  obtain ⟨v1, vs1, d1, ds1, p1, q1, rfl, rfl, rfl, h1, r1⟩ := trodAll_cons r0
  obtain ⟨v2, vs2, d2, ds2, p2, q2, rfl, rfl, rfl, h2, r2⟩ := trodAll_cons r1
  obtain ⟨v3, vs3, d3, ds3, p3, q3, rfl, rfl, rfl, h3, r3⟩ := trodAll_cons r2
  obtain ⟨rfl, rfl, rfl⟩ := trodAll_nil r3
  obtain rfl : args = #[v0, v1, v2, v3] := by cases args; simp_all
  obtain ⟨rfl, rfl⟩ := trodVars_none hV
  obtain ⟨a0, rfl, rfl, rfl, w0⟩ := open_int Try.underlying5 (hval 0 5 v0 rfl rfl) h0
  obtain ⟨a1, len1, cap1, rfl⟩ := okWide_slice Try.underlying22 (hval 1 22 v1 rfl rfl)
  have k1 := h1
  have lt1 : ∀ x ∈ p1, x.block < W.heap.size := by obtain ⟨m, hm⟩ := k1; exact DataW.trod_lt m _ _ _ hm
  obtain ⟨l1, hl1, z1⟩ := ops_in h1
  subst hl1
  obtain ⟨a2, len2, cap2, rfl⟩ := okWide_slice Try.underlying22 (hval 2 22 v2 rfl rfl)
  have k2 := h2
  have lt2 : ∀ x ∈ p2, x.block < W.heap.size := by obtain ⟨m, hm⟩ := k2; exact DataW.trod_lt m _ _ _ hm
  obtain ⟨l2, hl2, z2⟩ := ops_in h2
  subst hl2
  obtain ⟨a3, len3, cap3, rfl⟩ := okWide_slice Try.underlying22 (hval 3 22 v3 rfl rfl)
  have k3 := h3
  have lt3 : ∀ x ∈ p3, x.block < W.heap.size := by obtain ⟨m, hm⟩ := k3; exact DataW.trod_lt m _ _ _ hm
  obtain ⟨l3, hl3, z3⟩ := ops_in h3
  subst hl3
  clear hA0 hval0
  refine (corder_walk W a0 w0 a1 cap1 l1 z1 a2 cap2 l2 z2 a3 cap3 l3 z3).mono fun e W' ⟨he, bel⟩ => ?_
  subst he
  exact ⟨_, rfl, _, _, _, [], _, [], hW', trodAll_mk1 (shut_bool Try.underlying4 _), (trodAll_cons_mk (shut_int Try.underlying5 w0) (trodAll_cons_mk (Below.trod laidOut (by kernel_rfl) (of_decide_eq_true (by kernel_rfl)) k1 bel lt1) (trodAll_cons_mk (Below.trod laidOut (by kernel_rfl) (of_decide_eq_true (by kernel_rfl)) k2 bel lt2) (trodAll_cons_mk (Below.trod laidOut (by kernel_rfl) (of_decide_eq_true (by kernel_rfl)) k3 bel lt3) trodAll_mk0)))), rfl, bel.frame _, fun h => by cases h⟩

theorem over : Rows.chamberOrderRow.holds Try.pinned (OpenSpec.ofChange Rows.chamberOrderSpec) :=
  OpenClaim.holds_of_wide 5 Try.f5 rfl rfl rfl rfl rfl rfl rfl ⟨rfl, rfl, rfl, rfl, rfl⟩ rfl rfl rfl rfl rfl (by kernel_rfl) Try.func5 (by kernel_rfl)
    (of_decide_eq_true (by kernel_rfl)) (by unfold Func.isWrapper; first | (rw [if_pos (by decide +kernel)]; kernel_rfl) | (rw [if_neg (by decide +kernel)]; exact ⟨rfl, rfl⟩))
    (fun os started H enc _ => lifted os started H enc)

/-- For every input ChamberOrder returns true; the input reads as it did. -/
theorem proved : Rows.ChamberOrderSaid := over
end Go.Proofs.Ytaicbllfkehhjaa.chamberOrderDone
