/- Part 14 of what the laws of this seat stand on: Oe. -/
import Derived.Test.YtaicbllfkehhjaaY13
import Derived.Deep.CutBlock

/- ChamberMatchesReference, walked. -/
namespace Go.Proofs.Ytaicbllfkehhjaa
open Go.RowKit

set_option maxRecDepth 100000 in
set_option maxHeartbeats 8000000 in
theorem cmatch37_walk (w : World) (s : Int) (A1 : Option Addr) (cap1 : Nat) (l : List OpC) (h1 : OpsIn w w.heap.size A1 l) :
    Calls Try.prog 3 #[.int .i64 s, .slice A1 l.length cap1] w fun e w' => e = .returned (.bool true) ∧ Below w.heap.size w w' := by
  have HFL := Lib.hid (fun W (hW : Below w.heap.size w W) => few_any W A1 cap1 l ((h1.1.below hW).wide hW.size) h1.2.2)
  have HH1 := Lib.hid h1
  have hl1 := h1.2.2
  obtain ⟨N1, hN1⟩ : ∃ N, l.length = N := ⟨_, rfl⟩
  have HN1 := Lib.hid hN1
  rw [hN1] at HFL hl1 ⊢
  have g1 : fewB l = true → N1 ≤ 60 := fun e => hN1 ▸ fewB_len e
  have HG1 := Lib.hid g1
  have HCN := Lib.hid (fun W (hW : Below w.heap.size w W) => cnew_both hW s)
  have HRN := Lib.hid (fun W pc (hW : Half w W pc (nS s)) => rnew_both s hW)
  obtain ⟨n, hn⟩ : ∃ n, nS s = n := ⟨_, rfl⟩
  obtain ⟨E, hE⟩ : ∃ E, errS s = E := ⟨_, rfl⟩
  rw [hn, hE] at HRN
  rw [hn, hE] at HCN
  have hn60 : n ≤ 60 := hn ▸ nS_le s
  clear h1 hN1 g1 hn hE
  obtain ⟨F1, hF1⟩ : ∃ b, fewB l = b := ⟨_, rfl⟩
  rw [hF1] at HFL HG1
  clear hF1
  go_enter Try.func3, Try.ntmps3
  go_upto_region 2 with (go_at_call 8; refine (head_any w).mono ?_; rintro e w1 ⟨rfl, b1⟩)
  have B1 := Lib.hid b1
  clear b1
  cases F1 with
  | false =>
    go_wp2_with (go_at_call 9; refine (HFL.out _ B1.out).mono ?_; rintro e w2 ⟨rfl, b2⟩)
    go_ret
    exact ⟨rfl, B1.out.trans (b2.mono B1.out.size)⟩
  | true =>
    have m1 := HG1.out rfl
    clear HG1 hl1
    go_upto_region 6 with (first | (go_at_call 9; refine (HFL.out _ B1.out).mono ?_; clear HFL; rintro e w2 ⟨rfl, b2⟩; have B2 := Lib.hid (B1.out.trans (b2.mono B1.out.size)); clear b2) | (go_at_call 10; refine (HCN.out _ B2.out).mono ?_; rintro e w3 ⟨pc, rfl, k3⟩; have H3 := Lib.hid k3; clear k3) | (go_at_call 11; refine (HRN.out _ _ H3.out).mono ?_; rintro e w4 ⟨pr, rfl, k4⟩; have H4 := Lib.hid k4; clear k4))
    clear B1 B2 H3 HCN HRN
    have hEE : (E != E) = false := by simp
    go_cut [43] from 34 to 42 (fun v wx => v = .bool false ∧ wx = w4)
    case first =>
      rcases H4.out.h with ⟨_, e2, e3, _⟩ | ⟨_, _, y, V, z, e2, e3, _⟩
      · subst e2 e3
        go_wp2_with fail
        go_meet
        exact ⟨rfl, rfl⟩
      · subst e2 e3
        go_wp2_with fail
        go_meet
        exact ⟨rfl, rfl⟩
    case rest =>
      obtain ⟨rfl, hwc⟩ := hcut
      have hwc := hwc.symm
      subst hwc
      clear hEE
      go_wp2_with fail
      go_loopw [10] (fun v wr => ∃ k : Nat, k ≤ N1 ∧ v = .int .i64 (k : Int) ∧ ∃ C ms, Hid (Both w wr pc pr n C C ms) ∧ Hid (Ok n k C ∧ Sm C ∧ ms.length ≤ k * 60)) (fun v _ => N1 - (intOf v).toNat)
      case atStart => exact ⟨0, Nat.zero_le _, rfl, _, _, H4, Lib.hid ⟨Ok.new n, Sm.new n, Nat.le_refl _⟩⟩
      case round =>
        obtain ⟨k, hk, rfl, C, ms, M1, G1⟩ := hrel
        clear H4
        have hm1 : (N1 : Int) ≤ 60 := by omega
        by_cases hlt : k < N1
        · obtain ⟨o, ho⟩ : ∃ o, l[k]? = some o := ⟨_, List.getElem?_eq_getElem (by rw [HN1.out]; exact hlt)⟩
          have hops := HH1.out.1.below M1.out.bel
          obtain ⟨g, off, rfl, -⟩ := op_kind hops ho
          have hk1 : (k : Int) < (N1 : Int) := by omega
          have HOPS := Lib.hid hops
          have HO := Lib.hid ho
          have HOK := Lib.hid (HH1.out.2.1 o (List.mem_of_getElem? ho))
          have HFIT := Lib.hid (G1.out.1.fit (by omega))
          have hpo := put_op wr o
          have hcz := opA_size o
          have HLT := Lib.hid hlt
          clear hops ho hlt
          go_upto_region 12 with (refine wpList_val rfl rfl (.agg (opA o)) (exec_load_ops (x := .tmp 52) rfl rfl HOPS.out rfl HO.out) ?_)
          have kO := Blk.new wr 39 (opA o)
          have M2 := Lib.hid (M1.out.same (below_self_alloc wr (.cells (opA o) 39)))
          have HQL := Lib.hid (show w.heap.size ≤ wr.heap.size from M1.out.bel.size)
          clear hpo hcz M1 HOPS
          generalize wr.alloc (.cells (opA o) 39) = W0 at *
          obtain ⟨q, hq⟩ : ∃ q, wr.heap.size = q := ⟨_, rfl⟩
          rw [hq] at kO HQL
          try simp only [hq]
          have KO := Lib.hid kO
          clear kO hq
          have HVL := Lib.hid (view_len HFIT.out.sane o.seat)
          obtain ⟨S, hS⟩ : ∃ S, stampS o (viewS n C o.seat) = S := ⟨_, rfl⟩
          have HS := Lib.hid hS
          have hcz := opA_size o
          clear hS
          go_cut [12] from 54 to 59 (fun v12 wx => ∃ g, v12 = .pointer (some ⟨g, 0, none⟩) ∧ Blk wx g 33 #[.int .i64 S.1, .int .i64 S.2] ∧ Below W0.heap.size W0 wx ∧ q < g)
          case first =>
            refine wp_region_ats (fun W => Both w W pc pr n C C ms ∧ Blk W q 39 (opA o)) (by kernel_rfl) (by kernel_rfl) (fun _ d _ _ _ h => by cases d <;> exact h) rfl ?_
            have B2 : Below W0.heap.size W0 W0.drew := (Below.refl _ _).drew
            generalize W0.drew = w2d at *
            refine ats_take [0, 1, 2, 3] 4 rfl (by kernel_rfl) ⟨M2.out.same B2, KO.out.below B2 KO.out.lt⟩ ?_
            simp only [pick, List.drop_succ_cons, List.drop_zero, List.head?_cons, Option.toList_some, List.cons_append, List.nil_append, List.append_nil]
            repeat ((refine wpHeld_step ?_ rfl ?_ ?_; rotate_left; · (intro W hW; have q0 : W.cell? ⟨q, 1, none⟩ = some (.int .i64 o.seat) := (hW.2.cell 1).trans rfl; first | (refine exec_load_opb (x := .tmp 11) ?_ ?_ hcz hW.2 <;> rfl) | (go_simp; try with_reducible rfl))); simp only [Act.put, List.setIfInBounds_toArray, List.set_cons_succ, List.set_cons_zero])
            refine wpHeld_nil ?_
            refine ats_two 4 6 (by kernel_rfl) ?_ ?_
            · simp only [pick, List.drop_succ_cons, List.drop_zero, List.head?_cons, Option.toList_some, List.append_nil]
              go_wp2_with fail
              refine ((M2.out.same B2).rview o.seat).mono ?_
              rintro e w3 ⟨v, rfl, own, b3⟩
              obtain ⟨A, cap, rfl, hcls⟩ := own.form
              have hle := Nat.le_refl w3.heap.size
              have B3 := B2.trans (b3.mono B2.size)
              try go_wp2_with fail
              refine ⟨⟨M2.out.same B3, KO.out.below B3 KO.out.lt⟩, ?_⟩
              refine ats_two 5 6 (by kernel_rfl) ?_ ?_
              · simp only [pick, List.drop_succ_cons, List.drop_zero, List.head?_cons, Option.toList_some, List.append_nil]
                go_wp2_with fail
                refine (stamp_any _ o HOK.out A cap _ _ hcls hle HVL.out).mono ?_
                rintro e w4 ⟨rfl, b4⟩
                have B4 := B3.trans (b4.mono B3.size)
                try go_wp2_with fail
                refine ⟨⟨M2.out.same B4, KO.out.below B4 KO.out.lt⟩, ?_⟩
                refine ats_one 6 (by kernel_rfl) ?_
                simp only [pick, List.drop_succ_cons, List.drop_zero, List.head?_cons, Option.toList_some, List.append_nil]
                have z5 := Blk.new w4 33 #[.int .i64 0, .int .i64 0]
                have B5 := B4.alloc B4.size (.cells #[.int .i64 0, .int .i64 0] 33)
                have hge := B4.size
                go_wp2_with fail
                obtain ⟨g, hgg⟩ : ∃ g, w4.heap.size = g := ⟨_, rfl⟩
                rw [hgg] at z5 hge
                try simp only [hgg]
                generalize w4.alloc (.cells #[.int .i64 0, .int .i64 0] 33) = w5 at *
                clear hgg
                refine ⟨⟨M2.out.same B5, KO.out.below B5 KO.out.lt⟩, ?_⟩
                refine ats_one 7 (by kernel_rfl) ?_
                simp only [pick, List.drop_succ_cons, List.drop_zero, List.head?_cons, Option.toList_some, List.append_nil]
                have za := z5.all
                obtain ⟨z0, zf, zl⟩ := za
                have zk := (z5.set_ 0 (.int .i64 S.1)).set_ 1 (.int .i64 S.2)
                have BF := (B5.setCell (p := ⟨g, 0, none⟩) hge (.int .i64 S.1)).setCell (p := ⟨g, 1, none⟩) hge (.int .i64 S.2)
                rw [HS.out, show stA S = #[.int .i64 S.1, .int .i64 S.2] from rfl]
                go_wp2_with fail
                refine ⟨⟨M2.out.same BF, KO.out.below BF KO.out.lt⟩, ?_⟩
                refine ats_end (by kernel_rfl) ?_
                go_wp2_with fail
                go_meet
                exact ⟨g, rfl, zk, BF, Nat.lt_of_lt_of_le KO.out.lt hge⟩
              · simp only [pick, List.drop_succ_cons, List.drop_zero, List.head?_cons, Option.toList_some, List.append_nil]
                have z4 := Blk.new w3 33 #[.int .i64 0, .int .i64 0]
                have B4 := B3.alloc B3.size (.cells #[.int .i64 0, .int .i64 0] 33)
                replace hcls := hcls.below (below_self_alloc _ (.cells #[.int .i64 0, .int .i64 0] 33))
                replace hle := (below_self_alloc w3 (.cells #[.int .i64 0, .int .i64 0] 33)).size
                have hge := B3.size
                go_wp2_with fail
                obtain ⟨g, hgg⟩ : ∃ g, w3.heap.size = g := ⟨_, rfl⟩
                rw [hgg] at z4 hge
                try simp only [hgg]
                generalize w3.alloc (.cells #[.int .i64 0, .int .i64 0] 33) = w4 at *
                clear hgg
                refine ⟨⟨M2.out.same B4, KO.out.below B4 KO.out.lt⟩, ?_⟩
                refine ats_one 5 (by kernel_rfl) ?_
                simp only [pick, List.drop_succ_cons, List.drop_zero, List.head?_cons, Option.toList_some, List.append_nil]
                go_wp2_with fail
                refine (stamp_any _ o HOK.out A cap _ _ hcls hle HVL.out).mono ?_
                rintro e w5 ⟨rfl, b5⟩
                have B5 := B4.trans (b5.mono B4.size)
                have z5 := z4.below b5 z4.lt
                try go_wp2_with fail
                refine ⟨⟨M2.out.same B5, KO.out.below B5 KO.out.lt⟩, ?_⟩
                refine ats_one 7 (by kernel_rfl) ?_
                simp only [pick, List.drop_succ_cons, List.drop_zero, List.head?_cons, Option.toList_some, List.append_nil]
                have za := z5.all
                obtain ⟨z0, zf, zl⟩ := za
                have zk := (z5.set_ 0 (.int .i64 S.1)).set_ 1 (.int .i64 S.2)
                have BF := (B5.setCell (p := ⟨g, 0, none⟩) hge (.int .i64 S.1)).setCell (p := ⟨g, 1, none⟩) hge (.int .i64 S.2)
                rw [HS.out, show stA S = #[.int .i64 S.1, .int .i64 S.2] from rfl]
                go_wp2_with fail
                refine ⟨⟨M2.out.same BF, KO.out.below BF KO.out.lt⟩, ?_⟩
                refine ats_end (by kernel_rfl) ?_
                go_wp2_with fail
                go_meet
                exact ⟨g, rfl, zk, BF, Nat.lt_of_lt_of_le KO.out.lt hge⟩
            · simp only [pick, List.drop_succ_cons, List.drop_zero, List.head?_cons, Option.toList_some, List.append_nil]
              have z3 := Blk.new w2d 33 #[.int .i64 0, .int .i64 0]
              have B3 := B2.alloc B2.size (.cells #[.int .i64 0, .int .i64 0] 33)
              have hge := B2.size
              go_wp2_with fail
              obtain ⟨g, hgg⟩ : ∃ g, w2d.heap.size = g := ⟨_, rfl⟩
              rw [hgg] at z3 hge
              try simp only [hgg]
              generalize w2d.alloc (.cells #[.int .i64 0, .int .i64 0] 33) = w3 at *
              clear hgg
              refine ⟨⟨M2.out.same B3, KO.out.below B3 KO.out.lt⟩, ?_⟩
              refine ats_one 4 (by kernel_rfl) ?_
              simp only [pick, List.drop_succ_cons, List.drop_zero, List.head?_cons, Option.toList_some, List.append_nil]
              go_wp2_with fail
              refine ((M2.out.same B3).rview o.seat).mono ?_
              rintro e w4 ⟨v, rfl, own, b4⟩
              obtain ⟨A, cap, rfl, hcls⟩ := own.form
              have hle := Nat.le_refl w4.heap.size
              have B4 := B3.trans (b4.mono B3.size)
              have z4 := z3.below b4 z3.lt
              try go_wp2_with fail
              refine ⟨⟨M2.out.same B4, KO.out.below B4 KO.out.lt⟩, ?_⟩
              refine ats_one 5 (by kernel_rfl) ?_
              simp only [pick, List.drop_succ_cons, List.drop_zero, List.head?_cons, Option.toList_some, List.append_nil]
              go_wp2_with fail
              refine (stamp_any _ o HOK.out A cap _ _ hcls hle HVL.out).mono ?_
              rintro e w5 ⟨rfl, b5⟩
              have B5 := B4.trans (b5.mono B4.size)
              have z5 := z4.below b5 z4.lt
              try go_wp2_with fail
              refine ⟨⟨M2.out.same B5, KO.out.below B5 KO.out.lt⟩, ?_⟩
              refine ats_one 7 (by kernel_rfl) ?_
              simp only [pick, List.drop_succ_cons, List.drop_zero, List.head?_cons, Option.toList_some, List.append_nil]
              have za := z5.all
              obtain ⟨z0, zf, zl⟩ := za
              have zk := (z5.set_ 0 (.int .i64 S.1)).set_ 1 (.int .i64 S.2)
              have BF := (B5.setCell (p := ⟨g, 0, none⟩) hge (.int .i64 S.1)).setCell (p := ⟨g, 1, none⟩) hge (.int .i64 S.2)
              rw [HS.out, show stA S = #[.int .i64 S.1, .int .i64 S.2] from rfl]
              go_wp2_with fail
              refine ⟨⟨M2.out.same BF, KO.out.below BF KO.out.lt⟩, ?_⟩
              refine ats_end (by kernel_rfl) ?_
              go_wp2_with fail
              go_meet
              exact ⟨g, rfl, zk, BF, Nat.lt_of_lt_of_le KO.out.lt hge⟩
          case rest =>
            obtain ⟨gT, rfl, zk, BF, hqg⟩ := hcut
            have M3 := Lib.hid (M2.out.same BF)
            have KO3 := Lib.hid (KO.out.below BF KO.out.lt)
            have KT3 := Lib.hid zk
            have HQG := Lib.hid hqg
            clear zk BF M2 KO hqg
            have hrun := M3.out.run HFIT.out o HOK.out
            obtain ⟨R, hR⟩ : ∃ R, doI n C o = R := ⟨_, rfl⟩
            have HR := Lib.hid hR
            rw [hR] at hrun
            have HRUN := Lib.hid hrun
            clear hR hrun
            go_upto_region 14 with (first | (refine wpList_val rfl rfl (.agg (opA o)) (exec_load_opb (x := .tmp 11) rfl rfl hcz KO3.out) ?_) | (go_at_call 14; refine HRUN.out.mono ?_; rintro e w5 ⟨rfl, h5, kp5⟩))
            have kN := Blk.new w5 33 #[.int .i64 R.2.1.1, .int .i64 R.2.1.2]
            have b6 := below_self_alloc w5 (.cells #[.int .i64 R.2.1.1, .int .i64 R.2.1.2] 33)
            have M6 := Lib.hid (h5.same b6)
            have KO6 := Lib.hid ((kp5.op _ _ KO3.out).alloc (.cells #[.int .i64 R.2.1.1, .int .i64 R.2.1.2] 33))
            have KT6 := Lib.hid ((kp5.st _ _ KT3.out).alloc (.cells #[.int .i64 R.2.1.1, .int .i64 R.2.1.2] 33))
            clear h5 kp5 b6 M3 KO3 KT3 HRUN hcz
            generalize w5.alloc (.cells #[.int .i64 R.2.1.1, .int .i64 R.2.1.2] 33) = w6 at *
            have KN6 := Lib.hid kN
            generalize w5.heap.size = gN at *
            clear kN
            go_upto_region 15 with fail
            have kW := Blk.new w6 33 #[.int .i64 0, .int .i64 0]
            have b7 := below_self_alloc w6 (.cells #[.int .i64 0, .int .i64 0] 33)
            have M7 := Lib.hid (M6.out.same b7)
            have KO7 := Lib.hid (KO6.out.below b7 KO6.out.lt)
            have KT7 := Lib.hid (KT6.out.below b7 KT6.out.lt)
            have KN7 := Lib.hid (KN6.out.below b7 KN6.out.lt)
            have HGW := Lib.hid (show w.heap.size ≤ w6.heap.size from M6.out.bel.size)
            have HGN := Lib.hid (show gN ≠ w6.heap.size from by have := KN6.out.lt; omega)
            have HGT := Lib.hid (show gT ≠ w6.heap.size from by have := KT6.out.lt; omega)
            clear b7 M6 KO6 KT6 KN6
            generalize w6.alloc (.cells #[.int .i64 0, .int .i64 0] 33) = w7 at *
            have KW7 := Lib.hid kW
            obtain ⟨gW, hgw⟩ : ∃ g, w6.heap.size = g := ⟨_, rfl⟩
            rw [hgw] at KW7 HGW HGN HGT
            try simp only [hgw]
            clear kW hgw
            have o0k : w7.cell? ⟨q, 0, none⟩ = some (.int .i64 o.kind) := (KO7.out.cell 0).trans rfl
            go_upto_block 2 with fail
            go_cut [17, 18] from 70 to 106 (fun v17 v18 wx => v17 = .int .i64 R.2.2.1 ∧ v18 = .bool R.2.2.2 ∧ Blk wx gW 33 #[.int .i64 R.2.1.1, .int .i64 R.2.1.2] ∧ Blk wx q 39 (opA o) ∧ Blk wx gN 33 #[.int .i64 R.2.1.1, .int .i64 R.2.1.2] ∧ ∃ ms', Both w wx pc pr n R.1 R.1 ms' ∧ ms'.length ≤ ms.length + n)
            case first =>
              have HRB := Lib.hid (RB.mk G1.out.1.pages (show ms.length ≤ 800000 from by have := G1.out.2.2; omega) G1.out.2.1)
              have hR := HR.out
              unfold doI at hR
              by_cases e0 : o.kind = 0
              · rw [if_pos e0, HS.out] at hR
                have hp := M7.out.rpropose HRB.out o.seat S.1 S.2 o.pt
                obtain ⟨P, hP⟩ : ∃ P, proposeI n C o.seat S o.pt = P := ⟨_, rfl⟩
                rw [show proposeI n C o.seat (S.1, S.2) o.pt = P from hP] at hp
                rw [hP] at hR
                subst hR
                have HP := Lib.hid hp
                have HOO := Lib.hid (OpsAt.of_blk KO7.out (Nat.lt_succ_self q))
                have d0 : (o.kind == 0) = true := by rw [e0]; rfl
                have s1 : w7.cell? ⟨q, 1, none⟩ = some (.int .i64 o.seat) := (KO7.out.cell 1).trans rfl
                have t0 : w7.cell? ⟨gT, 0, none⟩ = some (.int .i64 S.1) := KT7.out.cell 0
                have t1 : w7.cell? ⟨gT, 1, none⟩ = some (.int .i64 S.2) := KT7.out.cell 1
                clear hp hP e0 o0k
                go_wp2_with (first | (refine wpList_val rfl rfl (.agg (ptA o.pt)) (exec_load_opt (x := .tmp 77) (off := 0) (i := 0) rfl rfl HOO.out rfl rfl) ?_) | (go_at_call 15; refine HP.out.mono ?_; rintro e w8 ⟨rfl, ms', h8, hl8, kp8⟩; have KO8 := Lib.hid (kp8.op _ _ KO7.out); have KN8 := Lib.hid (kp8.st _ _ KN7.out); have KW8 := Lib.hid (kp8.st _ _ KW7.out); have ka := KW8.out.all; obtain ⟨r0, rf, rl⟩ := ka; have H8 := Lib.hid h8; clear h8 kp8))
                go_meet
                have ho := only_two w8 gW (.int .i64 P.2.1.1) (.int .i64 P.2.1.2)
                exact ⟨rfl, rfl, (KW8.out.set_ 0 (.int .i64 P.2.1.1)).set_ 1 (.int .i64 P.2.1.2), ho.blk KO8.out (fun e => absurd (blk_ty KO8.out (e ▸ KW8.out)) (by decide)), ho.blk KN8.out HGN.out, ms', H8.out.st KW8.out HGW.out ho, hl8⟩
              · by_cases e1 : o.kind = 1
                · rw [if_neg e0, if_pos e1, HS.out] at hR
                  have hp := M7.out.rwithdraw HRB.out o.seat S.1 S.2
                  obtain ⟨P, hP⟩ : ∃ P, withdrawI n C o.seat S = P := ⟨_, rfl⟩
                  rw [show withdrawI n C o.seat (S.1, S.2) = P from hP] at hp
                  rw [hP] at hR
                  subst hR
                  have HP := Lib.hid hp
                  have d0 : (o.kind == 0) = false := by rw [e1]; rfl
                  have d1 : (o.kind == 1) = true := by rw [e1]; rfl
                  clear e0 e1
                  have s1 : w7.cell? ⟨q, 1, none⟩ = some (.int .i64 o.seat) := (KO7.out.cell 1).trans rfl
                  have t0 : w7.cell? ⟨gT, 0, none⟩ = some (.int .i64 S.1) := KT7.out.cell 0
                  have t1 : w7.cell? ⟨gT, 1, none⟩ = some (.int .i64 S.2) := KT7.out.cell 1
                  clear hp hP o0k
                  go_wp2_with (go_at_call 16; refine HP.out.mono ?_; rintro e w8 ⟨rfl, ms', h8, hl8, kp8⟩)
                  go_meet
                  exact ⟨rfl, rfl, kp8.st _ _ KW7.out, kp8.op _ _ KO7.out, kp8.st _ _ KN7.out, ms', h8, hl8⟩
                · by_cases e2 : o.kind = 2
                  · rw [if_neg e0, if_neg e1, if_pos e2] at hR
                    have hp := M7.out.rdeliver HRB.out o.seat o.to_ o.lost
                    obtain ⟨P, hP⟩ : ∃ P, deliverI n C o.seat o.to_ o.lost = P := ⟨_, rfl⟩
                    rw [hP] at hp
                    rw [hP] at hR
                    subst hR
                    have HP := Lib.hid hp
                    have d0 : (o.kind == 0) = false := by rw [e2]; rfl
                    have d1 : (o.kind == 1) = false := by rw [e2]; rfl
                    have d2 : (o.kind == 2) = true := by rw [e2]; rfl
                    clear e0 e1 e2
                    have s1 : w7.cell? ⟨q, 1, none⟩ = some (.int .i64 o.seat) := (KO7.out.cell 1).trans rfl
                    have s2 : w7.cell? ⟨q, 2, none⟩ = some (.int .i64 o.to_) := (KO7.out.cell 2).trans rfl
                    have s21 : w7.cell? ⟨q, 21, none⟩ = some (.bool o.lost) := (KO7.out.cell 21).trans rfl
                    clear hp hP o0k
                    go_wp2_with (go_at_call 17; refine HP.out.mono ?_; rintro e w8 ⟨rfl, ms', h8, hl8, kp8⟩)
                    go_meet
                    exact ⟨rfl, rfl, kp8.st _ _ KW7.out, kp8.op _ _ KO7.out, kp8.st _ _ KN7.out, ms', h8, hl8⟩
                  · by_cases e3 : o.kind = 3
                    · rw [if_neg e0, if_neg e1, if_neg e2, if_pos e3] at hR
                      have hp := M7.out.ragain HRB.out o.seat o.to_
                      obtain ⟨P, hP⟩ : ∃ P, againI n C o.seat o.to_ = P := ⟨_, rfl⟩
                      rw [hP] at hp
                      rw [hP] at hR
                      subst hR
                      have HP := Lib.hid hp
                      have d0 : (o.kind == 0) = false := by rw [e3]; rfl
                      have d1 : (o.kind == 1) = false := by rw [e3]; rfl
                      have d2 : (o.kind == 2) = false := by rw [e3]; rfl
                      have d3 : (o.kind == 3) = true := by rw [e3]; rfl
                      clear e0 e1 e2 e3
                      have s1 : w7.cell? ⟨q, 1, none⟩ = some (.int .i64 o.seat) := (KO7.out.cell 1).trans rfl
                      have s2 : w7.cell? ⟨q, 2, none⟩ = some (.int .i64 o.to_) := (KO7.out.cell 2).trans rfl
                      clear hp hP o0k
                      go_wp2_with (go_at_call 18; refine HP.out.mono ?_; rintro e w8 ⟨rfl, ms', h8, hl8, kp8⟩)
                      go_meet
                      exact ⟨rfl, rfl, kp8.st _ _ KW7.out, kp8.op _ _ KO7.out, kp8.st _ _ KN7.out, ms', h8, hl8⟩
                    · rw [if_neg e0, if_neg e1, if_neg e2, if_neg e3] at hR
                      subst hR
                      have d0 : (o.kind == 0) = false := by simpa using e0
                      have d1 : (o.kind == 1) = false := by simpa using e1
                      have d2 : (o.kind == 2) = false := by simpa using e2
                      have d3 : (o.kind == 3) = false := by simpa using e3
                      clear e0 e1 e2 e3 o0k
                      go_wp2_with fail
                      go_meet
                      exact ⟨rfl, rfl, KW7.out, KO7.out, KN7.out, ms, M7.out, Nat.le_add_right _ _⟩
            case rest =>
              obtain ⟨rfl, rfl, kw, ko, kn, ms2, hb, hml⟩ := hcut
              have HOKK := Lib.hid (show Ok n (k + 1) R.1 ∧ Sm R.1 from by
                rw [← HR.out]
                exact ⟨G1.out.1.doI (by omega) o, G1.out.2.1.doI G1.out.1 o⟩)
              have HF2 := Lib.hid (HOKK.out.1.fit (by omega))
              have HML := Lib.hid (show ms2.length ≤ (k + 1) * 60 from by have := G1.out.2.2; omega)
              have hez : ∀ W : World, (Op.equalIn 10000 33 (.agg #[.int .i64 R.2.1.1, .int .i64 R.2.1.2]) (.agg #[.int .i64 R.2.1.1, .int .i64 R.2.1.2])).run Try.prog W = .ok true W := fun W => (eq_st R.2.1 R.2.1 W).trans (by rw [decide_eq_true rfl])
              obtain ⟨x1, hx1⟩ : ∃ x, R.2.1.1 = x := ⟨_, rfl⟩
              obtain ⟨x2, hx2⟩ : ∃ x, R.2.1.2 = x := ⟨_, rfl⟩
              obtain ⟨x3, hx3⟩ : ∃ x, R.2.2.1 = x := ⟨_, rfl⟩
              obtain ⟨x4, hx4⟩ : ∃ x, R.2.2.2 = x := ⟨_, rfl⟩
              rw [hx1, hx2] at hez kw kn
              rw [hx1, hx2, hx3, hx4]
              obtain ⟨C2, hC2⟩ : ∃ D, R.1 = D := ⟨_, rfl⟩
              rw [hC2] at hb HOKK HF2
              have HB := Lib.hid hb
              have KW := Lib.hid kw
              have KO := Lib.hid ko
              have KN := Lib.hid kn
              have h44 : (x4 != x4) = false := by cases x4 <;> rfl
              clear hb kw ko kn hml hx1 hx2 hx3 hx4 hC2 HR M7 KO7 KT7 KN7 KW7 o0k G1 HS HFIT
              go_upto_region 24 with fail
              refine wp_region_ats (fun W => Both w W pc pr n C2 C2 ms2 ∧ (Blk W gN 33 #[.int .i64 x1, .int .i64 x2] ∧ Blk W gW 33 #[.int .i64 x1, .int .i64 x2]) ∧ Blk W q 39 (opA o)) (by kernel_rfl) (by kernel_rfl) (fun _ d _ _ _ h => by cases d <;> exact h) rfl ?_
              have B0 := Lib.hid (show Below wc.heap.size wc wc.drew from (Below.refl _ _).drew)
              have HB0 := Lib.hid (HB.out.same B0.out)
              have KW0 := Lib.hid (KW.out.below B0.out KW.out.lt)
              have KN0 := Lib.hid (KN.out.below B0.out KN.out.lt)
              have KO0 := Lib.hid (KO.out.below B0.out KO.out.lt)
              clear HB KW KN KO B0
              generalize wc.drew = w8 at *
              refine ats_take [0, 1, 2, 3, 4, 5, 6, 7, 8, 9, 10, 11, 12, 13, 14, 15, 16, 18, 19, 20] 17 rfl (by kernel_rfl) (⟨HB0.out, ⟨KN0.out, KW0.out⟩, KO0.out⟩) ?_
              simp only [pick, List.drop_succ_cons, List.drop_zero, List.head?_cons, Option.toList_some, List.cons_append, List.nil_append, List.append_nil]
              (refine wpHeld_step ?_ rfl ?_ ?_; rotate_left; · (intro W hW; have n0 : W.cell? ⟨gN, 0, none⟩ = some (.int .i64 x1) := hW.2.1.1.cell 0; have n1 : W.cell? ⟨gN, 1, none⟩ = some (.int .i64 x2) := hW.2.1.1.cell 1; have v0 : W.cell? ⟨gW, 0, none⟩ = some (.int .i64 x1) := hW.2.1.2.cell 0; have v1 : W.cell? ⟨gW, 1, none⟩ = some (.int .i64 x2) := hW.2.1.2.cell 1; have q1 : W.cell? ⟨q, 1, none⟩ = some (.int .i64 o.seat) := (hW.2.2.cell 1).trans rfl; first | (go_simp; try with_reducible rfl))); simp only [Act.put, List.setIfInBounds_toArray, List.set_cons_succ, List.set_cons_zero]
              (refine wpHeld_step ?_ rfl ?_ ?_; rotate_left; · (intro W hW; have n0 : W.cell? ⟨gN, 0, none⟩ = some (.int .i64 x1) := hW.2.1.1.cell 0; have n1 : W.cell? ⟨gN, 1, none⟩ = some (.int .i64 x2) := hW.2.1.1.cell 1; have v0 : W.cell? ⟨gW, 0, none⟩ = some (.int .i64 x1) := hW.2.1.2.cell 0; have v1 : W.cell? ⟨gW, 1, none⟩ = some (.int .i64 x2) := hW.2.1.2.cell 1; have q1 : W.cell? ⟨q, 1, none⟩ = some (.int .i64 o.seat) := (hW.2.2.cell 1).trans rfl; first | (go_simp; try with_reducible rfl))); simp only [Act.put, List.setIfInBounds_toArray, List.set_cons_succ, List.set_cons_zero]
              (refine wpHeld_step ?_ rfl ?_ ?_; rotate_left; · (intro W hW; have n0 : W.cell? ⟨gN, 0, none⟩ = some (.int .i64 x1) := hW.2.1.1.cell 0; have n1 : W.cell? ⟨gN, 1, none⟩ = some (.int .i64 x2) := hW.2.1.1.cell 1; have v0 : W.cell? ⟨gW, 0, none⟩ = some (.int .i64 x1) := hW.2.1.2.cell 0; have v1 : W.cell? ⟨gW, 1, none⟩ = some (.int .i64 x2) := hW.2.1.2.cell 1; have q1 : W.cell? ⟨q, 1, none⟩ = some (.int .i64 o.seat) := (hW.2.2.cell 1).trans rfl; first | (go_simp; try with_reducible rfl))); simp only [Act.put, List.setIfInBounds_toArray, List.set_cons_succ, List.set_cons_zero]
              (refine wpHeld_step ?_ rfl ?_ ?_; rotate_left; · (intro W hW; have n0 : W.cell? ⟨gN, 0, none⟩ = some (.int .i64 x1) := hW.2.1.1.cell 0; have n1 : W.cell? ⟨gN, 1, none⟩ = some (.int .i64 x2) := hW.2.1.1.cell 1; have v0 : W.cell? ⟨gW, 0, none⟩ = some (.int .i64 x1) := hW.2.1.2.cell 0; have v1 : W.cell? ⟨gW, 1, none⟩ = some (.int .i64 x2) := hW.2.1.2.cell 1; have q1 : W.cell? ⟨q, 1, none⟩ = some (.int .i64 o.seat) := (hW.2.2.cell 1).trans rfl; first | (go_simp; try with_reducible rfl))); simp only [Act.put, List.setIfInBounds_toArray, List.set_cons_succ, List.set_cons_zero]
              (refine wpHeld_want ?_ (by kernel_rfl) ?_ ?_; rotate_left; · (intro W hW; have n0 : W.cell? ⟨gN, 0, none⟩ = some (.int .i64 x1) := hW.2.1.1.cell 0; have n1 : W.cell? ⟨gN, 1, none⟩ = some (.int .i64 x2) := hW.2.1.1.cell 1; have v0 : W.cell? ⟨gW, 0, none⟩ = some (.int .i64 x1) := hW.2.1.2.cell 0; have v1 : W.cell? ⟨gW, 1, none⟩ = some (.int .i64 x2) := hW.2.1.2.cell 1; have q1 : W.cell? ⟨q, 1, none⟩ = some (.int .i64 o.seat) := (hW.2.2.cell 1).trans rfl; first | (go_simp; try with_reducible rfl))); simp only [Act.put, List.setIfInBounds_toArray, List.set_cons_succ, List.set_cons_zero]
              (refine wpHeld_want ?_ (by kernel_rfl) ?_ ?_; rotate_left; · (intro W hW; have n0 : W.cell? ⟨gN, 0, none⟩ = some (.int .i64 x1) := hW.2.1.1.cell 0; have n1 : W.cell? ⟨gN, 1, none⟩ = some (.int .i64 x2) := hW.2.1.1.cell 1; have v0 : W.cell? ⟨gW, 0, none⟩ = some (.int .i64 x1) := hW.2.1.2.cell 0; have v1 : W.cell? ⟨gW, 1, none⟩ = some (.int .i64 x2) := hW.2.1.2.cell 1; have q1 : W.cell? ⟨q, 1, none⟩ = some (.int .i64 o.seat) := (hW.2.2.cell 1).trans rfl; first | (go_simp; try with_reducible rfl))); simp only [Act.put, List.setIfInBounds_toArray, List.set_cons_succ, List.set_cons_zero]
              (refine wpHeld_want ?_ (by kernel_rfl) ?_ ?_; rotate_left; · (intro W hW; have n0 : W.cell? ⟨gN, 0, none⟩ = some (.int .i64 x1) := hW.2.1.1.cell 0; have n1 : W.cell? ⟨gN, 1, none⟩ = some (.int .i64 x2) := hW.2.1.1.cell 1; have v0 : W.cell? ⟨gW, 0, none⟩ = some (.int .i64 x1) := hW.2.1.2.cell 0; have v1 : W.cell? ⟨gW, 1, none⟩ = some (.int .i64 x2) := hW.2.1.2.cell 1; have q1 : W.cell? ⟨q, 1, none⟩ = some (.int .i64 o.seat) := (hW.2.2.cell 1).trans rfl; first | (go_simp; try with_reducible rfl))); simp only [Act.put, List.setIfInBounds_toArray, List.set_cons_succ, List.set_cons_zero]
              (refine wpHeld_step ?_ rfl ?_ ?_; rotate_left; · (intro W hW; have n0 : W.cell? ⟨gN, 0, none⟩ = some (.int .i64 x1) := hW.2.1.1.cell 0; have n1 : W.cell? ⟨gN, 1, none⟩ = some (.int .i64 x2) := hW.2.1.1.cell 1; have v0 : W.cell? ⟨gW, 0, none⟩ = some (.int .i64 x1) := hW.2.1.2.cell 0; have v1 : W.cell? ⟨gW, 1, none⟩ = some (.int .i64 x2) := hW.2.1.2.cell 1; have q1 : W.cell? ⟨q, 1, none⟩ = some (.int .i64 o.seat) := (hW.2.2.cell 1).trans rfl; first | (go_simp; try with_reducible rfl))); simp only [Act.put, List.setIfInBounds_toArray, List.set_cons_succ, List.set_cons_zero]
              (refine wpHeld_step ?_ rfl ?_ ?_; rotate_left; · (intro W hW; have n0 : W.cell? ⟨gN, 0, none⟩ = some (.int .i64 x1) := hW.2.1.1.cell 0; have n1 : W.cell? ⟨gN, 1, none⟩ = some (.int .i64 x2) := hW.2.1.1.cell 1; have v0 : W.cell? ⟨gW, 0, none⟩ = some (.int .i64 x1) := hW.2.1.2.cell 0; have v1 : W.cell? ⟨gW, 1, none⟩ = some (.int .i64 x2) := hW.2.1.2.cell 1; have q1 : W.cell? ⟨q, 1, none⟩ = some (.int .i64 o.seat) := (hW.2.2.cell 1).trans rfl; first | (go_simp; try with_reducible rfl))); simp only [Act.put, List.setIfInBounds_toArray, List.set_cons_succ, List.set_cons_zero]
              (refine wpHeld_want ?_ (by kernel_rfl) ?_ ?_; rotate_left; · (intro W hW; have n0 : W.cell? ⟨gN, 0, none⟩ = some (.int .i64 x1) := hW.2.1.1.cell 0; have n1 : W.cell? ⟨gN, 1, none⟩ = some (.int .i64 x2) := hW.2.1.1.cell 1; have v0 : W.cell? ⟨gW, 0, none⟩ = some (.int .i64 x1) := hW.2.1.2.cell 0; have v1 : W.cell? ⟨gW, 1, none⟩ = some (.int .i64 x2) := hW.2.1.2.cell 1; have q1 : W.cell? ⟨q, 1, none⟩ = some (.int .i64 o.seat) := (hW.2.2.cell 1).trans rfl; first | (go_simp; try with_reducible rfl))); simp only [Act.put, List.setIfInBounds_toArray, List.set_cons_succ, List.set_cons_zero]
              (refine wpHeld_want ?_ (by kernel_rfl) ?_ ?_; rotate_left; · (intro W hW; have n0 : W.cell? ⟨gN, 0, none⟩ = some (.int .i64 x1) := hW.2.1.1.cell 0; have n1 : W.cell? ⟨gN, 1, none⟩ = some (.int .i64 x2) := hW.2.1.1.cell 1; have v0 : W.cell? ⟨gW, 0, none⟩ = some (.int .i64 x1) := hW.2.1.2.cell 0; have v1 : W.cell? ⟨gW, 1, none⟩ = some (.int .i64 x2) := hW.2.1.2.cell 1; have q1 : W.cell? ⟨q, 1, none⟩ = some (.int .i64 o.seat) := (hW.2.2.cell 1).trans rfl; first | (go_simp; try with_reducible rfl))); simp only [Act.put, List.setIfInBounds_toArray, List.set_cons_succ, List.set_cons_zero]
              (refine wpHeld_want ?_ (by kernel_rfl) ?_ ?_; rotate_left; · (intro W hW; have n0 : W.cell? ⟨gN, 0, none⟩ = some (.int .i64 x1) := hW.2.1.1.cell 0; have n1 : W.cell? ⟨gN, 1, none⟩ = some (.int .i64 x2) := hW.2.1.1.cell 1; have v0 : W.cell? ⟨gW, 0, none⟩ = some (.int .i64 x1) := hW.2.1.2.cell 0; have v1 : W.cell? ⟨gW, 1, none⟩ = some (.int .i64 x2) := hW.2.1.2.cell 1; have q1 : W.cell? ⟨q, 1, none⟩ = some (.int .i64 o.seat) := (hW.2.2.cell 1).trans rfl; first | (go_simp; try with_reducible rfl))); simp only [Act.put, List.setIfInBounds_toArray, List.set_cons_succ, List.set_cons_zero]
              (refine wpHeld_step ?_ rfl ?_ ?_; rotate_left; · (intro W hW; have n0 : W.cell? ⟨gN, 0, none⟩ = some (.int .i64 x1) := hW.2.1.1.cell 0; have n1 : W.cell? ⟨gN, 1, none⟩ = some (.int .i64 x2) := hW.2.1.1.cell 1; have v0 : W.cell? ⟨gW, 0, none⟩ = some (.int .i64 x1) := hW.2.1.2.cell 0; have v1 : W.cell? ⟨gW, 1, none⟩ = some (.int .i64 x2) := hW.2.1.2.cell 1; have q1 : W.cell? ⟨q, 1, none⟩ = some (.int .i64 o.seat) := (hW.2.2.cell 1).trans rfl; first | (go_simp; try with_reducible rfl))); simp only [Act.put, List.setIfInBounds_toArray, List.set_cons_succ, List.set_cons_zero]
              (refine wpHeld_step ?_ rfl ?_ ?_; rotate_left; · (intro W hW; have n0 : W.cell? ⟨gN, 0, none⟩ = some (.int .i64 x1) := hW.2.1.1.cell 0; have n1 : W.cell? ⟨gN, 1, none⟩ = some (.int .i64 x2) := hW.2.1.1.cell 1; have v0 : W.cell? ⟨gW, 0, none⟩ = some (.int .i64 x1) := hW.2.1.2.cell 0; have v1 : W.cell? ⟨gW, 1, none⟩ = some (.int .i64 x2) := hW.2.1.2.cell 1; have q1 : W.cell? ⟨q, 1, none⟩ = some (.int .i64 o.seat) := (hW.2.2.cell 1).trans rfl; first | (go_simp; try with_reducible rfl))); simp only [Act.put, List.setIfInBounds_toArray, List.set_cons_succ, List.set_cons_zero]
              (refine wpHeld_want ?_ (by kernel_rfl) ?_ ?_; rotate_left; · (intro W hW; have n0 : W.cell? ⟨gN, 0, none⟩ = some (.int .i64 x1) := hW.2.1.1.cell 0; have n1 : W.cell? ⟨gN, 1, none⟩ = some (.int .i64 x2) := hW.2.1.1.cell 1; have v0 : W.cell? ⟨gW, 0, none⟩ = some (.int .i64 x1) := hW.2.1.2.cell 0; have v1 : W.cell? ⟨gW, 1, none⟩ = some (.int .i64 x2) := hW.2.1.2.cell 1; have q1 : W.cell? ⟨q, 1, none⟩ = some (.int .i64 o.seat) := (hW.2.2.cell 1).trans rfl; first | (go_simp; try with_reducible rfl))); simp only [Act.put, List.setIfInBounds_toArray, List.set_cons_succ, List.set_cons_zero]
              (refine wpHeld_want ?_ (by kernel_rfl) ?_ ?_; rotate_left; · (intro W hW; have n0 : W.cell? ⟨gN, 0, none⟩ = some (.int .i64 x1) := hW.2.1.1.cell 0; have n1 : W.cell? ⟨gN, 1, none⟩ = some (.int .i64 x2) := hW.2.1.1.cell 1; have v0 : W.cell? ⟨gW, 0, none⟩ = some (.int .i64 x1) := hW.2.1.2.cell 0; have v1 : W.cell? ⟨gW, 1, none⟩ = some (.int .i64 x2) := hW.2.1.2.cell 1; have q1 : W.cell? ⟨q, 1, none⟩ = some (.int .i64 o.seat) := (hW.2.2.cell 1).trans rfl; first | (go_simp; try with_reducible rfl))); simp only [Act.put, List.setIfInBounds_toArray, List.set_cons_succ, List.set_cons_zero]
              (refine wpHeld_want ?_ (by kernel_rfl) ?_ ?_; rotate_left; · (intro W hW; have n0 : W.cell? ⟨gN, 0, none⟩ = some (.int .i64 x1) := hW.2.1.1.cell 0; have n1 : W.cell? ⟨gN, 1, none⟩ = some (.int .i64 x2) := hW.2.1.1.cell 1; have v0 : W.cell? ⟨gW, 0, none⟩ = some (.int .i64 x1) := hW.2.1.2.cell 0; have v1 : W.cell? ⟨gW, 1, none⟩ = some (.int .i64 x2) := hW.2.1.2.cell 1; have q1 : W.cell? ⟨q, 1, none⟩ = some (.int .i64 o.seat) := (hW.2.2.cell 1).trans rfl; first | (go_simp; try with_reducible rfl))); simp only [Act.put, List.setIfInBounds_toArray, List.set_cons_succ, List.set_cons_zero]
              (refine wpHeld_want ?_ (by kernel_rfl) ?_ ?_; rotate_left; · (intro W hW; have n0 : W.cell? ⟨gN, 0, none⟩ = some (.int .i64 x1) := hW.2.1.1.cell 0; have n1 : W.cell? ⟨gN, 1, none⟩ = some (.int .i64 x2) := hW.2.1.1.cell 1; have v0 : W.cell? ⟨gW, 0, none⟩ = some (.int .i64 x1) := hW.2.1.2.cell 0; have v1 : W.cell? ⟨gW, 1, none⟩ = some (.int .i64 x2) := hW.2.1.2.cell 1; have q1 : W.cell? ⟨q, 1, none⟩ = some (.int .i64 o.seat) := (hW.2.2.cell 1).trans rfl; first | (go_simp; try with_reducible rfl))); simp only [Act.put, List.setIfInBounds_toArray, List.set_cons_succ, List.set_cons_zero]
              (refine wpHeld_want ?_ (by kernel_rfl) ?_ ?_; rotate_left; · (intro W hW; have n0 : W.cell? ⟨gN, 0, none⟩ = some (.int .i64 x1) := hW.2.1.1.cell 0; have n1 : W.cell? ⟨gN, 1, none⟩ = some (.int .i64 x2) := hW.2.1.1.cell 1; have v0 : W.cell? ⟨gW, 0, none⟩ = some (.int .i64 x1) := hW.2.1.2.cell 0; have v1 : W.cell? ⟨gW, 1, none⟩ = some (.int .i64 x2) := hW.2.1.2.cell 1; have q1 : W.cell? ⟨q, 1, none⟩ = some (.int .i64 o.seat) := (hW.2.2.cell 1).trans rfl; first | (go_simp; try with_reducible rfl))); simp only [Act.put, List.setIfInBounds_toArray, List.set_cons_succ, List.set_cons_zero]
              (refine wpHeld_want ?_ (by kernel_rfl) ?_ ?_; rotate_left; · (intro W hW; have n0 : W.cell? ⟨gN, 0, none⟩ = some (.int .i64 x1) := hW.2.1.1.cell 0; have n1 : W.cell? ⟨gN, 1, none⟩ = some (.int .i64 x2) := hW.2.1.1.cell 1; have v0 : W.cell? ⟨gW, 0, none⟩ = some (.int .i64 x1) := hW.2.1.2.cell 0; have v1 : W.cell? ⟨gW, 1, none⟩ = some (.int .i64 x2) := hW.2.1.2.cell 1; have q1 : W.cell? ⟨q, 1, none⟩ = some (.int .i64 o.seat) := (hW.2.2.cell 1).trans rfl; first | (go_simp; try with_reducible rfl))); simp only [Act.put, List.setIfInBounds_toArray, List.set_cons_succ, List.set_cons_zero]
              refine wpHeld_nil ?_
              have HSS := Lib.hid (show ∀ W W' : World, (Both w W pc pr n C2 C2 ms2 ∧ (Blk W gN 33 #[.int .i64 x1, .int .i64 x2] ∧ Blk W gW 33 #[.int .i64 x1, .int .i64 x2]) ∧ Blk W q 39 (opA o)) → Below W.heap.size W W' → (Both w W' pc pr n C2 C2 ms2 ∧ (Blk W' gN 33 #[.int .i64 x1, .int .i64 x2] ∧ Blk W' gW 33 #[.int .i64 x1, .int .i64 x2]) ∧ Blk W' q 39 (opA o)) from fun _ _ ⟨h1, ⟨h2, h3⟩, h4⟩ b => ⟨h1.same b, ⟨h2.below b h2.lt, h3.below b h3.lt⟩, h4.below b h4.lt⟩)
              have S0 := Lib.hid (show (Both w w8 pc pr n C2 C2 ms2 ∧ (Blk w8 gN 33 #[.int .i64 x1, .int .i64 x2] ∧ Blk w8 gW 33 #[.int .i64 x1, .int .i64 x2]) ∧ Blk w8 q 39 (opA o)) from ⟨HB0.out, ⟨KN0.out, KW0.out⟩, KO0.out⟩)
              clear HB0 KN0 KW0 KO0 hez h44
              refine ats_one 17 (by kernel_rfl) ?_
              simp only [pick, List.drop_succ_cons, List.drop_zero, List.head?_cons, Option.toList_some, List.append_nil]
              go_wp2_with fail
              refine (S0.out.1.view HF2.out o.seat).mono ?_
              rintro e w9 ⟨u1, rfl, own1, b9⟩
              have S9 := Lib.hid (HSS.out _ _ S0.out b9)
              obtain ⟨U1, uc1, rfl, hc1⟩ := own1.form
              have HC1 := Lib.hid hc1
              clear own1 b9 hc1 S0
              try go_wp2_with fail
              refine ⟨S9.out, ?_⟩
              refine ats_one 21 (by kernel_rfl) ?_
              simp only [pick, List.drop_succ_cons, List.drop_zero, List.head?_cons, Option.toList_some, List.append_nil]
              go_wp2_with fail
              refine (S9.out.1.rview o.seat).mono ?_
              rintro e w10 ⟨u2, rfl, own2, b10⟩
              have S10 := Lib.hid (HSS.out _ _ S9.out b10)
              obtain ⟨U2, uc2, rfl, hc2⟩ := own2.form
              have hsm := rSame_any w10 _ _ U1 U2 uc1 uc2 _ _ (HC1.out.below b10) hc2 (view_len HF2.out.sane o.seat) (view_len HF2.out.sane o.seat)
              rw [decide_eq_true rfl] at hsm
              have HSM := Lib.hid hsm
              clear own2 b10 hc2 S9 HC1 hsm
              try go_wp2_with fail
              refine ⟨S10.out, ?_⟩
              refine ats_one 22 (by kernel_rfl) ?_
              simp only [pick, List.drop_succ_cons, List.drop_zero, List.head?_cons, Option.toList_some, List.append_nil]
              go_wp2_with fail
              refine HSM.out.mono ?_
              rintro e w11 ⟨rfl, nq11, h9⟩
              have S11 := Lib.hid (HSS.out _ w11 S10.out (h9 ▸ ⟨rfl, rfl, rfl, Nat.le_refl _, fun _ _ => rfl⟩))
              clear h9 S10 HSM
              try go_wp2_with fail
              refine ⟨S11.out, ?_⟩
              refine ats_one 23 (by kernel_rfl) ?_
              simp only [pick, List.drop_succ_cons, List.drop_zero, List.head?_cons, Option.toList_some, List.append_nil]
              go_wp2_with fail
              refine ⟨S11.out, ?_⟩
              refine ats_one 24 (by kernel_rfl) ?_
              simp only [pick, List.drop_succ_cons, List.drop_zero, List.head?_cons, Option.toList_some, List.append_nil]
              go_wp2_with fail
              refine ⟨S11.out, ?_⟩
              refine ats_one 25 (by kernel_rfl) ?_
              simp only [pick, List.drop_succ_cons, List.drop_zero, List.head?_cons, Option.toList_some, List.append_nil]
              go_wp2_with fail
              refine ⟨S11.out, ?_⟩
              refine ats_take [26, 27, 28, 30, 31, 32] 5 rfl (by kernel_rfl) (S11.out) ?_
              simp only [pick, List.drop_succ_cons, List.drop_zero, List.head?_cons, Option.toList_some, List.cons_append, List.nil_append, List.append_nil]
              (refine wpHeld_want ?_ (by kernel_rfl) ?_ ?_; rotate_left; · (intro W hW; have q2 : W.cell? ⟨q, 2, none⟩ = some (.int .i64 o.to_) := (hW.2.2.cell 2).trans rfl; first | (go_simp; try with_reducible rfl))); simp only [Act.put, List.setIfInBounds_toArray, List.set_cons_succ, List.set_cons_zero]
              (refine wpHeld_want ?_ (by kernel_rfl) ?_ ?_; rotate_left; · (intro W hW; have q2 : W.cell? ⟨q, 2, none⟩ = some (.int .i64 o.to_) := (hW.2.2.cell 2).trans rfl; first | (go_simp; try with_reducible rfl))); simp only [Act.put, List.setIfInBounds_toArray, List.set_cons_succ, List.set_cons_zero]
              (refine wpHeld_want ?_ (by kernel_rfl) ?_ ?_; rotate_left; · (intro W hW; have q2 : W.cell? ⟨q, 2, none⟩ = some (.int .i64 o.to_) := (hW.2.2.cell 2).trans rfl; first | (go_simp; try with_reducible rfl))); simp only [Act.put, List.setIfInBounds_toArray, List.set_cons_succ, List.set_cons_zero]
              (refine wpHeld_want ?_ (by kernel_rfl) ?_ ?_; rotate_left; · (intro W hW; have q2 : W.cell? ⟨q, 2, none⟩ = some (.int .i64 o.to_) := (hW.2.2.cell 2).trans rfl; first | (go_simp; try with_reducible rfl))); simp only [Act.put, List.setIfInBounds_toArray, List.set_cons_succ, List.set_cons_zero]
              (refine wpHeld_want ?_ (by kernel_rfl) ?_ ?_; rotate_left; · (intro W hW; have q2 : W.cell? ⟨q, 2, none⟩ = some (.int .i64 o.to_) := (hW.2.2.cell 2).trans rfl; first | (go_simp; try with_reducible rfl))); simp only [Act.put, List.setIfInBounds_toArray, List.set_cons_succ, List.set_cons_zero]
              (refine wpHeld_want ?_ (by kernel_rfl) ?_ ?_; rotate_left; · (intro W hW; have q2 : W.cell? ⟨q, 2, none⟩ = some (.int .i64 o.to_) := (hW.2.2.cell 2).trans rfl; first | (go_simp; try with_reducible rfl))); simp only [Act.put, List.setIfInBounds_toArray, List.set_cons_succ, List.set_cons_zero]
              refine wpHeld_nil ?_
              refine ats_one 29 (by kernel_rfl) ?_
              simp only [pick, List.drop_succ_cons, List.drop_zero, List.head?_cons, Option.toList_some, List.append_nil]
              go_wp2_with fail
              refine (S11.out.1.view HF2.out o.to_).mono ?_
              rintro e w12 ⟨u1, rfl, own1, b12⟩
              have S12 := Lib.hid (HSS.out _ _ S11.out b12)
              obtain ⟨U1, uc1, rfl, hc1⟩ := own1.form
              have HC1 := Lib.hid hc1
              clear own1 b12 hc1 S11
              try go_wp2_with fail
              refine ⟨S12.out, ?_⟩
              refine ats_one 33 (by kernel_rfl) ?_
              simp only [pick, List.drop_succ_cons, List.drop_zero, List.head?_cons, Option.toList_some, List.append_nil]
              go_wp2_with fail
              refine (S12.out.1.rview o.to_).mono ?_
              rintro e w13 ⟨u2, rfl, own2, b13⟩
              have S13 := Lib.hid (HSS.out _ _ S12.out b13)
              obtain ⟨U2, uc2, rfl, hc2⟩ := own2.form
              have hsm := rSame_any w13 _ _ U1 U2 uc1 uc2 _ _ (HC1.out.below b13) hc2 (view_len HF2.out.sane o.to_) (view_len HF2.out.sane o.to_)
              rw [decide_eq_true rfl] at hsm
              have HSM := Lib.hid hsm
              clear own2 b13 hc2 S12 HC1 hsm
              try go_wp2_with fail
              refine ⟨S13.out, ?_⟩
              refine ats_one 34 (by kernel_rfl) ?_
              simp only [pick, List.drop_succ_cons, List.drop_zero, List.head?_cons, Option.toList_some, List.append_nil]
              go_wp2_with fail
              refine HSM.out.mono ?_
              rintro e w14 ⟨rfl, nq14, h9⟩
              have S14 := Lib.hid (HSS.out _ w14 S13.out (h9 ▸ ⟨rfl, rfl, rfl, Nat.le_refl _, fun _ _ => rfl⟩))
              clear h9 S13 HSM
              try go_wp2_with fail
              refine ⟨S14.out, ?_⟩
              refine ats_one 35 (by kernel_rfl) ?_
              simp only [pick, List.drop_succ_cons, List.drop_zero, List.head?_cons, Option.toList_some, List.append_nil]
              go_wp2_with fail
              refine ⟨S14.out, ?_⟩
              refine ats_one 36 (by kernel_rfl) ?_
              simp only [pick, List.drop_succ_cons, List.drop_zero, List.head?_cons, Option.toList_some, List.append_nil]
              go_wp2_with fail
              refine ⟨S14.out, ?_⟩
              refine ats_end (by kernel_rfl) ?_
              have HBE := Lib.hid S14.out.1
              clear S14 HSS
              go_wp2_with fail
              exact ⟨⟨k + 1, HLT.out, by go_num, C2, ms2, HBE, Lib.hid ⟨HOKK.out.1, HOKK.out.2, HML.out⟩⟩, by have := HLT.out; simp [intOf]; omega⟩
        · obtain rfl : k = N1 := by omega
          have HFIT := Lib.hid (G1.out.1.fit (by omega))
          obtain ⟨T, hT⟩ : ∃ T, (decide (0 < n) && settledS C) = T := ⟨_, rfl⟩
          have hset := fun W (hW : Both w W pc pr n C C ms) => hW.settled HFIT.out
          have hrset := fun W (hW : Both w W pc pr n C C ms) => hW.rsettled
          rw [hT] at hset hrset
          have HSET := Lib.hid hset
          have HRSET := Lib.hid hrset
          have htt : (T == T) = true := by cases T <;> rfl
          clear hset hrset hT
          go_wp2_with (first | (go_at_call 21; refine (HSET.out _ M1.out).mono ?_; rintro e w8 ⟨rfl, b8⟩; have M8 := Lib.hid (M1.out.same b8); clear b8) | (go_at_call 22; refine (HRSET.out _ M8.out).mono ?_; rintro e w9 ⟨rfl, b9⟩; have M9 := Lib.hid (M8.out.same b9); clear b9))
          go_ret
          exact ⟨rfl, M9.out.bel⟩
end Go.Proofs.Ytaicbllfkehhjaa
