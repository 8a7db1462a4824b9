/- Part 8 of what the laws of this seat stand on: Hm, Hn, Ho, Ht, Hu. -/
import Derived.Test.YtaicbllfkehhjaaY7
import Derived.Great.BuildSlice

/- Withdraw. -/
namespace Go.Proofs.Ytaicbllfkehhjaa
open Go.RowKit

theorem ChAt.pdrop {w : World} {y : Lay} {V : Nat → Nat → Value} {n : Nat} {C : Ch} (h : ChAt w y V n C) {i : Nat} (hi : i < n) (hp : Pg (C.pg i)) (t : St2) :
    Calls Try.prog 49 #[.pointer (some ⟨y.P i, 0, none⟩), .agg (stA t)] w fun e w' => e = .returned (.int .i64 (dropS (C.pg i) t).2) ∧ ChAt w' y V n (C.upd i (dropS (C.pg i) t).1) ∧ Only (fun g => g = y.M i) w w' :=
  (drop_any w _ _ _ (h.pgs i hi) hp.uq t).mono fun _ _ ⟨h1, h2, h3⟩ => ⟨h1, h.page hi h3 h2, h3⟩
def withdrawI (n : Nat) (C : Ch) (i : Int) (t : St2) : Ch × Int := if 0 ≤ i ∧ i < (n : Int) then withdrawS C i.toNat t else (C, 1)
theorem drop_get {L : List Cl} {t : St2} {c : Cl} (hc : getC L t = some c) : dropS L t = (setC L (goneC c), 0) := by
  unfold dropS
  rw [hc]
  rfl
theorem drop_got {L : List Cl} (h : Pg L) {t : St2} {c : Cl} (hc : getC L t = some c) : getC (walkS (setC L (goneC c))) t = some (goneC c) := by
  have h1 : Pg (setC L (goneC c)) := by
    have := h.drop t
    rwa [drop_get hc] at this
  rw [getC_walk h1]
  have h2 := (getC_mem hc).2
  subst h2
  rw [getC_set]
  show (if c.id = c.id then _ else _) = _
  rw [if_pos rfl, hc]
  rfl

set_option maxRecDepth 100000 in
set_option maxHeartbeats 4000000 in
theorem withdraw_any (w : World) (y : Lay) (V : Nat → Nat → Value) (n : Nat) (C : Ch) (h : ChAt w y V n C) (hg : Sane n C) (hl : ∀ i k, (C.lines i k).length ≤ 900000) (i a b : Int) :
    Calls Try.prog 31 #[.pointer (some ⟨y.p, 0, none⟩), .int .i64 i, .agg #[.int .i64 a, .int .i64 b]] w fun e w' => e = .returned (.int .i64 (withdrawI n C i (a, b)).2) ∧ ∃ V', ChAt w' y V' n (withdrawI n C i (a, b)).1 ∧ Turn w w' y V V' n := by
  have hI := is_any (w.alloc (.cells #[.int .i64 a, .int .i64 b] 33)) y.p n y.cap _ _ (h.blk.alloc _) i
  have hb := below_self_alloc w (.cells #[.int .i64 a, .int .i64 b] 33)
  have kS := Blk.new w 33 #[.int .i64 a, .int .i64 b]
  have h0 := h.alloc (.cells #[.int .i64 a, .int .i64 b] 33)
  have hmax := h.max
  have hcap := h.cap
  have hlen := h.len
  by_cases hi : 0 ≤ i ∧ i < (n : Int)
  · rw [decide_eq_true hi] at hI
    obtain ⟨k, rfl⟩ := Int.eq_ofNat_of_zero_le hi.1
    have hk : k < n := by omega
    have hE : withdrawI n C (k : Int) (a, b) = withdrawS C k (a, b) := by unfold withdrawI; rw [if_pos hi, Int.toNat_natCast]
    rw [hE]
    have hi0 : (0 : Int) ≤ (k : Int) := hi.1
    have hi1 : (k : Int) < (n : Int) := hi.2
    have HI := Lib.hid hI
    have HK := Lib.hid hk
    have HG := Lib.hid hg
    have HLL := Lib.hid hl
    have HLEN := Lib.hid hlen
    have gS := kS.all
    obtain ⟨g0, gf, gl⟩ := gS
    by_cases ha : a = (k : Int)
    · subst ha
      have H := Lib.hid h0
      have KS := Lib.hid kS
      have HB := Lib.hid hb
      have e0 : ((k : Int) != (k : Int)) = false := by simp
      cases hc : getC (C.pg k) ((k : Int), b) with
      | none =>
        have hd : dropS (C.pg k) ((k : Int), b) = (C.pg k, 11) := by unfold dropS; rw [hc]
        have hr : withdrawS C k ((k : Int), b) = (C, 11) := by unfold withdrawS; rw [if_neg (fun e => e rfl), hc]
        rw [hr]
        have HD := Lib.hid hd
        clear hE hr hc hd hI h hg hl hi hk h0 hb kS hlen
        go_enter Try.func31, Try.ntmps31
        go_wp2_with (go_at_call 39; refine HI.out.mono ?_; rintro e w1 ⟨rfl, rfl⟩)
        refine wp_region_hold (fun W => ChAt W y V n C ∧ Blk W w.heap.size 33 #[.int .i64 (k : Int), .int .i64 b]) [0, 1, 2, 3, 4, 5, 6, 7, 8] [] [9, 10] (by kernel_rfl) (by kernel_rfl) (fun _ d _ _ _ h => by cases d <;> exact h) (⟨H.out.drewN 1, KS.out.drewN 1⟩) ?_
        simp only [pick, List.drop_succ_cons, List.drop_zero, List.head?_cons, Option.toList_some, List.cons_append, List.nil_append, List.append_nil]
        try simp only [Act.put]
        repeat ((refine wpHeld_step ?_ rfl ?_ ?_; rotate_left; · (intro W hW; obtain ⟨c0, c1⟩ := hW.1.cells; obtain ⟨s0, s1⟩ := hW.1.seat HK.out; have q0 : W.cell? ⟨w.heap.size, 0, none⟩ = some (.int .i64 (k : Int)) := hW.2.cell 0; have q1 : W.cell? ⟨w.heap.size, 1, none⟩ = some (.int .i64 b) := hW.2.cell 1; (go_simp; try with_reducible rfl))); simp only [Act.put, List.setIfInBounds_toArray, List.set_cons_succ, List.set_cons_zero])
        refine wpHeld_nil ?_
        simp only [wpEarly]
        go_wp2_with fail
        have hp := (H.out.drewN 1).pdrop HK.out (HG.out k HK.out).1 ((k : Int), b)
        rw [HD.out] at hp
        refine hp.mono ?_
        rintro e w2 ⟨rfl, h2, o2⟩
        rw [upd_self (by rw [HLEN.out]; exact HK.out)] at h2
        have H2 := Lib.hid h2
        have O2 := Lib.hid o2
        clear hp h2 o2
        go_wp2_with fail
        go_ret
        exact ⟨rfl, V, H2.out, (Turn.of_below HB.out.drew).trans (Turn.page HK.out O2.out)⟩
      | some c =>
        have hr : withdrawS C k ((k : Int), b) = ((C.upd k (setC (C.pg k) (goneC c))).tell k (goneC c), 0) := by unfold withdrawS; rw [if_neg (fun e => e rfl), hc, drop_get hc]
        rw [hr]
        have HD := Lib.hid (drop_get hc)
        have HGOT := Lib.hid (drop_got (hg k hk).1 hc)
        have HPG := Lib.hid (show Pg (setC (C.pg k) (goneC c)) from by
          have := (hg k hk).1.drop ((k : Int), b)
          rwa [drop_get hc] at this)
        have HPL := Lib.hid (show (setC (C.pg k) (goneC c)).length ≤ 100000 from by unfold setC; rw [List.length_map]; exact (hg k hk).2)
        obtain ⟨L2, hL2⟩ : ∃ L, setC (C.pg k) (goneC c) = L := ⟨_, rfl⟩
        rw [hL2] at HD HGOT HPG HPL ⊢
        obtain ⟨d, hdd⟩ : ∃ d, goneC c = d := ⟨_, rfl⟩
        rw [hdd] at HGOT ⊢
        have HPL2 := Lib.hid (show (C.upd k L2).pg k = L2 from by rw [pg_upd (by rw [hlen]; exact hk), if_pos rfl])
        obtain ⟨C2, hC2⟩ : ∃ D, C.upd k L2 = D := ⟨_, rfl⟩
        rw [hC2] at HPL2 ⊢
        have HC2 := Lib.hid hC2
        have HLC := Lib.hid (show ∀ i k, (C2.lines i k).length ≤ 900000 from by rw [← hC2]; exact hl)
        dsimp only
        have HLST := Lib.hid (show ∀ W, ChAt W y V n C2 → Calls Try.prog 40 #[.pointer (some ⟨y.P k, 0, none⟩)] W fun e w' => ∃ v, e = .returned v ∧ OwnCls w' W.heap.size v (walkS L2) ∧ Below W.heap.size W w' from fun W hW => by
          have := list_any W _ _ _ (hW.pgs k hk) (HPL2.out ▸ HPG.out.tr) (HPL2.out ▸ pg_bound HPG.out) (by rw [HPL2.out]; have := HPL.out; omega)
          rwa [HPL2.out] at this)
        have HFND := Lib.hid (show ∀ (W : World) (B : Nat) (v : Value), OwnCls W B v (walkS L2) → Calls Try.prog 47 #[v, .agg #[.int .i64 (k : Int), .int .i64 b]] W fun e w' => e = .returned (.tuple #[.agg (clA d), .bool true]) ∧ Below W.heap.size W w' from fun W B v hv => by
          have := find_any W B v _ hv (walk_uq HPG.out.tr) (by rw [(walk_perm HPG.out.tr).length_eq]; have := HPL.out; omega) ((k : Int), b)
          rwa [HGOT.out] at this)
        have HCZ0 := clA_size d
        have HC10 := clA_one d
        have HT := Lib.hid (fun W hW => tell_any W y V n C2 hW HLC.out k hk d)
        obtain ⟨CX, hCX⟩ : ∃ x, clA d = x := ⟨_, rfl⟩
        rw [hCX] at HFND HCZ0 HC10 HT
        have HCZ := Lib.hid (show (#[.int .i64 0, .int .i64 0, .int .i64 0, .int .i64 0, .int .i64 0, .string ⟨#[]⟩, .string ⟨#[]⟩, .string ⟨#[]⟩, .string ⟨#[]⟩, .int .i64 0, .string ⟨#[]⟩, .string ⟨#[]⟩, .string ⟨#[]⟩, .string ⟨#[]⟩, .string ⟨#[]⟩, .bool false, .int .i64 0, .string ⟨#[]⟩, .string ⟨#[]⟩, .bool false] : Array Value).size = CX.size from by rw [HCZ0]; rfl)
        have HCS := Lib.hid HCZ0
        have HC1 := Lib.hid HC10
        clear hE hr hc hI h hg hl hi hk h0 hb kS hlen hL2 hdd hC2 hCX HCZ0 HC10
        go_enter Try.func31, Try.ntmps31
        go_wp2_with (go_at_call 39; refine HI.out.mono ?_; rintro e w1 ⟨rfl, rfl⟩)
        refine wp_region_hold (fun W => ChAt W y V n C ∧ Blk W w.heap.size 33 #[.int .i64 (k : Int), .int .i64 b]) [0, 1, 2, 3, 4, 5, 6, 7, 8] [] [9, 10] (by kernel_rfl) (by kernel_rfl) (fun _ d _ _ _ h => by cases d <;> exact h) (⟨H.out.drewN 1, KS.out.drewN 1⟩) ?_
        simp only [pick, List.drop_succ_cons, List.drop_zero, List.head?_cons, Option.toList_some, List.cons_append, List.nil_append, List.append_nil]
        try simp only [Act.put]
        repeat ((refine wpHeld_step ?_ rfl ?_ ?_; rotate_left; · (intro W hW; obtain ⟨c0, c1⟩ := hW.1.cells; obtain ⟨s0, s1⟩ := hW.1.seat HK.out; have q0 : W.cell? ⟨w.heap.size, 0, none⟩ = some (.int .i64 (k : Int)) := hW.2.cell 0; have q1 : W.cell? ⟨w.heap.size, 1, none⟩ = some (.int .i64 b) := hW.2.cell 1; (go_simp; try with_reducible rfl))); simp only [Act.put, List.setIfInBounds_toArray, List.set_cons_succ, List.set_cons_zero])
        refine wpHeld_nil ?_
        simp only [wpEarly]
        go_wp2_with fail
        have hp := (H.out.drewN 1).pdrop HK.out (HG.out k HK.out).1 ((k : Int), b)
        rw [HD.out, HC2.out] at hp
        refine hp.mono ?_
        rintro e w2 ⟨rfl, h2, o2⟩
        have KS2 := Lib.hid (o2.blk (KS.out.drewN 1) fun hf => ((H.out.drewN 1).pgs k HK.out).wr.not_blk (hf ▸ KS.out.drewN 1) (by decide) (by decide))
        have H2 := Lib.hid h2
        have O2 := Lib.hid o2
        clear hp h2 o2 g0 gf gl
        go_upto_region 8 with fail
        go_cut [8] from 9 to 44 (fun v8 wx => ∃ g, v8 = .pointer (some ⟨g, 0, none⟩) ∧ Blk wx g 56 CX ∧ Below w2.heap.size w2 wx)
        case first =>
          refine wp_region_ats (fun W => ChAt W y V n C2 ∧ Blk W w.heap.size 33 #[.int .i64 (k : Int), .int .i64 b]) (by kernel_rfl) (by kernel_rfl) (fun _ d _ _ _ h => by cases d <;> exact h) rfl ?_
          have B2 : Below w2.heap.size w2 w2.drew := (Below.refl _ _).drew
          generalize w2.drew = w2d at *
          refine ats_take [0, 1, 2, 3, 4, 5, 6, 7, 9] 8 rfl (by kernel_rfl) ⟨H2.out.below B2, KS2.out.below B2 KS2.out.lt⟩ ?_
          simp only [pick, List.drop_succ_cons, List.drop_zero, List.head?_cons, Option.toList_some, List.cons_append, List.nil_append, List.append_nil]
          repeat ((refine wpHeld_step ?_ rfl ?_ ?_; rotate_left; · (intro W hW; obtain ⟨c0, c1⟩ := hW.1.cells; obtain ⟨s0, s1⟩ := hW.1.seat HK.out; have q0 : W.cell? ⟨w.heap.size, 0, none⟩ = some (.int .i64 (k : Int)) := hW.2.cell 0; have q1 : W.cell? ⟨w.heap.size, 1, none⟩ = some (.int .i64 b) := hW.2.cell 1; (go_simp; try with_reducible rfl))); simp only [Act.put, List.setIfInBounds_toArray, List.set_cons_succ, List.set_cons_zero])
          refine wpHeld_nil ?_
          refine ats_two 8 14 (by kernel_rfl) ?_ ?_
          · simp only [pick, List.drop_succ_cons, List.drop_zero, List.head?_cons, Option.toList_some, List.append_nil]
            go_wp2_with fail
            refine (HLST.out _ (H2.out.below B2)).mono ?_
            rintro e w3 ⟨v, rfl, own, b3⟩
            have B3 := B2.trans (b3.mono B2.size)
            try go_wp2_with fail
            refine ⟨⟨H2.out.below B3, KS2.out.below B3 KS2.out.lt⟩, ?_⟩
            refine ats_two 10 14 (by kernel_rfl) ?_ ?_
            · simp only [pick, List.drop_succ_cons, List.drop_zero, List.head?_cons, Option.toList_some, List.append_nil]
              go_wp2_with fail
              refine (HFND.out _ _ _ own).mono ?_
              rintro e w4 ⟨rfl, b4⟩
              have B4 := B3.trans (b4.mono B3.size)
              try go_wp2_with fail
              refine ⟨⟨H2.out.below B4, KS2.out.below B4 KS2.out.lt⟩, ?_⟩
              refine ats_take [11, 12, 13] 3 rfl (by kernel_rfl) ⟨H2.out.below B4, KS2.out.below B4 KS2.out.lt⟩ ?_
              simp only [pick, List.drop_succ_cons, List.drop_zero, List.head?_cons, Option.toList_some, List.cons_append, List.nil_append, List.append_nil]
              repeat ((refine wpHeld_step ?_ rfl ?_ ?_; rotate_left; · (intro W hW; (go_simp; try with_reducible rfl))); simp only [Act.put, List.setIfInBounds_toArray, List.set_cons_succ, List.set_cons_zero])
              refine wpHeld_nil ?_
              refine ats_one 14 (by kernel_rfl) ?_
              simp only [pick, List.drop_succ_cons, List.drop_zero, List.head?_cons, Option.toList_some, List.append_nil]
              have z5 := Blk.new w4 56 #[.int .i64 0, .int .i64 0, .int .i64 0, .int .i64 0, .int .i64 0, .string ⟨#[]⟩, .string ⟨#[]⟩, .string ⟨#[]⟩, .string ⟨#[]⟩, .int .i64 0, .string ⟨#[]⟩, .string ⟨#[]⟩, .string ⟨#[]⟩, .string ⟨#[]⟩, .string ⟨#[]⟩, .bool false, .int .i64 0, .string ⟨#[]⟩, .string ⟨#[]⟩, .bool false]
              have B5 := B4.alloc B4.size (.cells #[.int .i64 0, .int .i64 0, .int .i64 0, .int .i64 0, .int .i64 0, .string ⟨#[]⟩, .string ⟨#[]⟩, .string ⟨#[]⟩, .string ⟨#[]⟩, .int .i64 0, .string ⟨#[]⟩, .string ⟨#[]⟩, .string ⟨#[]⟩, .string ⟨#[]⟩, .string ⟨#[]⟩, .bool false, .int .i64 0, .string ⟨#[]⟩, .string ⟨#[]⟩, .bool false] 56)
              have hge := B4.size
              go_wp2_with fail
              obtain ⟨g, hgg⟩ : ∃ g, w4.heap.size = g := ⟨_, rfl⟩
              rw [hgg] at z5 hge
              try simp only [hgg]
              generalize w4.alloc (.cells #[.int .i64 0, .int .i64 0, .int .i64 0, .int .i64 0, .int .i64 0, .string ⟨#[]⟩, .string ⟨#[]⟩, .string ⟨#[]⟩, .string ⟨#[]⟩, .int .i64 0, .string ⟨#[]⟩, .string ⟨#[]⟩, .string ⟨#[]⟩, .string ⟨#[]⟩, .string ⟨#[]⟩, .bool false, .int .i64 0, .string ⟨#[]⟩, .string ⟨#[]⟩, .bool false] 56) = w5 at *
              clear hgg
              refine ⟨⟨H2.out.below B5, KS2.out.below B5 KS2.out.lt⟩, ?_⟩
              refine ats_one 15 (by kernel_rfl) ?_
              simp only [pick, List.drop_succ_cons, List.drop_zero, List.head?_cons, Option.toList_some, List.append_nil]
              refine wpList_store_row rfl 56 (.tmp 8) (.tmp 43) rfl g CX rfl rfl _ _ z5 (by rw [HCS.out]; kernel_rfl) HCZ.out HC1.out ?_
              have zf := blk_setRow (C := CX) z5
              have BF := below_setRow (g := g) CX B5 hge
              go_wp2_with fail
              refine ⟨⟨H2.out.below BF, KS2.out.below BF KS2.out.lt⟩, ?_⟩
              refine ats_one 16 (by kernel_rfl) ?_
              simp only [pick, List.drop_succ_cons, List.drop_zero, List.head?_cons, Option.toList_some, List.append_nil]
              go_wp2_with fail
              refine ⟨⟨H2.out.below BF, KS2.out.below BF KS2.out.lt⟩, ?_⟩
              refine ats_end (by kernel_rfl) ?_
              go_wp2_with fail
              go_meet
              exact ⟨g, rfl, zf, BF⟩
            · simp only [pick, List.drop_succ_cons, List.drop_zero, List.head?_cons, Option.toList_some, List.append_nil]
              have z4 := Blk.new w3 56 #[.int .i64 0, .int .i64 0, .int .i64 0, .int .i64 0, .int .i64 0, .string ⟨#[]⟩, .string ⟨#[]⟩, .string ⟨#[]⟩, .string ⟨#[]⟩, .int .i64 0, .string ⟨#[]⟩, .string ⟨#[]⟩, .string ⟨#[]⟩, .string ⟨#[]⟩, .string ⟨#[]⟩, .bool false, .int .i64 0, .string ⟨#[]⟩, .string ⟨#[]⟩, .bool false]
              have B4 := B3.alloc B3.size (.cells #[.int .i64 0, .int .i64 0, .int .i64 0, .int .i64 0, .int .i64 0, .string ⟨#[]⟩, .string ⟨#[]⟩, .string ⟨#[]⟩, .string ⟨#[]⟩, .int .i64 0, .string ⟨#[]⟩, .string ⟨#[]⟩, .string ⟨#[]⟩, .string ⟨#[]⟩, .string ⟨#[]⟩, .bool false, .int .i64 0, .string ⟨#[]⟩, .string ⟨#[]⟩, .bool false] 56)
              replace own := own.below (below_self_alloc _ (.cells #[.int .i64 0, .int .i64 0, .int .i64 0, .int .i64 0, .int .i64 0, .string ⟨#[]⟩, .string ⟨#[]⟩, .string ⟨#[]⟩, .string ⟨#[]⟩, .int .i64 0, .string ⟨#[]⟩, .string ⟨#[]⟩, .string ⟨#[]⟩, .string ⟨#[]⟩, .string ⟨#[]⟩, .bool false, .int .i64 0, .string ⟨#[]⟩, .string ⟨#[]⟩, .bool false] 56))
              have hge := B3.size
              go_wp2_with fail
              obtain ⟨g, hgg⟩ : ∃ g, w3.heap.size = g := ⟨_, rfl⟩
              rw [hgg] at z4 hge
              try simp only [hgg]
              generalize w3.alloc (.cells #[.int .i64 0, .int .i64 0, .int .i64 0, .int .i64 0, .int .i64 0, .string ⟨#[]⟩, .string ⟨#[]⟩, .string ⟨#[]⟩, .string ⟨#[]⟩, .int .i64 0, .string ⟨#[]⟩, .string ⟨#[]⟩, .string ⟨#[]⟩, .string ⟨#[]⟩, .string ⟨#[]⟩, .bool false, .int .i64 0, .string ⟨#[]⟩, .string ⟨#[]⟩, .bool false] 56) = w4 at *
              clear hgg
              refine ⟨⟨H2.out.below B4, KS2.out.below B4 KS2.out.lt⟩, ?_⟩
              refine ats_one 10 (by kernel_rfl) ?_
              simp only [pick, List.drop_succ_cons, List.drop_zero, List.head?_cons, Option.toList_some, List.append_nil]
              go_wp2_with fail
              refine (HFND.out _ _ _ own).mono ?_
              rintro e w5 ⟨rfl, b5⟩
              have B5 := B4.trans (b5.mono B4.size)
              have z5 := z4.below b5 z4.lt
              try go_wp2_with fail
              refine ⟨⟨H2.out.below B5, KS2.out.below B5 KS2.out.lt⟩, ?_⟩
              refine ats_take [11, 12, 13] 2 rfl (by kernel_rfl) ⟨H2.out.below B5, KS2.out.below B5 KS2.out.lt⟩ ?_
              simp only [pick, List.drop_succ_cons, List.drop_zero, List.head?_cons, Option.toList_some, List.cons_append, List.nil_append, List.append_nil]
              repeat ((refine wpHeld_step ?_ rfl ?_ ?_; rotate_left; · (intro W hW; (go_simp; try with_reducible rfl))); simp only [Act.put, List.setIfInBounds_toArray, List.set_cons_succ, List.set_cons_zero])
              refine wpHeld_nil ?_
              refine ats_one 15 (by kernel_rfl) ?_
              simp only [pick, List.drop_succ_cons, List.drop_zero, List.head?_cons, Option.toList_some, List.append_nil]
              refine wpList_store_row rfl 56 (.tmp 8) (.tmp 43) rfl g CX rfl rfl _ _ z5 (by rw [HCS.out]; kernel_rfl) HCZ.out HC1.out ?_
              have zf := blk_setRow (C := CX) z5
              have BF := below_setRow (g := g) CX B5 hge
              go_wp2_with fail
              refine ⟨⟨H2.out.below BF, KS2.out.below BF KS2.out.lt⟩, ?_⟩
              refine ats_one 16 (by kernel_rfl) ?_
              simp only [pick, List.drop_succ_cons, List.drop_zero, List.head?_cons, Option.toList_some, List.append_nil]
              go_wp2_with fail
              refine ⟨⟨H2.out.below BF, KS2.out.below BF KS2.out.lt⟩, ?_⟩
              refine ats_end (by kernel_rfl) ?_
              go_wp2_with fail
              go_meet
              exact ⟨g, rfl, zf, BF⟩
          · simp only [pick, List.drop_succ_cons, List.drop_zero, List.head?_cons, Option.toList_some, List.append_nil]
            have z3 := Blk.new w2d 56 #[.int .i64 0, .int .i64 0, .int .i64 0, .int .i64 0, .int .i64 0, .string ⟨#[]⟩, .string ⟨#[]⟩, .string ⟨#[]⟩, .string ⟨#[]⟩, .int .i64 0, .string ⟨#[]⟩, .string ⟨#[]⟩, .string ⟨#[]⟩, .string ⟨#[]⟩, .string ⟨#[]⟩, .bool false, .int .i64 0, .string ⟨#[]⟩, .string ⟨#[]⟩, .bool false]
            have B3 := B2.alloc B2.size (.cells #[.int .i64 0, .int .i64 0, .int .i64 0, .int .i64 0, .int .i64 0, .string ⟨#[]⟩, .string ⟨#[]⟩, .string ⟨#[]⟩, .string ⟨#[]⟩, .int .i64 0, .string ⟨#[]⟩, .string ⟨#[]⟩, .string ⟨#[]⟩, .string ⟨#[]⟩, .string ⟨#[]⟩, .bool false, .int .i64 0, .string ⟨#[]⟩, .string ⟨#[]⟩, .bool false] 56)
            have hge := B2.size
            go_wp2_with fail
            obtain ⟨g, hgg⟩ : ∃ g, w2d.heap.size = g := ⟨_, rfl⟩
            rw [hgg] at z3 hge
            try simp only [hgg]
            generalize w2d.alloc (.cells #[.int .i64 0, .int .i64 0, .int .i64 0, .int .i64 0, .int .i64 0, .string ⟨#[]⟩, .string ⟨#[]⟩, .string ⟨#[]⟩, .string ⟨#[]⟩, .int .i64 0, .string ⟨#[]⟩, .string ⟨#[]⟩, .string ⟨#[]⟩, .string ⟨#[]⟩, .string ⟨#[]⟩, .bool false, .int .i64 0, .string ⟨#[]⟩, .string ⟨#[]⟩, .bool false] 56) = w3 at *
            clear hgg
            refine ⟨⟨H2.out.below B3, KS2.out.below B3 KS2.out.lt⟩, ?_⟩
            refine ats_one 8 (by kernel_rfl) ?_
            simp only [pick, List.drop_succ_cons, List.drop_zero, List.head?_cons, Option.toList_some, List.append_nil]
            go_wp2_with fail
            refine (HLST.out _ (H2.out.below B3)).mono ?_
            rintro e w4 ⟨v, rfl, own, b4⟩
            have B4 := B3.trans (b4.mono B3.size)
            have z4 := z3.below b4 z3.lt
            try go_wp2_with fail
            refine ⟨⟨H2.out.below B4, KS2.out.below B4 KS2.out.lt⟩, ?_⟩
            refine ats_one 10 (by kernel_rfl) ?_
            simp only [pick, List.drop_succ_cons, List.drop_zero, List.head?_cons, Option.toList_some, List.append_nil]
            go_wp2_with fail
            refine (HFND.out _ _ _ own).mono ?_
            rintro e w5 ⟨rfl, b5⟩
            have B5 := B4.trans (b5.mono B4.size)
            have z5 := z4.below b5 z4.lt
            try go_wp2_with fail
            refine ⟨⟨H2.out.below B5, KS2.out.below B5 KS2.out.lt⟩, ?_⟩
            refine ats_take [11, 12, 13] 2 rfl (by kernel_rfl) ⟨H2.out.below B5, KS2.out.below B5 KS2.out.lt⟩ ?_
            simp only [pick, List.drop_succ_cons, List.drop_zero, List.head?_cons, Option.toList_some, List.cons_append, List.nil_append, List.append_nil]
            repeat ((refine wpHeld_step ?_ rfl ?_ ?_; rotate_left; · (intro W hW; (go_simp; try with_reducible rfl))); simp only [Act.put, List.setIfInBounds_toArray, List.set_cons_succ, List.set_cons_zero])
            refine wpHeld_nil ?_
            refine ats_one 15 (by kernel_rfl) ?_
            simp only [pick, List.drop_succ_cons, List.drop_zero, List.head?_cons, Option.toList_some, List.append_nil]
            refine wpList_store_row rfl 56 (.tmp 8) (.tmp 43) rfl g CX rfl rfl _ _ z5 (by rw [HCS.out]; kernel_rfl) HCZ.out HC1.out ?_
            have zf := blk_setRow (C := CX) z5
            have BF := below_setRow (g := g) CX B5 hge
            go_wp2_with fail
            refine ⟨⟨H2.out.below BF, KS2.out.below BF KS2.out.lt⟩, ?_⟩
            refine ats_one 16 (by kernel_rfl) ?_
            simp only [pick, List.drop_succ_cons, List.drop_zero, List.head?_cons, Option.toList_some, List.append_nil]
            go_wp2_with fail
            refine ⟨⟨H2.out.below BF, KS2.out.below BF KS2.out.lt⟩, ?_⟩
            refine ats_end (by kernel_rfl) ?_
            go_wp2_with fail
            go_meet
            exact ⟨g, rfl, zf, BF⟩
        case rest =>
          obtain ⟨g, rfl, zf, BF⟩ := hcut
          have HZF := Lib.hid zf
          have HBF := Lib.hid BF
          clear zf BF
          go_wp2_with (first | (refine wpList_val rfl rfl (.agg CX) (exec_load_blk (x := .tmp 8) rfl rfl HCS.out HZF.out) ?_) | (go_at_call 48; refine (HT.out _ (H2.out.below HBF.out)).mono ?_; rintro e w3 ⟨⟨r, rfl⟩, V', h3, t3⟩))
          go_ret
          exact ⟨rfl, V', h3, (Turn.of_below HB.out.drew).trans ((Turn.page HK.out O2.out).trans ((Turn.of_below HBF.out).trans t3))⟩
    · have hr : withdrawS C k (a, b) = (C, 12) := if_pos ha
      rw [hr]
      have hne : (a != (k : Int)) = true := by simpa using ha
      have H := Lib.hid h0
      have HB := Lib.hid hb
      clear hE hr hI h hg hl hi hk ha h0 hb kS
      go_enter Try.func31, Try.ntmps31
      go_wp2_with (go_at_call 39; refine HI.out.mono ?_; rintro e w1 ⟨rfl, rfl⟩)
      go_wp2_with fail
      go_ret
      exact ⟨rfl, V, H.out, Turn.of_below HB.out⟩
  · rw [decide_eq_false hi] at hI
    rw [show withdrawI n C i (a, b) = (C, 1) from if_neg hi]
    have HI := Lib.hid hI
    have H := Lib.hid h0
    have HB := Lib.hid hb
    clear hI h hg hl hi h0 hb kS
    go_enter Try.func31, Try.ntmps31
    go_wp2_with (go_at_call 39; refine HI.out.mono ?_; rintro e w1 ⟨rfl, rfl⟩)
    go_ret
    exact ⟨rfl, V, H.out, Turn.of_below HB.out⟩
end Go.Proofs.Ytaicbllfkehhjaa

/- Propose. -/
namespace Go.Proofs.Ytaicbllfkehhjaa
open Go.RowKit

theorem exec_load_pt {ev : Operand → Value} {o : Oper} {W : World} {x : Operand} (ho : o.op = .load 37 x) {g : Nat} (hx : ev x = .pointer (some ⟨g, 0, none⟩)) {cs : Array Value} (hs : cs.size = 15) (hb : Blk W g 37 cs) :
    (execOp ev o).run Try.prog W = .ok (.value (.agg cs)) W := by
  have := run_loadVar_row (P := Try.prog) W g 37 37 cs (0, 0) _ hb Try.underlying37 rfl (by rw [hs]; kernel_rfl)
  unfold execOp
  simp only [ho, hx, Instr.loadAt, Instr.sureAddr, Sem.run_bind, Sem.run_pure, Result.andThen_ok, this]
theorem ne_of_ty {w : World} {g g' : Nat} {t t' : TypeId} {cs cs' : Array Value} (h : Blk w g t cs) (k : Blk w g' t' cs') (ht : t ≠ t') : g ≠ g' := fun e => by
  subst e
  unfold Blk at h k
  rw [h] at k
  injection k with k
  injection k with _ k
  exact ht k
theorem ne_of_map {w : World} {g b : Nat} {t : TypeId} {cs : Array Value} {L : List (Value × Value)} (k : MapV w b L) (h : Blk w g t cs) : b ≠ g := fun e => by
  subst e
  obtain ⟨es, c, h1, _⟩ := k
  unfold Blk at h
  rw [h1] at h
  cases h
/-- A stamp laid into a variable beside the chamber. -/
theorem ChAt.farSt {w w' : World} {y : Lay} {V : Nat → Nat → Value} {n : Nat} {C : Ch} (h : ChAt w y V n C) {r : Nat} {cs : Array Value} (hb : Blk w r 33 cs) (o : Only (fun g => g = r) w w') : ChAt w' y V n C where
  len := h.len
  pos := h.pos
  max := h.max
  blk := o.blk h.blk (ne_of_ty h.blk hb (by decide))
  sts := o.blk h.sts (ne_of_ty h.sts hb (by decide))
  cap := h.cap
  st := h.st
  map := h.map.only o (ne_of_map h.map hb)
  key := h.key
  mem := h.mem
  pgs := fun i hi => by
    obtain ⟨L', hm, _⟩ := (h.pgs i hi).map
    exact (h.pgs i hi).only o (ne_of_ty (h.pgs i hi).blk hb (by decide)) (ne_of_map hm hb)
  ques := fun i k hi hk hne => by
    obtain ⟨h1, vs, h2, h3, h4, h5⟩ := h.ques i k hi hk hne
    exact ⟨o.blk h1 (ne_of_ty h1 hb (by decide)), vs, h2.only o (fun g hg e => h2.ne_blk hb (by decide) (by rw [hg, e])), h3, fun j x m hx hm => o.owns (h4 j x m hx hm) fun g hg e => (h4 j x m hx hm).ne_blk hb (by decide) (by rw [hg, e]), h5⟩
  slow := fun g hg => Nat.lt_of_lt_of_le (h.slow g hg) o.size
  injM := h.injM
  nemb := h.nemb
  injQ := h.injQ
  injV := h.injV
theorem Turn.st {w0 w w' : World} {y : Lay} {V V' : Nat → Nat → Value} {n : Nat} (h : Turn w0 w y V V' n) {r : Nat} (hr : w0.heap.size ≤ r) (o : Only (fun g => g = r) w w') : Turn w0 w' y V V' n := ⟨h.1.trans o fun _ e => .inr (e ▸ hr), h.2⟩
theorem only_two (w : World) (r : Nat) (u v : Value) : Only (fun g => g = r) w ((w.setCell ⟨r, 0, none⟩ u).setCell ⟨r, 1, none⟩ v) := ((Only.refl (fun g => g = r) w).setCell (p := ⟨r, 0, none⟩) (.inl rfl) u).setCell (p := ⟨r, 1, none⟩) (.inl rfl) v
def proposeI (n : Nat) (C : Ch) (i : Int) (t : St2) (p : Pt) : Ch × St2 × Int := if 0 ≤ i ∧ i < (n : Int) then proposeS C i.toNat t p else (C, z2, 1)
theorem cntS_step {l : List Cl} {j : Nat} {c : Cl} (h : l[j]? = some c) : cntS (l.take (j + 1)) = max (cntS (l.take j)) (c.id.2 + 1) := by
  unfold cntS
  rw [List.take_add_one, h]
  simp [List.foldl_append]
/-- The clause while its count is sought. -/
def cand (k : Nat) (c : Int) (t : St2) (p : Pt) : Cl := ⟨((k : Int), c), t, p, false⟩

set_option maxRecDepth 100000 in
set_option maxHeartbeats 1000000 in
theorem propose_any (w : World) (y : Lay) (V : Nat → Nat → Value) (n : Nat) (C : Ch) (h : ChAt w y V n C) (hg : Sane n C) (hl : ∀ i k, (C.lines i k).length ≤ 900000) (i a b : Int) (p : Pt) :
    Calls Try.prog 29 #[.pointer (some ⟨y.p, 0, none⟩), .int .i64 i, .agg #[.int .i64 a, .int .i64 b], .agg (ptA p)] w fun e w' =>
      e = .returned (.tuple #[.agg #[.int .i64 (proposeI n C i (a, b) p).2.1.1, .int .i64 (proposeI n C i (a, b) p).2.1.2], .int .i64 (proposeI n C i (a, b) p).2.2]) ∧ ∃ V', ChAt w' y V' n (proposeI n C i (a, b) p).1 ∧ Turn w w' y V V' n := by
  have hI := fun W (hW : ChAt W y V n C) => is_any W y.p n y.cap _ _ hW.blk i
  have hmax := h.max
  have hcap := h.cap
  have hlen := h.len
  obtain ⟨q, hq⟩ : ∃ q, w.heap.size = q := ⟨_, rfl⟩
  have hb0 : Below q w (((w.alloc (.cells #[.int .i64 a, .int .i64 b] 33)).alloc (.cells (ptA p) 37)).alloc (.cells #[.int .i64 0, .int .i64 0] 33)) := by
    subst hq
    exact (((Below.refl _ w).alloc (Nat.le_refl _) _).alloc (by simp) _).alloc (by simp; omega) _
  have kS : Blk (((w.alloc (.cells #[.int .i64 a, .int .i64 b] 33)).alloc (.cells (ptA p) 37)).alloc (.cells #[.int .i64 0, .int .i64 0] 33)) q 33 #[.int .i64 a, .int .i64 b] := by
    subst hq
    exact ((Blk.new w _ _).alloc _).alloc _
  have kP : Blk (((w.alloc (.cells #[.int .i64 a, .int .i64 b] 33)).alloc (.cells (ptA p) 37)).alloc (.cells #[.int .i64 0, .int .i64 0] 33)) (q + 1) 37 (ptA p) := by
    subst hq
    exact (Blk.new1 w _ _ _).alloc _
  have kR : Blk (((w.alloc (.cells #[.int .i64 a, .int .i64 b] 33)).alloc (.cells (ptA p) 37)).alloc (.cells #[.int .i64 0, .int .i64 0] 33)) (q + 1 + 1) 33 #[.int .i64 0, .int .i64 0] := by
    subst hq
    have := Blk.new ((w.alloc (.cells #[.int .i64 a, .int .i64 b] 33)).alloc (.cells (ptA p) 37)) 33 #[.int .i64 0, .int .i64 0]
    simpa using this
  have H0 := Lib.hid (h.below (hq ▸ hb0))
  have HB0 := Lib.hid (hq ▸ hb0 : Below w.heap.size w _)
  have HI := Lib.hid (hI _ H0.out)
  have kR4 := kR.all
  obtain ⟨r0, rf, rl⟩ := kR4
  by_cases hi : 0 ≤ i ∧ i < (n : Int)
  · obtain ⟨k, rfl⟩ := Int.eq_ofNat_of_zero_le hi.1
    have hk : k < n := by omega
    have hE : proposeI n C (k : Int) (a, b) p = proposeS C k (a, b) p := by unfold proposeI; rw [if_pos hi, Int.toNat_natCast]
    rw [decide_eq_true hi] at HI
    rw [hE]
    obtain ⟨R, hR⟩ : ∃ R, proposeS C k (a, b) p = R := ⟨_, rfl⟩
    rw [hR]
    unfold proposeS at hR
    obtain ⟨L, hL⟩ : ∃ L, C.pg k = L := ⟨_, rfl⟩
    rw [hL] at hR
    have hi0 : (0 : Int) ≤ (k : Int) := hi.1
    have hi1 : (k : Int) < (n : Int) := hi.2
    have hpg : Pg L := hL ▸ (hg k hk).1
    have hpl : L.length ≤ 100000 := hL ▸ (hg k hk).2
    have HLST := Lib.hid (show ∀ W, ChAt W y V n C → Calls Try.prog 40 #[.pointer (some ⟨y.P k, 0, none⟩)] W fun e w' => ∃ v, e = .returned v ∧ OwnCls w' W.heap.size v (walkS L) ∧ Below W.heap.size W w' from fun W hW => by
      have := list_any W _ _ _ (hW.pgs k hk) (hL ▸ hpg.tr) (hL ▸ pg_bound hpg) (by rw [hL]; omega)
      rwa [hL] at this)
    obtain ⟨N, hN⟩ : ∃ N, (walkS L).length = N := ⟨_, rfl⟩
    have hNl : N ≤ 100000 := by rw [← hN, (walk_perm hpg.tr).length_eq]; exact hpl
    have HFND := Lib.hid (show ∀ (W : World) (B : Nat) (v : Value), OwnCls W B v (walkS L) → Calls Try.prog 47 #[v, .agg #[.int .i64 a, .int .i64 b]] W fun e w' => e = .returned (.tuple #[.agg (clA ((getC (walkS L) (a, b)).getD zcl)), .bool (getC (walkS L) (a, b)).isSome]) ∧ Below W.heap.size W w' from fun W B v hv =>
      find_any W B v _ hv (walk_uq hpg.tr) (by omega) (a, b))
    obtain ⟨K1, hK1⟩ : ∃ K, clA ((getC (walkS L) (a, b)).getD zcl) = K := ⟨_, rfl⟩
    have hKs : K1.size = 20 := by rw [← hK1]; rfl
    have hK1o : K1.all (·.oneCell') = true := by rw [← hK1]; exact clA_one _
    rw [hK1] at HFND
    obtain ⟨T, hT⟩ : ∃ T, (getC (walkS L) (a, b)).isSome = T := ⟨_, rfl⟩
    rw [hT] at HFND
    have HR := Lib.hid hR
    have HK := Lib.hid hk
    have HG := Lib.hid hg
    have HLL := Lib.hid hl
    have HLEN := Lib.hid hlen
    have HL := Lib.hid hL
    have HPG := Lib.hid hpg
    have HN := Lib.hid hN
    have HTT := Lib.hid hT
    have HKS := Lib.hid hKs
    have HK1 := Lib.hid hK1o
    have KS := Lib.hid kS
    have KP := Lib.hid kP
    have KR := Lib.hid kR
    obtain ⟨c0, c1⟩ := H0.out.cells
    obtain ⟨s0, s1⟩ := H0.out.seat hk
    have t0 := KS.out.cell 0
    have t1 := KS.out.cell 1
    clear h hg hl hb0 kS kP hI hi kR hE hR hL hpg hpl hN hT hKs hK1 hk hlen hK1o
    go_enter Try.func29, Try.ntmps29
    go_upto_region 4 with (first | (go_at_call 39; refine HI.out.mono ?_; rintro e w1 ⟨rfl, rfl⟩) | (go_at_call 40; refine (HLST.out _ H0.out).mono ?_; rintro e w1 ⟨v, rfl, hv, b1⟩))
    generalize (((w.alloc (.cells #[.int .i64 a, .int .i64 b] 33)).alloc (.cells (ptA p) 37)).alloc (.cells #[.int .i64 0, .int .i64 0] 33)) = W0 at *
    have HV1 := Lib.hid hv
    have B1 := Lib.hid b1
    clear hv b1 c0 c1 s0 s1 t0 t1 r0 rf rl
    have t0 : w1.cell? ⟨q, 0, none⟩ = some (.int .i64 a) := (KS.out.below B1.out KS.out.lt).cell 0
    have t1 : w1.cell? ⟨q, 1, none⟩ = some (.int .i64 b) := (KS.out.below B1.out KS.out.lt).cell 1
    go_upto_region 5 with (first | (go_at_call 47; refine (HFND.out _ _ _ HV1.out).mono ?_; rintro e w2 ⟨rfl, b2⟩) | (refine wpList_store_row rfl 56 (.tmp 11) (.tmp 35) rfl w2.heap.size K1 rfl rfl _ _ (Blk.new w2 56 #[.int .i64 0, .int .i64 0, .int .i64 0, .int .i64 0, .int .i64 0, .string ⟨#[]⟩, .string ⟨#[]⟩, .string ⟨#[]⟩, .string ⟨#[]⟩, .int .i64 0, .string ⟨#[]⟩, .string ⟨#[]⟩, .string ⟨#[]⟩, .string ⟨#[]⟩, .string ⟨#[]⟩, .bool false, .int .i64 0, .string ⟨#[]⟩, .string ⟨#[]⟩, .bool false]) (by rw [HKS.out]; kernel_rfl) (by rw [HKS.out]; rfl) HK1.out ?_))
    have B3 := Lib.hid (below_setRow (g := w2.heap.size) K1 ((B1.out.trans (b2.mono B1.out.size)).alloc (Nat.le_trans B1.out.size b2.size) (.cells #[.int .i64 0, .int .i64 0, .int .i64 0, .int .i64 0, .int .i64 0, .string ⟨#[]⟩, .string ⟨#[]⟩, .string ⟨#[]⟩, .string ⟨#[]⟩, .int .i64 0, .string ⟨#[]⟩, .string ⟨#[]⟩, .string ⟨#[]⟩, .string ⟨#[]⟩, .string ⟨#[]⟩, .bool false, .int .i64 0, .string ⟨#[]⟩, .string ⟨#[]⟩, .bool false] 56)) (Nat.le_trans B1.out.size b2.size))
    have HV3 := Lib.hid ((HV1.out.below b2).below (below_setRow (g := w2.heap.size) K1 (below_self_alloc w2 (.cells #[.int .i64 0, .int .i64 0, .int .i64 0, .int .i64 0, .int .i64 0, .string ⟨#[]⟩, .string ⟨#[]⟩, .string ⟨#[]⟩, .string ⟨#[]⟩, .int .i64 0, .string ⟨#[]⟩, .string ⟨#[]⟩, .string ⟨#[]⟩, .string ⟨#[]⟩, .string ⟨#[]⟩, .bool false, .int .i64 0, .string ⟨#[]⟩, .string ⟨#[]⟩, .bool false] 56)) (Nat.le_refl _)))
    clear t0 t1 b2 HV1 B1
    generalize (w2.alloc (.cells #[.int .i64 0, .int .i64 0, .int .i64 0, .int .i64 0, .int .i64 0, .string ⟨#[]⟩, .string ⟨#[]⟩, .string ⟨#[]⟩, .string ⟨#[]⟩, .int .i64 0, .string ⟨#[]⟩, .string ⟨#[]⟩, .string ⟨#[]⟩, .string ⟨#[]⟩, .string ⟨#[]⟩, .bool false, .int .i64 0, .string ⟨#[]⟩, .string ⟨#[]⟩, .bool false] 56)).setRow w2.heap.size K1 = w3 at *
    have t0 : w3.cell? ⟨q, 0, none⟩ = some (.int .i64 a) := (KS.out.below B3.out KS.out.lt).cell 0
    have t1 : w3.cell? ⟨q, 1, none⟩ = some (.int .i64 b) := (KS.out.below B3.out KS.out.lt).cell 1
    have hez : ∀ W : World, (Op.equalIn 10000 33 (.agg #[.int .i64 a, .int .i64 b]) (.agg #[.int .i64 0, .int .i64 0])).run Try.prog W = .ok (decide ((a, b) = z2)) W := eq_st (a, b) z2
    obtain ⟨Z, hZ⟩ : ∃ Z, decide ((a, b) = z2) = Z := ⟨_, rfl⟩
    rw [hZ] at hez
    have HZ := Lib.hid hZ
    clear hZ
    go_cut [43] from 37 to 42 (fun v43 wx => v43 = .bool (!T && !Z) ∧ wx = w3)
    case first =>
      cases T with
      | true =>
        go_wp2_with fail
        go_meet
        exact ⟨rfl, rfl⟩
      | false =>
        go_wp2_with fail
        go_meet
        exact ⟨by simp, rfl⟩
    case rest =>
      obtain ⟨rfl, rfl⟩ := hcut
      have hx3 := HV3.out.form
      obtain ⟨A, xc, hve, hcls⟩ := hx3
      subst hve
      rw [HN.out]
      have HCL := Lib.hid hcls
      clear hcls t0 t1 hez HV3
      have t0 : wc.cell? ⟨q, 0, none⟩ = some (.int .i64 a) := (KS.out.below B3.out KS.out.lt).cell 0
      have t1 : wc.cell? ⟨q, 1, none⟩ = some (.int .i64 b) := (KS.out.below B3.out KS.out.lt).cell 1
      have kRc := (KR.out.below B3.out KR.out.lt)
      have kRa := kRc.all
      obtain ⟨r0, rf, rl⟩ := kRa
      by_cases hTZ : (!T && !Z) = true
      · have h1 : T = false ∧ Z = false := by simpa using hTZ
        have h2 : (a, b) ≠ z2 := fun e => by
          have := HZ.out
          rw [decide_eq_true e, h1.2] at this
          cases this
        have h3 : getC (walkS L) (a, b) = none := by
          have := HTT.out
          rw [h1.1] at this
          simpa using this
        obtain rfl : R = (C, z2, 11) := by rw [← HR.out, if_pos ⟨h2, h3⟩]
        rw [hTZ]
        have HKRC := Lib.hid kRc
        clear h1 h2 h3 hTZ kRc HR HLST HFND HCL
        have kR2 := (HKRC.out.set_ 0 (.int .i64 0)).set_ 1 (.int .i64 0)
        go_wp2_with fail
        have hlv := run_loadVar_row (P := Try.prog) _ _ 33 33 _ (0, 0) _ kR2 Try.underlying33 rfl (by kernel_rfl)
        refine bodyPost_ret (v := .tuple #[.agg #[.int .i64 0, .int .i64 0], .int .i64 11]) (by simp [results, Try.results29, asAddr, hlv]) rfl ⟨rfl, V, ?_, ?_⟩
        · exact (H0.out.below B3.out).farSt HKRC.out (only_two _ _ _ _)
        · exact ((Turn.of_below HB0.out).trans (Turn.of_below B3.out)).st (by omega) (only_two _ _ _ _)
      · have h1 : T = true ∨ Z = true := by
          cases T <;> cases Z <;> simp_all
        have h2 : ¬ ((a, b) ≠ z2 ∧ getC (walkS L) (a, b) = none) := fun ⟨e, e2⟩ => by
          rcases h1 with h1 | h1
          · have := HTT.out
            rw [e2, h1] at this
            cases this
          · have := HZ.out
            rw [h1] at this
            exact e (of_decide_eq_true this)
        have hR := HR.out
        rw [if_neg h2] at hR
        have HR2' := Lib.hid hR
        have hTZf : (!T && !Z) = false := by simpa using hTZ
        rw [hTZf]
        have kPc := Lib.hid (KP.out.below B3.out KP.out.lt)
        have HKRC := Lib.hid kRc
        clear h1 h2 hTZ hTZf HR hR HLST HFND kRc r0 rf rl HTT HZ
        go_upto_region 7 with fail
        refine wp_region_lit ?_
        iterate 3 ((refine wpList_val rfl rfl ?_ ?_ ?_; rotate_left; · (go_simp; with_reducible rfl)); simp only [Act.put, List.setIfInBounds_toArray, List.set_cons_succ, List.set_cons_zero])
        refine wpList_val rfl rfl (.agg (ptA p)) (exec_load_pt (x := .tmp 7) rfl rfl rfl kPc.out) ?_
        simp only [Act.put, List.setIfInBounds_toArray, List.set_cons_succ, List.set_cons_zero]
        refine wpList_buildTo rfl 56 _ rfl (some 49) rfl (clA (cand k 1 (a, b) p)) (by kernel_rfl) ?_
        simp only [Act.put, List.setIfInBounds_toArray, List.set_cons_succ, List.set_cons_zero]
        have hpc := put_cl wc (cand k 1 (a, b) p)
        have hcz := clA_size (cand k 1 (a, b) p)
        have kX := Lib.hid (Blk.new wc 56 (clA (cand k 1 (a, b) p)))
        have BX := Lib.hid (below_self_alloc wc (.cells (clA (cand k 1 (a, b) p)) 56))
        go_upto_region 8 with fail
        clear hpc hcz
        generalize wc.alloc (.cells (clA (cand k 1 (a, b) p)) 56) = wX at *
        obtain ⟨g, hgg⟩ : ∃ g, wc.heap.size = g := ⟨_, rfl⟩
        rw [hgg] at kX BX HCL ⊢
        go_wp2_with fail
        go_loopw [52] (fun i wr => ∃ j : Nat, j ≤ N ∧ i = .int .i64 (j : Int) ∧ Hid (Blk wr g 56 (clA (cand k (cntS ((walkS L).take j)) (a, b) p))) ∧ Hid (Below g wc wr)) (fun i _ => N - (intOf i).toNat)
        case atStart => exact ⟨0, Nat.zero_le _, rfl, kX, BX⟩
        case round =>
          obtain ⟨j, hjN, rfl, HR1, HR2⟩ := hrel
          clear kX BX
          by_cases hlt : j < N
          · obtain ⟨c, hc⟩ : ∃ c, (walkS L)[j]? = some c := ⟨_, List.getElem?_eq_getElem (by rw [HN.out]; exact hlt)⟩
            obtain ⟨g', off, rfl, -, -⟩ := HCL.out j c hc
            have HC := Lib.hid hc
            have HCr := Lib.hid (HCL.out.below HR2.out)
            have hj0 : (0 : Int) ≤ (j : Int) := by omega
            have hj1 : (j : Int) < (N : Int) := by omega
            have hcb : 1 ≤ c.id.2 ∧ c.id.2 ≤ 1000000 := by
              have h1 := (properC_iff.1 (HPG.out.proper c ((walk_perm HPG.out.tr).mem_iff.1 (List.mem_of_getElem? hc)))).1
              omega
            obtain ⟨hcb1, hcb2⟩ := hcb
            clear hc
            go_upto_region 11 with (first | (refine wpList_val rfl rfl (.agg (clA c)) (exec_load_at (x := .tmp 54) rfl rfl HCr.out rfl HC.out) ?_) | (refine wpList_store_row rfl 56 (.tmp 15) (.tmp 55) rfl wr.heap.size (clA c) rfl rfl _ _ (Blk.new wr 56 #[.int .i64 0, .int .i64 0, .int .i64 0, .int .i64 0, .int .i64 0, .string ⟨#[]⟩, .string ⟨#[]⟩, .string ⟨#[]⟩, .string ⟨#[]⟩, .int .i64 0, .string ⟨#[]⟩, .string ⟨#[]⟩, .string ⟨#[]⟩, .string ⟨#[]⟩, .string ⟨#[]⟩, .bool false, .int .i64 0, .string ⟨#[]⟩, .string ⟨#[]⟩, .bool false]) (by kernel_rfl) rfl (clA_one c) ?_))
            have hbw := below_setRow (g := wr.heap.size) (clA c) (below_self_alloc wr (.cells #[.int .i64 0, .int .i64 0, .int .i64 0, .int .i64 0, .int .i64 0, .string ⟨#[]⟩, .string ⟨#[]⟩, .string ⟨#[]⟩, .string ⟨#[]⟩, .int .i64 0, .string ⟨#[]⟩, .string ⟨#[]⟩, .string ⟨#[]⟩, .string ⟨#[]⟩, .string ⟨#[]⟩, .bool false, .int .i64 0, .string ⟨#[]⟩, .string ⟨#[]⟩, .bool false] 56)) (Nat.le_refl _)
            have kc : Blk ((wr.alloc (.cells #[.int .i64 0, .int .i64 0, .int .i64 0, .int .i64 0, .int .i64 0, .string ⟨#[]⟩, .string ⟨#[]⟩, .string ⟨#[]⟩, .string ⟨#[]⟩, .int .i64 0, .string ⟨#[]⟩, .string ⟨#[]⟩, .string ⟨#[]⟩, .string ⟨#[]⟩, .string ⟨#[]⟩, .bool false, .int .i64 0, .string ⟨#[]⟩, .string ⟨#[]⟩, .bool false] 56)).setRow wr.heap.size (clA c)) wr.heap.size 56 (clA c) := blk_setRow (Blk.new wr _ #[.int .i64 0, .int .i64 0, .int .i64 0, .int .i64 0, .int .i64 0, .string ⟨#[]⟩, .string ⟨#[]⟩, .string ⟨#[]⟩, .string ⟨#[]⟩, .int .i64 0, .string ⟨#[]⟩, .string ⟨#[]⟩, .string ⟨#[]⟩, .string ⟨#[]⟩, .string ⟨#[]⟩, .bool false, .int .i64 0, .string ⟨#[]⟩, .string ⟨#[]⟩, .bool false])
            have kx := HR1.out.below hbw HR1.out.lt
            have hgl : g < wr.heap.size := HR1.out.lt
            have HBW := Lib.hid (HR2.out.trans (hbw.mono (Nat.le_of_lt hgl)))
            clear hbw
            generalize (wr.alloc (.cells #[.int .i64 0, .int .i64 0, .int .i64 0, .int .i64 0, .int .i64 0, .string ⟨#[]⟩, .string ⟨#[]⟩, .string ⟨#[]⟩, .string ⟨#[]⟩, .int .i64 0, .string ⟨#[]⟩, .string ⟨#[]⟩, .string ⟨#[]⟩, .string ⟨#[]⟩, .string ⟨#[]⟩, .bool false, .int .i64 0, .string ⟨#[]⟩, .string ⟨#[]⟩, .bool false] 56)).setRow wr.heap.size (clA c) = w4 at *
            generalize wr.heap.size = gc at *
            obtain ⟨X, hX⟩ : ∃ X, cntS ((walkS L).take j) = X := ⟨_, rfl⟩
            rw [hX] at kx
            have hstep := cntS_step HC.out
            rw [hX] at hstep
            have hone := cntS_one ((walkS L).take j)
            rw [hX] at hone
            have HSTEP := Lib.hid hstep
            have k1 : w4.cell? ⟨gc, 1, none⟩ = some (.int .i64 c.id.2) := kc.cell 1
            have x1 : w4.cell? ⟨g, 1, none⟩ = some (.int .i64 X) := kx.cell 1
            have f1 := kx.frozen 1
            have KXX := Lib.hid kx
            have hmx : ∀ (ts : Array TypeId) (t : TypeId) (W : World), (Builtin.max_ ts t #[.int .i64 X, .int .i64 (c.id.2 + 1)]).run Try.prog W = .ok (.int .i64 (max X (c.id.2 + 1))) W := run_max2 _ _ _ rfl
            clear kc kx hstep hX HR1 HR2
            go_wp2_with fail
            refine ⟨⟨j + 1, by omega, by go_num, Lib.hid ?_, Lib.hid (HBW.out.setCell (p := ⟨g, 1, none⟩) (Nat.le_refl _) _)⟩, by simp [intOf]; omega⟩
            rw [HSTEP.out]
            exact KXX.out.set_ 1 (.int .i64 (max X (c.id.2 + 1)))
          · obtain rfl : j = N := by omega
            have hk0 := HR1.out
            rw [← HN.out, List.take_length] at hk0
            have KX := Lib.hid (show Blk wr g 56 (clA (newC k L (a, b) p)) from hk0)
            have B5 := Lib.hid (B3.out.trans (HR2.out.mono (hgg ▸ B3.out.size)))
            have hR := HR2'.out
            clear hk0 HR1 HR2 HCL B3
            obtain ⟨M, hM⟩ : ∃ M, cntS (walkS L) = M := ⟨_, rfl⟩
            rw [hM] at hR
            have x1 : wr.cell? ⟨g, 1, none⟩ = some (.int .i64 M) := (KX.out.cell 1).trans (by rw [← hM]; rfl)
            have HKRR := Lib.hid (KR.out.below B5.out KR.out.lt)
            by_cases hgt : 1000000 < M
            · obtain rfl : R = (C, z2, 2) := by rw [← hR, if_pos hgt]
              clear hR HR2'
              have kR2 := (HKRR.out.set_ 0 (.int .i64 0)).set_ 1 (.int .i64 0)
              have kRa := HKRR.out.all
              obtain ⟨r0, rf, rl⟩ := kRa
              go_wp2_with fail
              have hlv := run_loadVar_row (P := Try.prog) _ _ 33 33 _ (0, 0) _ kR2 Try.underlying33 rfl (by kernel_rfl)
              refine bodyPost_ret (v := .tuple #[.agg #[.int .i64 0, .int .i64 0], .int .i64 2]) (by simp [results, Try.results29, asAddr, hlv]) rfl ⟨rfl, V, ?_, ?_⟩
              · exact (H0.out.below B5.out).farSt HKRR.out (only_two _ _ _ _)
              · exact ((Turn.of_below HB0.out).trans (Turn.of_below B5.out)).st (by omega) (only_two _ _ _ _)
            · rw [if_neg hgt] at hR
              have hP := fun W (hW : ChAt W y V n C) => hW.pput HK.out (HG.out k HK.out).1 (by have := (HG.out k HK.out).2; omega) (newC k L (a, b) p)
              rw [HL.out] at hP
              have hT := fun D W (hW : ChAt W y V n (C.upd k D)) => tell_any W y V n (C.upd k D) hW HLL.out k HK.out (newC k L (a, b) p)
              have hid : (newC k L (a, b) p).id = ((k : Int), M) := by rw [← hM]; rfl
              have hcz := clA_size (newC k L (a, b) p)
              obtain ⟨x, hx⟩ : ∃ x, newC k L (a, b) p = x := ⟨_, rfl⟩
              rw [hx] at hP hR hT hid hcz KX
              have hxid : (clA x)[0]? = some (.int .i64 (k : Int)) ∧ (clA x)[1]? = some (.int .i64 M) := by
                constructor
                · show some (Value.int .i64 x.id.1) = _
                  rw [hid]
                · show some (Value.int .i64 x.id.2) = _
                  rw [hid]
              obtain ⟨CX, hCX⟩ : ∃ X, clA x = X := ⟨_, rfl⟩
              rw [hCX] at hP hT hcz KX hxid
              have HCZ := Lib.hid hcz
              have HX := Lib.hid hxid
              have HT := Lib.hid hT
              have HPP := Lib.hid hP
              have H5 := Lib.hid (H0.out.below B5.out)
              clear hT hP hcz hxid hCX HR2' hx
              have HRR := Lib.hid hR
              clear hR
              go_upto_region 15 with fail
              clear x1
              refine wp_region_hold (fun W => ChAt W y V n C ∧ Blk W g 56 CX) [0, 1, 2, 3, 4, 5, 6, 7, 8] [] [9, 10] (by kernel_rfl) (by kernel_rfl) (fun _ d _ _ _ h => by cases d <;> exact h) (⟨H5.out.drewN 1, KX.out.drewN 1⟩) ?_
              simp only [pick, List.drop_succ_cons, List.drop_zero, List.head?_cons, Option.toList_some, List.cons_append, List.nil_append, List.append_nil]
              try simp only [Act.put]
              repeat ((refine wpHeld_step ?_ rfl ?_ ?_; rotate_left; · (intro W hW; obtain ⟨c0, c1⟩ := hW.1.cells; obtain ⟨s0, s1⟩ := hW.1.seat HK.out; first | (refine exec_load_blk (x := .tmp 13) ?_ ?_ HCZ.out hW.2 <;> rfl) | (go_simp; try with_reducible rfl))); simp only [Act.put, List.setIfInBounds_toArray, List.set_cons_succ, List.set_cons_zero])
              refine wpHeld_nil ?_
              simp only [wpEarly]
              go_wp2_with fail
              refine (HPP.out _ (H5.out.drewN 1)).mono ?_
              rintro e w6 ⟨rfl, h6, o6⟩
              have hR := HRR.out
              clear HRR
              obtain ⟨D, hD⟩ : ∃ D, (putS L x).1 = D := ⟨_, rfl⟩
              obtain ⟨E, hEE⟩ : ∃ E, (putS L x).2 = E := ⟨_, rfl⟩
              have herr : E ≠ 0 → D = L := fun e => by rw [← hD]; exact put_err (by rw [hEE]; exact e)
              rw [hD] at h6 hR
              rw [hEE] at hR ⊢
              clear hD hEE
              have o6' := o6.undrewN
              have notM : ∀ {g t cs}, Blk wr g t cs → t ≠ 75 → t ≠ 41 → Blk w6 g t cs := fun {g t cs} kk e1 e2 => o6'.blk kk fun hf => ((H5.out.pgs k HK.out).wr).not_blk (hf ▸ kk) e1 e2
              have KX6 := Lib.hid (notM KX.out (by decide) (by decide))
              have HKR6 := Lib.hid (notM HKRR.out (by decide) (by decide))
              have H6 := Lib.hid h6
              have T6 := Lib.hid ((Turn.of_below (y := y) (V := V) (n := n) HB0.out).trans ((Turn.of_below B5.out).trans (Turn.page HK.out o6')))
              have hsz6 : w.heap.size ≤ q + 1 + 1 := by omega
              clear notM o6 o6' h6 KX HKRR H5 B5
              by_cases hE0 : E = 0
              · subst hE0
                obtain rfl : R = ((C.upd k D).tell k x, x.id, 0) := by rw [← hR, if_neg (fun e => e rfl)]
                clear hR herr
                go_upto_region 19 with (first | (refine wpList_val rfl rfl (.agg CX) (exec_load_blk (x := .tmp 13) rfl rfl HCZ.out KX6.out) ?_) | (go_at_call 48; refine (HT.out _ _ H6.out).mono ?_; rintro e w7 ⟨⟨r, rfl⟩, V', h7, t7⟩))
                have k7 := t7.blk H6.out KX6.out (by decide) (by decide)
                have r7 := t7.blk H6.out HKR6.out (by decide) (by decide)
                have x0 : w7.cell? ⟨g, 0, none⟩ = some (.int .i64 (k : Int)) := (k7.cell 0).trans HX.out.1
                have x1 : w7.cell? ⟨g, 1, none⟩ = some (.int .i64 M) := (k7.cell 1).trans HX.out.2
                have kR2 := (r7.set_ 0 (.int .i64 (k : Int))).set_ 1 (.int .i64 M)
                have kRa := r7.all
                obtain ⟨r0, rf, rl⟩ := kRa
                have H7 := Lib.hid h7
                have T7 := Lib.hid t7
                have KR7 := Lib.hid r7
                clear k7 h7 t7 r7
                go_wp2_with fail
                have hlv := run_loadVar_row (P := Try.prog) _ _ 33 33 _ (0, 0) _ kR2 Try.underlying33 rfl (by kernel_rfl)
                refine bodyPost_ret (v := .tuple #[.agg #[.int .i64 (k : Int), .int .i64 M], .int .i64 0]) (by simp [results, Try.results29, asAddr, hlv]) rfl ⟨rfl, V', ?_, ?_⟩
                · exact H7.out.farSt KR7.out (only_two _ _ _ _)
                · exact (T6.out.trans T7.out).st hsz6 (only_two _ _ _ _)
              · obtain rfl : R = (C, z2, E) := by rw [← hR, if_pos hE0]
                obtain rfl := herr hE0
                have h6 := H6.out
                rw [← HL.out, upd_self (by rw [HLEN.out]; exact HK.out)] at h6
                have kR2 := (HKR6.out.set_ 0 (.int .i64 0)).set_ 1 (.int .i64 0)
                have kRa := HKR6.out.all
                obtain ⟨r0, rf, rl⟩ := kRa
                have hne : (E != 0) = true := by simpa using hE0
                have H7 := Lib.hid h6
                clear hR herr h6 H6 hE0
                go_wp2_with fail
                have hlv := run_loadVar_row (P := Try.prog) _ _ 33 33 _ (0, 0) _ kR2 Try.underlying33 rfl (by kernel_rfl)
                refine bodyPost_ret (v := .tuple #[.agg #[.int .i64 0, .int .i64 0], .int .i64 E]) (by simp [results, Try.results29, asAddr, hlv]) rfl ⟨rfl, V, ?_, ?_⟩
                · exact H7.out.farSt HKR6.out (only_two _ _ _ _)
                · exact T6.out.st hsz6 (only_two _ _ _ _)
  · rw [show proposeI n C i (a, b) p = (C, z2, 1) from if_neg hi]
    rw [decide_eq_false hi] at HI
    dsimp only [z2]
    have KR := Lib.hid kR
    clear h hg hl hb0 kS kP hI hi kR
    go_enter Try.func29, Try.ntmps29
    go_wp2_with (go_at_call 39; refine HI.out.mono ?_; rintro e w1 ⟨rfl, rfl⟩)
    have hlv := run_loadVar_row (P := Try.prog) _ _ 33 33 _ (0, 0) _ KR.out Try.underlying33 rfl (by kernel_rfl)
    exact bodyPost_ret (v := .tuple #[.agg #[.int .i64 0, .int .i64 0], .int .i64 1]) (by simp [results, Try.results29, asAddr, hlv]) rfl ⟨rfl, V, H0.out, Turn.of_below HB0.out⟩
end Go.Proofs.Ytaicbllfkehhjaa

/- slices.Equal of clauses; Settled. -/
namespace Go.Proofs.Ytaicbllfkehhjaa
open Go.RowKit

set_option maxRecDepth 100000 in
set_option maxHeartbeats 8000000 in
theorem equal_any (w : World) (B1 B2 : Nat) (A1 A2 : Option Addr) (cap1 cap2 : Nat) (l m : List Cl) (h1 : ClsAt w B1 A1 l) (h2 : ClsAt w B2 A2 m) (hl : l.length ≤ 1000000) (hm : m.length ≤ 1000000) :
    Calls Try.prog 43 #[.slice A1 l.length cap1, .slice A2 m.length cap2] w fun e w' => e = .returned (.bool (decide (l = m))) ∧ ∃ n, w' = w.drewN n := by
  have H1 := Lib.hid h1
  have H2 := Lib.hid h2
  obtain ⟨N, hN⟩ : ∃ N, l.length = N := ⟨_, rfl⟩
  obtain ⟨M, hM⟩ : ∃ M, m.length = M := ⟨_, rfl⟩
  obtain ⟨R, hR⟩ : ∃ R, decide (l = m) = R := ⟨_, rfl⟩
  rw [hN] at hl ⊢
  rw [hM] at hm ⊢
  rw [hR]
  have HN := Lib.hid hN
  have HM := Lib.hid hM
  have HR := Lib.hid hR
  clear h1 h2 hN hM hR
  go_enter Try.func43, Try.ntmps43
  by_cases hNM : N = M
  · subst hNM
    go_wp2_with fail
    go_loopw [13] (fun i wr => ∃ k nq : Nat, wr = w.drewN nq ∧ k ≤ N ∧ i = .int .i64 (k : Int) ∧ Hid (l.take k = m.take k)) (fun i _ => N - (intOf i).toNat)
    case atStart => exact ⟨0, 0, rfl, Nat.zero_le _, rfl, Lib.hid rfl⟩
    case round =>
      obtain ⟨k, nq, rfl, hk, rfl, HK⟩ := hrel
      by_cases hkN : k < N
      · obtain ⟨c, hc⟩ : ∃ c, l[k]? = some c := ⟨_, List.getElem?_eq_getElem (by rw [HN.out]; exact hkN)⟩
        obtain ⟨d, hd⟩ : ∃ d, m[k]? = some d := ⟨_, List.getElem?_eq_getElem (by rw [HM.out]; exact hkN)⟩
        obtain ⟨g1, o1, rfl, -, -⟩ := H1.out k c hc
        obtain ⟨g2, o2, rfl, -, -⟩ := H2.out k d hd
        have e1 : decide ((k : Int) < (N : Int)) = true := decide_eq_true (by omega)
        have hez := eq_cl c d
        have HKN := Lib.hid hkN
        have HC := Lib.hid hc
        have HD := Lib.hid hd
        have HEZ := Lib.hid hez
        clear hc hd hez hkN
        go_upto_region 6 with fail
        refine wp_region_hold (fun W => ClsAt W B1 (some ⟨g1, o1, none⟩) l ∧ ClsAt W B2 (some ⟨g2, o2, none⟩) m) [0, 1, 2, 3, 4, 5, 6, 7] [] [8] (by kernel_rfl) (by kernel_rfl) (fun _ d _ _ _ h => by cases d <;> exact h) ⟨H1.out.drewN (nq + 1), H2.out.drewN (nq + 1)⟩ ?_
        simp only [pick, List.drop_succ_cons, List.drop_zero, List.head?_cons, Option.toList_some, List.cons_append, List.nil_append, List.append_nil]
        have hkN := HKN.out
        iterate 3 (refine wpHeld_step ?_ rfl ?_ ?_; rotate_left; · (intro W hW; go_simp; with_reducible rfl))
        refine wpHeld_step ?_ rfl ?_ ?_
        rotate_left
        · intro W hW; refine exec_load_at (x := .tmp 18) ?_ ?_ hW.1 rfl HC.out <;> rfl
        iterate 3 (refine wpHeld_step ?_ rfl ?_ ?_; rotate_left; · (intro W hW; go_simp; with_reducible rfl))
        refine wpHeld_step ?_ rfl ?_ ?_
        rotate_left
        · intro W hW; refine exec_load_at (x := .tmp 22) ?_ ?_ hW.2 rfl HD.out <;> rfl
        refine wpHeld_nil ?_
        simp only [wpEarly]
        have hez := HEZ.out
        clear HEZ
        by_cases he : c = d
        · have HK2 := Lib.hid (eq_step HK.out HC.out (by rw [he]; exact HD.out))
          rw [decide_eq_true he] at hez
          clear he HK HC HD
          generalize clA c = CC at *
          generalize clA d = CD at *
          go_wp2_with fail
          refine ⟨⟨k + 1, nq + 1, rfl, HKN.out, by go_num, HK2⟩, ?_⟩
          have := HKN.out
          simp [intOf]
          omega
        · obtain rfl : R = false := by
            rw [← HR.out]
            refine decide_eq_false fun e => he ?_
            have h3 := HC.out
            rw [e, HD.out] at h3
            exact (Option.some.inj h3).symm
          rw [decide_eq_false he] at hez
          clear he HK HC HD
          generalize clA c = CC at *
          generalize clA d = CD at *
          go_wp2
          go_ret
          exact ⟨rfl, nq + 1, rfl⟩
      · obtain rfl : k = N := by omega
        obtain rfl : R = true := by
          rw [← HR.out]
          refine decide_eq_true ?_
          have h3 := HK.out
          rw [← HN.out, List.take_length, HN.out, ← HM.out, List.take_length] at h3
          exact h3
        clear HK
        go_wp2
        go_ret
        exact ⟨rfl, nq, rfl⟩
  · have e1 : ((N : Int) != (M : Int)) = true := by simpa using fun h => hNM (by omega)
    obtain rfl : R = false := by
      rw [← HR.out]
      refine decide_eq_false fun e => hNM ?_
      rw [← HN.out, ← HM.out, e]
    go_wp2
    go_ret
    exact ⟨rfl, 0, rfl⟩
end Go.Proofs.Ytaicbllfkehhjaa

/- Settled. -/
namespace Go.Proofs.Ytaicbllfkehhjaa
open Go.RowKit

theorem own_cls {w : World} {B : Nat} {v : Value} {l : List Cl} (h : OwnCls w B v l) : ∃ A cap, v = .slice A l.length cap ∧ ClsAt w w.heap.size A l := h.form
theorem sane_len {n : Nat} {C : Ch} (hg : Sane n C) {i : Nat} (hi : i < n) : (walkS (C.pg i)).length ≤ 100000 := by
  rw [(walk_perm (hg i hi).1.tr).length_eq]
  exact (hg i hi).2

set_option maxRecDepth 100000 in
set_option maxHeartbeats 4000000 in
theorem settled1_any (w : World) (y : Lay) (V : Nat → Nat → Value) (n : Nat) (C : Ch) (h : ChAt w y V n C) (hg : Sane n C) (i : Nat) (hi : i < n) (bc : Nat) (hc : Blk w bc 25 #[.pointer (some ⟨y.p, 0, none⟩)]) :
    Calls Try.prog 42 #[.agg #[.pointer (some ⟨y.P i, 0, none⟩), .int .i64 (i : Int)], .pointer (some ⟨bc, 0, none⟩)] w fun e w' => e = .returned (.bool (!decide (walkS (C.pg i) = walkS (C.pg 0)))) ∧ Below w.heap.size w w' := by
  have h0 : 0 < n := h.pos
  have hl1 := sane_len hg hi
  have hl2 := sane_len hg h0
  have hb := below_self_alloc w (.cells #[.pointer (some ⟨y.P i, 0, none⟩), .int .i64 (i : Int)] 72)
  have H1 := Lib.hid (h.alloc (.cells #[.pointer (some ⟨y.P i, 0, none⟩), .int .i64 (i : Int)] 72))
  have KB := Lib.hid (Blk.new w 72 #[.pointer (some ⟨y.P i, 0, none⟩), .int .i64 (i : Int)])
  have KC := Lib.hid (hc.alloc (.cells #[.pointer (some ⟨y.P i, 0, none⟩), .int .i64 (i : Int)] 72))
  have HLST := Lib.hid (fun W (hW : ChAt W y V n C) (k : Nat) (hk : k < n) => hW.pg_list hg hk)
  obtain ⟨L1, hL1⟩ : ∃ L, walkS (C.pg i) = L := ⟨_, rfl⟩
  obtain ⟨L2, hL2⟩ : ∃ L, walkS (C.pg 0) = L := ⟨_, rfl⟩
  rw [hL1] at hl1 ⊢
  rw [hL2] at hl2 ⊢
  obtain ⟨R, hR⟩ : ∃ R, decide (L1 = L2) = R := ⟨_, rfl⟩
  rw [hR]
  have HR := Lib.hid hR
  have HL1 := Lib.hid hL1
  have HL2 := Lib.hid hL2
  have HI := Lib.hid hi
  have H0 := Lib.hid h0
  have HLL1 := Lib.hid hl1
  have HLL2 := Lib.hid hl2
  have HB := Lib.hid hb
  have hcap := h.cap
  have hmax := h.max
  clear h hg hi hc h0 hl1 hl2 hb hR hL1 hL2
  go_enter Try.func42, Try.ntmps42
  go_wp2_with fail
  refine wp_region_hold (fun W => ChAt W y V n C ∧ Blk W w.heap.size 72 #[.pointer (some ⟨y.P i, 0, none⟩), .int .i64 (i : Int)] ∧ Blk W bc 25 #[.pointer (some ⟨y.p, 0, none⟩)]) [0, 1, 3, 4, 5, 6, 7, 8, 9] [2] [10, 11, 12, 13] (by kernel_rfl) (by kernel_rfl) (fun _ d _ _ _ h => by cases d <;> exact h) (⟨H1.out.drewN 1, KB.out.drewN 1, KC.out.drewN 1⟩) ?_
  simp only [pick, List.drop_succ_cons, List.drop_zero, List.head?_cons, Option.toList_some, List.cons_append, List.nil_append, List.append_nil]
  try simp only [Act.put]
  repeat ((refine wpHeld_step ?_ rfl ?_ ?_; rotate_left; · (intro W hW; obtain ⟨c0, c1⟩ := hW.1.cells; obtain ⟨s0, s1⟩ := hW.1.seat H0.out; rw [Nat.zero_mul] at s0; have hn0 : 0 < n := H0.out; have b0 : W.cell? ⟨w.heap.size, 0, none⟩ = some (.pointer (some ⟨y.P i, 0, none⟩)) := hW.2.1.cell 0; have d0 : W.cell? ⟨bc, 0, none⟩ = some (.pointer (some ⟨y.p, 0, none⟩)) := hW.2.2.cell 0; (go_simp; try with_reducible rfl))); simp only [Act.put, List.setIfInBounds_toArray, List.set_cons_succ, List.set_cons_zero])
  refine wpHeld_nil ?_
  simp only [wpEarly]
  go_wp2_with fail
  have W1 : ChAt (w.alloc (.cells #[.pointer (some ⟨y.P i, 0, none⟩), .int .i64 (i : Int)] 72)).drew y V n C := H1.out.drewN 1
  refine (HLST.out _ W1 i HI.out).mono ?_
  rintro e w2 ⟨v, rfl, hv, b2⟩
  have H2 := Lib.hid (W1.below b2)
  have KB2 := Lib.hid ((show Blk (w.alloc (.cells #[.pointer (some ⟨y.P i, 0, none⟩), .int .i64 (i : Int)] 72)).drew _ _ _ from KB.out.drewN 1).below b2 KB.out.lt)
  have KC2 := Lib.hid ((show Blk (w.alloc (.cells #[.pointer (some ⟨y.P i, 0, none⟩), .int .i64 (i : Int)] 72)).drew _ _ _ from KC.out.drewN 1).below b2 KC.out.lt)
  have B2 := Lib.hid ((below_drew1 HB.out).trans (b2.mono (below_drew1 HB.out).size))
  rw [HL1.out] at hv
  have HV2 := Lib.hid hv
  clear W1 hv b2
  go_wp2_with fail
  refine ⟨⟨H2.out, KB2.out, KC2.out⟩, ?_⟩
  go_wp2_with fail
  refine (HLST.out _ H2.out 0 H0.out).mono ?_
  rintro e w3 ⟨v', rfl, hv', b3⟩
  rw [HL2.out] at hv'
  have hv2 := HV2.out.below b3
  obtain ⟨A1, cap1, rfl, k1⟩ := own_cls hv2
  obtain ⟨A2, cap2, rfl, k2⟩ := own_cls hv'
  have hE := equal_any w3 _ _ A1 A2 cap1 cap2 L1 L2 k1 k2 (by have := HLL1.out; omega) (by have := HLL2.out; omega)
  rw [HR.out] at hE
  have HE := Lib.hid hE
  have B3 := Lib.hid (B2.out.trans (b3.mono B2.out.size))
  obtain ⟨N1, hN1⟩ : ∃ N, L1.length = N := ⟨_, rfl⟩
  obtain ⟨N2, hN2⟩ : ∃ N, L2.length = N := ⟨_, rfl⟩
  rw [hN1, hN2] at HE
  rw [hN1] at hv2 ⊢
  rw [hN2] at hv' ⊢
  clear hv' hv2 k1 k2 hE b3 HV2 hN1 hN2
  go_wp2_with (go_at_call 43; refine HE.out.mono ?_; rintro e w4 ⟨rfl, nq, rfl⟩)
  go_ret
  exact ⟨rfl, B3.out.os, B3.out.tape, B3.out.output, B3.out.size, B3.out.block⟩

theorem settled_iff {n : Nat} {C : Ch} (hn : C.pages.length = n) : settledS C = true ↔ ∀ i, i < n → walkS (C.pg i) = walkS (C.pg 0) := by
  unfold settledS
  rw [List.all_eq_true]
  constructor
  · intro h i hi
    have h1 : C.pages[i]? = some (C.pg i) := by
      unfold Ch.pg
      rw [List.getD_eq_getElem?_getD, List.getElem?_eq_getElem (by omega)]
      rfl
    simpa using h _ (List.mem_of_getElem? h1)
  · intro h L hL
    obtain ⟨i, hi⟩ := List.getElem?_of_mem hL
    have hlt := (List.getElem?_eq_some_iff.1 hi).1
    have h1 : C.pg i = L := by
      unfold Ch.pg
      rw [List.getD_eq_getElem?_getD, hi]
      rfl
    have := h i (by omega)
    rw [h1] at this
    simpa using this

set_option maxRecDepth 100000 in
set_option maxHeartbeats 4000000 in
theorem ixseat_any (w : World) (y : Lay) (V : Nat → Nat → Value) (n : Nat) (C : Ch) (h : ChAt w y V n C) (hg : Sane n C) (bc : Nat) (hc : Blk w bc 25 #[.pointer (some ⟨y.p, 0, none⟩)]) :
    Calls Try.prog 58 #[.slice (some ⟨y.sb, 0, none⟩) n y.cap, .func (Fn.func 42) #[] #[.pointer (some ⟨bc, 0, none⟩)]] w fun e w' => (∃ r : Int, e = .returned (.int .i64 r) ∧ -1 ≤ r ∧ decide (r ≥ 0) = !settledS C) ∧ Below w.heap.size w w' := by
  have hset := settled_iff h.len
  have HS := Lib.hid hset
  have H := Lib.hid h
  have HG := Lib.hid hg
  have HC := Lib.hid hc
  have hcap := h.cap
  have hmax := h.max
  obtain ⟨R, hR⟩ : ∃ R, settledS C = R := ⟨_, rfl⟩
  rw [hR] at HS ⊢
  clear h hg hc hset hR
  go_enter Try.func58, Try.ntmps58
  go_wp2_with fail
  go_loopw [8] (fun i wr => ∃ (k : Nat), k ≤ n ∧ i = .int .i64 (k : Int) ∧ Hid (Below w.heap.size w wr) ∧ Hid (∀ j, j < k → walkS (C.pg j) = walkS (C.pg 0))) (fun i _ => n - (intOf i).toNat)
  case atStart => exact ⟨0, Nat.zero_le _, rfl, Lib.hid (Below.refl _ _), Lib.hid fun j hj => by omega⟩
  case round =>
    obtain ⟨k, hkl, rfl, HB, HK⟩ := hrel
    by_cases hlt : k < n
    · have hr := H.out.below HB.out
      obtain ⟨s0, s1⟩ := hr.seat hlt
      have hF := settled1_any wr y V n C hr HG.out k hlt bc (HC.out.below HB.out HC.out.lt)
      have hi0 : (0 : Int) ≤ (k : Int) := by omega
      have hi1 : (k : Int) < (n : Int) := by omega
      by_cases he : walkS (C.pg k) = walkS (C.pg 0)
      · rw [decide_eq_true he] at hF
        have HF := Lib.hid hF
        have HK2 := Lib.hid (show ∀ j, j < k + 1 → walkS (C.pg j) = walkS (C.pg 0) from fun j hj => by
          rcases Nat.lt_or_ge j k with h1 | h1
          · exact HK.out j h1
          · obtain rfl : j = k := by omega
            exact he)
        clear he HK hF hr
        go_wp2_with (go_at_call 42; refine HF.out.mono ?_; rintro e w3 ⟨rfl, hb3⟩)
        go_roundw
        case rel => exact ⟨k + 1, by omega, by go_num, Lib.hid (HB.out.trans (hb3.mono HB.out.size)), HK2⟩
        case measure => simp [intOf]; omega
      · rw [decide_eq_false he] at hF
        have HF := Lib.hid hF
        obtain rfl : R = false := by
          cases R with
          | false => rfl
          | true => exact absurd (HS.out.1 rfl k hlt) he
        clear he HK hF hr
        go_wp2_with (go_at_call 42; refine HF.out.mono ?_; rintro e w3 ⟨rfl, hb3⟩)
        go_ret
        exact ⟨⟨(k : Int), rfl, by omega, by simp⟩, HB.out.trans (hb3.mono HB.out.size)⟩
    · obtain rfl : k = n := by omega
      obtain rfl : R = true := HS.out.2 HK.out
      clear HK
      go_wp2
      go_ret
      exact ⟨⟨-1, rfl, by omega, by decide⟩, HB.out⟩

set_option maxRecDepth 100000 in
set_option maxHeartbeats 4000000 in
theorem contains_any (w : World) (y : Lay) (V : Nat → Nat → Value) (n : Nat) (C : Ch) (h : ChAt w y V n C) (hg : Sane n C) (bc : Nat) (hc : Blk w bc 25 #[.pointer (some ⟨y.p, 0, none⟩)]) :
    Calls Try.prog 41 #[.slice (some ⟨y.sb, 0, none⟩) n y.cap, .func (Fn.func 42) #[] #[.pointer (some ⟨bc, 0, none⟩)]] w fun e w' => e = .returned (.bool (!settledS C)) ∧ Below w.heap.size w w' := by
  have HI := Lib.hid (ixseat_any w y V n C h hg bc hc)
  obtain ⟨R, hR⟩ : ∃ R, settledS C = R := ⟨_, rfl⟩
  rw [hR] at HI ⊢
  clear h hg hc hR
  go_enter Try.func41, Try.ntmps41
  go_wp2_with (go_at_call 58; refine HI.out.mono ?_; rintro e w3 ⟨⟨r, rfl, hr, hd⟩, hb3⟩)
  go_ret
  exact ⟨by simp, hb3⟩

set_option maxRecDepth 100000 in
set_option maxHeartbeats 4000000 in
theorem settled_any (w : World) (y : Lay) (V : Nat → Nat → Value) (n : Nat) (C : Ch) (h : ChAt w y V n C) (hg : Sane n C) :
    Calls Try.prog 21 #[.pointer (some ⟨y.p, 0, none⟩)] w fun e w' => e = .returned (.bool (settledS C)) ∧ Below w.heap.size w w' := by
  have hb := below_self_alloc w (.cells #[.pointer (some ⟨y.p, 0, none⟩)] 25)
  have h1 := h.alloc (.cells #[.pointer (some ⟨y.p, 0, none⟩)] 25)
  have kC := Blk.new w 25 #[.pointer (some ⟨y.p, 0, none⟩)]
  have HT := Lib.hid (contains_any _ y V n C h1 hg _ kC)
  obtain ⟨c0, c1⟩ := h1.cells
  have d0 := kC.cell 0
  obtain ⟨R, hR⟩ : ∃ R, settledS C = R := ⟨_, rfl⟩
  rw [hR] at HT ⊢
  have HB := Lib.hid hb
  clear h hg h1 kC hR hb
  go_enter Try.func21, Try.ntmps21
  go_wp2_with (go_at_call 41; refine HT.out.mono ?_; rintro e w3 ⟨rfl, hb3⟩)
  go_ret
  exact ⟨by simp, HB.out.trans (hb3.mono HB.out.size)⟩
end Go.Proofs.Ytaicbllfkehhjaa

/- A chamber being built. -/
namespace Go.Proofs.Ytaicbllfkehhjaa
open Go.RowKit

def rowP (P : Nat → Nat) (a : Nat) : List Value := [.pointer (some ⟨P a, 0, none⟩), .int .i64 (a : Int)]
def rowsP (P : Nat → Nat) (s : Nat) : List Value := (List.range s).flatMap (rowP P)
theorem rowsP_succ (P : Nat → Nat) (s : Nat) : rowsP P (s + 1) = rowsP P s ++ rowP P s := by
  unfold rowsP
  rw [List.range_succ, List.flatMap_append]
  simp
theorem rowsP_congr {P P' : Nat → Nat} {s : Nat} (h : ∀ a, a < s → P a = P' a) : rowsP P s = rowsP P' s := by
  unfold rowsP
  rw [List.flatMap_def, List.flatMap_def]
  congr 1
  refine List.map_congr_left fun a ha => ?_
  unfold rowP
  rw [h a (List.mem_range.1 ha)]
def updN (P : Nat → Nat) (i v : Nat) : Nat → Nat := fun a => if a = i then v else P a
theorem updN_same (P : Nat → Nat) (i v : Nat) : updN P i v i = v := if_pos rfl
theorem updN_ne {P : Nat → Nat} {i v a : Nat} (h : a ≠ i) : updN P i v a = P a := if_neg h
def updQ (Q : Nat → Nat → Nat) (i k v : Nat) : Nat → Nat → Nat := fun a b => if a = i ∧ b = k then v else Q a b
theorem updQ_same (Q : Nat → Nat → Nat) (i k v : Nat) : updQ Q i k v i k = v := if_pos ⟨rfl, rfl⟩
theorem updQ_ne {Q : Nat → Nat → Nat} {i k v a b : Nat} (h : ¬ (a = i ∧ b = k)) : updQ Q i k v a b = Q a b := if_neg h
abbrev qT : TypeId := 75
/-- A chamber with s seats and the lines of D. -/
structure Bd (w0 : Nat) (w : World) (p mb s : Nat) (sv : Value) (P M : Nat → Nat) (Q : Nat → Nat → Nat) (L : List (Value × Value)) (D : Nat → Nat → Prop) : Prop where
  blk : Blk w p 68 #[sv, .map (some mb)]
  sts : w.ownsRow w0 72 2 sv s (rowsP P s)
  map : MapV w mb L
  key : ∀ x ∈ L, KyV x.1
  mem : ∀ a b, D a b → (.agg (kyA a b), .pointer (some ⟨Q a b, 0, none⟩)) ∈ L
  new : ∀ x ∈ L, ∃ a b : Nat, D a b ∧ x.1 = .agg (kyA a b)
  pgs : ∀ a, a < s → PgAt w (P a) (M a) []
  ques : ∀ a b, D a b → Blk w (Q a b) qT #[.slice none 0 0]
  lo : w0 ≤ mb ∧ (∀ a, a < s → w0 ≤ M a) ∧ ∀ a b, D a b → w0 ≤ Q a b
  lop : w0 ≤ p
  injM : ∀ a b, a < s → b < s → M a = M b → a = b
  nemb : ∀ a, a < s → M a ≠ mb
  injQ : ∀ a b c d, D a b → D c d → Q a b = Q c d → a = c ∧ b = d
section
variable {w0 : Nat} {w w' : World} {p mb s : Nat} {sv : Value} {P M : Nat → Nat} {Q : Nat → Nat → Nat} {L : List (Value × Value)} {D : Nat → Nat → Prop}
theorem row_ne {v : Value} {n : Nat} {xs : List Value} (h : w.ownsRow w0 72 2 v n xs) {g : Nat} {t : TypeId} {cs : Array Value} (k : Blk w g t cs) (ht : t ≠ 72) : v.ownBlock ≠ some g := fun e => by
  rcases h.2 with ⟨rfl, _⟩ | ⟨g', cap, cur, rfl, _, hh, _⟩
  · cases e
  · have : g' = g := by simpa [Value.ownBlock] using e
    subst this
    unfold Blk at k
    rw [hh] at k
    injection k with k
    injection k with _ k
    exact ht k.symm
theorem row_nem {v : Value} {n : Nat} {xs : List Value} (h : w.ownsRow w0 72 2 v n xs) {b : Nat} {K : List (Value × Value)} (k : MapV w b K) : v.ownBlock ≠ some b := fun e => by
  rcases h.2 with ⟨rfl, _⟩ | ⟨g', cap, cur, rfl, _, hh, _⟩
  · cases e
  · have : g' = b := by simpa [Value.ownBlock] using e
    subst this
    obtain ⟨es, c, h1, _⟩ := k
    rw [h1] at hh
    cases hh
theorem Bd.below (h : Bd w0 w p mb s sv P M Q L D) (k : Below w.heap.size w w') : Bd w0 w' p mb s sv P M Q L D where
  blk := h.blk.below k h.blk.lt
  sts := (Only.of_below k fun _ => False).owns h.sts fun _ _ => id
  map := h.map.below k h.map.lt
  key := h.key
  mem := h.mem
  new := h.new
  pgs := fun a ha => (h.pgs a ha).below k
  ques := fun a b hd => (h.ques a b hd).below k (h.ques a b hd).lt
  lo := h.lo
  lop := h.lop
  injM := h.injM
  nemb := h.nemb
  injQ := h.injQ
/-- One more seat. -/
theorem Bd.seat {w2 w3 : World} {Pn Mn : Nat} {v' : Value} (h : Bd w0 w p mb s sv P M Q L D) (hw0 : w0 ≤ w.heap.size) (b2 : Below w.heap.size w w2) (hp : PgAt w2 Pn Mn []) (lM : w.heap.size ≤ Mn)
    (h3 : w3.ownsRow w0 72 2 v' (s + 1) (rowsP P s ++ rowP (fun _ => Pn) s)) (hg : w2.grownBy w3 sv.ownBlock) :
    Bd w0 (w3.setCell ⟨p, 0, none⟩ v') p mb (s + 1) v' (updN P s Pn) (updN M s Mn) Q L D := by
  have h2 := h.below b2
  have hlt : ∀ g, sv.ownBlock = some g → g < w.heap.size := fun g hg => (World.ownsRow.lt h.sts g hg).2
  have o3 : Only (fun g => sv.ownBlock = some g) w2 w3 := Only.of_grown hg
  have o4 : Only (fun g => sv.ownBlock = some g ∨ g = p) w2 (w3.setCell ⟨p, 0, none⟩ v') := (o3.mono fun _ e => .inl e).setCell (p := ⟨p, 0, none⟩) (.inl (.inr rfl)) _
  have k3 : Blk w3 p 68 #[sv, .map (some mb)] := o3.blk h2.blk (row_ne h2.sts h2.blk (by decide))
  have nemap : ∀ {b K}, MapV w2 b K → ¬ (sv.ownBlock = some b ∨ b = p) := fun {b K} km e => by
    rcases e with e | e
    · exact row_nem h2.sts km e
    · exact ne_of_map km h2.blk e
  have keep : ∀ {a b : Nat}, PgAt w2 a b [] → PgAt (w3.setCell ⟨p, 0, none⟩ v') a b [] := fun {a b} k => by
    obtain ⟨L', hm, _⟩ := k.map
    refine k.only o4 ?_ (nemap hm)
    rintro (e | e)
    · exact row_ne h2.sts k.blk (by decide) e
    · exact ne_of_ty k.blk h2.blk (by decide) e
  refine {
    blk := k3.set_ 0 v'
    sts := ?_
    map := h2.map.only o4 (nemap h2.map)
    key := h.key
    mem := h.mem
    new := h.new
    pgs := fun a ha => ?_
    ques := fun a b hd => o4.blk (h2.ques a b hd) ?_
    lo := ⟨h.lo.1, fun a ha => ?_, h.lo.2.2⟩
    lop := h.lop
    injM := fun a b ha hb e => ?_
    nemb := fun a ha => ?_
    injQ := h.injQ }
  · have e1 : rowsP (updN P s Pn) (s + 1) = rowsP P s ++ rowP (fun _ => Pn) s := by
      rw [rowsP_succ, rowsP_congr (P' := P) fun a ha => updN_ne (by omega)]
      unfold rowP
      rw [updN_same]
    rw [e1]
    exact ((Only.refl (fun g => g = p) w3).setCell (p := ⟨p, 0, none⟩) (.inl rfl) v').owns h3 fun g hg e => row_ne h3 k3 (by decide) (by rw [hg, e])
  · by_cases e : a = s
    · subst e
      rw [updN_same, updN_same]
      exact keep hp
    · rw [updN_ne e, updN_ne e]
      exact keep (h2.pgs a (by omega))
  · rintro (e | e)
    · exact row_ne h2.sts (h2.ques a b hd) (by decide) e
    · exact ne_of_ty (h2.ques a b hd) h2.blk (by decide) e
  · by_cases e : a = s
    · subst e
      rw [updN_same]
      omega
    · rw [updN_ne e]
      exact h.lo.2.1 a (by omega)
  · have hM : ∀ a, a < s → M a < w.heap.size := fun a ha => (h.pgs a ha).ltb
    by_cases e1 : a = s
    · by_cases e2 : b = s
      · omega
      · subst e1
        rw [updN_same, updN_ne e2] at e
        have := hM b (by omega)
        omega
    · rw [updN_ne e1] at e
      by_cases e2 : b = s
      · subst e2
        rw [updN_same] at e
        have := hM a (by omega)
        omega
      · rw [updN_ne e2] at e
        exact h.injM a b (by omega) (by omega) e
  · by_cases e : a = s
    · subst e
      rw [updN_same]
      have := h.map.lt
      omega
    · rw [updN_ne e]
      exact h.nemb a (by omega)
/-- One more line. -/
theorem Bd.line {w2 : World} {i k : Nat} (h : Bd w0 w p mb s sv P M Q L D) (hw0 : w0 ≤ w.heap.size) (hD : ¬ D i k) (hm : MapV w2 mb (L ++ [(.agg (kyA i k), .pointer (some ⟨w.heap.size, 0, none⟩))])) (hg : (w.alloc (.cells #[.slice none 0 0] qT)).grownBy w2 (some mb)) :
    Bd w0 w2 p mb s sv P M (updQ Q i k w.heap.size) (L ++ [(.agg (kyA i k), .pointer (some ⟨w.heap.size, 0, none⟩))]) (fun a b => D a b ∨ (a = i ∧ b = k)) := by
  have h1 := h.below (below_self_alloc w (.cells #[.slice none 0 0] qT))
  have o2 : Only (fun g => some mb = some g) (w.alloc (.cells #[.slice none 0 0] qT)) w2 := Only.of_grown hg
  have nb : ∀ {g t cs}, Blk (w.alloc (.cells #[.slice none 0 0] qT)) g t cs → ¬ some mb = some g := fun {g t cs} kb e => by
    injection e with e
    exact ne_of_map h1.map kb e
  have hlt : ∀ a b, D a b → Q a b < w.heap.size := fun a b hd => (h.ques a b hd).lt
  refine {
    blk := o2.blk h1.blk (nb h1.blk)
    sts := o2.owns h1.sts fun g hg e => row_nem h1.sts h1.map (by rw [hg, e])
    map := hm
    key := fun x hx => ?_
    mem := fun a b hd => ?_
    new := fun x hx => ?_
    pgs := fun a ha => (h1.pgs a ha).only o2 (nb (h1.pgs a ha).blk) fun e => by injection e with e; exact h.nemb a ha e.symm
    ques := fun a b hd => ?_
    lo := ⟨h.lo.1, h.lo.2.1, fun a b hd => ?_⟩
    lop := h.lop
    injM := h.injM
    nemb := h.nemb
    injQ := fun a b c d h1 h2 e => ?_ }
  · rcases List.mem_append.1 hx with hx | hx
    · exact h.key x hx
    · simp only [List.mem_singleton] at hx
      subst hx
      exact ⟨_, _, rfl⟩
  · by_cases e : a = i ∧ b = k
    · obtain ⟨rfl, rfl⟩ := e
      rw [updQ_same]
      exact List.mem_append_right _ (List.mem_singleton.2 rfl)
    · rw [updQ_ne e]
      exact List.mem_append_left _ (h.mem a b (hd.resolve_right e))
  · rcases List.mem_append.1 hx with hx | hx
    · obtain ⟨a, b, h1, h2⟩ := h.new x hx
      exact ⟨a, b, .inl h1, h2⟩
    · simp only [List.mem_singleton] at hx
      subst hx
      exact ⟨i, k, .inr ⟨rfl, rfl⟩, rfl⟩
  · by_cases e : a = i ∧ b = k
    · obtain ⟨rfl, rfl⟩ := e
      rw [updQ_same]
      exact o2.blk (Blk.new w qT _) (nb (Blk.new w qT _))
    · rw [updQ_ne e]
      have hd' := hd.resolve_right e
      exact o2.blk (h1.ques a b hd') (nb (h1.ques a b hd'))
  · by_cases e : a = i ∧ b = k
    · obtain ⟨rfl, rfl⟩ := e
      rw [updQ_same]
      exact hw0
    · rw [updQ_ne e]
      exact h.lo.2.2 a b (hd.resolve_right e)
  · by_cases e1 : a = i ∧ b = k
    · by_cases e2 : c = i ∧ d = k
      · exact ⟨e1.1.trans e2.1.symm, e1.2.trans e2.2.symm⟩
      · have := hlt c d (h2.resolve_right e2)
        obtain ⟨rfl, rfl⟩ := e1
        rw [updQ_same, updQ_ne e2] at e
        omega
    · have ha := h1.resolve_right e1
      rw [updQ_ne e1] at e
      by_cases e2 : c = i ∧ d = k
      · have := hlt a b ha
        obtain ⟨rfl, rfl⟩ := e2
        rw [updQ_same] at e
        omega
      · rw [updQ_ne e2] at e
        exact h.injQ a b c d ha (h2.resolve_right e2) e
theorem Bd.cast {D' : Nat → Nat → Prop} (h : Bd w0 w p mb s sv P M Q L D) (e : ∀ a b, D a b ↔ D' a b) : Bd w0 w p mb s sv P M Q L D' := by
  have : D = D' := funext fun a => funext fun b => propext (e a b)
  exact this ▸ h
/-- The chamber is built. -/
theorem Bd.done {n : Nat} (h : Bd w0 w p mb n sv P M Q L (fun a b => a < n ∧ b < n ∧ a ≠ b)) (hn : 0 < n) (hn2 : n ≤ 1000) :
    ∃ (y : Lay) (V : Nat → Nat → Value), y.p = p ∧ ChAt w y V n (newS n) ∧ ∀ g, Fo y V n g → w0 ≤ g := by
  rcases h.sts.2 with ⟨_, h0⟩ | ⟨sb, cap, cs, rfl, hsb, hh, hcap, _, hcs, htake⟩
  · omega
  have hrow : ∀ a, a < n → ∀ j, j < 2 → cs[a * 2 + j]? = (rowP P a)[j]? := fun a ha j hj => by
    have h1 : (rowsP P n)[a * 2 + j]? = (rowP P a)[j]? := flat_at (f := rowP P) (k := 2) (fun _ => rfl) (by rw [List.getElem?_range ha]) hj
    rw [← htake] at h1
    rw [List.getElem?_take_of_lt (by omega)] at h1
    simpa using h1
  refine ⟨⟨p, sb, cap, mb, cs, P, M, fun a b => if a = b then w.heap.size + a else Q a b, L, fun _ => False⟩, fun _ _ => .slice none 0 0, rfl, {
    len := by simp [newS]
    pos := hn
    max := hn2
    blk := h.blk
    sts := hh
    cap := hcap
    st := fun i hi => ⟨hrow i hi 0 (by omega), hrow i hi 1 (by omega)⟩
    map := h.map
    key := h.key
    mem := fun i k hi hk hne => by
      dsimp only
      rw [if_neg hne]
      exact h.mem i k ⟨hi, hk, hne⟩
    pgs := fun i hi => by
      have : (newS n).pg i = [] := by simp [newS, Ch.pg, List.getD_eq_getElem?_getD, hi]
      rw [this]
      exact h.pgs i hi
    ques := fun i k hi hk hne => by
      dsimp only
      rw [if_neg hne]
      exact ⟨h.ques i k ⟨hi, hk, hne⟩, [], .inl ⟨rfl, rfl⟩, rfl, (fun j x m hx => by cases hx), fun x hx => by cases hx⟩
    slow := fun g hg => hg.elim
    injM := h.injM
    nemb := h.nemb
    injQ := fun i k i' k' hi hk hi' hk' e => by
      dsimp only at e
      by_cases e1 : i = k
      · rw [if_pos e1] at e
        by_cases e2 : i' = k'
        · rw [if_pos e2] at e
          omega
        · rw [if_neg e2] at e
          have := (h.ques i' k' ⟨hi', hk', e2⟩).lt
          omega
      · rw [if_neg e1] at e
        by_cases e2 : i' = k'
        · rw [if_pos e2] at e
          have := (h.ques i k ⟨hi, hk, e1⟩).lt
          omega
        · rw [if_neg e2] at e
          exact h.injQ i k i' k' ⟨hi, hk, e1⟩ ⟨hi', hk', e2⟩ e
    injV := fun i k i' k' _ _ _ _ _ _ g hg => by cases hg }, ?_⟩
  rintro g (rfl | ⟨i, hi, rfl⟩ | ⟨i, k, hi, hk, hne, e | e⟩)
  · exact h.lo.1
  · exact h.lo.2.1 i hi
  · dsimp only at e
    rw [if_neg hne] at e
    exact e ▸ h.lo.2.2 i k ⟨hi, hk, hne⟩
  · cases e
end
end Go.Proofs.Ytaicbllfkehhjaa
