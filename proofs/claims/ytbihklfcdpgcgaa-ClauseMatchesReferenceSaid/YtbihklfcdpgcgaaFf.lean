/- ClauseRefuses, walked. -/
import Derived.Test.YtbihklfcdpgcgaaFe
import Derived.Test.YtbihklfcdpgcgaaPx
namespace Go.Proofs.Ytbihklfcdpgcgaa
open Go.RowKit

theorem refuse_iff {L : List Cl} (h : Pg L) (x : Cl) : (((putS L x).2 == 9) = true ↔ properC x = true ∧ ∃ old, getC (walkS L) x.id = some old ∧ sameC old x = false) := by
  rw [getC_walk h, beq_iff_eq]
  exact (put_arg L x).2
theorem run_max2 {P : Program} (x y z : Int) (h : z = max x y) (ts : Array TypeId) (t : TypeId) (W : World) : (Builtin.max_ ts t #[.int .i64 x, .int .i64 y]).run P W = .ok (.int .i64 z) W := by
  rw [run_max_int2]; congr 2; subst h; split <;> omega
theorem below_drew1 {B : Nat} {a w : World} (h : Below B a w) : Below B a w.drew := ⟨h.os, h.tape, h.output, h.size, h.block⟩
set_option maxRecDepth 100000 in
set_option maxHeartbeats 8000000 in
theorem refuses_walk (w : World) (A1 : Option Addr) (cap1 : Nat) (l : List Cl) (h1 : ClsAt w w.heap.size A1 l) (A2 : Option Addr) (cap2 : Nat) (m : List Cl) (h2 : ClsAt w w.heap.size A2 m) (x : Cl) :
    Calls Try.prog 8 #[.slice A1 l.length cap1, .slice A2 m.length cap2, .agg (clA x)] w fun e w' => e = .returned (.bool true) ∧ Below w.heap.size w w' := by
  have H1 := Lib.hid h1
  have H2 := Lib.hid h2
  obtain ⟨N1, hN1⟩ : ∃ N, l.length = N := ⟨_, rfl⟩
  obtain ⟨N2, hN2⟩ : ∃ N, m.length = N := ⟨_, rfl⟩
  rw [hN1, hN2]
  have HN1 := Lib.hid hN1
  have HN2 := Lib.hid hN2
  obtain ⟨CX, hCX⟩ : ∃ q, clA x = q := ⟨_, rfl⟩
  have B0 := Lib.hid (below_self_alloc w (.cells (clA x) 35))
  have K0 := Lib.hid (Blk.new w 35 (clA x))
  rw [hCX] at B0 K0 ⊢
  have HCX := Lib.hid hCX
  clear h1 h2 hN1 hN2 hCX
  go_enter Try.func8, Try.ntmps8
  go_wp2_with fail
  generalize w.alloc (.cells CX 35) = w0 at *
  refine (head_any _).mono ?_
  rintro e w1 ⟨rfl, b1⟩
  have HB1 := Lib.hid (B0.out.trans (b1.mono B0.out.size))
  have K1 := Lib.hid (K0.out.below b1 K0.out.lt)
  clear b1 B0 K0
  go_wp2_with fail
  refine (ex_few w1 [(A1, N1, cap1), (A2, N2, cap2)] (by simp) 2 rfl).mono ?_
  rintro e w2 ⟨rfl, b2⟩
  have HB2 := Lib.hid (HB1.out.trans (b2.mono HB1.out.size))
  have K2 := Lib.hid (K1.out.below b2 K1.out.lt)
  clear b2 HB1 K1
  by_cases hf : N1 ≤ 80 ∧ N2 ≤ 80
  · have hfw : fewS [(A1, N1, cap1), (A2, N2, cap2)] = true := by simp [fewS, hf]
    rw [hfw]
    have HF := Lib.hid hf
    clear hf hfw
    have PL : ∀ W, Below w.heap.size w W → Calls Try.prog 25 #[.slice A1 N1 cap1] W fun e w' => ∃ p b : Nat, e = .returned (.pointer (some ⟨p, 0, none⟩)) ∧ PP w' w.heap.size p b 160 (pageS l) ∧ W.heap.size ≤ p ∧ W.heap.size ≤ b ∧ Below W.heap.size W w' := fun W hW => by
      have := pp_page W w.heap.size _ A1 cap1 l (H1.out.below hW) hW.size (by have := HN1.out; have := HF.out; omega) hW.size
      rwa [HN1.out] at this
    have PM : ∀ W, Below w.heap.size w W → Calls Try.prog 25 #[.slice A2 N2 cap2] W fun e w' => ∃ p b : Nat, e = .returned (.pointer (some ⟨p, 0, none⟩)) ∧ PP w' w.heap.size p b 160 (pageS m) ∧ W.heap.size ≤ p ∧ W.heap.size ≤ b ∧ Below W.heap.size W w' := fun W hW => by
      have := pp_page W w.heap.size _ A2 cap2 m (H2.out.below hW) hW.size (by have := HN2.out; have := HF.out; omega) hW.size
      rwa [HN2.out] at this
    have HPL := Lib.hid PL
    have HPM := Lib.hid PM
    obtain ⟨L, hL⟩ : ∃ L, pageS l = L := ⟨_, rfl⟩
    obtain ⟨M, hM⟩ : ∃ M, pageS m = M := ⟨_, rfl⟩
    have GL := Lib.hid (page_pg l)
    have GM := Lib.hid (page_pg m)
    rw [hL] at HPL GL
    rw [hM] at HPM GM
    clear PL PM hL hM H1 H2 HN1 HN2 HF
    -- p, was
    go_wp2_with fail
    refine (HPL.out _ HB2.out).mono ?_
    rintro e w3 ⟨p, b, rfl, P3, -, -, b3⟩
    have HB3 := Lib.hid (HB2.out.trans (b3.mono HB2.out.size))
    have K3 := Lib.hid (K2.out.below b3 K2.out.lt)
    have HP3 := Lib.hid P3
    clear HB2 b3 P3 K2
    go_wp2_with fail
    refine (pp_list _ HP3.out (by decide)).mono ?_
    rintro e w4 ⟨v4, rfl, o4, b4⟩
    have HB4 := Lib.hid (HB3.out.trans (b4.mono HB3.out.size))
    have HP4 := Lib.hid (HP3.out.below b4)
    have K4 := Lib.hid (K3.out.below b4 K3.out.lt)
    have HO4 := Lib.hid o4
    clear HB3 HP3 b4 o4 K3
    obtain ⟨V4, c4, rfl⟩ := HO4.out.len
    go_wp2_with fail
    refine (HPM.out _ HB4.out).mono ?_
    rintro e w5 ⟨q, d, rfl, P5, x5, y5, b5⟩
    have HB5 := Lib.hid (HB4.out.trans (b5.mono HB4.out.size))
    have HP5 := Lib.hid (HP4.out.below b5)
    have HQ5 := Lib.hid P5
    have K5 := Lib.hid (K4.out.below b5 K4.out.lt)
    have HO5 := Lib.hid (HO4.out.below b5)
    clear HB4 HP4 b5 P5 x5 y5 HO4 K4
    go_wp2_with fail
    refine (pp_join _ HP5.out HQ5.out (by decide) (by decide)).mono ?_
    rintro e w6 ⟨rfl, ⟨b6, P6, k6⟩, o6⟩
    have HB6 := Lib.hid (HB5.out.trans (o6.below HB5.out.size fun i hi => by rw [hi]; exact HP5.out.lo))
    have HP6 := Lib.hid P6
    have K6 := Lib.hid (o6.blk K5.out (fun e => (HP5.out.at_.blk.ne_ K5.out (by decide)) e.symm))
    have HO6 := Lib.hid (HO5.out.farp HP5.out.at_ o6)
    clear HB5 HP5 HQ5 P6 k6 o6 HO5 K5
    have EJ := Lib.hid (join_err (L := L) (M := M))
    obtain ⟨E, hE⟩ : ∃ E, (joinS L M).2 = E := ⟨_, rfl⟩
    obtain ⟨X, hX⟩ : ∃ X, (joinS L M).1 = X := ⟨_, rfl⟩
    have GX := Lib.hid (show Pg X from by rw [← hX]; exact GL.out.join GM.out)
    rw [hE, hX] at EJ
    rw [hX] at HP6
    rw [hE]
    clear hE hX GM HPL HPM
    by_cases hE0 : E = 0
    case' pos =>
      have e1 : (E != 0) = false := by simpa using hE0
      have HB8 := HB6
      have HP8 := HP6
      have K8 := K6
      clear hE0 EJ HO6 HB6 HP6 K6 GL
      generalize w6 = w8 at *
      go_wp2_with fail
    case' neg =>
      have e1 : (E != 0) = true := by simpa using hE0
      have HXL := Lib.hid (EJ.out hE0)
      clear hE0 EJ
      go_wp2_with fail
      refine (pp_list _ HP6.out (by decide)).mono ?_
      rintro e w7 ⟨v7, rfl, o7, b7⟩
      have HB7 := Lib.hid (HB6.out.trans (b7.mono HB6.out.size))
      have HP7 := Lib.hid (HP6.out.below b7)
      have K7 := Lib.hid (K6.out.below b7 K6.out.lt)
      have HO7 := Lib.hid o7
      have HO7' := Lib.hid (HO6.out.below b7)
      rw [← HXL.out] at HO7'
      clear HB6 HP6 b7 o7 K6 HO6
      obtain ⟨V7, c7, rfl⟩ := HO7.out.len
      go_wp2_with fail
      rw [← HXL.out]
      refine (own_same _ HO7.out HO7'.out (by rw [walk_len GX.out]; have := HP7.out.len; omega) (by rw [walk_len GX.out]; have := HP7.out.len; omega)).mono ?_
      rintro e w8 ⟨he, q8, rfl⟩
      obtain rfl : e = .returned (.bool true) := he.trans (by rw [decide_eq_true rfl])
      have HB8 := Lib.hid (below_drewN HB7.out q8)
      have HP8 := Lib.hid (HP7.out.drewN q8)
      have K8 := Lib.hid (K7.out.drewN q8)
      clear he HB7 HP7 K7 HO7 HO7' HXL GL
      generalize w7.drewN q8 = w8 at *
      go_wp2_with fail
    all_goals
      refine (pp_list _ HP8.out (by decide)).mono ?_
      rintro e w9 ⟨v9, rfl, o9, b9⟩
      have HB9 := Lib.hid (HB8.out.trans (b9.mono HB8.out.size))
      have HP9 := Lib.hid (HP8.out.below b9)
      have K9 := Lib.hid (K8.out.below b9 K8.out.lt)
      have HO9 := Lib.hid o9
      clear HB8 HP8 b9 o9 K8
      obtain ⟨V9, c9, rfl⟩ := HO9.out.len
      have HPU := Lib.hid (pp_put _ HP9.out (by decide) x)
      rw [HCX.out] at HPU
      go_wp2_with (refine load_cl rfl (x := .tmp 5) rfl rfl (c := x) (by rw [HCX.out]; exact K9.out) ?_; rw [HCX.out])
      refine HPU.out.mono ?_
      rintro e w10 ⟨rfl, P10, o10⟩
      have HB10 := Lib.hid (HB9.out.trans (o10.below HB9.out.size fun i hi => by rw [hi]; exact HP9.out.lob))
      have HP10 := Lib.hid P10
      have K10 := Lib.hid (o10.blk K9.out (fun e => by obtain ⟨L', q, _⟩ := HP9.out.at_.map; exact K9.out.ne_map q e))
      have HO10 := Lib.hid (HO9.out.far HP9.out.at_ o10)
      have HXn := Lib.hid (show X.length ≤ 320 from HP9.out.len)
      have EP := Lib.hid (put_err (L := X) (c := x))
      have EA := Lib.hid (put_arg X x)
      clear HB9 HP9 K9 HO9 P10 o10 HPU
      obtain ⟨F, hF⟩ : ∃ F, (putS X x).2 = F := ⟨_, rfl⟩
      obtain ⟨Y, hY⟩ : ∃ Y, (putS X x).1 = Y := ⟨_, rfl⟩
      have GY := Lib.hid (show Pg Y from by rw [← hY]; exact GX.out.put x)
      rw [hF] at EA EP
      rw [hY] at EP HP10
      rw [hF]
      clear hF hY e1
      have hpr := Lib.hid (rProper_any (c := x))
      rw [HCX.out] at hpr
      obtain ⟨bp, hbp⟩ : ∃ q, properC x = q := ⟨_, rfl⟩
      rw [hbp] at hpr EA
      have e2 : (F == 1) = !bp := by
        have := EA.out.1
        cases bp <;> simp at this ⊢ <;> exact this
      clear hbp
      by_cases hF0 : F = 0
      case' pos =>
        have f1 : (F != 0) = false := by simpa using hF0
        have HB12 := HB10
        have K12 := K10
        have HO12 := HO10
        have RR := EA.out.2
        have HRR := Lib.hid RR
        have HPR := hpr
        clear RR hF0 EP EA HB10 K10 HO10 HP10 hpr GY
        generalize w10 = w12 at *
        cases bp
        all_goals
          go_wp2_with (refine load_clg (by kernel_rfl) (x := .tmp 5) rfl rfl (c := x) (by rw [HCX.out]; exact K12.out) ?_; rw [HCX.out])
          refine (HPR.out _).mono ?_
          rintro e w13 ⟨rfl, b13⟩
      case' neg =>
        have f1 : (F != 0) = true := by simpa using hF0
        have YX := Lib.hid (EP.out hF0)
        have RR := EA.out.2
        have HRR := Lib.hid RR
        have HPR := hpr
        clear RR EP EA hF0 hpr
        go_wp2_with fail
        refine (pp_list _ HP10.out (by decide)).mono ?_
        rintro e w11 ⟨v11, rfl, o11, b11⟩
        have HB11 := Lib.hid (HB10.out.trans (b11.mono HB10.out.size))
        have K11 := Lib.hid (K10.out.below b11 K10.out.lt)
        have HO11 := Lib.hid o11
        have HO11' := Lib.hid (HO10.out.below b11)
        rw [YX.out] at HO11
        clear HB10 HP10 K10 HO10 b11 o11
        obtain ⟨V11, c11, rfl⟩ := HO11.out.len
        go_wp2_with fail
        refine (own_same _ HO11.out HO11'.out (by rw [walk_len GX.out]; have := HXn.out; omega) (by rw [walk_len GX.out]; have := HXn.out; omega)).mono ?_
        rintro e w12 ⟨he, q12, rfl⟩
        obtain rfl : e = .returned (.bool true) := he.trans (by rw [decide_eq_true rfl])
        have HB12 := Lib.hid (below_drewN HB11.out q12)
        have K12 := Lib.hid (K11.out.drewN q12)
        have HO12 := Lib.hid (HO11'.out.dN q12)
        clear he HB11 K11 HO11 HO11' YX GY
        generalize w11.drewN q12 = w12 at *
        cases bp
        all_goals
          go_wp2_with (refine load_clg (by kernel_rfl) (x := .tmp 5) rfl rfl (c := x) (by rw [HCX.out]; exact K12.out) ?_; rw [HCX.out])
          refine (HPR.out _).mono ?_
          rintro e w13 ⟨rfl, b13⟩
      all_goals
        have HB13 := Lib.hid (HB12.out.trans (b13.mono HB12.out.size))
        have K13 := Lib.hid (K12.out.below b13 K12.out.lt)
        have HO13 := Lib.hid (HO12.out.below b13)
        clear HB12 K12 HO12 b13 e2 f1
        obtain ⟨i0, i1, -, -, -⟩ := cl_cells (c := x) (by rw [HCX.out]; exact K13.out)
        go_wp2_with fail
        refine (own_find _ HO13.out (by rw [walk_len GX.out]; have := HXn.out; omega) x.id).mono ?_
        rintro e w14 ⟨rfl, b14⟩
        have HB14 := Lib.hid (HB13.out.trans (b14.mono HB13.out.size))
        have K14 := Lib.hid (K13.out.below b14 K13.out.lt)
        have HO14 := Lib.hid (HO13.out.below b14)
        clear HB13 K13 HO13 b14 i0 i1
        have FC := Lib.hid (find_cases (walk_uq GX.out.tr) x.id)
        have GW := Lib.hid (getC_walk GX.out x.id)
        go_upto_region 14 with fail
        first
          | (have hno := HRR.out
             have f9 : (F == 9) = false := by
               have h9 : ¬ F = 9 := fun e => absurd (hno.1 e).1 (by decide)
               simpa using h9
             clear hno
             clear FC GW HRR
             refine wp_region_stages [.free [0, 1, 2, 3], .run [4, 5, 6, 7, 8, 9, 10], .free [11, 12, 13, 14, 15, 16], .run [17, 18, 19, 20, 21, 22]] (by kernel_rfl) (by kernel_rfl) (fun _ d _ _ _ h => by cases d <;> exact h) ?_
             simp only [wpStg, wpRun, pick, List.drop_succ_cons, List.drop_zero, List.head?_cons, Option.toList_some, List.cons_append, List.nil_append, List.append_nil]
             iterate 4 ((first | (refine wpHeld_step ?_ rfl ?_ ?_; rotate_left; · (intro W hW; go_simp; with_reducible rfl)) | (refine wpHeld_want ?_ (by kernel_rfl) ?_ ?_; rotate_left; · (intro W hW; go_simp; with_reducible rfl))); simp only [Act.put, List.setIfInBounds_toArray, List.set_cons_succ, List.set_cons_zero])
             refine wpHeld_nil ?_
             go_wp2_with (refine load_clg (by kernel_rfl) (x := .tmp 5) rfl rfl (c := x) (by rw [HCX.out]; exact K14.out.drew) ?_; rw [HCX.out])
             refine (HPR.out _).mono ?_
             rintro e w15 ⟨rfl, b15⟩
             have HB15 := Lib.hid ((below_drew1 HB14.out).trans (b15.mono (below_drew1 HB14.out).size))
             go_wp2_with fail
             iterate 6 (refine wpHeld_skip (by kernel_rfl) ?_; simp only [Act.put, List.setIfInBounds_toArray, List.set_cons_succ, List.set_cons_zero])
             refine wpHeld_nil ?_
             go_wp2
             go_ret
             exact ⟨rfl, HB15.out⟩
             )
          | (rcases FC.out with ⟨h1, h2⟩ | ⟨k, c, h1, h2, h3⟩
             · have hno := HRR.out
               have f9 : (F == 9) = false := by
                 have h9 : ¬ F = 9 := fun e => by
                   obtain ⟨_, old, q1, _⟩ := hno.1 e
                   rw [← GW.out, h1] at q1
                   cases q1
                 simpa using h9
               rw [h2]
               clear h1 h2 hno
               clear FC GW HRR
               refine wp_region_stages [.free [0, 1, 2, 3], .run [4, 5, 6, 7, 8, 9, 10], .free [11, 12, 13, 14, 15, 16], .run [17, 18, 19, 20, 21, 22]] (by kernel_rfl) (by kernel_rfl) (fun _ d _ _ _ h => by cases d <;> exact h) ?_
               simp only [wpStg, wpRun, pick, List.drop_succ_cons, List.drop_zero, List.head?_cons, Option.toList_some, List.cons_append, List.nil_append, List.append_nil]
               iterate 4 ((first | (refine wpHeld_step ?_ rfl ?_ ?_; rotate_left; · (intro W hW; go_simp; with_reducible rfl)) | (refine wpHeld_want ?_ (by kernel_rfl) ?_ ?_; rotate_left; · (intro W hW; go_simp; with_reducible rfl))); simp only [Act.put, List.setIfInBounds_toArray, List.set_cons_succ, List.set_cons_zero])
               refine wpHeld_nil ?_
               go_wp2_with (refine load_clg (by kernel_rfl) (x := .tmp 5) rfl rfl (c := x) (by rw [HCX.out]; exact K14.out.drew) ?_; rw [HCX.out])
               refine (HPR.out _).mono ?_
               rintro e w15 ⟨rfl, b15⟩
               have HB15 := Lib.hid ((below_drew1 HB14.out).trans (b15.mono (below_drew1 HB14.out).size))
               go_wp2_with fail
               iterate 6 (refine wpHeld_skip (by kernel_rfl) ?_; simp only [Act.put, List.setIfInBounds_toArray, List.set_cons_succ, List.set_cons_zero])
               refine wpHeld_nil ?_
               go_wp2
               go_ret
               exact ⟨rfl, HB15.out⟩
             · have hno := HRR.out
               have f9 : (F == 9) = !sameC c x := by
                 rw [← GW.out, h1] at hno
                 cases hs : sameC c x with
                 | true =>
                   have h9 : ¬ F = 9 := fun e => by
                     obtain ⟨_, old, q1, q2⟩ := hno.1 e
                     injection q1 with q1
                     rw [q1, q2] at hs
                     cases hs
                   simpa using h9
                 | false =>
                   have h9 : F = 9 := hno.2 ⟨trivial, c, rfl, hs⟩
                   simpa using h9
               rw [h3]
               obtain ⟨A9, q9, hv9, hA9⟩ := HO14.out.form
               injection hv9 with hv1 hv2 hv3
               subst hv1
               obtain ⟨g9, o9, rfl, -, -⟩ := hA9 k c h2
               have HA9 := Lib.hid hA9
               have HC9 := Lib.hid h2
               have hk9 : k < (walkS X).length := (List.getElem?_eq_some_iff.1 h2).1
               have hkn : (walkS X).length ≤ 320 := by rw [walk_len GX.out]; exact HXn.out
               clear h1 h2 h3 hno hA9 hv2 hv3
               clear FC GW HRR
               refine wp_region_stages [.free [0, 1, 2, 3], .run [4, 5, 6, 7, 8, 9, 10], .hold (fun W => ClsAt W w14.heap.size (some ⟨g9, o9, none⟩) (walkS X) ∧ Blk W w.heap.size 35 CX) [11, 12, 13, 14, 15, 16] [], .run [17, 18, 19, 20, 21, 22]] (by kernel_rfl) (by kernel_rfl) (fun _ d _ _ _ h => by cases d <;> exact h) ?_
               simp only [wpStg, wpRun, wpEarly, pick, List.drop_succ_cons, List.drop_zero, List.head?_cons, Option.toList_some, List.cons_append, List.nil_append, List.append_nil]
               iterate 4 ((first | (refine wpHeld_step ?_ rfl ?_ ?_; rotate_left; · (intro W hW; go_simp; with_reducible rfl)) | (refine wpHeld_want ?_ (by kernel_rfl) ?_ ?_; rotate_left; · (intro W hW; go_simp; with_reducible rfl))); simp only [Act.put, List.setIfInBounds_toArray, List.set_cons_succ, List.set_cons_zero])
               refine wpHeld_nil ?_
               go_wp2_with (refine load_clg (by kernel_rfl) (x := .tmp 5) rfl rfl (c := x) (by rw [HCX.out]; exact K14.out.drew) ?_; rw [HCX.out])
               refine (HPR.out _).mono ?_
               rintro e w15 ⟨rfl, b15⟩
               have HB15 := Lib.hid ((below_drew1 HB14.out).trans (b15.mono (below_drew1 HB14.out).size))
               have K15 := Lib.hid (K14.out.drew.below b15 K14.out.lt)
               have HA15 := Lib.hid (HA9.out.drew.below b15)
               go_wp2_with fail
               have hmx : ∀ (ts : Array TypeId) (t : TypeId) (W : World), (Builtin.max_ ts t #[.int .i64 (k : Int), .int .i64 0]).run Try.prog W = .ok (.int .i64 (k : Int)) W := fun ts t W => run_max2 _ _ _ (by omega) ts t W
               refine ⟨⟨HA15.out, K15.out⟩, ?_⟩
               iterate 4 ((refine wpHeld_want ?_ (by kernel_rfl) ?_ ?_; rotate_left; · (intro W hW; go_simp; with_reducible rfl)); simp only [Act.put, List.setIfInBounds_toArray, List.set_cons_succ, List.set_cons_zero])
               refine wpHeld_want (.agg (clA c)) (by kernel_rfl) ?_ ?_
               · intro W hW; refine exec_load_at (x := .tmp 76) ?_ ?_ hW.1 rfl HC9.out <;> rfl
               refine wpHeld_want (.agg CX) (by kernel_rfl) ?_ ?_
               · intro W hW; rw [← HCX.out]; refine exec_load_cl (x := .tmp 5) ?_ ?_ (by rw [HCX.out]; exact hW.2) <;> rfl
               simp only [Act.put, List.setIfInBounds_toArray, List.set_cons_succ, List.set_cons_zero]
               refine wpHeld_nil ?_
               have HCT := Lib.hid (rContent_any w15 c x)
               rw [HCX.out] at HCT
               obtain ⟨CC, hCC⟩ : ∃ q, clA c = q := ⟨_, rfl⟩
               rw [hCC] at HCT ⊢
               clear hCC hmx
               go_wp2_with fail
               refine HCT.out.mono ?_
               rintro e w16 ⟨rfl, b16⟩
               have HB16 := Lib.hid (HB15.out.trans (b16.mono HB15.out.size))
               clear b16 HA15 K15 HCT HB15 HA9 HC9
               obtain ⟨bs, hbs⟩ : ∃ q, sameC c x = q := ⟨_, rfl⟩
               rw [hbs] at f9 ⊢
               clear hbs
               cases bs
               all_goals
                 go_wp2
                 go_ret
                 exact ⟨rfl, HB16.out⟩
             )
  · have hfw : fewS [(A1, N1, cap1), (A2, N2, cap2)] = false := by
      simp only [fewS, List.all_cons, List.all_nil, Bool.and_true, Bool.and_eq_false_iff, decide_eq_false_iff_not]
      omega
    rw [hfw]
    clear hf hfw
    go_wp2
    go_ret
    exact ⟨rfl, HB2.out⟩
end Go.Proofs.Ytbihklfcdpgcgaa
