/- ClauseConverges, walked. -/
import Derived.Test.YtbihklfcdpgcgaaFd
namespace Go.Proofs.Ytbihklfcdpgcgaa
open Go.RowKit

theorem PP.perm {w : World} {base p b n : Nat} {L M : List Cl} (h : PP w base p b n L) (q : L.Perm M) : PP w base p b n M := ⟨h.at_.perm q, h.lo, h.lob, h.pg.perm q, by rw [← q.length_eq]; exact h.len⟩
set_option maxRecDepth 100000 in
set_option maxHeartbeats 8000000 in
theorem converges_walk (w : World) (A1 : Option Addr) (cap1 : Nat) (l : List Cl) (h1 : ClsAt w w.heap.size A1 l) (A2 : Option Addr) (cap2 : Nat) (m : List Cl) (h2 : ClsAt w w.heap.size A2 m) (A3 : Option Addr) (cap3 : Nat) (n : List Cl) (h3 : ClsAt w w.heap.size A3 n) :
    Calls Try.prog 4 #[.slice A1 l.length cap1, .slice A2 m.length cap2, .slice A3 n.length cap3] w fun e w' => e = .returned (.bool true) ∧ Below w.heap.size w w' := by
  have H1 := Lib.hid h1
  have H2 := Lib.hid h2
  have H3 := Lib.hid h3
  obtain ⟨N1, hN1⟩ : ∃ N, l.length = N := ⟨_, rfl⟩
  obtain ⟨N2, hN2⟩ : ∃ N, m.length = N := ⟨_, rfl⟩
  obtain ⟨N3, hN3⟩ : ∃ N, n.length = N := ⟨_, rfl⟩
  rw [hN1, hN2, hN3]
  have HN1 := Lib.hid hN1
  have HN2 := Lib.hid hN2
  have HN3 := Lib.hid hN3
  clear h1 h2 h3 hN1 hN2 hN3
  go_enter Try.func4, Try.ntmps4
  go_wp2_with fail
  refine (head_any _).mono ?_
  rintro e w1 ⟨rfl, b1⟩
  have HB1 := Lib.hid b1
  clear b1
  go_wp2_with fail
  refine (ex_few w1 [(A1, N1, cap1), (A2, N2, cap2), (A3, N3, cap3)] (by simp) 3 rfl).mono ?_
  rintro e w2 ⟨rfl, b2⟩
  have HB2 := Lib.hid (HB1.out.trans (b2.mono HB1.out.size))
  clear b2 HB1
  by_cases hf : N1 ≤ 80 ∧ N2 ≤ 80 ∧ N3 ≤ 80
  · have hfw : fewS [(A1, N1, cap1), (A2, N2, cap2), (A3, N3, cap3)] = true := by simp [fewS, hf]
    rw [hfw]
    have HF := Lib.hid hf
    clear hf hfw
    have PL : ∀ W, Below w.heap.size w W → Calls Try.prog 25 #[.slice A1 N1 cap1] W fun e w' => ∃ p b : Nat, e = .returned (.pointer (some ⟨p, 0, none⟩)) ∧ PP w' w.heap.size p b 160 (pageS l) ∧ W.heap.size ≤ p ∧ W.heap.size ≤ b ∧ Below W.heap.size W w' := fun W hW => by
      have := pp_page W w.heap.size _ A1 cap1 l (H1.out.below hW) hW.size (by have := HN1.out; have := HF.out; omega) hW.size
      rwa [HN1.out] at this
    have PM : ∀ W, Below w.heap.size w W → Calls Try.prog 25 #[.slice A2 N2 cap2] W fun e w' => ∃ p b : Nat, e = .returned (.pointer (some ⟨p, 0, none⟩)) ∧ PP w' w.heap.size p b 160 (pageS m) ∧ W.heap.size ≤ p ∧ W.heap.size ≤ b ∧ Below W.heap.size W w' := fun W hW => by
      have := pp_page W w.heap.size _ A2 cap2 m (H2.out.below hW) hW.size (by have := HN2.out; have := HF.out; omega) hW.size
      rwa [HN2.out] at this
    have PN : ∀ W, Below w.heap.size w W → Calls Try.prog 25 #[.slice A3 N3 cap3] W fun e w' => ∃ p b : Nat, e = .returned (.pointer (some ⟨p, 0, none⟩)) ∧ PP w' w.heap.size p b 160 (pageS n) ∧ W.heap.size ≤ p ∧ W.heap.size ≤ b ∧ Below W.heap.size W w' := fun W hW => by
      have := pp_page W w.heap.size _ A3 cap3 n (H3.out.below hW) hW.size (by have := HN3.out; have := HF.out; omega) hW.size
      rwa [HN3.out] at this
    have HPL := Lib.hid PL
    have HPM := Lib.hid PM
    have HPN := Lib.hid PN
    obtain ⟨L, hL⟩ : ∃ L, pageS l = L := ⟨_, rfl⟩
    obtain ⟨M, hM⟩ : ∃ M, pageS m = M := ⟨_, rfl⟩
    obtain ⟨N, hN⟩ : ∃ N, pageS n = N := ⟨_, rfl⟩
    have GL := Lib.hid (page_pg l)
    have GM := Lib.hid (page_pg m)
    have GN := Lib.hid (page_pg n)
    rw [hL] at HPL GL
    rw [hM] at HPM GM
    rw [hN] at HPN GN
    clear PL PM PN hL hM hN H1 H2 H3 HN1 HN2 HN3 HF
    -- a, b
    go_wp2_with fail
    refine (HPL.out _ HB2.out).mono ?_
    rintro e w3 ⟨pa, ma, rfl, PA, -, -, b3⟩
    have HB3 := Lib.hid (HB2.out.trans (b3.mono HB2.out.size))
    have HA := Lib.hid PA
    clear HB2 b3 PA
    go_wp2_with fail
    refine (HPM.out _ HB3.out).mono ?_
    rintro e w4 ⟨pb, mb, rfl, PB, x4, y4, b4⟩
    have HB4 := Lib.hid (HB3.out.trans (b4.mono HB3.out.size))
    have NAB := Lib.hid (show pa ≠ pb from by have := HA.out.at_.blk.lt; omega)
    have HA4 := Lib.hid (HA.out.below b4)
    have HB := Lib.hid PB
    clear HB3 b4 PB HA x4 y4
    -- e
    go_wp2_with fail
    refine (HPM.out _ HB4.out).mono ?_
    rintro e w5 ⟨p5, m5, rfl, P5, x5, y5, b5⟩
    have HB5 := Lib.hid (HB4.out.trans (b5.mono HB4.out.size))
    have N5 := Lib.hid (show pb ≠ pa from fun e => NAB.out e.symm)
    have HA5 := Lib.hid (HA4.out.below b5)
    have HBB5 := Lib.hid (HB.out.below b5)
    have HP5 := Lib.hid P5
    clear HB4 b5 P5 HA4 HB x5 y5
    go_wp2_with fail
    refine (pp_join _ HA5.out HP5.out (by decide) (by decide)).mono ?_
    rintro e w6 ⟨rfl, ⟨ma6, PA6, k6⟩, o6⟩
    have HB6 := Lib.hid (HB5.out.trans (o6.below HB5.out.size fun i hi => by rw [hi]; exact HA5.out.lo))
    have HBB6 := Lib.hid (HBB5.out.farp HA5.out N5.out o6)
    have HA6 := Lib.hid PA6
    clear HB5 PA6 k6 o6 HA5 HBB5 HP5
    -- f
    go_wp2_with fail
    refine (HPL.out _ HB6.out).mono ?_
    rintro e w7 ⟨p7, m7, rfl, P7, x7, y7, b7⟩
    have HB7 := Lib.hid (HB6.out.trans (b7.mono HB6.out.size))
    have HA7 := Lib.hid (HA6.out.below b7)
    have HBB7 := Lib.hid (HBB6.out.below b7)
    have HP7 := Lib.hid P7
    clear HB6 b7 P7 HA6 HBB6 x7 y7
    go_wp2_with fail
    refine (pp_join _ HBB7.out HP7.out (by decide) (by decide)).mono ?_
    rintro e w8 ⟨rfl, ⟨mb8, PB8, k8⟩, o8⟩
    have HB8 := Lib.hid (HB7.out.trans (o8.below HB7.out.size fun i hi => by rw [hi]; exact HBB7.out.lo))
    have HA8 := Lib.hid (HA7.out.farp HBB7.out NAB.out o8)
    have HBB8 := Lib.hid PB8
    clear HB7 PB8 k8 o8 HA7 HBB7 HP7
    have EF := Lib.hid (join_both GL.out.uq GM.out.uq)
    obtain ⟨X, hX⟩ : ∃ X, (joinS L M).1 = X := ⟨_, rfl⟩
    obtain ⟨Y, hY⟩ : ∃ Y, (joinS M L).1 = Y := ⟨_, rfl⟩
    obtain ⟨E, hE⟩ : ∃ E, (joinS L M).2 = E := ⟨_, rfl⟩
    have GX := Lib.hid (show Pg X from by rw [← hX]; exact GL.out.join GM.out)
    rw [hX, hE] at EF
    rw [hY] at EF
    rw [← EF.out.1, hE]
    rw [hX] at HA8
    rw [hY] at HBB8
    have HX := Lib.hid hX
    have HE := Lib.hid hE
    clear hX hY hE
    by_cases hE0 : E = 0
    case' pos =>
      have e1 : (E != 0) = false := by simpa using hE0
      have e2 : (E == 0) = true := by simpa using hE0
      have WXY := Lib.hid (walkS_perm GX.out.uq (EF.out.2 hE0))
      have HE0 := Lib.hid (show (E = 0) = True from eq_true hE0)
      clear hE0 EF
      go_wp2_with fail
      refine (pp_list _ HA8.out (by decide)).mono ?_
      rintro e w9 ⟨v9, rfl, o9, b9⟩
      have HB9 := Lib.hid (HB8.out.trans (b9.mono HB8.out.size))
      have HA9 := Lib.hid (HA8.out.below b9)
      have HBB9 := Lib.hid (HBB8.out.below b9)
      have HO9 := Lib.hid o9
      clear HB8 HA8 HBB8 b9 o9
      obtain ⟨V9, c9, rfl⟩ := HO9.out.len
      go_wp2_with fail
      refine (pp_list _ HBB9.out (by decide)).mono ?_
      rintro e w10 ⟨v10, rfl, o10, b10⟩
      rw [← WXY.out] at o10
      have HB10 := Lib.hid (HB9.out.trans (b10.mono HB9.out.size))
      have HA10 := Lib.hid (HA9.out.below b10)
      have HO10 := Lib.hid o10
      have HO9' := Lib.hid (HO9.out.below b10)
      clear HB9 HA9 HBB9 HO9 b10 o10
      obtain ⟨V10, c10, rfl⟩ := HO10.out.len
      go_wp2_with fail
      refine (own_same _ HO9'.out HO10.out (by rw [walk_len GX.out]; have := HA10.out.len; omega) (by rw [walk_len GX.out]; have := HA10.out.len; omega)).mono ?_
      rintro e w11 ⟨he, q11, rfl⟩
      obtain rfl : e = .returned (.bool true) := he.trans (by rw [decide_eq_true rfl])
      have HB11 := Lib.hid (below_drewN HB10.out q11)
      have HA11 := Lib.hid (HA10.out.drewN q11)
      clear he HB10 HA10 HO9' HO10 WXY
      generalize w10.drewN q11 = w11 at *
      go_wp2_with fail
    case' neg =>
      have e1 : (E != 0) = true := by simpa using hE0
      have e2 : (E == 0) = false := by simpa using hE0
      have HE0 := Lib.hid (show (E = 0) = False from eq_false hE0)
      have HB11 := HB8
      have HA11 := HA8
      clear hE0 EF HBB8 HB8 HA8
      generalize w8 = w11 at *
      go_wp2_with fail
    all_goals
      refine (pp_list _ HA11.out (by decide)).mono ?_
      rintro e w12 ⟨v12, rfl, o12, b12⟩
      have HB12 := Lib.hid (HB11.out.trans (b12.mono HB11.out.size))
      have HA12 := Lib.hid (HA11.out.below b12)
      have HO12 := Lib.hid o12
      clear HB11 HA11 b12 o12
      obtain ⟨V12, c12, rfl⟩ := HO12.out.len
      go_wp2_with fail
      refine (pp_join _ HA12.out HA12.out (by decide) (by decide)).mono ?_
      rintro e w13 ⟨he, ⟨m13, P13, k13⟩, o13⟩
      obtain rfl : e = .returned (.int .i64 0) := he.trans (by rw [(join_self GX.out).1])
      have HB13 := Lib.hid (HB12.out.trans (o13.below HB12.out.size fun i hi => by rw [hi]; exact HA12.out.lo))
      have HA13 := Lib.hid (P13.perm (join_self GX.out).2)
      have HO13 := Lib.hid (HO12.out.farp HA12.out.at_ o13)
      clear he HB12 HA12 P13 k13 o13 HO12
      go_wp2_with fail
      refine (pp_list _ HA13.out (by decide)).mono ?_
      rintro e w14 ⟨v14, rfl, o14, b14⟩
      have HB14 := Lib.hid (HB13.out.trans (b14.mono HB13.out.size))
      have HA14 := Lib.hid (HA13.out.below b14)
      have HO14 := Lib.hid o14
      have HO14' := Lib.hid (HO13.out.below b14)
      clear HB13 HA13 HO13 b14 o14
      obtain ⟨V14, c14, rfl⟩ := HO14.out.len
      go_wp2_with fail
      refine (own_same _ HO14.out HO14'.out (by rw [walk_len GX.out]; have := HA14.out.len; omega) (by rw [walk_len GX.out]; have := HA14.out.len; omega)).mono ?_
      rintro e w15 ⟨he, q15, rfl⟩
      obtain rfl : e = .returned (.bool true) := he.trans (by rw [decide_eq_true rfl])
      have HB15 := Lib.hid (below_drewN HB14.out q15)
      have HA15 := Lib.hid (HA14.out.drewN q15)
      clear he HB14 HA14 HO14' HO14
      generalize w14.drewN q15 = w15 at *
      -- c
      go_wp2_with fail
      refine (HPN.out _ HB15.out).mono ?_
      rintro e w16 ⟨pc, mc, rfl, PC, x16, y16, b16⟩
      have NAC := Lib.hid (show pa ≠ pc from by have := HA15.out.at_.blk.lt; omega)
      have HB16 := Lib.hid (HB15.out.trans (b16.mono HB15.out.size))
      have HA16 := Lib.hid (HA15.out.below b16)
      have HC16 := Lib.hid PC
      clear HB15 HA15 PC x16 y16 b16
      -- g
      go_wp2_with fail
      refine (HPM.out _ HB16.out).mono ?_
      rintro e w17 ⟨p17, m17, rfl, P17, x17, y17, b17⟩
      have HB17 := Lib.hid (HB16.out.trans (b17.mono HB16.out.size))
      have HA17 := Lib.hid (HA16.out.below b17)
      have HC17 := Lib.hid (HC16.out.below b17)
      have HP17 := Lib.hid P17
      clear HB16 HA16 HC16 P17 x17 y17 b17
      go_wp2_with fail
      refine (pp_join _ HC17.out HP17.out (by decide) (by decide)).mono ?_
      rintro e w18 ⟨rfl, ⟨m18, P18, k18⟩, o18⟩
      have HB18 := Lib.hid (HB17.out.trans (o18.below HB17.out.size fun i hi => by rw [hi]; exact HC17.out.lo))
      have HA18 := Lib.hid (HA17.out.farp HC17.out NAC.out o18)
      have HC18 := Lib.hid P18
      clear HB17 HA17 HC17 HP17 P18 k18 o18
      -- h
      go_wp2_with fail
      refine (HPL.out _ HB18.out).mono ?_
      rintro e w19 ⟨p19, m19, rfl, P19, x19, y19, b19⟩
      have HB19 := Lib.hid (HB18.out.trans (b19.mono HB18.out.size))
      have HA19 := Lib.hid (HA18.out.below b19)
      have HC19 := Lib.hid (HC18.out.below b19)
      have HP19 := Lib.hid P19
      clear HB18 HA18 HC18 P19 x19 y19 b19
      go_wp2_with fail
      refine (pp_join _ HC19.out HP19.out (by decide) (by decide)).mono ?_
      rintro e w20 ⟨rfl, ⟨m20, P20, k20⟩, o20⟩
      have HB20 := Lib.hid (HB19.out.trans (o20.below HB19.out.size fun i hi => by rw [hi]; exact HC19.out.lo))
      have HA20 := Lib.hid (HA19.out.farp HC19.out NAC.out o20)
      have HC20 := Lib.hid P20
      clear HB19 HA19 HC19 HP19 P20 k20 o20
      -- i
      go_wp2_with fail
      refine (HPN.out _ HB20.out).mono ?_
      rintro e w21 ⟨p21, m21, rfl, P21, x21, y21, b21⟩
      have HB21 := Lib.hid (HB20.out.trans (b21.mono HB20.out.size))
      have HA21 := Lib.hid (HA20.out.below b21)
      have HC21 := Lib.hid (HC20.out.below b21)
      have HP21 := Lib.hid P21
      clear HB20 HA20 HC20 P21 x21 y21 b21
      go_wp2_with fail
      refine (pp_join _ HA21.out HP21.out (by decide) (by decide)).mono ?_
      rintro e w22 ⟨rfl, ⟨m22, P22, k22⟩, o22⟩
      have HB22 := Lib.hid (HB21.out.trans (o22.below HB21.out.size fun i hi => by rw [hi]; exact HA21.out.lo))
      have HC22 := Lib.hid (HC21.out.farp HA21.out (fun e => NAC.out e.symm) o22)
      have HA22 := Lib.hid P22
      clear HB21 HA21 HC21 HP21 P22 k22 o22
      have J3 := Lib.hid (join_three (L := L) (M := M) (N := N) GL.out GM.out GN.out)
      rw [HX.out, HE.out] at J3
      have UU := Lib.hid (show Pg (joinS X N).1 from GX.out.join GN.out)
      obtain ⟨G, hG⟩ : ∃ G, (joinS N M).2 = G := ⟨_, rfl⟩
      obtain ⟨Y1, hY1⟩ : ∃ Y, (joinS N M).1 = Y := ⟨_, rfl⟩
      rw [hG, hY1] at J3
      rw [hY1] at HC22
      rw [hG, hY1]
      obtain ⟨H, hH⟩ : ∃ G, (joinS Y1 L).2 = G := ⟨_, rfl⟩
      obtain ⟨Y2, hY2⟩ : ∃ Y, (joinS Y1 L).1 = Y := ⟨_, rfl⟩
      rw [hH, hY2] at J3
      rw [hY2] at HC22
      rw [hH]
      obtain ⟨I, hI⟩ : ∃ G, (joinS X N).2 = G := ⟨_, rfl⟩
      obtain ⟨Y3, hY3⟩ : ∃ Y, (joinS X N).1 = Y := ⟨_, rfl⟩
      rw [hI, hY3] at J3
      rw [hY3] at HA22 UU
      rw [hI]
      clear hG hY1 hH hY2 hI hY3 HPL HPM HPN GL GM GN GX HX HE NAC NAB N5
      obtain ⟨bG, hbG⟩ : ∃ b, (G != 0) = b := ⟨_, rfl⟩
      obtain ⟨bH, hbH⟩ : ∃ b, (H != 0) = b := ⟨_, rfl⟩
      obtain ⟨bI, hbI⟩ : ∃ b, (I != 0) = b := ⟨_, rfl⟩
    · go_wp2
      go_ret
      exact ⟨rfl, HB22.out⟩
    cases bG with
    | true =>
      go_wp2
      go_ret
      exact ⟨rfl, HB22.out⟩
    | false =>
      cases bH with
      | true =>
        go_wp2
        go_ret
        exact ⟨rfl, HB22.out⟩
      | false =>
        cases bI with
        | true =>
          go_wp2
          go_ret
          exact ⟨rfl, HB22.out⟩
        | false =>
          have WW := Lib.hid (walkS_perm UU.out.uq (J3.out (of_eq_true HE0.out) (by simpa using hbG) (by simpa using hbI) (by simpa using hbH)))
          go_wp2_with fail
          refine (pp_list _ HA22.out (by decide)).mono ?_
          rintro e w23 ⟨v23, rfl, o23, b23⟩
          have HB23 := Lib.hid (HB22.out.trans (b23.mono HB22.out.size))
          have HC23 := Lib.hid (HC22.out.below b23)
          have HO23 := Lib.hid o23
          have HL3 := Lib.hid HA22.out.len
          clear HB22 HA22 HC22 b23 o23
          obtain ⟨V23, c23, rfl⟩ := HO23.out.len
          go_wp2_with fail
          refine (pp_list _ HC23.out (by decide)).mono ?_
          rintro e w24 ⟨v24, rfl, o24, b24⟩
          rw [← WW.out] at o24
          have HB24 := Lib.hid (HB23.out.trans (b24.mono HB23.out.size))
          have HO24 := Lib.hid o24
          have HO24' := Lib.hid (HO23.out.below b24)
          clear HB23 HC23 HO23 b24 o24
          obtain ⟨V24, c24, rfl⟩ := HO24.out.len
          go_wp2_with fail
          refine (own_same _ HO24'.out HO24.out (by rw [walk_len UU.out]; have := HL3.out; omega) (by rw [walk_len UU.out]; have := HL3.out; omega)).mono ?_
          rintro e w25 ⟨he, q25, rfl⟩
          obtain rfl : e = .returned (.bool true) := he.trans (by rw [decide_eq_true rfl])
          go_wp2
          go_ret
          exact ⟨rfl, below_drewN HB24.out q25⟩
  · have hfw : fewS [(A1, N1, cap1), (A2, N2, cap2), (A3, N3, cap3)] = false := by
      simp only [fewS, List.all_cons, List.all_nil, Bool.and_true, Bool.and_eq_false_iff, decide_eq_false_iff_not]
      omega
    rw [hfw]
    clear hf hfw
    go_wp2
    go_ret
    exact ⟨rfl, HB2.out⟩
end Go.Proofs.Ytbihklfcdpgcgaa
