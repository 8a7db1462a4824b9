/- ClauseGone, walked. -/
import Derived.Test.YtbihklfcdpgcgaaFf
namespace Go.Proofs.Ytbihklfcdpgcgaa
open Go.RowKit

theorem enc_set (c : Cl) : (encC c).set 19 (.bool true) = encC (goneC c) := rfl
theorem cls_set : ∀ {l : List Cl} {k : Nat} {x : Cl}, l[k]? = some x → (cls l).set (k * 20 + 19) (.bool true) = cls (l.set k (goneC x))
  | [], k, x, h => by simp at h
  | c :: l, 0, x, h => by
    simp at h
    subst h
    show (encC c ++ cls l).set _ _ = encC (goneC c) ++ cls l
    rw [List.set_append_left _ _ (by rw [encC_len]; omega), Nat.zero_mul, Nat.zero_add, enc_set]
  | c :: l, k + 1, x, h => by
    have ih := cls_set (l := l) (k := k) (x := x) (by simpa using h)
    show (encC c ++ cls l).set _ _ = encC c ++ cls (l.set k (goneC x))
    rw [List.set_append_right _ _ (by rw [encC_len]; omega), encC_len, ← ih]
    congr 2
    omega
theorem own_some {w : World} {base : Nat} {v : Value} {l : List Cl} (h : OwnCls w base v l) (hl : 0 < l.length) : ∃ g cap, v = .slice (some ⟨g, 0, none⟩) l.length cap ∧ base ≤ g := by
  rcases h.2 with ⟨rfl, h0⟩ | ⟨g, cap, cur, rfl, hb, _⟩
  · omega
  · exact ⟨g, cap, rfl, hb⟩
theorem own_cell {w : World} {base g n cap : Nat} {l : List Cl} (h : w.ownsRow base 35 20 (.slice (some ⟨g, 0, none⟩) n cap) n (cls l)) (hn : l.length = n) {k : Nat} {c : Cl} (hk : l[k]? = some c) {j : Nat} {u : Value} (hu : (encC c)[j]? = some u) :
    w.cell? ⟨g, k * 20 + j, none⟩ = some u ∧ w.frozen? ⟨g, k * 20 + j, none⟩ = false := by
  have hj : j < 20 := by
    have := (List.getElem?_eq_some_iff.1 hu).1
    rwa [encC_len] at this
  have hkl := (List.getElem?_eq_some_iff.1 hk).1
  exact ⟨by rw [h.cellAt (k * 20 + j) (by omega)]; exact (flat_at encC_len hk hj).trans hu, h.frozenAt _⟩
/-- A patch, loaded whole out of a clause of a slice of the call's own. -/
theorem pt_row {W : World} {base g n cap k : Nat} {l : List Cl} (h : W.ownsRow base 35 20 (.slice (some ⟨g, 0, none⟩) n cap) n (cls l)) (hn : l.length = n) {c : Cl} (hk : l[k]? = some c) :
    (loadVar 33 ⟨g, k * 20 + 4, none⟩).run Try.prog W = .ok (.agg (ptA c.pt)) W := by
  have hl : (loadCells ⟨g, k * 20 + 4, none⟩ (ptA c.pt).toList.length).run Try.prog W = .ok (ptA c.pt).toList.toArray W :=
    run_loadCells_list (P := Try.prog) W ⟨g, k * 20 + 4, none⟩ (ptA c.pt).toList (fun j v hv => by
      have hj : j < 15 := by
        have := (List.getElem?_eq_some_iff.1 hv).1
        rwa [Array.length_toList, ptA_size] at this
      have hadd : (⟨g, k * 20 + 4, none⟩ : Addr).add j = ⟨g, k * 20 + (4 + j), none⟩ := by unfold Addr.add; split <;> simp_all [Nat.add_assoc]
      rw [hadd]
      refine (own_cell h hn hk (j := 4 + j) (u := v) ?_).1
      rw [← hv]
      match j, hj with
      | 0, _ | 1, _ | 2, _ | 3, _ | 4, _ | 5, _ | 6, _ | 7, _ | 8, _ | 9, _ | 10, _ | 11, _ | 12, _ | 13, _ | 14, _ => rfl)
  rw [Array.length_toList, Array.toArray_toList, ptA_size] at hl
  have hagg : (isAgg 33).run Try.prog W = .ok true W := by
    unfold isAgg
    rw [Sem.run_bind, run_underlying Try.underlying33 W]
    rfl
  have hsz := Try.sizeOf33 W
  unfold loadVar
  rw [Sem.run_bind, hagg]
  simp only [Result.andThen_ok, if_true]
  rw [Sem.run_bind, hsz]
  simp only [Result.andThen_ok]
  rw [Sem.run_bind, hl]
  rfl
theorem load_pt_row {ops : Array Oper} {rest : List Oper} {o : Oper} {a : Act} {W : World} {Q : Exit → Act → World → Prop} (hgd : o.guard = none) {x : Operand} (ho : o.op = .load 33 x) {base g n cap k : Nat} {l : List Cl} (hx : a.eval x = .pointer (some ⟨g, k * 20 + 4, none⟩))
    (hr : W.ownsRow base 35 20 (.slice (some ⟨g, 0, none⟩) n cap) n (cls l)) (hn : l.length = n) {c : Cl} (hk : l[k]? = some c) (h : wpList Try.prog ops Q rest (a.put o.dst (.agg (ptA c.pt))) W) : wpList Try.prog ops Q (o :: rest) a W := by
  refine wpList_plain hgd fun _ hK => ?_
  unfold Oper.wp execOp
  simp only [ho, hx, Instr.loadAt, Instr.sureAddr, Sem.run_bind, Sem.run_pure, Result.andThen_ok, pt_row hr hn hk]
  exact hK _ _ h
theorem addr_add (g off j : Nat) : (⟨g, off, none⟩ : Addr).add j = ⟨g, off + j, none⟩ := by unfold Addr.add; split <;> simp_all
theorem cls_news {w : World} {B : Nat} {A : Option Addr} {l : List Cl} (h : ClsAt w B A l) : ∀ (j : Nat) (u : Value), (cls l)[j]? = some u → ∃ ad, A = some ad ∧ w.cell? (ad.add j) = some u := fun j u hu => by
  have hj := (List.getElem?_eq_some_iff.1 hu).1
  rw [cls_len] at hj
  have hd : j = j / 20 * 20 + j % 20 := by omega
  obtain ⟨c, hc⟩ : ∃ c, l[j / 20]? = some c := ⟨_, List.getElem?_eq_getElem (by omega)⟩
  obtain ⟨g, off, h1, _, h3⟩ := h _ c hc
  refine ⟨_, h1, ?_⟩
  rw [addr_add]
  have h4 := flat_at encC_len hc (show j % 20 < 20 by omega)
  rw [← hd] at h4
  have h5 := h3 (j % 20) u (by rw [← h4]; exact hu)
  rwa [Nat.add_assoc, ← hd] at h5
set_option maxRecDepth 100000 in
set_option maxHeartbeats 8000000 in
theorem gone_walk (w : World) (A : Option Addr) (cap : Nat) (l : List Cl) (h : ClsAt w w.heap.size A l) (id : St2) :
    Calls Try.prog 7 #[.slice A l.length cap, .agg (stA id)] w fun e w' => e = .returned (.bool true) ∧ Below w.heap.size w w' := by
  have HH := Lib.hid h
  obtain ⟨N, hN⟩ : ∃ N, l.length = N := ⟨_, rfl⟩
  rw [hN]
  have HN := Lib.hid hN
  have B0 := Lib.hid (below_self_alloc w (.cells (stA id) 29))
  have K0 := Lib.hid (Blk.new w 29 (stA id))
  obtain ⟨ST, hST⟩ : ∃ q, stA id = q := ⟨_, rfl⟩
  rw [hST] at B0 K0 ⊢
  have HST := Lib.hid hST
  obtain ⟨i0, hi0, hz0, hz1, hz2⟩ := info_parts Try.infoPt
  obtain ⟨i1, hi1, hy0, hy1, hy2⟩ := info_parts Try.infoCl
  clear h hN hST
  go_enter Try.func7, Try.ntmps7
  go_wp2_with fail
  generalize w.alloc (.cells ST 29) = w0 at *
  refine (head_any _).mono ?_
  rintro e w1 ⟨rfl, b1⟩
  have HB1 := Lib.hid (B0.out.trans (b1.mono B0.out.size))
  have K1 := Lib.hid (K0.out.below b1 K0.out.lt)
  clear b1 B0 K0
  go_wp2_with fail
  refine (ex_few w1 [(A, N, cap)] (by simp) 1 rfl).mono ?_
  rintro e w2 ⟨rfl, b2⟩
  have HB2 := Lib.hid (HB1.out.trans (b2.mono HB1.out.size))
  have K2 := Lib.hid (K1.out.below b2 K1.out.lt)
  clear b2 HB1 K1
  by_cases hf : N ≤ 80
  · have hfw : fewS [(A, N, cap)] = true := by simp [fewS, hf]
    rw [hfw]
    have HF := Lib.hid hf
    clear hf hfw
    have PL : ∀ W, Below w.heap.size w W → Calls Try.prog 25 #[.slice A N cap] W fun e w' => ∃ p b : Nat, e = .returned (.pointer (some ⟨p, 0, none⟩)) ∧ PP w' w.heap.size p b 160 (pageS l) ∧ W.heap.size ≤ p ∧ W.heap.size ≤ b ∧ Below W.heap.size W w' := fun W hW => by
      have := pp_page W w.heap.size _ A cap l (HH.out.below hW) hW.size (by have := HN.out; have := HF.out; omega) hW.size
      rwa [HN.out] at this
    have HPL := Lib.hid PL
    obtain ⟨L, hL⟩ : ∃ L, pageS l = L := ⟨_, rfl⟩
    have GL := Lib.hid (page_pg l)
    rw [hL] at HPL GL
    clear PL hL HH HN HF
    go_wp2_with fail
    refine (HPL.out _ HB2.out).mono ?_
    rintro e w3 ⟨p, b, rfl, P3, -, -, b3⟩
    have HB3 := Lib.hid (HB2.out.trans (b3.mono HB2.out.size))
    have K3 := Lib.hid (K2.out.below b3 K2.out.lt)
    have HP3 := Lib.hid P3
    clear HB2 b3 P3 K2 HPL
    go_wp2_with fail
    refine (pp_list _ HP3.out (by decide)).mono ?_
    rintro e w4 ⟨v4, rfl, o4, b4⟩
    have HB4 := Lib.hid (HB3.out.trans (b4.mono HB3.out.size))
    have HP4 := Lib.hid (HP3.out.below b4)
    have K4 := Lib.hid (K3.out.below b4 K3.out.lt)
    have HO4 := Lib.hid o4
    clear HB3 HP3 b4 o4 K3
    obtain ⟨S, hS⟩ : ∃ S, walkS L = S := ⟨_, rfl⟩
    have HS := Lib.hid hS
    have hSl : S.length ≤ 160 := by rw [← hS, walk_len GL.out]; exact HP4.out.len
    rw [hS] at HO4
    have HSL := Lib.hid hSl
    clear hS hSl
    obtain ⟨V4, c4, rfl⟩ := HO4.out.len
    have s0 : w4.cell? ⟨w.heap.size, 0, none⟩ = some (.int .i64 id.1) := by rw [K4.out.cell, ← HST.out]; rfl
    have s1 : w4.cell? ⟨w.heap.size, 1, none⟩ = some (.int .i64 id.2) := by rw [K4.out.cell, ← HST.out]; rfl
    go_wp2_with fail
    refine (own_find _ HO4.out (by have := HSL.out; omega) id).mono ?_
    rintro e w5 ⟨rfl, b5⟩
    have HB5 := Lib.hid (HB4.out.trans (b5.mono HB4.out.size))
    have HP5 := Lib.hid (HP4.out.below b5)
    have K5 := Lib.hid (K4.out.below b5 K4.out.lt)
    have HO5 := Lib.hid (HO4.out.below b5)
    clear HB4 HP4 K4 HO4 b5 s0 s1
    have s0 : w5.cell? ⟨w.heap.size, 0, none⟩ = some (.int .i64 id.1) := by rw [K5.out.cell, ← HST.out]; rfl
    have s1 : w5.cell? ⟨w.heap.size, 1, none⟩ = some (.int .i64 id.2) := by rw [K5.out.cell, ← HST.out]; rfl
    go_wp2_with fail
    refine (pp_drop _ HP5.out id).mono ?_
    rintro e w6 ⟨rfl, P6, o6⟩
    have HB6 := Lib.hid (HB5.out.trans (o6.below HB5.out.size fun i hi => by rw [hi]; exact HP5.out.lob))
    have HP6 := Lib.hid P6
    have HO6 := Lib.hid (HO5.out.far HP5.out.at_ o6)
    have DF := Lib.hid (drop_find GL.out id)
    rw [HS.out] at DF
    clear HB5 HP5 K5 HO5 P6 o6 s0 s1
    have FC := Lib.hid (find_cases (show Uq S from by rw [← HS.out]; exact walk_uq GL.out.tr) id)
    obtain ⟨D, hD⟩ : ∃ D, (dropS L id).2 = D := ⟨_, rfl⟩
    rw [hD] at DF ⊢
    rcases FC.out with ⟨h1, h2⟩ | ⟨k, x, h1, h2, h3⟩
    · have e1 : (D == 0) = false := by
        have h4 : ¬ D = 0 := fun e => by
          have := DF.out.1 e
          rw [h2] at this
          omega
        simpa using h4
      rw [h2]
      clear hD DF FC h1 h2
      go_wp2
      go_ret
      exact ⟨rfl, HB6.out⟩
    · have hD0 : D = 0 := DF.out.2 (by rw [h3]; omega)
      subst hD0
      have hxid := (getC_mem h1).2
      obtain ⟨j1, j2⟩ := drop_list GL.out (t := id) (k := k) (x := x) (by rw [HS.out]; exact h2) hxid
      rw [HS.out] at j1
      have J1 := Lib.hid j1
      have J2 := Lib.hid j2
      obtain ⟨L', hL'⟩ : ∃ L', (dropS L id).1 = L' := ⟨_, rfl⟩
      have GL' := Lib.hid (show Pg L' from by rw [← hL']; exact GL.out.drop id)
      rw [hL'] at J1 J2 HP6
      have hkS : k < S.length := (List.getElem?_eq_some_iff.1 h2).1
      obtain ⟨gs, cs, hv4, -⟩ := own_some HO6.out (by omega)
      injection hv4 with hv1 _ hv2
      subst hv1 hv2
      rw [h3]
      have HX := Lib.hid h2
      obtain ⟨n, hn⟩ : ∃ n, S.length = n := ⟨_, rfl⟩
      have HNS := Lib.hid hn
      have HO := Lib.hid (show w6.ownsRow w3.heap.size 35 20 (.slice (some ⟨gs, 0, none⟩) n c4) n (cls S) from by
        have := HO6.out
        unfold OwnCls at this
        rw [hn] at this
        exact this)
      rw [hn] at hkS ⊢
      have hnn : n ≤ 160 := by rw [← hn]; exact HSL.out
      clear hD DF FC h1 h2 h3 j1 j2 hL' hn HO6 hxid GL
      obtain ⟨CX, hCX⟩ : ∃ q, clA x = q := ⟨_, rfl⟩
      have HCX := Lib.hid hCX
      have p9 := put_cl w6 x
      have hcz : CX.size = 20 := by rw [← hCX]; rfl
      have K9 := Lib.hid (Blk.new w6 35 (clA x))
      have B9 := Lib.hid (below_self_alloc w6 (.cells (clA x) 35))
      have O9 := Lib.hid (HO.out.alloc (.cells (clA x) 35))
      rw [hCX] at p9 K9 B9 O9
      clear hCX
      go_upto_region 10 with (refine load_row rfl (x := .tmp 44) rfl rfl HO.out HNS.out HX.out ?_; rw [HCX.out])
      clear p9
      obtain ⟨g9, hg9⟩ : ∃ q, w6.heap.size = q := ⟨_, rfl⟩
      have HG9 := Lib.hid hg9
      rw [hg9] at K9 ⊢
      have HB7 := Lib.hid (HB6.out.trans (B9.out.mono HB6.out.size))
      have HP7 := Lib.hid (HP6.out.below B9.out)
      clear hg9 HB6 HP6 B9 HO HG9
      generalize w6.alloc (.cells CX 35) = w7 at *
      -- want
      have own0 : (w7.alloc (.cells #[] 35)).ownsRow w7.heap.size 35 20 (.slice (some ⟨w7.heap.size, 0, none⟩) 0 0) 0 [] := World.ownsRow_lit w7 #[] 0 (Nat.le_refl _) (by unfold maxLen; omega) rfl
      have OWN0 := Lib.hid own0
      have O10 := Lib.hid (show OwnCls (w7.alloc (.cells #[] 35)) w3.heap.size (.slice (some ⟨gs, 0, none⟩) n c4) S from by
        have := O9.out.alloc (.cells #[] 35)
        unfold OwnCls
        rw [HNS.out]
        exact this)
      have HNW := Lib.hid (show ∀ (j : Nat) (u : Value), (cls S)[j]? = some u → ∃ ad, (some ⟨gs, 0, none⟩ : Option Addr) = some ad ∧ (w7.alloc (.cells #[] 35)).cell? (ad.add j) = some u from by
        obtain ⟨A', q, hv, hA⟩ := O10.out.form
        injection hv with hv _ _
        subst hv
        exact cls_news hA)
      have HLN := Lib.hid (show (cls S).length = n * 20 by rw [cls_len, HNS.out])
      have HONE := Lib.hid (cls_one S)
      have B10 := Lib.hid (below_self_alloc w7 (.cells #[] 35))
      clear own0 O9
      go_upto_region 11 with (at_builtin; refine wpList_append_any rfl _ _ 42 rfl w7.heap.size 35 i1 _ 20 248 Try.underlying42 hi1 hy0 hy1 hy2 rfl (by omega) (.slice (some ⟨w7.heap.size, 0, none⟩) 0 0) 0 [] rfl OWN0.out (some ⟨gs, 0, none⟩) n c4 (cls S) rfl HLN.out HNW.out HONE.out (by unfold maxLen; omega) (by omega) (by simp) ?_; intro v11 w11 own11 gr11 l11)
      rw [Nat.zero_add, List.nil_append] at own11
      have B11 := B10.out.grown gr11 B10.out.size (fun y hy => (OWN0.out.lt y hy).1)
      have o11 : OwnCls w11 w7.heap.size v11 S := by
        unfold OwnCls
        rw [HNS.out]
        exact own11
      obtain ⟨gw, cw, hv, hgw⟩ := own_some o11 (by rw [HNS.out]; omega)
      rw [HNS.out] at hv
      subst hv
      obtain ⟨c19, f19⟩ := own_cell own11 HNS.out HX.out (j := 19) rfl
      have HB11 := Lib.hid (HB7.out.trans (B11.mono HB7.out.size))
      have HP11 := Lib.hid (HP7.out.below B11)
      have K11 := Lib.hid (K9.out.below B11 K9.out.lt)
      have st11 := (own11.stored (k * 20 + 19) (.bool true)).1
      rw [cls_set HX.out, ← J1.out] at st11
      have hbw := HB11.out.setCell (p := ⟨gw, k * 20 + 19, none⟩) (by show w.heap.size ≤ gw; have := HB7.out.size; omega) (.bool true)
      have hsz0 := HB7.out.size
      have hon := Only.refl (fun i => i = gw) w11
      have HPw := Lib.hid (HP11.out.only (hon.setCell (p := ⟨gw, k * 20 + 19, none⟩) (.inl rfl) (.bool true)) (by have := HP7.out.at_.blk.lt; omega) (by have := HP7.out.at_.ltb; omega))
      have Kw := Lib.hid (K11.out.far (p := ⟨gw, k * 20 + 19, none⟩) (by have := K9.out.lt; show g9 ≠ gw; omega) (.bool true))
      have HST2 := Lib.hid st11
      have HBW := Lib.hid hbw
      clear own11 gr11 l11 B11 o11 hbw hon st11 HB11 HP11 K11 HNW HLN HONE B10 O10 HB7 HP7 K9 OWN0 hsz0
      go_wp2_with fail
      generalize w11.setCell ⟨gw, k * 20 + 19, none⟩ (.bool true) = w12 at *
      clear c19 f19
      obtain ⟨T, hT⟩ : ∃ T, walkS L' = T := ⟨_, rfl⟩
      have HT := Lib.hid hT
      have hTn : T.length = n := by rw [← hT, J1.out, List.length_set, HNS.out]
      have HTN := Lib.hid hTn
      rw [hT] at HST2 J1
      clear hT hTn
      obtain ⟨bw, hbw⟩ : ∃ q, w7.heap.size = q := ⟨_, rfl⟩
      rw [hbw] at HST2
      clear hbw
      go_loopw [12, 11] (fun i u wr => ∃ j : Nat, j ≤ n ∧ i = .int .i64 (j : Int) ∧ Hid (Below w12.heap.size w12 wr) ∧ Hid (OwnPts wr w12.heap.size u (live (T.take j)))) (fun i _ _ => n - (intOf i).toNat)
      case atStart => exact ⟨0, Nat.zero_le _, rfl, Lib.hid (Below.refl _ _), Lib.hid (World.ownsRow_nil _ _ _ _)⟩
      case round =>
        obtain ⟨j, hj, rfl, HBj, HUj⟩ := hrel
        have HWr := Lib.hid ((Only.of_below HBj.out (fun _ => False)).owns HST2.out (fun _ _ h => h))
        by_cases hjn : j < n
        · obtain ⟨c, hc⟩ : ∃ c, T[j]? = some c := ⟨_, List.getElem?_eq_getElem (by rw [HTN.out]; exact hjn)⟩
          have e1 : decide ((j : Int) < (n : Int)) = true := decide_eq_true (by omega)
          obtain ⟨q19, -⟩ := own_cell HWr.out HTN.out hc (j := 19) rfl
          have hlt := live_take hc
          have HC := Lib.hid hc
          have HKN := Lib.hid hjn
          cases hgo : c.gone with
          | true =>
            rw [hgo] at q19 hlt
            have HU2 := Lib.hid (show OwnPts wr w12.heap.size u11 (live (T.take (j + 1))) from by rw [hlt, if_pos rfl]; exact HUj.out)
            clear hlt hc hjn hgo HUj
            go_wp2_with fail
            refine ⟨⟨j + 1, HKN.out, by go_num, HBj, HU2⟩, ?_⟩
            have := HKN.out
            simp [intOf]
            omega
          | false =>
            rw [hgo] at q19 hlt
            obtain ⟨PL, hPL⟩ : ∃ PL, live (T.take j) = PL := ⟨_, rfl⟩
            have hU2 := HUj.out
            rw [hPL] at hU2 hlt
            obtain ⟨M, hM⟩ : ∃ M, PL.length = M := ⟨_, rfl⟩
            have hMl : M ≤ 1000000 := by
              rw [← hM, ← hPL]
              unfold live
              rw [List.length_map]
              exact Nat.le_trans (List.length_filter_le _ _) (by rw [List.length_take]; omega)
            obtain ⟨B1, c1, rfl⟩ : ∃ B1 c1, u11 = .slice B1 M c1 := by
              rcases Joins.ownsRow_forms hU2 with ⟨h1, h2⟩ | ⟨g, cap, hv⟩
              · exact ⟨none, 0, by rw [h1]; congr 1; omega⟩
              · exact ⟨some ⟨g, 0, none⟩, cap, by rw [hv, hM]⟩
            have hU3 : (wr.alloc (.cells (ptA c.pt) 33)).ownsRow w12.heap.size 33 15 (.slice B1 M c1) M (pts PL) := by
              have := World.ownsRow.alloc hU2 (.cells (ptA c.pt) 33)
              rw [hM] at this
              exact this
            have HU3 := Lib.hid hU3
            have HB3 := Lib.hid (HBj.out.alloc HBj.out.size (.cells (ptA c.pt) 33))
            have HK6 := Lib.hid (Blk.new wr 33 (ptA c.pt))
            have hfo := fold_pt c.pt
            have HONE2 := Lib.hid (encP_one c.pt)
            have HENC := Lib.hid (show encP c.pt = (ptA c.pt).toList from rfl)
            have HM := Lib.hid hM
            have HLT := Lib.hid hlt
            have hpz := ptA_size c.pt
            have hsz := HBj.out.size
            clear hU2 hU3 hlt hc hjn hgo hPL hM HUj
            generalize hPP : ptA c.pt = PP at *
            have HPP := Lib.hid hPP
            clear hPP
            go_wp2_with (first | (refine load_pt_row (c := c) rfl (x := .tmp 69) rfl rfl HWr.out HTN.out HC.out ?_; rw [HPP.out]) | (at_builtin; refine wpList_append_lies _ rfl _ _ 47 rfl w12.heap.size 33 i0 _ 15 208 Try.underlying47 hi0 hz0 hz1 hz2 rfl (by omega) (.slice B1 M c1) M _ rfl HU3.out ⟨wr.heap.size, 0, none⟩ 1 1 (encP c.pt) rfl rfl (by rw [HENC.out]; exact World.news_of_block HK6.out) HONE2.out (by omega) (by unfold maxLen; omega) (by omega) (by simp; omega) (wr.heap.size + 1) (by simp) ?_; intro g9' cap9 w13 o9 gr9 l9 z9; have HO9 := Lib.hid o9; have HG9 := Lib.hid gr9; clear o9 gr9 l9))
            have hb9 := HB3.out.grown HG9.out (by simp; omega) (fun y hy => (HU3.out.lt y hy).1)
            refine ⟨⟨j + 1, HKN.out, by go_num, Lib.hid hb9, Lib.hid (by rw [HLT.out]; exact pts_own HM.out HO9.out)⟩, ?_⟩
            have := HKN.out
            simp [intOf]
            omega
        · obtain rfl : j = n := by omega
          have HR := Lib.hid (show OwnPts wr w12.heap.size u11 (live T) from by
            have := HUj.out
            rw [← HTN.out, List.take_length] at this
            exact this)
          clear HUj
          have hbel := HBj.out
          have HBf := Lib.hid (HBW.out.trans (hbel.mono HBW.out.size))
          have HPf := Lib.hid (HPw.out.below hbel)
          have Kf := Lib.hid (Kw.out.below hbel Kw.out.lt)
          have HPLn := Lib.hid (show (live T).length ≤ 1000000 from by
            unfold live
            rw [List.length_map]
            exact Nat.le_trans (List.length_filter_le _ _) (by rw [HTN.out]; omega))
          clear hbel HBj HBW HPw Kw HST2
          obtain ⟨AP, cP, hvP⟩ : ∃ AP cP, u11 = .slice AP (live T).length cP := by
            obtain ⟨AP, cP, h1, _⟩ := HR.out.form
            exact ⟨AP, cP, h1⟩
          subst hvP
          have HPU := Lib.hid (pp_put _ HPf.out (by decide) x)
          rw [HCX.out] at HPU
          go_wp2_with (refine load_clg (by kernel_rfl) (x := .tmp 9) rfl rfl (c := x) (by rw [HCX.out]; exact Kf.out) ?_; rw [HCX.out])
          refine HPU.out.mono ?_
          rintro e w14 ⟨he, P14, o14⟩
          obtain rfl : e = .returned (.int .i64 0) := he.trans (by rw [J2.out])
          have hP14 : PP w14 w.heap.size p b (160 + 1) L' := by
            have := P14
            rw [J2.out] at this
            exact this
          have HP14 := Lib.hid hP14
          have HB14 := Lib.hid (HBf.out.trans (o14.below HBf.out.size fun i hi => by rw [hi]; exact HPf.out.lob))
          have hOw : OwnCls wr bw (.slice (some ⟨gw, 0, none⟩) j cw) T := by
            unfold OwnCls
            rw [HTN.out]
            exact HWr.out
          have HOw := Lib.hid (hOw.far HPf.out.at_ o14)
          have HRr := Lib.hid (show OwnPts w14 w12.heap.size (.slice AP (live T).length cP) (live T) from o14.owns HR.out fun g hg e => by
            obtain ⟨L9, q, _⟩ := HPf.out.at_.map
            obtain ⟨es, clock, q1, _⟩ := q
            obtain ⟨c', f', h1⟩ := Lib.ownsRow_kind HR.out g hg
            rw [e] at h1
            rw [q1] at h1
            cases h1)
          clear he P14 hP14 o14 hOw HBf HPf Kf HWr HR HPU
          go_wp2_with fail
          refine (pp_list _ HP14.out (by decide)).mono ?_
          rintro e w15 ⟨v15, rfl, o15, b15⟩
          rw [HT.out] at o15
          have HB15 := Lib.hid (HB14.out.trans (b15.mono HB14.out.size))
          have HP15 := Lib.hid (HP14.out.below b15)
          have HO15 := Lib.hid o15
          have HO15' := Lib.hid (HOw.out.below b15)
          have HR15 := Lib.hid ((Only.of_below b15 (fun _ => False)).owns HRr.out (fun _ _ h => h))
          clear HB14 HP14 HOw HRr o15 b15
          obtain ⟨V15, c15, rfl⟩ := HO15.out.len
          go_wp2_with fail
          refine (own_same _ HO15.out HO15'.out (by rw [HTN.out]; omega) (by rw [HTN.out]; omega)).mono ?_
          rintro e w16 ⟨he, q16, rfl⟩
          obtain rfl : e = .returned (.bool true) := he.trans (by rw [decide_eq_true rfl])
          have HB16 := Lib.hid (below_drewN HB15.out q16)
          have HP16 := Lib.hid (HP15.out.drewN q16)
          have HR16 := Lib.hid (show OwnPts (w15.drewN q16) w12.heap.size (.slice AP (live T).length cP) (live T) from HR15.out)
          clear he HB15 HP15 HO15 HO15' HR15
          generalize w15.drewN q16 = w16 at *
          go_wp2_with fail
          refine (pp_patches _ HP16.out (by decide)).mono ?_
          rintro e w17 ⟨v17, rfl, o17, b17⟩
          rw [HT.out] at o17
          have HB17 := Lib.hid (HB16.out.trans (b17.mono HB16.out.size))
          have HO17 := Lib.hid o17
          have HR17 := Lib.hid (show OwnPts w17 w12.heap.size (.slice AP (live T).length cP) (live T) from (Only.of_below b17 (fun _ => False)).owns HR16.out (fun _ _ h => h))
          clear HB16 HP16 HR16 o17 b17
          obtain ⟨V17, c17, hv17, -⟩ := HO17.out.form
          subst hv17
          go_wp2_with fail
          refine (own_patches _ HO17.out HR17.out HPLn.out HPLn.out).mono ?_
          rintro e w18 ⟨he, q18, rfl⟩
          obtain rfl : e = .returned (.bool true) := he.trans (by rw [decide_eq_true rfl])
          go_wp2
          go_ret
          exact ⟨rfl, below_drewN HB17.out q18⟩
  · have hfw : fewS [(A, N, cap)] = false := by simp [fewS, hf]
    rw [hfw]
    clear hf hfw
    go_wp2
    go_ret
    exact ⟨rfl, HB2.out⟩
end Go.Proofs.Ytbihklfcdpgcgaa
