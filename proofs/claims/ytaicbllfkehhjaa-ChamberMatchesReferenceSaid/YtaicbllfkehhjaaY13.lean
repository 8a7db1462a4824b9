/- Part 13 of what the laws of this seat stand on: Oa, Ob, Oc, Iu, Od. -/
import Derived.Test.YtaicbllfkehhjaaY12

/- The reference: Deliver, walked. -/
namespace Go.Proofs.Ytaicbllfkehhjaa
open Go.RowKit

set_option maxRecDepth 100000 in
set_option maxHeartbeats 4000000 in
theorem rdeliver_any (w : World) {base n : Nat} {z : RLay} {C : Ch} {ms : List Msg} (h : RAt w base z n C ms) (hg : Agree C ms) (hb : base ≤ w.heap.size) (hn : n ≤ 1000) (hl : ms.length ≤ 800000) (hpl : ∀ i, i < n → (C.pg i).length ≤ 1000) (hml : ∀ x ∈ ms, x.2.2.length ≤ 1000) (a b : Int) (lost : Bool) :
    Calls Try.prog 17 #[.pointer (some ⟨z.p, 0, none⟩), .int .i64 a, .int .i64 b, .bool lost] w fun e w' => e = .returned (.bool (deliverI n C a b lost).2) ∧ RStep w w' base n z (deliverI n C a b lost).1 ms (ms.length + n) := by
  have hA := rseat_any w h a
  have hB := rseat_any w h b
  have H := Lib.hid h
  have HG := Lib.hid hg
  by_cases ha : 0 ≤ a ∧ a < (n : Int)
  · rw [decide_eq_true ha] at hA
    have HA := Lib.hid hA
    clear hA
    by_cases hbb : 0 ≤ b ∧ b < (n : Int)
    · rw [decide_eq_true hbb] at hB
      have HB := Lib.hid hB
      clear hB
      have hE : deliverI n C a b lost = deliverS C a.toNat b.toNat lost := if_pos ⟨ha, hbb⟩
      rw [hE]
      obtain ⟨i, rfl⟩ := Int.eq_ofNat_of_zero_le ha.1
      obtain ⟨k, rfl⟩ := Int.eq_ofNat_of_zero_le hbb.1
      rw [Int.toNat_natCast, Int.toNat_natCast]
      have hi : i < n := by omega
      have hk : k < n := by omega
      have HI := Lib.hid hi
      have HK := Lib.hid hk
      have HBS := Lib.hid hb
      have HLEN := Lib.hid h.len
      obtain ⟨M, hM⟩ : ∃ M, ms.length = M := ⟨_, rfl⟩
      rw [hM] at hl
      have HM := Lib.hid hM
      have HPL := Lib.hid hpl
      have HML := Lib.hid hml
      obtain ⟨R, hR⟩ : ∃ R, deliverS C i k lost = R := ⟨_, rfl⟩
      rw [hR, hM]
      have HR := Lib.hid hR
      -- P: where the message stands (or there is none)
      obtain ⟨P, hPM, hP1, hP2⟩ : ∃ P, P ≤ M ∧ (∀ j m, j < P → ms[j]? = some m → ¬ (m.1 = i ∧ m.2.1 = k)) ∧ ((P = M ∧ R = (C, false)) ∨ ∃ p m q, ms = p ++ (i, k, m) :: q ∧ p.length = P ∧ i ≠ k ∧ (∀ x ∈ p, ¬ (x.1 = i ∧ x.2.1 = k)) ∧ C.lines i k = m :: lineOf q i k) := by
        rcases first_mine i k ms with ⟨h1, h2⟩ | ⟨p, m, q, rfl, h2⟩
        · refine ⟨M, Nat.le_refl _, fun j m _ hm => h2 m (List.mem_of_getElem? hm), .inl ⟨rfl, ?_⟩⟩
          rw [← hR, deliver_none lost (by rw [hg.line, h1])]
        · refine ⟨p.length, by rw [← hM]; simp, fun j m hj hm => h2 m ?_, .inr ⟨p, m, q, rfl, rfl, hg.oth (i, k, m) (by simp), h2, ?_⟩⟩
          · rw [List.getElem?_append_left hj] at hm
            exact List.mem_of_getElem? hm
          · exact (hg.take (D := { C with lines := fun a b => if a = i ∧ b = k then (C.lines a b).tail else C.lines a b }) h2 fun _ _ => rfl).1
      have HP1 := Lib.hid hP1
      have HP2 := Lib.hid hP2
      have hM2 : (M : Int) ≤ 800000 := by omega
      have hM3 : ms.length = M := hM
      obtain ⟨mvA, mvc, hmv⟩ : ∃ A c, z.mv = .slice A M c := by
        rcases h.msv.2 with ⟨e, h0⟩ | ⟨g, cap, cur, e, _⟩
        · exact ⟨none, 0, by rw [e, ← hM, h0]⟩
        · exact ⟨_, cap, by rw [e, hM]⟩
      have HMV := Lib.hid hmv
      clear hE hg ha hbb h hi hk hb hpl hml hR hP1 hP2 hM hM3 hmv
      go_enter Try.func17, Try.ntmps17
      go_wp2_with (go_at_call 34; first | (refine HA.out.mono ?_; clear HA; rintro e w9 ⟨rfl, h9⟩; have h9 := h9.symm; subst h9) | (refine HB.out.mono ?_; rintro e w9 ⟨rfl, h9⟩; have h9 := h9.symm; subst h9))
      go_loopw [9] (fun v wr => ∃ j : Nat, j ≤ P ∧ v = .int .i64 (j : Int) ∧ Hid (Below w.heap.size w wr)) (fun v _ => P + 1 - (intOf v).toNat)
      case atStart => exact ⟨0, Nat.zero_le _, rfl, Lib.hid (Below.refl _ _)⟩
      case round =>
        obtain ⟨j, hjP, rfl, BR⟩ := hrel
        have HR1 := Lib.hid (H.out.below BR.out)
        have c1 : wr.cell? ⟨z.p, 1, none⟩ = some (.slice mvA M mvc) := by rw [← HMV.out]; exact HR1.out.cells.2
        by_cases hjM : j < M
        · obtain ⟨mm, hmm⟩ : ∃ m, ms[j]? = some m := ⟨_, List.getElem?_eq_getElem (by rw [HM.out]; exact hjM)⟩
          obtain ⟨g, cap, A, mu, cu, e1, e2, d0, d1, d2, ho⟩ := HR1.out.msgAt hmm
          rw [HMV.out, HM.out] at e1
          injection e1 with e1 _ e3
          subst e1 e3
          have hjM1 : (j : Int) < (M : Int) := by omega
          have HMM := Lib.hid hmm
          have HE2 := Lib.hid e2
          have HO := Lib.hid ho
          have HMV2 := HMV
          clear hmm e2 ho
          go_upto_region 7 with fail
          have kM := Blk.new wr 89 #[.int .i64 (mm.1 : Int), .int .i64 (mm.2.1 : Int), .slice A mu cu]
          have b6 := below_self_alloc wr (.cells #[.int .i64 (mm.1 : Int), .int .i64 (mm.2.1 : Int), .slice A mu cu] 89)
          have HR6 := Lib.hid (HR1.out.below b6)
          have HO6 := Lib.hid (HO.out.below b6)
          have B6 := Lib.hid (BR.out.trans (b6.mono BR.out.size))
          have KM := Lib.hid kM
          have HNF := Lib.hid (show ¬ RFo z n wr.heap.size from fun hf => Nat.lt_irrefl _ (HR1.out.flt hf))
          obtain ⟨gm, hgm⟩ : ∃ g, wr.heap.size = g := ⟨_, rfl⟩
          rw [hgm] at KM HNF
          try simp only [hgm]
          clear kM b6 d0 d1 d2 c1 HR1 HO BR hgm
          generalize wr.alloc (.cells #[.int .i64 (mm.1 : Int), .int .i64 (mm.2.1 : Int), .slice A mu cu] 89) = w6 at *
          have x0 : w6.cell? ⟨gm, 0, none⟩ = some (.int .i64 (mm.1 : Int)) := KM.out.cell 0
          have x1 : w6.cell? ⟨gm, 1, none⟩ = some (.int .i64 (mm.2.1 : Int)) := KM.out.cell 1
          by_cases em : mm.1 = i ∧ mm.2.1 = k
          · have hjP' : j = P := by
              rcases Nat.lt_or_ge j P with h1 | h1
              · exact absurd em (HP1.out j mm h1 HMM.out)
              · omega
            subst hjP'
            obtain ⟨p, m, q, ems, epl, hik, hp, hline⟩ : ∃ p m q, ms = p ++ (i, k, m) :: q ∧ p.length = j ∧ i ≠ k ∧ (∀ x ∈ p, ¬ (x.1 = i ∧ x.2.1 = k)) ∧ C.lines i k = m :: lineOf q i k := by
              rcases HP2.out with ⟨e, _⟩ | h
              · omega
              · exact h
            have hmm : mm = (i, k, m) := by
              have := HMM.out
              rw [ems, List.getElem?_append_right (by omega), epl, Nat.sub_self] at this
              exact (Option.some.inj this).symm
            subst hmm
            have HEMS := Lib.hid ems
            have HEPL := Lib.hid epl
            have HIK := Lib.hid hik
            have HPN := Lib.hid hp
            have HLN := Lib.hid hline
            clear ems epl hik hp hline em HP1 HP2 HMM
            have e0 : ((i : Int) != (i : Int)) = false := by simp
            have e1 : ((k : Int) != (k : Int)) = false := by simp
            go_upto_region 8 with fail
            clear x0 x1 e0 e1
            have hmc : M ≤ mvc := by
              rcases HR6.out.msv.2 with ⟨e, h0⟩ | ⟨g', cap', cur, e, _, _, hc, _⟩
              · rw [HMV.out] at e; cases e
              · rw [HMV.out] at e
                injection e with _ _ e3
                rw [HM.out] at hc
                omega
            have hto := msg_slice_to g M mvc j (by omega)
            obtain ⟨off, hoff, hfr⟩ := msg_slice_from g M mvc (j + 1) (by omega) hmc
            rw [Int.natCast_add, Int.natCast_one] at hfr
            have HOFF := Lib.hid hoff
            have hj1 : IntKind.wrap .i64 ((j : Int) + 1) = (j : Int) + 1 := IntWalk.i64_in _ (by omega)
            refine wp_region_hold (fun W => Blk W z.p 80 #[z.pv, z.mv]) [0, 2, 3, 4, 5, 6, 7, 9, 10, 11, 12, 13, 14, 15] [1, 8, 16] [17, 18, 19] (by kernel_rfl) (by kernel_rfl) (fun _ d _ _ _ h => by cases d <;> exact h) (HR6.out.blk.drewN 1) ?_
            simp only [pick, List.drop_succ_cons, List.drop_zero, List.head?_cons, Option.toList_some, List.cons_append, List.nil_append, List.append_nil]
            try simp only [Act.put]
            repeat ((refine wpHeld_step ?_ rfl ?_ ?_; rotate_left; · (intro W hW; have c1 : W.cell? ⟨z.p, 1, none⟩ = some (.slice (some ⟨g, 0, none⟩) M mvc) := by { rw [← HMV.out]; exact hW.cell 1 }; (go_simp; try with_reducible rfl))); simp only [Act.put, List.setIfInBounds_toArray, List.set_cons_succ, List.set_cons_zero])
            refine wpHeld_nil ?_
            simp only [wpEarly]
            have RD := Lib.hid (show RAt w6.drew base z n C ms from HR6.out.below ⟨rfl, rfl, rfl, Nat.le_refl _, fun _ _ => rfl⟩)
            have KMD := Lib.hid (show Blk w6.drew gm 89 #[.int .i64 (i : Int), .int .i64 (k : Int), .slice A mu cu] from KM.out.drewN 1)
            have OD := Lib.hid (show OwnCls w6.drew base (.slice A mu cu) m from HO6.out.dN 1)
            have BD := Lib.hid (B6.out.drew)
            clear HR6 KM HO6 B6 hto hfr hoff hj1
            generalize w6.drew = w7 at *
            go_wp2_with fail
            have rd := RD.out
            rw [HEMS.out] at rd
            obtain ⟨g', cap', xp, u, xq, cs, e1, exs, lxp, lxq, kcs, hn1, hn2, ho⟩ := rd.split
            rw [HMV.out] at e1
            injection e1 with e1 _ e3
            have e4 : g = g' := congrArg Addr.block (Option.some.inj e1)
            subst e4
            clear e1 e3 ho
            obtain ⟨i0, hi', hz0, hz1, hz2⟩ := info_parts info_msg
            have kz := Blk.new w7 89 #[]
            have b8 := below_self_alloc w7 (.cells #[] 89)
            have hx1 : ∀ x ∈ xp, x.oneCell' = true := fun x hx => rd.xone x (by rw [exs]; exact List.mem_append_left _ hx)
            have hx2 : ∀ x ∈ xq, x.oneCell' = true := fun x hx => rd.xone x (by rw [exs]; exact List.mem_append_right _ (List.mem_cons_of_mem _ hx))
            have hlm1 := msgV_len _ _ lxp
            have hlm2 := msgV_len _ _ lxq
            have hone1 : ∀ v ∈ msgV p xp, v.oneCell' = true := fun v hv => msgV_one v _ _ hv hx1
            have hone2 : ∀ v ∈ msgV q xq, v.oneCell' = true := fun v hv => msgV_one v _ _ hv hx2
            have hMl : M = j + (q.length + 1) := by rw [← HM.out, HEMS.out, List.length_append, HEPL.out, List.length_cons]
            have hbw7 : base ≤ w7.heap.size := Nat.le_trans HBS.out BD.out.size
            have h0 : (w7.alloc (.cells #[] 89)).ownsRow base 89 3 (.slice (some ⟨w7.heap.size, 0, none⟩) 0 0) 0 [] := ⟨rfl, .inr ⟨w7.heap.size, 0, #[], rfl, hbw7, kz, Nat.le_refl _, by decide, rfl, rfl⟩⟩
            have kcs8 := kcs.below b8 kcs.lt
            have hnews1 : ∀ (t : Nat) (v : Value), (msgV p xp)[t]? = some v → (w7.alloc (.cells #[] 89)).cell? ((⟨g, 0, none⟩ : Addr).add t) = some v := fun t v hv => by
              rw [addr_add1, Nat.zero_add, kcs8.cell t]
              exact hn1 t v hv
            have k8 := RD.out.blk.below b8 RD.out.blk.lt
            have H0R := Lib.hid h0
            have KCS8 := Lib.hid kcs8
            have K8 := Lib.hid k8
            have HN2 := Lib.hid hn2
            have HNEWS1 := Lib.hid hnews1
            have HONE1 := Lib.hid hone1
            have HONE2 := Lib.hid hone2
            have HLM1 := Lib.hid hlm1
            have HLM2 := Lib.hid hlm2
            have HLX1 := Lib.hid lxp
            have HLX2 := Lib.hid lxq
            have HXS := Lib.hid exs
            have HMLL := Lib.hid hMl
            have HBW7 := Lib.hid hbw7
            have B8 := Lib.hid b8
            have HGL := Lib.hid kcs.lt
            have RDP := Lib.hid rd
            clear rd exs lxp lxq kcs hn1 hn2 kz b8 hx1 hx2 hlm1 hlm2 hone1 hone2 hMl hbw7 h0 kcs8 hnews1 k8
            refine ⟨K8.out, ?_⟩
            at_builtin
            refine wpList_append_own_at _ rfl _ _ 78 rfl base 89 i0 _ 3 40 Try.underlying78 hi' hz0 hz1 hz2 rfl (by decide) _ 0 [] rfl H0R.out ⟨g, 0, none⟩ j mvc (msgV p xp) rfl (by rw [HLM1.out, HEPL.out]) HNEWS1.out HONE1.out (Nat.le_trans (show 0 + j ≤ 800000 by omega) (by decide)) (by omega) (by have := HBW7.out; simp; omega) ?_
            intro v1 w9 hown1 hg1 _ hv1
            replace hg1 : (w7.alloc (.cells #[] 89)).grownBy w9 (some w7.heap.size) := hg1
            replace hv1 : v1.ownBlock = some w7.heap.size ∨ v1.ownBlock = some (w7.alloc (.cells #[] 89)).heap.size := hv1
            have hsz8 : (w7.alloc (.cells #[] 89)).heap.size = w7.heap.size + 1 := by simp
            rw [hsz8] at hv1
            rw [Nat.zero_add, List.nil_append] at hown1
            have b9 : Below w7.heap.size w7 w9 := B8.out.grown hg1 B8.out.size (fun k e => by injection e with e; omega)
            have k9 := (Only.of_grown hg1).blk K8.out fun e => by injection e with e; have := RDP.out.blk.lt; omega
            have kcs9 := (Only.of_grown hg1).blk KCS8.out fun e => by injection e with e; have := HGL.out; omega
            have hv1' : ∀ g, v1.ownBlock = some g → w7.heap.size ≤ g := fun g hg => by
              rcases hv1 with e | e
              · rw [e] at hg; injection hg with hg; omega
              · rw [e] at hg; injection hg with hg; omega
            have hf1 : ∃ A c, v1 = .slice A j c := by
              rcases hown1.2 with ⟨e, h0⟩ | ⟨g', cap', cur, e, _⟩
              · exact ⟨none, 0, by rw [e, h0]⟩
              · exact ⟨_, cap', e⟩
            obtain ⟨A1, cc1, rfl⟩ := hf1
            have HOWN1 := Lib.hid hown1
            have HV1 := Lib.hid hv1'
            have B9 := Lib.hid b9
            have K9 := Lib.hid k9
            have hnews2 : ∀ (t : Nat) (v : Value), (msgV q xq)[t]? = some v → w9.cell? ((⟨g, off, none⟩ : Addr).add t) = some v := fun t v hv => by
              rcases HOFF.out with e | e
              · rw [addr_add1, kcs9.cell, e, ← HEPL.out]
                exact HN2.out t v hv
              · have h1 := HMLL.out
                have h2 := HLM2.out
                have h3 := (List.getElem?_eq_some_iff.1 hv).1
                omega
            have HNEWS2 := Lib.hid hnews2
            clear hown1 hg1 hv1 hv1' b9 k9 kcs9 hnews2 hsz8
            have hi2 := hi'
            clear hi'
            go_wp2_with fail
            refine ⟨K9.out, ?_⟩
            at_builtin
            refine wpList_append_own_at _ rfl _ _ 78 rfl base 89 i0 _ 3 40 Try.underlying78 hi2 hz0 hz1 hz2 rfl (by decide) _ j (msgV p xp) rfl HOWN1.out ⟨g, off, none⟩ (M - (j + 1)) (mvc - (j + 1)) (msgV q xq) rfl (by rw [HLM2.out]; have := HMLL.out; omega) HNEWS2.out HONE2.out (Nat.le_trans (show j + (M - (j + 1)) ≤ 800000 by omega) (by decide)) (by omega) (Nat.le_trans HBW7.out B9.out.size) ?_
            intro v2 w10 hown2 hg2 _ hv2
            replace hg2 : w9.grownBy w10 (Value.ownBlock (.slice A1 j cc1)) := hg2
            replace hv2 : v2.ownBlock = Value.ownBlock (.slice A1 j cc1) ∨ v2.ownBlock = some w9.heap.size := hv2
            have b10 : Below w7.heap.size w7 w10 := B9.out.grown hg2 B9.out.size (fun k e => HV1.out k e)
            have k10 := (Only.of_grown hg2).blk K9.out fun e => by have := HV1.out _ e; have := RDP.out.blk.lt; omega
            have hv2' : ∀ g, v2.ownBlock = some g → w7.heap.size ≤ g := fun g hg => by
              rcases hv2 with e | e
              · rw [e] at hg; exact HV1.out g hg
              · rw [e] at hg; injection hg with hg; have := B9.out.size; omega
            have hql : M - (j + 1) = q.length := by have := HMLL.out; omega
            rw [hql] at hown2
            have hf2 : ∃ A m c, v2 = .slice A m c := by
              rcases hown2.2 with ⟨e, _⟩ | ⟨g', cap', cur, e, _⟩
              · exact ⟨_, _, _, e⟩
              · exact ⟨_, _, _, e⟩
            obtain ⟨A2, m2, c2, rfl⟩ := hf2
            rw [← HEPL.out] at hown2
            obtain ⟨r1, r2⟩ := RDP.out.remove HXS.out HLX1.out HLX2.out b10 hown2 hv2'
            have k10a := k10.all
            obtain ⟨d0, df, dl⟩ := k10a
            have HK10 := Lib.hid k10
            have R1 := Lib.hid r1
            have R2 := Lib.hid r2
            have B10 := Lib.hid b10
            clear hown2 hg2 hv2 hv2' b10 k10 r1 r2 hql hz0 hz1 hz2 hi2 HNEWS1 HNEWS2 HONE1 HONE2 HOWN1 HV1 H0R KCS8 K8 HN2 HLM1 HLM2 K9
            go_wp2_with fail
            refine ⟨HK10.out, ?_⟩
            go_wp2_with fail
            have ho5 : Only (fun g => g = z.p) w10 (w10.setCell ⟨z.p, 1, none⟩ (.slice A2 m2 c2)) := (Only.refl (fun g => g = z.p) w10).setCell (p := ⟨z.p, 1, none⟩) (.inl rfl) _
            have KM11 := Lib.hid (ho5.blk (KMD.out.below B10.out KMD.out.lt) fun e => absurd (blk_ty (KMD.out.below B10.out KMD.out.lt) (e ▸ HK10.out)) (by decide))
            have O11 := Lib.hid (show OwnCls (w10.setCell ⟨z.p, 1, none⟩ (.slice A2 m2 c2)) base (.slice A mu cu) m from ho5.owns (OD.out.below B10.out) fun g hg e => by
              obtain ⟨ds, k'⟩ := own_blk (OD.out.below B10.out) hg
              exact absurd (blk_ty k' (e ▸ HK10.out)) (by decide))
            have HNF1 := Lib.hid (show ¬ RFo { z with mv := .slice A2 m2 c2, xs := xp ++ xq } n gm from fun hf => (R2.out.fo _ hf).elim HNF.out fun e => Nat.lt_irrefl _ (Nat.lt_of_lt_of_le KMD.out.lt e))
            have HNU1 := Lib.hid (show ∀ g, Value.ownBlock (.slice A mu cu) = some g → ¬ RFo { z with mv := .slice A2 m2 c2, xs := xp ++ xq } n g from fun g hg hf => by
              obtain ⟨ds, k'⟩ := own_blk OD.out hg
              rcases R2.out.fo _ hf with hf | e
              · exact RD.out.notV k' (fun ⟨a, ha, hva⟩ => RD.out.sep a ha _ (List.mem_of_getElem? HE2.out) g hva hg) hf
              · exact Nat.lt_irrefl _ (Nat.lt_of_lt_of_le k'.lt e))
            have T11 := Lib.hid ((RTurn.of_below (z := z) (n := n) BD.out).trans R2.out)
            have HB := Lib.hid HBS.out
            have hag := HG.out
            rw [HEMS.out] at hag
            have HAG := Lib.hid (hag.take (D := C.setL i k (lineOf q i k)) HPN.out fun a b => by
              show (if a = i ∧ b = k then lineOf q i k else C.lines a b) = _
              split
              · rename_i e
                rw [e.1, e.2, HLN.out]
                rfl
              · rfl).2
            have HML2 := Lib.hid (show m.length ≤ 1000 from HML.out (i, k, m) (by rw [HEMS.out]; simp))
            have hmu : mu = m.length := by
              obtain ⟨A', c', e, _⟩ := O11.out.form
              injection e
            have HMU := Lib.hid hmu
            have HPQ := Lib.hid (show (p ++ q).length ≤ M + n from by have h1 := HMLL.out; have h2 := HEPL.out; rw [List.length_append]; omega)
            clear ho5 hag hmu d0 df dl RD KMD OD BD HK10 R2 B10 B8 RDP HXS HLX1 HLX2 HOFF hmc HE2 HPN HML HNF HEMS HMV HBS HBW7 HGL
            generalize w10.setCell ⟨z.p, 1, none⟩ (.slice A2 m2 c2) = w11 at *
            obtain ⟨z1, hz1⟩ : ∃ z1 : RLay, { z with mv := .slice A2 m2 c2, xs := xp ++ xq } = z1 := ⟨_, rfl⟩
            rw [hz1] at R1 HNF1 HNU1 T11
            clear hz1
            cases lost with
            | true =>
              have hr : R = (C.setL i k (lineOf q i k), true) := by rw [← HR.out]; exact deliver_lost HIK.out HLN.out
              subst hr
              have x2 : w11.cell? ⟨gm, 2, none⟩ = some (.slice A mu cu) := KM11.out.cell 2
              clear HR
              go_wp2_with fail
              go_loopw [11] (fun v wr => v = .int .i64 0 ∧ Hid (Below w11.heap.size w11 wr)) (fun _ _ => 0)
              case atStart => exact ⟨rfl, Lib.hid (Below.refl _ _)⟩
              case round =>
                obtain ⟨rfl, BB⟩ := hrel
                have x2 : wr.cell? ⟨gm, 2, none⟩ = some (.slice A mu cu) := (KM11.out.below BB.out KM11.out.lt).cell 2
                by_cases h0 : 0 < mu
                · have h0' : (0 : Int) < (mu : Int) := by omega
                  go_wp2_with fail
                  go_ret
                  exact ⟨rfl, ⟨_, _, (R1.out.below BB.out).cast rfl, HAG.out, T11.out.trans (RTurn.of_below BB.out), by first | exact HPQ.out | (rw [List.length_append]; omega)⟩⟩
                · have h0' : mu = 0 := by omega
                  subst h0'
                  go_wp2_with fail
                  go_ret
                  exact ⟨rfl, ⟨_, _, (R1.out.below BB.out).cast rfl, HAG.out, T11.out.trans (RTurn.of_below BB.out), by first | exact HPQ.out | (rw [List.length_append]; omega)⟩⟩
            | false =>
              obtain ⟨L, hL⟩ : ∃ L, C.pg k = L := ⟨_, rfl⟩
              have hr : R = ((C.setL i k (lineOf q i k)).upd k (putAll L m), true) := by rw [← HR.out, ← hL]; exact deliver_put HIK.out HLN.out
              subst hr
              have HL := Lib.hid hL
              have hmu2 : (mu : Int) ≤ 1000 := by have := HML2.out; have := HMU.out; omega
              have hk1 : (k : Int) < (n : Int) := by have := HK.out; omega
              have hn1 : (n : Int) ≤ 1000 := by omega
              have HLL := Lib.hid (show L.length ≤ 1000 from hL ▸ HPL.out k HK.out)
              clear HR hL
              go_wp2_with fail
              go_loopw [11] (fun v wr => ∃ kk : Nat, kk ≤ mu ∧ v = .int .i64 (kk : Int) ∧ ∃ zz, Hid (RAt wr base zz n (C.upd k (putAll L (m.take kk))) (p ++ q)) ∧ Hid (RTurn w wr z zz n) ∧ Hid (Blk wr gm 89 #[.int .i64 (i : Int), .int .i64 (k : Int), .slice A mu cu]) ∧ Hid (OwnCls wr base (.slice A mu cu) m) ∧ Hid (¬ RFo zz n gm) ∧ Hid (∀ g, Value.ownBlock (.slice A mu cu) = some g → ¬ RFo zz n g)) (fun v _ => mu - (intOf v).toNat)
              case atStart => exact ⟨0, Nat.zero_le _, rfl, z1, Lib.hid (by rw [List.take_zero]; show RAt _ _ _ _ (C.upd k L) _; rw [← HL.out, upd_self (by rw [HLEN.out]; exact HK.out)]; exact R1.out), T11, KM11, O11, HNF1, HNU1⟩
              case round =>
                obtain ⟨kk, hkk, rfl, zz, R, TT, KM, OO, NF, NU⟩ := hrel
                clear R1 T11 KM11 O11 HNF1 HNU1
                have x2 : wr.cell? ⟨gm, 2, none⟩ = some (.slice A mu cu) := KM.out.cell 2
                by_cases hlt : kk < mu
                · obtain ⟨c, hc⟩ : ∃ c, m[kk]? = some c := ⟨_, List.getElem?_eq_getElem (by rw [← HMU.out]; exact hlt)⟩
                  obtain ⟨bq, cq', ds, epv, kG, hds⟩ := R.out.pageB HK.out
                  have ep : zz.p = z.p := TT.out.p
                  obtain ⟨A', c', e, hcls⟩ := OwnCls.form OO.out
                  injection e with e1' e2' e3'
                  subst e1'
                  clear e2' e3' c'
                  obtain ⟨ga, oa, rfl, -, -⟩ := hcls kk c hc
                  have HC := Lib.hid hc
                  have HPV3 := Lib.hid epv
                  have HDS := Lib.hid hds
                  have KG := Lib.hid kG
                  have HEP := Lib.hid ep
                  have HCL := Lib.hid hcls
                  have hk2 : (kk : Int) < (mu : Int) := by omega
                  have HLT := Lib.hid hlt
                  have kB := R.out.blk
                  rw [ep] at kB
                  have KB := Lib.hid kB
                  clear hc epv kG hds ep hcls kB hlt
                  go_upto_region 12 with fail
                  clear x2
                  refine wp_region_hold (fun W => (Blk W z.p 80 #[zz.pv, zz.mv] ∧ Blk W bq 81 ds) ∧ Blk W gm 89 #[.int .i64 (i : Int), .int .i64 (k : Int), .slice (some ⟨ga, oa, none⟩) mu cu] ∧ ClsAt W wr.heap.size (some ⟨ga, oa, none⟩) m) [0, 1, 2, 3, 4, 5, 6, 7, 8, 9, 10, 11] [] [12] (by kernel_rfl) (by kernel_rfl) (fun _ d _ _ _ h => by cases d <;> exact h) (⟨⟨KB.out.drewN 1, KG.out.drewN 1⟩, KM.out.drewN 1, HCL.out.drewN 1⟩) ?_
                  simp only [pick, List.drop_succ_cons, List.drop_zero, List.head?_cons, Option.toList_some, List.cons_append, List.nil_append, List.append_nil]
                  try simp only [Act.put]
                  repeat ((refine wpHeld_step ?_ rfl ?_ ?_; rotate_left; · (intro W hW; have c0 : W.cell? ⟨z.p, 0, none⟩ = some (.slice (some ⟨bq, 0, none⟩) n cq') := by { rw [← HPV3.out]; exact hW.1.1.cell 0 }; have cq : W.cell? ⟨bq, k, none⟩ = some (.pointer (some ⟨zz.q k, 0, none⟩)) := by { rw [← HDS.out]; exact hW.1.2.cell k }; have x2 : W.cell? ⟨gm, 2, none⟩ = some (.slice (some ⟨ga, oa, none⟩) mu cu) := hW.2.1.cell 2; first | (refine exec_load_at (x := .tmp 88) ?_ ?_ hW.2.2 rfl HC.out <;> rfl) | (go_simp; try with_reducible rfl))); simp only [Act.put, List.setIfInBounds_toArray, List.set_cons_succ, List.set_cons_zero])
                  refine wpHeld_nil ?_
                  simp only [wpEarly]
                  obtain ⟨X, hX⟩ : ∃ X, putAll L (m.take kk) = X := ⟨_, rfl⟩
                  have hxl : X.length < 100000 := by
                    have h1 := putAll_len (m.take kk) L
                    have h2 : (m.take kk).length ≤ m.length := List.length_take_le' _ _
                    have h3 := HML2.out
                    have h4 := HLL.out
                    rw [hX] at h1
                    omega
                  have hst : putAll L (m.take (kk + 1)) = (putS X c).1 := by rw [putAll_take HC.out, hX]
                  have HST := Lib.hid hst
                  have hpg : (C.upd k X).pg k = X := by rw [upd_pg (by rw [HLEN.out]; exact HK.out), if_pos rfl]
                  have rr := R.out
                  rw [hX] at rr
                  have RD := Lib.hid (show RAt wr.drew base zz n (C.upd k X) (p ++ q) from rr.below ⟨rfl, rfl, rfl, Nat.le_refl _, fun _ _ => rfl⟩)
                  have KMD := Lib.hid (show Blk wr.drew gm 89 #[.int .i64 (i : Int), .int .i64 (k : Int), .slice (some ⟨ga, oa, none⟩) mu cu] from KM.out.drewN 1)
                  have OD := Lib.hid (show OwnCls wr.drew base (.slice (some ⟨ga, oa, none⟩) mu cu) m from OO.out.dN 1)
                  have TD := Lib.hid (TT.out.trans (show RTurn wr wr.drew zz zz n from RTurn.of_below ⟨rfl, rfl, rfl, Nat.le_refl _, fun _ _ => rfl⟩))
                  have hput := RD.out.rput HK.out (Nat.le_trans HB.out TD.out.only.size) (by rw [hpg]; exact hxl) c
                  rw [hpg, upd_upd] at hput
                  have HPUT := Lib.hid hput
                  clear hX hxl hst hpg rr R KM OO TT hput KG KB HCL HPV3 HDS
                  generalize wr.drew = wd at *
                  go_wp2_with fail
                  refine HPUT.out.mono ?_
                  rintro e w12 ⟨rfl, z12, h12, t12⟩
                  have k12 := Lib.hid (t12.only.blk KMD.out NF.out)
                  have o12 := Lib.hid (show OwnCls w12 base (.slice (some ⟨ga, oa, none⟩) mu cu) m from t12.only.owns OD.out NU.out)
                  have nf12 := Lib.hid (show ¬ RFo z12 n gm from fun hf => (t12.fo gm hf).elim NF.out fun e => Nat.lt_irrefl _ (Nat.lt_of_lt_of_le KMD.out.lt e))
                  have nu12 := Lib.hid (show ∀ g, Value.ownBlock (.slice (some ⟨ga, oa, none⟩) mu cu) = some g → ¬ RFo z12 n g from fun g hg hf => (t12.fo g hf).elim (NU.out g hg) fun e => by
                    obtain ⟨es, k'⟩ := own_blk OD.out hg
                    exact Nat.lt_irrefl _ (Nat.lt_of_lt_of_le k'.lt e))
                  have R12 := Lib.hid h12
                  have T12 := Lib.hid (TD.out.trans t12)
                  clear h12 t12 HPUT RD KMD OD TD NF NU
                  go_wp2_with fail
                  exact ⟨⟨kk + 1, HLT.out, by go_num, z12, Lib.hid (by rw [HST.out]; exact R12.out), T12, k12, o12, nf12, nu12⟩, by have := HLT.out; simp [intOf]; omega⟩
                · obtain rfl : kk = mu := by omega
                  go_wp2_with fail
                  go_ret
                  refine ⟨rfl, ⟨_, _, ?_, HAG.out.upd k _, TT.out, by first | exact HPQ.out | (rw [List.length_append]; omega)⟩⟩
                  have := R.out
                  rw [HMU.out, List.take_length] at this
                  exact this.cast rfl
          · have hlt : j < P := by
              rcases Nat.lt_or_ge j P with h1 | h1
              · exact h1
              · obtain rfl : j = P := by omega
                rcases HP2.out with ⟨e, _⟩ | ⟨p, m, q, ems, epl, _⟩
                · omega
                · refine absurd ?_ em
                  have := HMM.out
                  rw [ems, List.getElem?_append_right (by omega), epl, Nat.sub_self] at this
                  rw [← Option.some.inj this]
                  exact ⟨rfl, rfl⟩
            have HLT := Lib.hid hlt
            clear hlt
            by_cases em1 : mm.1 = i
            · have e0 : ((mm.1 : Int) != (i : Int)) = false := by simp [em1]
              have e1 : ((mm.2.1 : Int) != (k : Int)) = true := by
                have : (mm.2.1 : Int) ≠ (k : Int) := fun e => em ⟨em1, by omega⟩
                simpa using this
              clear em em1
              go_wp2_with fail
              exact ⟨⟨j + 1, HLT.out, by go_num, B6⟩, by have := HLT.out; simp [intOf]; omega⟩
            · have e0 : ((mm.1 : Int) != (i : Int)) = true := by
                have : (mm.1 : Int) ≠ (i : Int) := fun e => em1 (by omega)
                simpa using this
              clear em em1
              go_wp2_with fail
              exact ⟨⟨j + 1, HLT.out, by go_num, B6⟩, by have := HLT.out; simp [intOf]; omega⟩
        · obtain rfl : j = M := by omega
          have hr : R = (C, false) := by
            rcases HP2.out with ⟨_, e⟩ | ⟨p, m, q, ems, epl, _⟩
            · exact e
            · have := HM.out
              rw [ems, List.length_append, List.length_cons] at this
              omega
          subst hr
          go_wp2_with fail
          go_ret
          exact ⟨rfl, ⟨_, _, HR1.out, HG.out, RTurn.of_below BR.out, by rw [HM.out]; exact Nat.le_add_right _ _⟩⟩
    · rw [decide_eq_false hbb] at hB
      have HB := Lib.hid hB
      have e : deliverI n C a b lost = (C, false) := if_neg fun e => hbb e.2
      rw [e]
      clear hg h hbb ha hB e
      go_enter Try.func17, Try.ntmps17
      go_wp2_with (go_at_call 34; first | (refine HA.out.mono ?_; clear HA; rintro e w1 ⟨rfl, rfl⟩) | (refine HB.out.mono ?_; rintro e w1 ⟨rfl, rfl⟩))
      go_wp2_with fail
      go_ret
      exact ⟨rfl, RStep.same H.out HG.out (Nat.le_add_right _ _) (Below.refl _ _)⟩
  · rw [decide_eq_false ha] at hA
    have HA := Lib.hid hA
    have e : deliverI n C a b lost = (C, false) := if_neg fun e => ha e.1
    rw [e]
    clear hg h ha hA hB e
    go_enter Try.func17, Try.ntmps17
    go_wp2_with (go_at_call 34; refine HA.out.mono ?_; rintro e w1 ⟨rfl, rfl⟩)
    go_wp2_with fail
    go_ret
    exact ⟨rfl, RStep.same H.out HG.out (Nat.le_add_right _ _) (Below.refl _ _)⟩
end Go.Proofs.Ytaicbllfkehhjaa

/- No chamber at all: each method says so. -/
namespace Go.Proofs.Ytaicbllfkehhjaa
open Go.RowKit

set_option maxRecDepth 100000
theorem cis_nil (w : World) (i : Int) : Calls Try.prog 39 #[.pointer none, .int .i64 i] w fun e w' => e = .returned (.bool false) ∧ w' = w := by
  go_enter Try.func39, Try.ntmps39
  go_wp2_with fail
  go_ret
  exact ⟨rfl, rfl⟩
theorem rseat_nil (w : World) (i : Int) : Calls Try.prog 34 #[.pointer none, .int .i64 i] w fun e w' => e = .returned (.bool false) ∧ w' = w := by
  go_enter Try.func34, Try.ntmps34
  go_wp2_with fail
  go_ret
  exact ⟨rfl, rfl⟩
theorem view_nil (w : World) (i : Int) : Calls Try.prog 20 #[.pointer none, .int .i64 i] w fun e w' => e = .returned (.slice none 0 0) ∧ w' = w := by
  go_enter Try.func20, Try.ntmps20
  go_wp2_with (go_at_call 39; refine (cis_nil w i).mono ?_; rintro e w9 ⟨rfl, h9⟩; have h9 := h9.symm; subst h9)
  go_ret
  exact ⟨rfl, rfl⟩
theorem rview_nil (w : World) (i : Int) : Calls Try.prog 13 #[.pointer none, .int .i64 i] w fun e w' => e = .returned (.slice none 0 0) ∧ w' = w := by
  go_enter Try.func13, Try.ntmps13
  go_wp2_with (go_at_call 34; refine (rseat_nil w i).mono ?_; rintro e w9 ⟨rfl, h9⟩; have h9 := h9.symm; subst h9)
  go_ret
  exact ⟨rfl, rfl⟩
theorem again_nil (w : World) (i k : Int) : Calls Try.prog 27 #[.pointer none, .int .i64 i, .int .i64 k] w fun e w' => e = .returned (.int .i64 1) ∧ Below w.heap.size w w' := by
  go_enter Try.func27, Try.ntmps27
  go_wp2_with (go_at_call 39; refine (cis_nil w i).mono ?_; rintro e w9 ⟨rfl, h9⟩; have h9 := h9.symm; subst h9)
  go_wp2_with fail
  go_ret
  exact ⟨rfl, Below.refl _ _⟩
theorem ragain_nil (w : World) (i k : Int) : Calls Try.prog 18 #[.pointer none, .int .i64 i, .int .i64 k] w fun e w' => e = .returned (.int .i64 1) ∧ Below w.heap.size w w' := by
  go_enter Try.func18, Try.ntmps18
  go_wp2_with (go_at_call 34; refine (rseat_nil w i).mono ?_; rintro e w9 ⟨rfl, h9⟩; have h9 := h9.symm; subst h9)
  go_wp2_with fail
  go_ret
  exact ⟨rfl, Below.refl _ _⟩
theorem pdeliver_nil (w : World) (i k : Int) (l : Bool) : Calls Try.prog 28 #[.pointer none, .int .i64 i, .int .i64 k, .bool l] w fun e w' => e = .returned (.bool false) ∧ Below w.heap.size w w' := by
  go_enter Try.func28, Try.ntmps28
  go_wp2_with (go_at_call 39; refine (cis_nil w i).mono ?_; rintro e w9 ⟨rfl, h9⟩; have h9 := h9.symm; subst h9)
  go_wp2_with fail
  go_ret
  exact ⟨rfl, Below.refl _ _⟩
theorem rdeliver_nil (w : World) (i k : Int) (l : Bool) : Calls Try.prog 17 #[.pointer none, .int .i64 i, .int .i64 k, .bool l] w fun e w' => e = .returned (.bool false) ∧ Below w.heap.size w w' := by
  go_enter Try.func17, Try.ntmps17
  go_wp2_with (go_at_call 34; refine (rseat_nil w i).mono ?_; rintro e w9 ⟨rfl, h9⟩; have h9 := h9.symm; subst h9)
  go_wp2_with fail
  go_ret
  exact ⟨rfl, Below.refl _ _⟩
theorem withdraw_nil (w : World) (i a b : Int) : Calls Try.prog 31 #[.pointer none, .int .i64 i, .agg #[.int .i64 a, .int .i64 b]] w fun e w' => e = .returned (.int .i64 1) ∧ Below w.heap.size w w' := by
  have hb := below_self_alloc w (.cells #[.int .i64 a, .int .i64 b] 33)
  go_enter Try.func31, Try.ntmps31
  go_wp2_with (go_at_call 39; refine (cis_nil _ i).mono ?_; rintro e w9 ⟨rfl, h9⟩; have h9 := h9.symm; subst h9)
  go_wp2_with fail
  go_ret
  exact ⟨rfl, hb⟩
theorem rwithdraw_nil (w : World) (i a b : Int) : Calls Try.prog 16 #[.pointer none, .int .i64 i, .agg #[.int .i64 a, .int .i64 b]] w fun e w' => e = .returned (.int .i64 1) ∧ Below w.heap.size w w' := by
  have hb := below_self_alloc w (.cells #[.int .i64 a, .int .i64 b] 33)
  go_enter Try.func16, Try.ntmps16
  go_wp2_with (go_at_call 34; refine (rseat_nil _ i).mono ?_; rintro e w9 ⟨rfl, h9⟩; have h9 := h9.symm; subst h9)
  go_wp2_with fail
  go_ret
  exact ⟨rfl, hb⟩
theorem propose_nil (w : World) (i a b : Int) (p : Pt) : Calls Try.prog 29 #[.pointer none, .int .i64 i, .agg #[.int .i64 a, .int .i64 b], .agg (ptA p)] w fun e w' => e = .returned (.tuple #[.agg #[.int .i64 0, .int .i64 0], .int .i64 1]) ∧ Below w.heap.size w w' := by
  obtain ⟨q, hq⟩ : ∃ q, w.heap.size = q := ⟨_, rfl⟩
  have hb0 : Below q w (((w.alloc (.cells #[.int .i64 a, .int .i64 b] 33)).alloc (.cells (ptA p) 37)).alloc (.cells #[.int .i64 0, .int .i64 0] 33)) := by
    subst hq
    exact (((Below.refl _ w).alloc (Nat.le_refl _) _).alloc (by simp) _).alloc (by simp; omega) _
  have kR : Blk (((w.alloc (.cells #[.int .i64 a, .int .i64 b] 33)).alloc (.cells (ptA p) 37)).alloc (.cells #[.int .i64 0, .int .i64 0] 33)) (q + 1 + 1) 33 #[.int .i64 0, .int .i64 0] := by
    subst hq
    have := Blk.new ((w.alloc (.cells #[.int .i64 a, .int .i64 b] 33)).alloc (.cells (ptA p) 37)) 33 #[.int .i64 0, .int .i64 0]
    simpa using this
  have kR4 := kR.all
  obtain ⟨r0, rf, rl⟩ := kR4
  have KR := Lib.hid kR
  have HB := Lib.hid hb0
  clear kR hb0
  go_enter Try.func29, Try.ntmps29
  go_wp2_with (go_at_call 39; refine (cis_nil _ i).mono ?_; rintro e w1 ⟨rfl, h9⟩; have h9 := h9.symm; subst h9)
  have hlv := run_loadVar_row (P := Try.prog) _ _ 33 33 _ (0, 0) _ KR.out Try.underlying33 rfl (by kernel_rfl)
  exact bodyPost_ret (v := .tuple #[.agg #[.int .i64 0, .int .i64 0], .int .i64 1]) (by simp [results, Try.results29, asAddr, hlv]) rfl ⟨rfl, hq ▸ HB.out⟩
theorem rpropose_nil (w : World) (i a b : Int) (p : Pt) : Calls Try.prog 15 #[.pointer none, .int .i64 i, .agg #[.int .i64 a, .int .i64 b], .agg (ptA p)] w fun e w' => e = .returned (.tuple #[.agg #[.int .i64 0, .int .i64 0], .int .i64 1]) ∧ Below w.heap.size w w' := by
  obtain ⟨q, hq⟩ : ∃ q, w.heap.size = q := ⟨_, rfl⟩
  have hb0 : Below q w (((w.alloc (.cells #[.int .i64 a, .int .i64 b] 33)).alloc (.cells (ptA p) 37)).alloc (.cells #[.int .i64 0, .int .i64 0] 33)) := by
    subst hq
    exact (((Below.refl _ w).alloc (Nat.le_refl _) _).alloc (by simp) _).alloc (by simp; omega) _
  have kR : Blk (((w.alloc (.cells #[.int .i64 a, .int .i64 b] 33)).alloc (.cells (ptA p) 37)).alloc (.cells #[.int .i64 0, .int .i64 0] 33)) (q + 1 + 1) 33 #[.int .i64 0, .int .i64 0] := by
    subst hq
    have := Blk.new ((w.alloc (.cells #[.int .i64 a, .int .i64 b] 33)).alloc (.cells (ptA p) 37)) 33 #[.int .i64 0, .int .i64 0]
    simpa using this
  have kR4 := kR.all
  obtain ⟨r0, rf, rl⟩ := kR4
  have KR := Lib.hid kR
  have HB := Lib.hid hb0
  clear kR hb0
  go_enter Try.func15, Try.ntmps15
  go_wp2_with (go_at_call 34; refine (rseat_nil _ i).mono ?_; rintro e w1 ⟨rfl, h9⟩; have h9 := h9.symm; subst h9)
  have hlv := run_loadVar_row (P := Try.prog) _ _ 33 33 _ (0, 0) _ KR.out Try.underlying33 rfl (by kernel_rfl)
  exact bodyPost_ret (v := .tuple #[.agg #[.int .i64 0, .int .i64 0], .int .i64 1]) (by simp [results, Try.results15, asAddr, hlv]) rfl ⟨rfl, hq ▸ HB.out⟩
theorem settled_nil (w : World) : Calls Try.prog 21 #[.pointer none] w fun e w' => e = .returned (.bool false) ∧ Below w.heap.size w w' := by
  have hb := below_self_alloc w (.cells #[.pointer none] 25)
  go_enter Try.func21, Try.ntmps21
  go_wp2_with fail
  go_ret
  exact ⟨rfl, hb⟩
theorem rsettled_nil (w : World) : Calls Try.prog 22 #[.pointer none] w fun e w' => e = .returned (.bool false) ∧ Below w.heap.size w w' := by
  go_enter Try.func22, Try.ntmps22
  go_wp2_with fail
  go_loopw [3] (fun v wr => v = .int .i64 0 ∧ wr = w) (fun _ _ => 0)
  case atStart => exact ⟨rfl, rfl⟩
  case round =>
    obtain ⟨rfl, rfl⟩ := hrel
    go_wp2_with fail
    go_ret
    exact ⟨rfl, Below.refl _ _⟩
end Go.Proofs.Ytaicbllfkehhjaa

/- do, on no chamber. -/
namespace Go.Proofs.Ytaicbllfkehhjaa
open Go.RowKit

structure Nl (w W : World) : Prop where
  bel : Below w.heap.size w W
theorem Nl.below {w W W' : World} (h : Nl w W) (k : Below W.heap.size W W') : Nl w W' := ⟨h.bel.trans (k.mono h.bel.size)⟩
theorem Nl.alloc {w W : World} (h : Nl w W) (o : Obj) : Nl w (W.alloc o) := h.below (below_self_alloc W o)
theorem Nl.farSt {w W W' : World} (h : Nl w W) {r : Nat} (hr : w.heap.size ≤ r) (o : Only (fun g => g = r) W W') : Nl w W' := ⟨h.bel.trans (o.below h.bel.size fun _ e => e ▸ hr)⟩
set_option maxRecDepth 100000 in
set_option maxHeartbeats 8000000 in
theorem do_nil (w : World) (C : Ch) (o : OpC) (hok : OpOk o) :
    Calls Try.prog 14 #[.pointer none, .agg (opA o)] w fun e w' =>
      e = .returned (.tuple #[.agg #[.int .i64 (doI 0 C o).2.1.1, .int .i64 (doI 0 C o).2.1.2], .int .i64 (doI 0 C o).2.2.1, .bool (doI 0 C o).2.2.2]) ∧ Below w.heap.size w w' := by
  have h : Nl w w := ⟨Below.refl _ _⟩
  obtain ⟨q, hq⟩ : ∃ q, w.heap.size = q := ⟨_, rfl⟩
  have hb0 : Below w.heap.size w ((w.alloc (.cells (opA o) 39)).alloc (.cells #[.int .i64 0, .int .i64 0] 33)) := ((Below.refl _ w).alloc (Nat.le_refl _) _).alloc (by simp) _
  have kb : Blk ((w.alloc (.cells (opA o) 39)).alloc (.cells #[.int .i64 0, .int .i64 0] 33)) q 39 (opA o) := by
    subst hq
    exact (Blk.new w _ _).alloc _
  have kz : Blk ((w.alloc (.cells (opA o) 39)).alloc (.cells #[.int .i64 0, .int .i64 0] 33)) (q + 1) 33 #[.int .i64 0, .int .i64 0] := by
    subst hq
    exact Blk.new1 w _ _ _
  have h0 := h.below hb0
  obtain ⟨R, hR⟩ : ∃ R, doI 0 C o = R := ⟨_, rfl⟩
  rw [hR]
  unfold doI at hR
  have hv0 : viewS 0 C o.seat = [] := by unfold viewS; rw [if_neg (by omega)]
  rw [hv0] at hR
  obtain ⟨S, hS⟩ : ∃ S, stampS o ([] : List Cl) = S := ⟨_, rfl⟩
  rw [hS] at hR
  have hcz := opA_size o
  have HR := Lib.hid hR
  have H0 := Lib.hid h0
  have KO := Lib.hid kb
  have KZ := Lib.hid kz
  have HB0 := Lib.hid hb0
  have HOK := Lib.hid hok
  have HS := Lib.hid hS
  clear h hok hb0 kb kz h0 hR hv0 hS
  go_enter Try.func14, Try.ntmps14
  go_upto_region 1 with fail
  generalize (w.alloc (.cells (opA o) 39)).alloc (.cells #[.int .i64 0, .int .i64 0] 33) = W0 at *
  go_cut [7] from 10 to 15 (fun v7 wx => ∃ g, v7 = .pointer (some ⟨g, 0, none⟩) ∧ Blk wx g 33 #[.int .i64 S.1, .int .i64 S.2] ∧ Below W0.heap.size W0 wx)
  case first =>
    refine wp_region_ats (fun W => Nl w W ∧ Blk W q 39 (opA o)) (by kernel_rfl) (by kernel_rfl) (fun _ d _ _ _ h => by cases d <;> exact h) rfl ?_
    have B2 : Below W0.heap.size W0 W0.drew := (Below.refl _ _).drew
    generalize W0.drew = w2d at *
    refine ats_take [0, 1, 2, 3] 4 rfl (by kernel_rfl) ⟨H0.out.below B2, KO.out.below B2 KO.out.lt⟩ ?_
    simp only [pick, List.drop_succ_cons, List.drop_zero, List.head?_cons, Option.toList_some, List.cons_append, List.nil_append, List.append_nil]
    repeat ((refine wpHeld_step ?_ rfl ?_ ?_; rotate_left; · (intro W hW; have q0 : W.cell? ⟨q, 1, none⟩ = some (.int .i64 o.seat) := (hW.2.cell 1).trans rfl; first | (refine exec_load_opb (x := .tmp 3) ?_ ?_ hcz hW.2 <;> rfl) | (go_simp; try with_reducible rfl))); simp only [Act.put, List.setIfInBounds_toArray, List.set_cons_succ, List.set_cons_zero])
    refine wpHeld_nil ?_
    refine ats_two 4 6 (by kernel_rfl) ?_ ?_
    · simp only [pick, List.drop_succ_cons, List.drop_zero, List.head?_cons, Option.toList_some, List.append_nil]
      go_wp2_with fail
      refine (view_nil _ o.seat).mono ?_
      rintro e w3 ⟨rfl, h9⟩
      have b3 : Below w2d.heap.size w2d w3 := h9 ▸ Below.refl _ _
      clear h9
      have hcls := ClsAt.nil w3 w3.heap.size none
      have hle := Nat.le_refl w3.heap.size
      have B3 := B2.trans (b3.mono B2.size)
      try go_wp2_with fail
      refine ⟨⟨H0.out.below B3, KO.out.below B3 KO.out.lt⟩, ?_⟩
      refine ats_two 5 6 (by kernel_rfl) ?_ ?_
      · simp only [pick, List.drop_succ_cons, List.drop_zero, List.head?_cons, Option.toList_some, List.append_nil]
        go_wp2_with fail
        refine (stamp_any _ o HOK.out none 0 _ [] hcls hle (by decide)).mono ?_
        rintro e w4 ⟨rfl, b4⟩
        have B4 := B3.trans (b4.mono B3.size)
        try go_wp2_with fail
        refine ⟨⟨H0.out.below B4, KO.out.below B4 KO.out.lt⟩, ?_⟩
        refine ats_one 6 (by kernel_rfl) ?_
        simp only [pick, List.drop_succ_cons, List.drop_zero, List.head?_cons, Option.toList_some, List.append_nil]
        have z5 := Blk.new w4 33 #[.int .i64 0, .int .i64 0]
        have B5 := B4.alloc B4.size (.cells #[.int .i64 0, .int .i64 0] 33)
        have hge := B4.size
        go_wp2_with fail
        obtain ⟨g, hgg⟩ : ∃ g, w4.heap.size = g := ⟨_, rfl⟩
        rw [hgg] at z5 hge
        try simp only [hgg]
        generalize w4.alloc (.cells #[.int .i64 0, .int .i64 0] 33) = w5 at *
        clear hgg
        refine ⟨⟨H0.out.below B5, KO.out.below B5 KO.out.lt⟩, ?_⟩
        refine ats_one 7 (by kernel_rfl) ?_
        simp only [pick, List.drop_succ_cons, List.drop_zero, List.head?_cons, Option.toList_some, List.append_nil]
        have za := z5.all
        obtain ⟨z0, zf, zl⟩ := za
        have zk := (z5.set_ 0 (.int .i64 S.1)).set_ 1 (.int .i64 S.2)
        have BF := (B5.setCell (p := ⟨g, 0, none⟩) hge (.int .i64 S.1)).setCell (p := ⟨g, 1, none⟩) hge (.int .i64 S.2)
        rw [HS.out, show stA S = #[.int .i64 S.1, .int .i64 S.2] from rfl]
        go_wp2_with fail
        refine ⟨⟨H0.out.below BF, KO.out.below BF KO.out.lt⟩, ?_⟩
        refine ats_end (by kernel_rfl) ?_
        go_wp2_with fail
        go_meet
        exact ⟨g, rfl, zk, BF⟩
      · simp only [pick, List.drop_succ_cons, List.drop_zero, List.head?_cons, Option.toList_some, List.append_nil]
        have z4 := Blk.new w3 33 #[.int .i64 0, .int .i64 0]
        have B4 := B3.alloc B3.size (.cells #[.int .i64 0, .int .i64 0] 33)
        replace hcls := hcls.below (below_self_alloc _ (.cells #[.int .i64 0, .int .i64 0] 33))
        replace hle := (below_self_alloc w3 (.cells #[.int .i64 0, .int .i64 0] 33)).size
        have hge := B3.size
        go_wp2_with fail
        obtain ⟨g, hgg⟩ : ∃ g, w3.heap.size = g := ⟨_, rfl⟩
        rw [hgg] at z4 hge
        try simp only [hgg]
        generalize w3.alloc (.cells #[.int .i64 0, .int .i64 0] 33) = w4 at *
        clear hgg
        refine ⟨⟨H0.out.below B4, KO.out.below B4 KO.out.lt⟩, ?_⟩
        refine ats_one 5 (by kernel_rfl) ?_
        simp only [pick, List.drop_succ_cons, List.drop_zero, List.head?_cons, Option.toList_some, List.append_nil]
        go_wp2_with fail
        refine (stamp_any _ o HOK.out none 0 _ [] hcls hle (by decide)).mono ?_
        rintro e w5 ⟨rfl, b5⟩
        have B5 := B4.trans (b5.mono B4.size)
        have z5 := z4.below b5 z4.lt
        try go_wp2_with fail
        refine ⟨⟨H0.out.below B5, KO.out.below B5 KO.out.lt⟩, ?_⟩
        refine ats_one 7 (by kernel_rfl) ?_
        simp only [pick, List.drop_succ_cons, List.drop_zero, List.head?_cons, Option.toList_some, List.append_nil]
        have za := z5.all
        obtain ⟨z0, zf, zl⟩ := za
        have zk := (z5.set_ 0 (.int .i64 S.1)).set_ 1 (.int .i64 S.2)
        have BF := (B5.setCell (p := ⟨g, 0, none⟩) hge (.int .i64 S.1)).setCell (p := ⟨g, 1, none⟩) hge (.int .i64 S.2)
        rw [HS.out, show stA S = #[.int .i64 S.1, .int .i64 S.2] from rfl]
        go_wp2_with fail
        refine ⟨⟨H0.out.below BF, KO.out.below BF KO.out.lt⟩, ?_⟩
        refine ats_end (by kernel_rfl) ?_
        go_wp2_with fail
        go_meet
        exact ⟨g, rfl, zk, BF⟩
    · simp only [pick, List.drop_succ_cons, List.drop_zero, List.head?_cons, Option.toList_some, List.append_nil]
      have z3 := Blk.new w2d 33 #[.int .i64 0, .int .i64 0]
      have B3 := B2.alloc B2.size (.cells #[.int .i64 0, .int .i64 0] 33)
      have hge := B2.size
      go_wp2_with fail
      obtain ⟨g, hgg⟩ : ∃ g, w2d.heap.size = g := ⟨_, rfl⟩
      rw [hgg] at z3 hge
      try simp only [hgg]
      generalize w2d.alloc (.cells #[.int .i64 0, .int .i64 0] 33) = w3 at *
      clear hgg
      refine ⟨⟨H0.out.below B3, KO.out.below B3 KO.out.lt⟩, ?_⟩
      refine ats_one 4 (by kernel_rfl) ?_
      simp only [pick, List.drop_succ_cons, List.drop_zero, List.head?_cons, Option.toList_some, List.append_nil]
      go_wp2_with fail
      refine (view_nil _ o.seat).mono ?_
      rintro e w4 ⟨rfl, h9⟩
      have b4 : Below w3.heap.size w3 w4 := h9 ▸ Below.refl _ _
      clear h9
      have hcls := ClsAt.nil w4 w4.heap.size none
      have hle := Nat.le_refl w4.heap.size
      have B4 := B3.trans (b4.mono B3.size)
      have z4 := z3.below b4 z3.lt
      try go_wp2_with fail
      refine ⟨⟨H0.out.below B4, KO.out.below B4 KO.out.lt⟩, ?_⟩
      refine ats_one 5 (by kernel_rfl) ?_
      simp only [pick, List.drop_succ_cons, List.drop_zero, List.head?_cons, Option.toList_some, List.append_nil]
      go_wp2_with fail
      refine (stamp_any _ o HOK.out none 0 _ [] hcls hle (by decide)).mono ?_
      rintro e w5 ⟨rfl, b5⟩
      have B5 := B4.trans (b5.mono B4.size)
      have z5 := z4.below b5 z4.lt
      try go_wp2_with fail
      refine ⟨⟨H0.out.below B5, KO.out.below B5 KO.out.lt⟩, ?_⟩
      refine ats_one 7 (by kernel_rfl) ?_
      simp only [pick, List.drop_succ_cons, List.drop_zero, List.head?_cons, Option.toList_some, List.append_nil]
      have za := z5.all
      obtain ⟨z0, zf, zl⟩ := za
      have zk := (z5.set_ 0 (.int .i64 S.1)).set_ 1 (.int .i64 S.2)
      have BF := (B5.setCell (p := ⟨g, 0, none⟩) hge (.int .i64 S.1)).setCell (p := ⟨g, 1, none⟩) hge (.int .i64 S.2)
      rw [HS.out, show stA S = #[.int .i64 S.1, .int .i64 S.2] from rfl]
      go_wp2_with fail
      refine ⟨⟨H0.out.below BF, KO.out.below BF KO.out.lt⟩, ?_⟩
      refine ats_end (by kernel_rfl) ?_
      go_wp2_with fail
      go_meet
      exact ⟨g, rfl, zk, BF⟩
  case rest =>
    obtain ⟨g, rfl, zk, BF⟩ := hcut
    have H1 := Lib.hid (H0.out.below BF)
    have KO1 := Lib.hid (KO.out.below BF KO.out.lt)
    have KZ1 := Lib.hid (KZ.out.below BF KZ.out.lt)
    have k0 : wc.cell? ⟨q, 0, none⟩ = some (.int .i64 o.kind) := (KO1.out.cell 0).trans rfl
    have k1 : wc.cell? ⟨q, 1, none⟩ = some (.int .i64 o.seat) := (KO1.out.cell 1).trans rfl
    have k2 : wc.cell? ⟨q, 2, none⟩ = some (.int .i64 o.to_) := (KO1.out.cell 2).trans rfl
    have k21 : wc.cell? ⟨q, 21, none⟩ = some (.bool o.lost) := (KO1.out.cell 21).trans rfl
    have t0 : wc.cell? ⟨g, 0, none⟩ = some (.int .i64 S.1) := zk.cell 0
    have t1 : wc.cell? ⟨g, 1, none⟩ = some (.int .i64 S.2) := zk.cell 1
    have hR := HR.out
    have hwq : w.heap.size ≤ q + 1 := by omega
    clear HR BF zk hq
    by_cases e0 : o.kind = 0
    · rw [if_pos e0] at hR
      have hP := propose_nil wc o.seat S.1 S.2 o.pt
      have hP2 : proposeI 0 C o.seat S o.pt = (C, z2, 1) := if_neg (fun e => by omega)
      rw [hP2] at hR
      dsimp only [z2] at hR
      rw [e0] at k0
      subst hR
      have HP := Lib.hid hP
      have HO := Lib.hid (OpsAt.of_blk KO1.out (Nat.lt_succ_self q))
      clear hP hP2 e0
      go_upto_region 5 with (first | (refine wpList_val rfl rfl (.agg (ptA o.pt)) (exec_load_opt (x := .tmp 25) (off := 0) (i := 0) rfl rfl HO.out rfl rfl) ?_) | (go_at_call 29; refine HP.out.mono ?_; rintro e w5 ⟨rfl, b5⟩; have h5 := H1.out.below b5))
      have k5 := KZ1.out.below b5 KZ1.out.lt
      have kN := Blk.new w5 33 #[.int .i64 0, .int .i64 0]
      have k6 := k5.alloc (.cells #[.int .i64 0, .int .i64 0] 33)
      have H6 := Lib.hid (h5.alloc (.cells #[.int .i64 0, .int .i64 0] 33))
      clear k5 h5 b5 HP HO k0 k1 k2 k21 t0 t1
      generalize w5.alloc (.cells #[.int .i64 0, .int .i64 0] 33) = w6 at *
      generalize w5.heap.size = gn at *
      have n0 : w6.cell? ⟨gn, 0, none⟩ = some (.int .i64 0) := kN.cell 0
      have n1 : w6.cell? ⟨gn, 1, none⟩ = some (.int .i64 0) := kN.cell 1
      have kF := (k6.set_ 0 (.int .i64 0)).set_ 1 (.int .i64 0)
      have ka := k6.all
      obtain ⟨r0, rf, rl⟩ := ka
      have K6 := Lib.hid k6
      clear k6 kN
      go_wp2_with fail
      have hlv := run_loadVar_row (P := Try.prog) _ _ 33 33 _ (0, 0) _ kF Try.underlying33 rfl (by kernel_rfl)
      exact bodyPost_ret (v := .tuple #[.agg #[.int .i64 0, .int .i64 0], .int .i64 1, .bool false]) (by simp [results, Try.results14, asAddr, hlv]) rfl ⟨rfl, (H6.out.farSt hwq (only_two _ _ _ _)).bel⟩
    · rw [if_neg e0] at hR
      by_cases e1 : o.kind = 1
      · rw [if_pos e1] at hR
        have hP := withdraw_nil wc o.seat S.1 S.2
        have hP2 : withdrawI 0 C o.seat S = (C, 1) := if_neg (fun e => by omega)
        rw [hP2] at hR
        dsimp only [z2] at hR
        rw [e1] at k0
        subst hR
        have HP := Lib.hid hP
        clear hP hP2 e0 e1
        go_wp2_with (go_at_call 31; refine HP.out.mono ?_; rintro e w5 ⟨rfl, b5⟩; have h5 := H1.out.below b5; have k5 := KZ1.out.below b5 KZ1.out.lt; have ka := k5.all; obtain ⟨r0, rf, rl⟩ := ka; have K5 := Lib.hid k5; have H5 := Lib.hid h5; clear k5 h5 b5)
        have kF := (K5.out.set_ 0 (.int .i64 0)).set_ 1 (.int .i64 0)
        have hlv := run_loadVar_row (P := Try.prog) _ _ 33 33 _ (0, 0) _ kF Try.underlying33 rfl (by kernel_rfl)
        exact bodyPost_ret (v := .tuple #[.agg #[.int .i64 0, .int .i64 0], .int .i64 1, .bool false]) (by simp [results, Try.results14, asAddr, hlv]) rfl ⟨rfl, (H5.out.farSt hwq (only_two _ _ _ _)).bel⟩
      · rw [if_neg e1] at hR
        by_cases e2 : o.kind = 2
        · rw [if_pos e2] at hR
          have hP := pdeliver_nil wc o.seat o.to_ o.lost
          have hP2 : deliverI 0 C o.seat o.to_ o.lost = (C, false) := if_neg (fun e => by omega)
          rw [hP2] at hR
          dsimp only [z2] at hR
          rw [e2] at k0
          subst hR
          have HP := Lib.hid hP
          clear hP hP2 e0 e1 e2
          go_wp2_with (go_at_call 28; refine HP.out.mono ?_; rintro e w5 ⟨rfl, b5⟩; have h5 := H1.out.below b5; have k5 := KZ1.out.below b5 KZ1.out.lt; have ka := k5.all; obtain ⟨r0, rf, rl⟩ := ka; have K5 := Lib.hid k5; have H5 := Lib.hid h5; clear k5 h5 b5)
          have kF := (K5.out.set_ 0 (.int .i64 0)).set_ 1 (.int .i64 0)
          have hlv := run_loadVar_row (P := Try.prog) _ _ 33 33 _ (0, 0) _ kF Try.underlying33 rfl (by kernel_rfl)
          exact bodyPost_ret (v := .tuple #[.agg #[.int .i64 0, .int .i64 0], .int .i64 0, .bool false]) (by simp [results, Try.results14, asAddr, hlv]) rfl ⟨rfl, (H5.out.farSt hwq (only_two _ _ _ _)).bel⟩
        · rw [if_neg e2] at hR
          by_cases e3 : o.kind = 3
          · rw [if_pos e3] at hR
            have hP := again_nil wc o.seat o.to_
            have hP2 : againI 0 C o.seat o.to_ = (C, 1) := if_neg (fun e => by omega)
            rw [hP2] at hR
            dsimp only [z2] at hR
            rw [e3] at k0
            subst hR
            have HP := Lib.hid hP
            clear hP hP2 e0 e1 e2 e3
            go_wp2_with (go_at_call 27; refine HP.out.mono ?_; rintro e w5 ⟨rfl, b5⟩; have h5 := H1.out.below b5; have k5 := KZ1.out.below b5 KZ1.out.lt; have ka := k5.all; obtain ⟨r0, rf, rl⟩ := ka; have K5 := Lib.hid k5; have H5 := Lib.hid h5; clear k5 h5 b5)
            have kF := (K5.out.set_ 0 (.int .i64 0)).set_ 1 (.int .i64 0)
            have hlv := run_loadVar_row (P := Try.prog) _ _ 33 33 _ (0, 0) _ kF Try.underlying33 rfl (by kernel_rfl)
            exact bodyPost_ret (v := .tuple #[.agg #[.int .i64 0, .int .i64 0], .int .i64 1, .bool false]) (by simp [results, Try.results14, asAddr, hlv]) rfl ⟨rfl, (H5.out.farSt hwq (only_two _ _ _ _)).bel⟩
          · rw [if_neg e3] at hR
            have KZa := KZ1.out.all
            obtain ⟨r0, rf, rl⟩ := KZa
            have d0 : (o.kind == 0) = false := by simpa using e0
            have d1 : (o.kind == 1) = false := by simpa using e1
            have d2 : (o.kind == 2) = false := by simpa using e2
            have d3 : (o.kind == 3) = false := by simpa using e3
            subst hR
            have kF := (KZ1.out.set_ 0 (.int .i64 0)).set_ 1 (.int .i64 0)
            clear e0 e1 e2 e3
            go_wp2_with fail
            have hlv := run_loadVar_row (P := Try.prog) _ _ 33 33 _ (0, 0) _ kF Try.underlying33 rfl (by kernel_rfl)
            exact bodyPost_ret (v := .tuple #[.agg #[.int .i64 0, .int .i64 0], .int .i64 0, .bool false]) (by simp [results, Try.results14, asAddr, hlv]) rfl ⟨rfl, (H1.out.farSt hwq (only_two _ _ _ _)).bel⟩
end Go.Proofs.Ytaicbllfkehhjaa

/- The reference: New. -/
namespace Go.Proofs.Ytaicbllfkehhjaa
open Go.RowKit

def zN (p : Nat) (pv : Value) (q : Nat → Nat) : RLay := ⟨p, pv, .slice none 0 0, q, fun _ => .slice none 0 0, []⟩
theorem newS_pg (n j : Nat) : (newS n).pg j = [] := by
  unfold newS Ch.pg
  simp only [List.getD_eq_getElem?_getD]
  rcases Nat.lt_or_ge j n with h | h
  · simp [h]
  · simp [h]
theorem RAt.newPage {w w2 w3 : World} {base i p Q : Nat} {pv v' : Value} {q : Nat → Nat} (h : RAt w base (zN p pv q) i (newS i) []) (hb : base ≤ w.heap.size) (b2 : Below w.heap.size w w2) (hp : Blk w2 Q 100 #[.slice none 0 0]) (hQ : w.heap.size ≤ Q)
    (hown : w3.ownsRow base 81 1 v' (i + 1) (((List.range i).map fun j => .pointer (some ⟨q j, 0, none⟩)) ++ [.pointer (some ⟨Q, 0, none⟩)])) (hg : w2.grownBy w3 pv.ownBlock) :
    RAt (w3.setCell ⟨p, 0, none⟩ v') base (zN p v' (updN q i Q)) (i + 1) (newS (i + 1)) [] := by
  have h2 := h.below b2
  have o3 : Only (fun g => pv.ownBlock = some g) w2 w3 := Only.of_grown hg
  have hne : ∀ {g : Nat} {t : TypeId} {cs : Array Value}, Blk w2 g t cs → t ≠ 81 → ¬ pv.ownBlock = some g := fun {g t cs} k ht hf => by
    obtain ⟨ds, k'⟩ := own_blk h2.pgv hf
    exact ht (blk_ty k k')
  have k3 : Blk w3 p 80 #[pv, .slice none 0 0] := o3.blk h2.blk (hne h2.blk (by decide))
  have o5 : Only (fun g => g = p) w3 (w3.setCell ⟨p, 0, none⟩ v') := (Only.refl (fun g => g = p) w3).setCell (p := ⟨p, 0, none⟩) (.inl rfl) v'
  have pg5 : ∀ {g : Nat}, Blk w2 g 100 #[.slice none 0 0] → Blk (w3.setCell ⟨p, 0, none⟩ v') g 100 #[.slice none 0 0] := fun {g} k => by
    have k' := o3.blk k (hne k (by decide))
    exact o5.blk k' fun e => absurd (blk_ty k' (e ▸ k3)) (by decide)
  have qlt : ∀ j, j < i → q j < w.heap.size := fun j hj => (h.pgs j hj).blk.lt
  refine { len := by simp [newS], blk := ?_, low := h.low, pgv := ?_, msv := World.ownsRow_nil _ _ _ _, xlen := rfl, xown := fun j x m hx => by simp [zN] at hx, pgs := fun j hj => ?_, qlow := fun j hj => ?_, qinj := fun a b ha hb e => ?_, vinj := fun a b _ _ g hg => by simp [zN, Value.ownBlock] at hg, sep := fun a _ x hx => by simp [zN] at hx }
  · have := k3.set_ 0 v'
    show Blk _ p _ #[v', .slice none 0 0]
    simpa using this
  · have e : ((List.range (i + 1)).map fun j => Value.pointer (some ⟨updN q i Q j, 0, none⟩)) = ((List.range i).map fun j => Value.pointer (some ⟨q j, 0, none⟩)) ++ [.pointer (some ⟨Q, 0, none⟩)] := by
      rw [List.range_succ, List.map_append, List.map_cons, List.map_nil, updN_same]
      congr 1
      refine List.map_congr_left fun j hj => ?_
      rw [updN_ne (by have := List.mem_range.1 hj; omega)]
    show World.ownsRow _ base _ 1 v' (i + 1) ((List.range (i + 1)).map fun j => Value.pointer (some ⟨updN q i Q j, 0, none⟩))
    rw [e]
    refine o5.owns hown fun g hg e' => ?_
    subst e'
    obtain ⟨ds, k'⟩ := own_blk hown hg
    exact absurd (blk_ty k' k3) (by decide)
  · rw [newS_pg]
    by_cases e : j = i
    · subst e
      refine ⟨?_, World.ownsRow_nil _ _ _ _, Pg.nil, Nat.zero_le _⟩
      show Blk _ (updN q j Q j) _ _
      rw [updN_same]
      exact pg5 hp
    · refine ⟨?_, World.ownsRow_nil _ _ _ _, Pg.nil, Nat.zero_le _⟩
      show Blk _ (updN q i Q j) _ _
      rw [updN_ne e]
      exact pg5 (h2.pgs j (by omega)).blk
  · show base ≤ updN q i Q j
    by_cases e : j = i
    · subst e
      rw [updN_same]
      omega
    · rw [updN_ne e]
      exact h.qlow j (by omega)
  · change updN q i Q a = updN q i Q b at e
    by_cases ea : a = i
    · by_cases eb : b = i
      · omega
      · rw [ea, updN_same, updN_ne eb] at e
        have := qlt b (by omega)
        omega
    · rw [updN_ne ea] at e
      by_cases eb : b = i
      · rw [eb, updN_same] at e
        have := qlt a (by omega)
        omega
      · rw [updN_ne eb] at e
        exact h.qinj a b (by omega) (by omega) e
theorem rnew_bad (w : World) (s : Int) (h : s < 1 ∨ 60 < s) :
    Calls Try.prog 11 #[.int .i64 s] w fun e w' => e = .returned (.tuple #[.pointer none, .int .i64 1]) ∧ w' = w := by
  by_cases h1 : s < 1
  · go_enter Try.func11, Try.ntmps11
    go_wp2_with fail
    exact bodyPost_ret (v := .tuple #[.pointer none, .int .i64 1]) (by simp [results, Try.results11]) rfl ⟨rfl, rfl⟩
  · have h2 : 60 < s := by omega
    go_enter Try.func11, Try.ntmps11
    go_wp2_with fail
    exact bodyPost_ret (v := .tuple #[.pointer none, .int .i64 1]) (by simp [results, Try.results11]) rfl ⟨rfl, rfl⟩
theorem info_page : (Try.prog.info? 81).map (fun i => (i.zero, i.size, i.bytes)) = some (some (.pointer none), 1, 8) := by kernel_rfl

set_option maxRecDepth 100000 in
set_option maxHeartbeats 4000000 in
theorem rnew_ok (w : World) (n : Nat) (h1 : 1 ≤ n) (h2 : n ≤ 60) :
    Calls Try.prog 11 #[.int .i64 (n : Int)] w fun e w' => ∃ z, e = .returned (.tuple #[.pointer (some ⟨z.p, 0, none⟩), .int .i64 0]) ∧ RAt w' w.heap.size z n (newS n) [] ∧ (∀ g, ¬ VF z n g) ∧ Below w.heap.size w w' := by
  have hn1 : ¬ (n : Int) < 1 := by omega
  have hn2 : ¬ (60 : Int) < (n : Int) := by omega
  obtain ⟨q, hq⟩ : ∃ q, w.heap.size = q := ⟨_, rfl⟩
  have hb0 : Below q w (w.alloc (.cells #[.slice none 0 0, .slice none 0 0] 80)) := hq ▸ below_self_alloc w _
  have hB : RAt (w.alloc (.cells #[.slice none 0 0, .slice none 0 0] 80)) q (zN q (.slice none 0 0) fun _ => 0) 0 (newS 0) [] := by
    subst hq
    exact { len := rfl, blk := Blk.new w _ _, low := Nat.le_refl _, pgv := World.ownsRow_nil _ _ _ _, msv := World.ownsRow_nil _ _ _ _, xlen := rfl, xown := fun j x m hx => by simp [zN] at hx, pgs := fun j hj => by omega, qlow := fun j hj => by omega, qinj := fun a b ha => by omega, vinj := fun a b ha => by omega, sep := fun a ha => by omega }
  rw [hq]
  have HQ := Lib.hid hq
  have HB0 := Lib.hid hb0
  have HB := Lib.hid hB
  clear hb0 hB
  go_enter Try.func11, Try.ntmps11
  go_wp2_with fail
  generalize w.alloc (.cells #[.slice none 0 0, .slice none 0 0] 80) = W0 at *
  go_loopw [5] (fun v wr => ∃ i : Nat, i ≤ n ∧ v = .int .i64 (i : Int) ∧ ∃ pv qs, Hid (RAt wr q (zN q pv qs) i (newS i) []) ∧ Hid (Below q w wr)) (fun v _ => n - (intOf v).toNat)
  case atStart => exact ⟨0, Nat.zero_le _, rfl, _, _, HB, HB0⟩
  case round =>
    obtain ⟨i, hi, rfl, pv, qs, HD, HW⟩ := hrel
    clear HB HB0
    have HQW := Lib.hid (show q ≤ wr.heap.size from by rw [← hq]; exact HW.out.size)
    by_cases hlt : i < n
    · have hi0 : (0 : Int) ≤ (i : Int) := by omega
      have hi1 : (i : Int) < (n : Int) := by omega
      have h60 : (i : Int) ≤ 60 := by omega
      go_upto_region 7 with fail
      refine wp_region_hold (fun W => Blk W q 80 #[pv, .slice none 0 0]) [0, 1, 2, 3, 4] [5, 6, 7] [8, 9, 10] (by kernel_rfl) (by kernel_rfl) (fun _ d _ _ _ h => by cases d <;> exact h) (HD.out.blk.drewN 1) ?_
      simp only [pick, List.drop_succ_cons, List.drop_zero, List.head?_cons, Option.toList_some, List.cons_append, List.nil_append, List.append_nil]
      try simp only [Act.put]
      repeat ((refine wpHeld_step ?_ rfl ?_ ?_; rotate_left; · (intro W hW; have c0 : W.cell? ⟨q, 0, none⟩ = some pv := hW.cell 0; (go_simp; try with_reducible rfl))); simp only [Act.put, List.setIfInBounds_toArray, List.set_cons_succ, List.set_cons_zero])
      refine wpHeld_nil ?_
      simp only [wpEarly]
      go_wp2_with fail
      refine (rNew_any wr.drew).mono ?_
      rintro e w2 ⟨Pn, rfl, hp, lP, b2⟩
      replace b2 : Below wr.heap.size wr w2 := ⟨b2.os, b2.tape, b2.output, b2.size, b2.block⟩
      have hD2 := HD.out.below b2
      have HP := Lib.hid hp.blk
      have B2 := Lib.hid b2
      have HD2 := Lib.hid hD2
      clear hp b2 hD2
      go_wp2_with fail
      refine ⟨HD2.out.blk, ?_⟩
      go_wp2_with fail
      refine ⟨HD2.out.blk.alloc _, ?_⟩
      have h3 := HD2.out.below (below_self_alloc w2 (.cells #[.pointer (some ⟨Pn, 0, none⟩)] 81))
      have kN := Blk.new w2 81 #[.pointer (some ⟨Pn, 0, none⟩)]
      obtain ⟨i0, hi', hz0, hz1, hz2⟩ := info_parts info_page
      have hbase : q ≤ (w2.alloc (.cells #[.pointer (some ⟨Pn, 0, none⟩)] 81)).heap.size := by
        have := HW.out.size
        have := B2.out.size
        simp
        omega
      have hnews : ∀ (j : Nat) (u : Value), [Value.pointer (some ⟨Pn, 0, none⟩)][j]? = some u → (w2.alloc (.cells #[.pointer (some ⟨Pn, 0, none⟩)] 81)).cell? ((⟨w2.heap.size, 0, none⟩ : Addr).add j) = some u := fun j u hu => by
        rw [addr_add1, Nat.zero_add]
        rw [kN.cell j]
        simpa using hu
      have h3s := h3.pgv
      have hmx : i + 1 ≤ maxLen := Nat.le_trans (show i + 1 ≤ 100 by omega) (by decide)
      have hby : (i + 1) * 8 ≤ 140737488355328 := by omega
      have hone : ∀ u ∈ [Value.pointer (some ⟨Pn, 0, none⟩)], u.oneCell' = true := fun u hu => by
        simp only [List.mem_cons, List.not_mem_nil, or_false] at hu
        subst hu
        rfl
      have HMX := Lib.hid hmx
      have HBY := Lib.hid hby
      have HONE := Lib.hid hone
      have H3 := Lib.hid h3
      have HNEWS := Lib.hid hnews
      have HBASE := Lib.hid hbase
      have HSTS := Lib.hid h3s
      clear h3 kN hnews hbase h3s hmx hby hone
      at_builtin
      refine wpList_append_own _ rfl _ _ 77 rfl q 81 i0 _ 1 8 Try.underlying77 hi' hz0 hz1 hz2 rfl (by decide) _ _ _ rfl HSTS.out ⟨w2.heap.size, 0, none⟩ 1 1 [.pointer (some ⟨Pn, 0, none⟩)] rfl rfl HNEWS.out HONE.out HMX.out HBY.out HBASE.out ?_
      intro v' w4 hown' hg' _
      obtain ⟨g', cap', hv'⟩ := ownsRow_succ hown'
      subst hv'
      have k4 : Blk w4 q 80 #[pv, .slice none 0 0] := (Only.of_grown hg').blk H3.out.blk fun hf => by
        obtain ⟨ds, k'⟩ := own_blk H3.out.pgv hf
        exact absurd (blk_ty k' H3.out.blk) (by decide)
      have HBD := Lib.hid (HD.out.newPage HQW.out (B2.out.trans ((below_self_alloc w2 _).mono B2.out.size)) (HP.out.below (below_self_alloc w2 (.cells #[.pointer (some ⟨Pn, 0, none⟩)] 81)) HP.out.lt) lP hown' hg')
      have HB5 := Lib.hid ((((HW.out.trans (B2.out.mono HQW.out)).alloc (Nat.le_trans HQW.out B2.out.size) (.cells #[.pointer (some ⟨Pn, 0, none⟩)] 81)).grown hg' HBASE.out (fun k e => (World.ownsRow.lt HSTS.out k e).1)).setCell (p := ⟨q, 0, none⟩) (Nat.le_refl q) (.slice (some ⟨g', 0, none⟩) (i + 1) cap'))
      have k4a := k4.all
      obtain ⟨d0, df, dl⟩ := k4a
      have K4 := Lib.hid k4
      clear k4 hown' hg' HW HD H3 HNEWS HBASE HSTS HD2 HP B2
      go_wp2_with fail
      refine ⟨K4.out, ?_⟩
      go_wp2_with fail
      clear d0 df dl K4
      exact ⟨⟨i + 1, by omega, by go_num, _, _, HBD, HB5⟩, by simp [intOf]; omega⟩
    · obtain rfl : i = n := by omega
      go_wp2_with fail
      refine bodyPost_ret (v := .tuple #[.pointer (some ⟨q, 0, none⟩), .int .i64 0]) (by simp [results, Try.results11]) rfl ⟨_, rfl, HD.out, ?_, HW.out⟩
      rintro g ⟨a, _, hg⟩
      cases hg
end Go.Proofs.Ytaicbllfkehhjaa

/- The package's chamber and the reference's beside each other, or none of both. -/
namespace Go.Proofs.Ytaicbllfkehhjaa
open Go.RowKit

/-! ### messages are not great -/
def Sm (C : Ch) : Prop := ∀ i k m, m ∈ C.lines i k → m.length ≤ 64
theorem Sm.new (n : Nat) : Sm (newS n) := fun i k m hm => by cases hm
theorem Sm.tell {C : Ch} (h : Sm C) (i : Nat) (L : List Cl) (x : Cl) : Sm ((C.upd i L).tell i x) := fun a b m hm => by
  change m ∈ (if a = i ∧ b ≠ i ∧ b < (C.upd i L).pages.length then C.lines a b ++ [[x]] else C.lines a b) at hm
  split at hm
  · rcases List.mem_append.1 hm with hm | hm
    · exact h a b m hm
    · simp only [List.mem_singleton] at hm
      subst hm
      simp
  · exact h a b m hm
theorem Sm.proposeI {n : Nat} {C : Ch} (h : Sm C) (i : Int) (t : St2) (p : Pt) : Sm (proposeI n C i t p).1 := by
  unfold Go.Proofs.Ytaicbllfkehhjaa.proposeI
  split
  · unfold proposeS
    split
    · exact h
    · split
      · exact h
      · split
        · exact h
        · exact h.tell _ _ _
  · exact h
theorem Sm.withdrawI {n : Nat} {C : Ch} (h : Sm C) (i : Int) (t : St2) : Sm (withdrawI n C i t).1 := by
  unfold Go.Proofs.Ytaicbllfkehhjaa.withdrawI
  split
  · unfold withdrawS
    split
    · exact h
    · split
      · exact h
      · exact h.tell _ _ _
  · exact h
theorem Sm.deliverI {n : Nat} {C : Ch} (h : Sm C) (a b : Int) (l : Bool) : Sm (deliverI n C a b l).1 := by
  unfold Go.Proofs.Ytaicbllfkehhjaa.deliverI
  split
  · intro i k m hm
    rcases deliver_lines C a.toNat b.toNat l i k with e | ⟨x, e⟩
    · exact h i k m (e ▸ hm)
    · exact h i k m (by rw [e]; exact List.mem_cons_of_mem _ hm)
  · exact h
theorem Sm.againI {n j : Nat} {C : Ch} (h : Sm C) (k : Ok n j C) (a b : Int) : Sm (againI n C a b).1 := by
  unfold Go.Proofs.Ytaicbllfkehhjaa.againI
  split
  · rename_i hab
    obtain ⟨Z, hg, _, _⟩ := k
    intro i k m hm
    rcases again_mem hm with hm | rfl
    · exact h i k m hm
    · have ha : a.toNat < n := by omega
      rw [(walk_perm (hg.inv.pg _ ha).tr).length_eq]
      exact (hg.pages ha).2
  · exact h
theorem Sm.doI {n j : Nat} {C : Ch} (h : Sm C) (k : Ok n j C) (o : OpC) : Sm (doI n C o).1 := by
  unfold Go.Proofs.Ytaicbllfkehhjaa.doI
  split
  · exact h.proposeI _ _ _
  · split
    · exact h.withdrawI _ _
    · split
      · exact h.deliverI _ _ _
      · split
        · exact h.againI k _ _
        · exact h
theorem Sm.msgs {C : Ch} {ms : List Msg} (h : Sm C) (a : Agree C ms) : ∀ x ∈ ms, x.2.2.length ≤ 1000 := fun x hx => by
  have : x.2.2 ∈ C.lines x.1 x.2.1 := by
    rw [a.line]
    unfold lineOf
    refine List.mem_map.2 ⟨x, List.mem_filter.2 ⟨hx, ?_⟩, rfl⟩
    simp [mine]
  have := h _ _ _ this
  omega
theorem Ok.pages {n j : Nat} {C : Ch} (h : Ok n j C) : ∀ i, i < n → (C.pg i).length ≤ 1000 := fun i hi => by
  obtain ⟨Z, hg, _, _⟩ := h
  have := (hg.pages hi).2
  omega

/-! ### both chambers -/
/-- What the law's own variables need: blocks of operations and stamps stay. -/
structure Kp (w w' : World) : Prop where
  size : w.heap.size ≤ w'.heap.size
  op : ∀ g cs, Blk w g 39 cs → Blk w' g 39 cs
  st : ∀ g cs, Blk w g 33 cs → Blk w' g 33 cs
theorem Kp.of_below {w w' : World} (h : Below w.heap.size w w') : Kp w w' := ⟨h.size, fun _ _ k => k.below h k.lt, fun _ _ k => k.below h k.lt⟩
structure Both (w0 w : World) (pc pr : Option Addr) (n : Nat) (C1 C2 : Ch) (ms : List Msg) : Prop where
  h : (n = 0 ∧ pc = none ∧ pr = none ∧ Below w0.heap.size w0 w ∧ Agree C2 ms) ∨ (0 < n ∧ n ≤ 60 ∧ ∃ y V z, pc = some ⟨y.p, 0, none⟩ ∧ pr = some ⟨z.p, 0, none⟩ ∧ Live w0 w y V n C1 ∧ RAt w w0.heap.size z n C2 ms ∧ Agree C2 ms ∧ y.S = VF z n)
section
variable {w0 w w' : World} {pc pr : Option Addr} {n : Nat} {C1 C2 : Ch} {ms : List Msg}
theorem Both.bel (h : Both w0 w pc pr n C1 C2 ms) : Below w0.heap.size w0 w := by
  rcases h.h with ⟨_, _, _, h, _⟩ | ⟨_, _, y, V, z, _, _, h, _⟩
  · exact h
  · exact h.bel
theorem Both.same (h : Both w0 w pc pr n C1 C2 ms) (k : Below w.heap.size w w') : Both w0 w' pc pr n C1 C2 ms := by
  rcases h.h with ⟨h1, h2, h3, h4, h5⟩ | ⟨h1, h2, y, V, z, h3, h4, h5, h6, h7, h8⟩
  · exact ⟨.inl ⟨h1, h2, h3, h4.trans (k.mono h4.size), h5⟩⟩
  · exact ⟨.inr ⟨h1, h2, y, V, z, h3, h4, h5.same k, h6.below k, h7, h8⟩⟩
theorem Both.st (h : Both w0 w pc pr n C1 C2 ms) {r : Nat} {cs : Array Value} (hb : Blk w r 33 cs) (hr : w0.heap.size ≤ r) (o : Only (fun g => g = r) w w') : Both w0 w' pc pr n C1 C2 ms := by
  have hbw : Below w0.heap.size w w' := o.below h.bel.size fun _ e => e ▸ hr
  rcases h.h with ⟨h1, h2, h3, h4, h5⟩ | ⟨h1, h2, y, V, z, h3, h4, h5, h6, h7, h8⟩
  · exact ⟨.inl ⟨h1, h2, h3, h4.trans hbw, h5⟩⟩
  · exact ⟨.inr ⟨h1, h2, y, V, z, h3, h4, ⟨h5.at_.farSt hb o, h5.fo, h5.bel.trans hbw⟩, h6.farBlk hb o (by decide), h7, h8⟩⟩
theorem Both.view (h : Both w0 w pc pr n C1 C2 ms) (f : Fit n C1) (i : Int) :
    Calls Try.prog 20 #[.pointer pc, .int .i64 i] w fun e w' => ∃ v, e = .returned v ∧ OwnCls w' w.heap.size v (viewS n C1 i) ∧ Below w.heap.size w w' := by
  rcases h.h with ⟨h1, h2, h3, h4, h5⟩ | ⟨h1, h2, y, V, z, h3, h4, h5, h6, h7, h8⟩
  · subst h1 h2
    have e : viewS 0 C1 i = [] := by unfold viewS; rw [if_neg (by omega)]
    rw [e]
    exact (view_nil w i).mono fun _ _ ⟨h1, h2⟩ => ⟨_, h1, World.ownsRow_nil _ _ _ _, h2 ▸ Below.refl _ _⟩
  · subst h3
    exact h5.view f i
theorem Both.rview (h : Both w0 w pc pr n C1 C2 ms) (i : Int) :
    Calls Try.prog 13 #[.pointer pr, .int .i64 i] w fun e w' => ∃ v, e = .returned v ∧ OwnCls w' w.heap.size v (viewS n C2 i) ∧ Below w.heap.size w w' := by
  rcases h.h with ⟨h1, h2, h3, h4, h5⟩ | ⟨h1, h2, y, V, z, h3, h4, h5, h6, h7, h8⟩
  · subst h1 h3
    have e : viewS 0 C2 i = [] := by unfold viewS; rw [if_neg (by omega)]
    rw [e]
    exact (rview_nil w i).mono fun _ _ ⟨h1, h2⟩ => ⟨_, h1, World.ownsRow_nil _ _ _ _, h2 ▸ Below.refl _ _⟩
  · subst h4
    exact rview_any w h6 i
theorem Both.run (h : Both w0 w pc pr n C1 C2 ms) (f : Fit n C1) (o : OpC) (hok : OpOk o) :
    Calls Try.prog 14 #[.pointer pc, .agg (opA o)] w fun e w' =>
      e = .returned (.tuple #[.agg #[.int .i64 (doI n C1 o).2.1.1, .int .i64 (doI n C1 o).2.1.2], .int .i64 (doI n C1 o).2.2.1, .bool (doI n C1 o).2.2.2]) ∧ Both w0 w' pc pr n (doI n C1 o).1 C2 ms ∧ Kp w w' := by
  rcases h.h with ⟨h1, h2, h3, h4, h5⟩ | ⟨h1, h2, y, V, z, h3, h4, h5, h6, h7, h8⟩
  · subst h1 h2
    exact (do_nil w C1 o hok).mono fun _ _ ⟨k1, k2⟩ => ⟨k1, ⟨.inl ⟨rfl, rfl, h3, h4.trans (k2.mono h4.size), h5⟩⟩, Kp.of_below k2⟩
  · subst h3
    exact (h5.run f o hok).mono fun _ _ ⟨k1, V', k2, k3⟩ => ⟨k1, ⟨.inr ⟨h1, h2, y, V', z, rfl, h4, k2, h6.turn h5.at_ k3, h7, h8⟩⟩, k3.1.size, fun _ _ k => h5.kblk k3 k (by decide) (by decide), fun _ _ k => h5.kblk k3 k (by decide) (by decide)⟩
theorem Both.settled (h : Both w0 w pc pr n C1 C2 ms) (f : Fit n C1) :
    Calls Try.prog 21 #[.pointer pc] w fun e w' => e = .returned (.bool (decide (0 < n) && settledS C1)) ∧ Below w.heap.size w w' := by
  rcases h.h with ⟨h1, h2, h3, h4, h5⟩ | ⟨h1, h2, y, V, z, h3, h4, h5, h6, h7, h8⟩
  · subst h1 h2
    exact settled_nil w
  · subst h3
    rw [decide_eq_true h1, Bool.true_and]
    exact h5.settled f
theorem Both.rsettled (h : Both w0 w pc pr n C1 C2 ms) :
    Calls Try.prog 22 #[.pointer pr] w fun e w' => e = .returned (.bool (decide (0 < n) && settledS C2)) ∧ Below w.heap.size w w' := by
  rcases h.h with ⟨h1, h2, h3, h4, h5⟩ | ⟨h1, h2, y, V, z, h3, h4, h5, h6, h7, h8⟩
  · subst h1 h3
    exact rsettled_nil w
  · subst h4
    rw [decide_eq_true h1, Bool.true_and]
    exact rsettled_any w h6 h1 (by omega)
theorem Both.step {C' : Ch} {K : Nat} {y : Lay} {V : Nat → Nat → Value} {z : RLay} (h1 : 0 < n) (h2 : n ≤ 60) (h5 : Live w0 w y V n C1) (h6 : RAt w w0.heap.size z n C2 ms) (h8 : y.S = VF z n) (s : RStep w w' w0.heap.size n z C' ms K) :
    ∃ ms', Both w0 w' (some ⟨y.p, 0, none⟩) (some ⟨z.p, 0, none⟩) n C1 C' ms' ∧ ms'.length ≤ K ∧ Kp w w' := by
  obtain ⟨z', ms', k1, k2, k3, k4⟩ := s.step
  have hF : ∀ g, RFo z n g → FR w y.S g := h8 ▸ h6.fr
  have ha := h5.at_.apart (S' := VF z' n) k3.only hF (fun g hg => by rw [h8]; exact k3.vf g hg) fun g hg => k1.vlt hg
  refine ⟨ms', ⟨.inr ⟨h1, h2, { y with S := VF z' n }, V, z', rfl, by rw [k3.p], ⟨ha, h5.fo, h5.bel.trans (k3.only.below h5.bel.size fun g hg => h6.lowF hg)⟩, k1, k2, rfl⟩⟩, k4, k3.only.size, fun g cs k => k3.only.blk k (h6.notF k (by decide)), fun g cs k => k3.only.blk k (h6.notF k (by decide))⟩
theorem Both.nil {C' : Ch} (h1 : n = 0) (h2 : pc = none) (h3 : pr = none) (h4 : Below w0.heap.size w0 w) (k : Below w.heap.size w w') (h5 : Agree C' ms) : ∃ ms', Both w0 w' pc pr n C1 C' ms' ∧ ms'.length ≤ ms.length + n ∧ Kp w w' :=
  ⟨ms, ⟨.inl ⟨h1, h2, h3, h4.trans (k.mono h4.size), h5⟩⟩, Nat.le_add_right _ _, Kp.of_below k⟩
/-- What the reference's operations want. -/
structure RB (n : Nat) (C : Ch) (ms : List Msg) : Prop where
  pg : ∀ i, i < n → (C.pg i).length ≤ 1000
  few : ms.length ≤ 800000
  sm : Sm C
theorem Both.rpropose (h : Both w0 w pc pr n C1 C2 ms) (b : RB n C2 ms) (i a c : Int) (p : Pt) :
    Calls Try.prog 15 #[.pointer pr, .int .i64 i, .agg #[.int .i64 a, .int .i64 c], .agg (ptA p)] w fun e w' =>
      e = .returned (.tuple #[.agg #[.int .i64 (proposeI n C2 i (a, c) p).2.1.1, .int .i64 (proposeI n C2 i (a, c) p).2.1.2], .int .i64 (proposeI n C2 i (a, c) p).2.2]) ∧ ∃ ms', Both w0 w' pc pr n C1 (proposeI n C2 i (a, c) p).1 ms' ∧ ms'.length ≤ ms.length + n ∧ Kp w w' := by
  rcases h.h with ⟨h1, h2, h3, h4, h5⟩ | ⟨h1, h2, y, V, z, h3, h4, h5, h6, h7, h8⟩
  · subst h1 h3
    have e : proposeI 0 C2 i (a, c) p = (C2, z2, 1) := if_neg fun e => by omega
    rw [e]
    exact (rpropose_nil w i a c p).mono fun _ _ ⟨k1, k2⟩ => ⟨k1, Both.nil rfl h2 rfl h4 k2 h5⟩
  · subst h3 h4
    exact (rpropose_any w h6 h7 h5.bel.size (by omega) b.few b.pg i a c p).mono fun _ _ ⟨k1, k2⟩ => ⟨k1, Both.step h1 h2 h5 h6 h8 k2⟩
theorem Both.rwithdraw (h : Both w0 w pc pr n C1 C2 ms) (b : RB n C2 ms) (i a c : Int) :
    Calls Try.prog 16 #[.pointer pr, .int .i64 i, .agg #[.int .i64 a, .int .i64 c]] w fun e w' =>
      e = .returned (.int .i64 (withdrawI n C2 i (a, c)).2) ∧ ∃ ms', Both w0 w' pc pr n C1 (withdrawI n C2 i (a, c)).1 ms' ∧ ms'.length ≤ ms.length + n ∧ Kp w w' := by
  rcases h.h with ⟨h1, h2, h3, h4, h5⟩ | ⟨h1, h2, y, V, z, h3, h4, h5, h6, h7, h8⟩
  · subst h1 h3
    have e : withdrawI 0 C2 i (a, c) = (C2, 1) := if_neg fun e => by omega
    rw [e]
    exact (rwithdraw_nil w i a c).mono fun _ _ ⟨k1, k2⟩ => ⟨k1, Both.nil rfl h2 rfl h4 k2 h5⟩
  · subst h3 h4
    exact (rwithdraw_any w h6 h7 h5.bel.size (by omega) b.few i a c).mono fun _ _ ⟨k1, k2⟩ => ⟨k1, Both.step h1 h2 h5 h6 h8 k2⟩
theorem Both.rdeliver (h : Both w0 w pc pr n C1 C2 ms) (b : RB n C2 ms) (i k : Int) (l : Bool) :
    Calls Try.prog 17 #[.pointer pr, .int .i64 i, .int .i64 k, .bool l] w fun e w' =>
      e = .returned (.bool (deliverI n C2 i k l).2) ∧ ∃ ms', Both w0 w' pc pr n C1 (deliverI n C2 i k l).1 ms' ∧ ms'.length ≤ ms.length + n ∧ Kp w w' := by
  rcases h.h with ⟨h1, h2, h3, h4, h5⟩ | ⟨h1, h2, y, V, z, h3, h4, h5, h6, h7, h8⟩
  · subst h1 h3
    have e : deliverI 0 C2 i k l = (C2, false) := if_neg fun e => by omega
    rw [e]
    exact (rdeliver_nil w i k l).mono fun _ _ ⟨k1, k2⟩ => ⟨k1, Both.nil rfl h2 rfl h4 k2 h5⟩
  · subst h3 h4
    exact (rdeliver_any w h6 h7 h5.bel.size (by omega) b.few b.pg (b.sm.msgs h7) i k l).mono fun _ _ ⟨k1, k2⟩ => ⟨k1, Both.step h1 h2 h5 h6 h8 k2⟩
theorem Both.ragain (h : Both w0 w pc pr n C1 C2 ms) (b : RB n C2 ms) (i k : Int) :
    Calls Try.prog 18 #[.pointer pr, .int .i64 i, .int .i64 k] w fun e w' =>
      e = .returned (.int .i64 (againI n C2 i k).2) ∧ ∃ ms', Both w0 w' pc pr n C1 (againI n C2 i k).1 ms' ∧ ms'.length ≤ ms.length + n ∧ Kp w w' := by
  rcases h.h with ⟨h1, h2, h3, h4, h5⟩ | ⟨h1, h2, y, V, z, h3, h4, h5, h6, h7, h8⟩
  · subst h1 h3
    have e : againI 0 C2 i k = (C2, 1) := if_neg fun e => by omega
    rw [e]
    exact (ragain_nil w i k).mono fun _ _ ⟨k1, k2⟩ => ⟨k1, Both.nil rfl h2 rfl h4 k2 h5⟩
  · subst h3 h4
    exact (ragain_any w h6 h7 h5.bel.size (by omega) (Nat.le_trans b.few (by decide)) i k).mono fun _ _ ⟨k1, k2⟩ => ⟨k1, Both.step h1 h2 h5 h6 h8 k2⟩
end
/-- Both made. -/
theorem Both.bad {w0 w : World} (hb : Below w0.heap.size w0 w) : Both w0 w none none 0 (newS 0) (newS 0) [] := ⟨.inl ⟨rfl, rfl, rfl, hb, Agree.new 0⟩⟩
theorem Both.made {w0 w w' : World} {y : Lay} {V : Nat → Nat → Value} {n : Nat} {z : RLay} (h1 : 0 < n) (h2 : n ≤ 60) (h : Live w0 w y V n (newS n)) (b : Below w.heap.size w w') (r : RAt w' w.heap.size z n (newS n) []) (hv : ∀ g, ¬ VF z n g) :
    Both w0 w' (some ⟨y.p, 0, none⟩) (some ⟨z.p, 0, none⟩) n (newS n) (newS n) [] := by
  have hl := h.same b
  have ha := hl.at_.apart (F := fun _ => False) (S' := VF z n) (Only.refl _ _) (fun _ => False.elim) (fun g hg => (hv g hg).elim) fun g hg => (hv g hg).elim
  have own : ∀ {e : TypeId} {size m : Nat} {v : Value} {xs : List Value}, w'.ownsRow w.heap.size e size v m xs → w'.ownsRow w0.heap.size e size v m xs := fun {e size m v xs} ho => ⟨ho.1, ho.2.imp id fun ⟨g, cap, cur, x1, x2, x3⟩ => ⟨g, cap, cur, x1, Nat.le_trans h.bel.size x2, x3⟩⟩
  exact ⟨.inr ⟨h1, h2, { y with S := VF z n }, V, z, rfl, rfl, ⟨ha, hl.fo, hl.bel⟩, { len := r.len, blk := r.blk, low := Nat.le_trans h.bel.size r.low, pgv := own r.pgv, msv := own r.msv, xlen := r.xlen, xown := fun j x m hx hm => own (r.xown j x m hx hm), pgs := fun i hi => ⟨(r.pgs i hi).blk, own (r.pgs i hi).own, (r.pgs i hi).pg, (r.pgs i hi).len⟩, qlow := fun i hi => Nat.le_trans h.bel.size (r.qlow i hi), qinj := r.qinj, vinj := r.vinj, sep := r.sep }, Agree.new n, rfl⟩⟩
def nS (s : Int) : Nat := if s < 1 ∨ 60 < s then 0 else s.toNat
def errS (s : Int) : Int := if s < 1 ∨ 60 < s then 1 else 0
theorem nS_le (s : Int) : nS s ≤ 60 := by
  unfold nS
  split
  · omega
  · omega
structure Half (w0 w : World) (pc : Option Addr) (n : Nat) : Prop where
  h : (n = 0 ∧ pc = none ∧ Below w0.heap.size w0 w) ∨ (0 < n ∧ n ≤ 60 ∧ ∃ y V, pc = some ⟨y.p, 0, none⟩ ∧ Live w0 w y V n (newS n))
theorem cnew_both {w0 w : World} (hb : Below w0.heap.size w0 w) (s : Int) :
    Calls Try.prog 10 #[.int .i64 s] w fun e w' => ∃ pc, e = .returned (.tuple #[.pointer pc, .int .i64 (errS s)]) ∧ Half w0 w' pc (nS s) := by
  unfold errS nS
  by_cases h : s < 1 ∨ 60 < s
  · rw [if_pos h, if_pos h]
    exact (cnew_bad w s h).mono fun _ _ ⟨k1, k2⟩ => ⟨none, k1, ⟨.inl ⟨rfl, rfl, k2 ▸ hb⟩⟩⟩
  · rw [if_neg h, if_neg h]
    obtain ⟨n, rfl⟩ := Int.eq_ofNat_of_zero_le (show 0 ≤ s by omega)
    rw [Int.toNat_natCast]
    exact (Live.new w0 w hb n (by omega) (by omega)).mono fun _ _ ⟨y, V, k1, k2, _, _⟩ => ⟨_, k1, ⟨.inr ⟨by omega, by omega, y, V, rfl, k2⟩⟩⟩
theorem rnew_both {w0 w : World} {pc : Option Addr} (s : Int) (h : Half w0 w pc (nS s)) :
    Calls Try.prog 11 #[.int .i64 s] w fun e w' => ∃ pr, e = .returned (.tuple #[.pointer pr, .int .i64 (errS s)]) ∧ Both w0 w' pc pr (nS s) (newS (nS s)) (newS (nS s)) [] := by
  rcases h.h with ⟨h1, h2, h3⟩ | ⟨h1, h2, y, V, h3, h4⟩
  · have hs : s < 1 ∨ 60 < s := Classical.byContradiction fun e => by
      unfold nS at h1
      rw [if_neg e] at h1
      omega
    rw [h1]
    subst h2
    unfold errS
    rw [if_pos hs]
    exact (rnew_bad w s hs).mono fun _ _ ⟨k1, k2⟩ => ⟨none, k1, k2 ▸ Both.bad h3⟩
  · have hs : ¬ (s < 1 ∨ 60 < s) := fun e => by
      unfold nS at h1
      rw [if_pos e] at h1
      omega
    subst h3
    unfold errS
    rw [if_neg hs]
    obtain ⟨n, hn⟩ : ∃ n, nS s = n := ⟨_, rfl⟩
    rw [hn] at h1 h2 h4 ⊢
    have e : s = (n : Int) := by
      unfold nS at hn
      rw [if_neg hs] at hn
      omega
    subst e
    exact (rnew_ok w n (by omega) (by omega)).mono fun _ _ ⟨z, k1, k2, k3, k4⟩ => ⟨_, k1, Both.made h1 h2 h4 k4 k2 k3⟩
end Go.Proofs.Ytaicbllfkehhjaa
