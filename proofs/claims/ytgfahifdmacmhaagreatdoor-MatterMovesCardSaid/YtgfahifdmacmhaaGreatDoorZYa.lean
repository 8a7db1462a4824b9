/- MatterDays: plain facts on rights, and the law's walk. -/
import Derived.Test.YtgfahifdmacmhaaGreatDoorZWt
import Derived.Test.YtgfahifdmacmhaaGreatDoorZGC
namespace Go.Proofs.YtgfahifdmacmhaaGreatDoor
open Go.RowKit Go.Shelf

theorem hasB_iff {l : List Rt} {n : ByteArray} {d : Int} : hasB l n d = true ↔ ∃ r ∈ l, r.1 = n ∧ r.2 ≤ d := by
  unfold hasB
  simp only [List.any_eq_true, Bool.and_eq_true, decide_eq_true_eq]
theorem has_mono {l : List Rt} {n : ByteArray} {a b : Int} (hab : a ≤ b) (h : hasB l n a = true) : hasB l n b = true := by
  obtain ⟨r, hr, h1, h2⟩ := hasB_iff.1 h
  exact hasB_iff.2 ⟨r, hr, h1, by omega⟩
theorem grantE_ok {m : Mt} {n : ByteArray} {d : Int} (h : grantE m n d = 0) : fmB m = true ∧ nameB n = true ∧ isB d = true ∧ hasB m.rs n 1000000 = false ∧ m.o ≤ d ∧ m.rs.length < 60 := by
  cases h1 : (fmB m && (nameB n && isB d)) with
  | false => rw [grantE1 h1] at h; cases h
  | true =>
    cases h2 : hasB m.rs n 1000000 with
    | true => rw [grantE9 h1 h2] at h; cases h
    | false =>
      by_cases h3 : d < m.o
      · rw [grantE24 h1 h2 h3] at h; cases h
      · by_cases h4 : 60 ≤ m.rs.length
        · rw [grantE2 h1 h2 h3 h4] at h; cases h
        · rw [Bool.and_eq_true, Bool.and_eq_true] at h1
          exact ⟨h1.1, h1.2.1, h1.2.2, rfl, by omega, by omega⟩
theorem rights_other {m : Mt} {n : ByteArray} (hf : fmB m = true) (h : hasB m.rs n 1000000 = false) : ∀ r ∈ m.rs, r.1 ≠ n := fun r hr e => by
  have h9 := (difB_iff.1 (fmB_iff.1 hf).2.2.2.2.2.2.2.2.1).1 r hr
  unfold rtB at h9
  rw [Bool.and_eq_true, Bool.and_eq_true] at h9
  have := (isB_iff _).1 h9.2.2
  have : hasB m.rs n 1000000 = true := hasB_iff.2 ⟨r, hr, e, by omega⟩
  rw [h] at this
  cases this
theorem has_new {l : List Rt} {n : ByteArray} {d t : Int} (h : ∀ r ∈ l, r.1 ≠ n) : hasB (l ++ [(n, d)]) n t = decide (d ≤ t) := by
  by_cases hd : d ≤ t
  · rw [decide_eq_true hd]
    exact hasB_iff.2 ⟨(n, d), by simp, rfl, hd⟩
  · rw [decide_eq_false hd]
    cases hh : hasB (l ++ [(n, d)]) n t with
    | false => rfl
    | true =>
      obtain ⟨r, hr, h1, h2⟩ := hasB_iff.1 hh
      rcases List.mem_append.1 hr with hr | hr
      · exact absurd h1 (h r hr)
      · rw [List.mem_singleton] at hr
        subst hr
        exact absurd h2 hd
theorem grant_again {m : Mt} {l : List Rt} {n : ByteArray} {d t : Int} (h : isB d = true) (hr : m.rs = l ++ [(n, d)]) : grantE m n t = 9 ∨ grantE m n t = 1 := by
  cases h1 : (fmB m && (nameB n && isB t)) with
  | false => exact .inr (grantE1 h1)
  | true =>
    have h2 : hasB m.rs n 1000000 = true := hasB_iff.2 ⟨(n, d), by rw [hr]; simp, rfl, ((isB_iff d).1 h).2⟩
    exact .inl (grantE9 h1 h2)
theorem bne_str {a b : ByteArray} (h : a ≠ b) : (a.toList == b.toList) = false := by
  rw [beq_eq_false_iff_ne]
  intro e
  rw [Lib.toList_data, Lib.toList_data] at e
  exact h (ByteArray.ext (Array.toList_inj.1 e))

set_option maxRecDepth 100000 in
set_option maxHeartbeats 8000000 in
theorem days_walk (w : World) (ht : Tbs w) (z : Mt × MtX) (h : MtIn w z) (name : ByteArray) (hname : name.size ≤ 9223372036854775807) (one : Int) (_w1 : (Lit.int .i64 one).wf = true) (two : Int) (_w2 : (Lit.int .i64 two).wf = true) :
    Calls Tryz.prog 5 #[.agg (mtC z.1 z.2), .string name, .int .i64 one, .int .i64 two] w fun e w' => e = .returned (.bool true) ∧ Below w.heap.size w w' := by
  obtain ⟨m, x⟩ := z
  obtain ⟨hm, l1, l2, l3, l4, wo, ws⟩ := h
  simp only at hm l1 l2 l3 l4 wo ws ⊢
  have HM := Lib.hid hm
  have HT := Lib.hid ht
  have HN := Lib.hid hname
  clear ht hm hname _w1 _w2
  obtain ⟨mn, hmn⟩ : ∃ q, min one two = q := ⟨_, rfl⟩
  obtain ⟨mx, hmx⟩ : ∃ q, max one two = q := ⟨_, rfl⟩
  have e1 := run_min2 (P := Tryz.prog) one two mn hmn.symm
  have e2 := run_max2 (P := Tryz.prog) one two mx hmx.symm
  have hmono : hasB m.rs name mn = true → hasB m.rs name mx = true := has_mono (by omega)
  have HMONO := Lib.hid hmono
  clear hmn hmx hmono
  have hfew := fun W (hW : Below w.heap.size w W) => few_any W w.heap.size m x (HM.out.below hW) hW.size l1 l2 l3 l4
  have HFEW := Lib.hid hfew
  have hhas := fun W (hW : Below w.heap.size w W) (hs : Sml m) d => has_any W w.heap.size m x (HM.out.below hW).rs hW.size (by have := hs.2.2.1; omega) name d
  have HHAS := Lib.hid hhas
  have hgr := fun W (hW : Below w.heap.size w W) (hs : Sml m) => grant_any W w.heap.size m x (HM.out.below hW) hW.size hs name HN.out one
  have HGR := Lib.hid hgr
  clear hfew hhas hgr l1 l2 l3 l4
  obtain ⟨CE, hCE⟩ : ∃ c, mtC m x = c := ⟨_, rfl⟩
  rw [hCE] at HFEW HHAS HGR ⊢
  obtain ⟨id, o, cs, pr, st, mv, rs, ls⟩ := m
  obtain ⟨a1, c1, a2, c2, a3, c3, a4, c4, lv⟩ := x
  have hce : #[.string id, .int .i64 o, .slice a1 cs.length c1, .string pr, .int .i64 st, .slice a2 mv.length c2, .slice a3 rs.length c3, .slice a4 ls.length c4] = CE := hCE
  clear hCE
  subst hce
  simp only at HMONO HHAS wo ws
  have hb := below_self_alloc w (.cells #[.string id, .int .i64 o, .slice a1 cs.length c1, .string pr, .int .i64 st, .slice a2 mv.length c2, .slice a3 rs.length c3, .slice a4 ls.length c4] 27)
  have k0 := Blk.new w 27 #[.string id, .int .i64 o, .slice a1 cs.length c1, .string pr, .int .i64 st, .slice a2 mv.length c2, .slice a3 rs.length c3, .slice a4 ls.length c4]
  have hh := head_any (w.alloc (.cells #[.string id, .int .i64 o, .slice a1 cs.length c1, .string pr, .int .i64 st, .slice a2 mv.length c2, .slice a3 rs.length c3, .slice a4 ls.length c4] 27)) (HT.out.below hb)
  have HH := Lib.hid hh
  clear hh wo ws
  go_enter Tryz.func5, Tryz.ntmps5
  go_wp2_with fail
  refine HH.out.mono ?_
  rintro e w1 ⟨rfl, b1⟩
  have HB1 := Lib.hid (hb.trans (b1.mono hb.size))
  have K1 := Lib.hid (k0.below b1 k0.lt)
  clear b1 k0 hb HH
  obtain ⟨t0, t1, t2⟩ := K1.out.all
  have hc := HFEW.out w1 HB1.out
  have HC := Lib.hid hc
  clear hc HFEW
  go_wp2_with fail
  refine HC.out.mono ?_
  rintro e w2 ⟨q, rfl, hq, b2⟩
  have HB2 := Lib.hid (HB1.out.trans (b2.mono HB1.out.size))
  have K2 := Lib.hid (K1.out.below b2 K1.out.lt)
  clear b2 t0 t1 t2 HC
  cases q with
  | false =>
    go_wp2
    go_ret
    exact ⟨rfl, HB2.out⟩
  | true =>
    have hsm := (hq rfl).sml
    have HSM := Lib.hid hsm
    have hlr : rs.length ≤ 1000000 := hsm.2.2.1
    clear hq hsm
    cases d60 : decide ((60 : Int) < (name.size : Int)) with
    | true =>
      go_wp2
      go_ret
      exact ⟨rfl, HB2.out⟩
    | false =>
      obtain ⟨t0, t1, t2⟩ := K2.out.all
      go_upto_region 4 with fail
      have HD60 := Lib.hid d60
      clear d60
      go_cut [39] (fun v wx => v = .bool false ∧ Hid (Below w2.heap.size w2 wx))
      case first =>
        have hc := HHAS.out w2 HB2.out HSM.out mn
        cases hb1 : hasB rs name mn with
        | false =>
          rw [hb1] at hc
          have HC := Lib.hid hc
          clear hc hb1
          go_wp2_with fail
          refine HC.out.mono ?_
          rintro e w3 ⟨rfl, b3⟩
          have B3 := Lib.hid b3
          clear b3
          go_wp2
          go_meet
          exact ⟨rfl, B3⟩
        | true =>
          have hb2 := HMONO.out hb1
          rw [hb1] at hc
          have HC := Lib.hid hc
          have H2 := Lib.hid hb2
          clear hc hb1 hb2
          go_wp2_with fail
          refine HC.out.mono ?_
          rintro e w3 ⟨rfl, b3⟩
          have k3 := K2.out.below b3 K2.out.lt
          have hc := HHAS.out w3 (HB2.out.trans (b3.mono HB2.out.size)) HSM.out mx
          rw [H2.out] at hc
          have HC2 := Lib.hid hc
          have B3 := Lib.hid b3
          clear b3 hc t0 t1 t2
          obtain ⟨t0, t1, t2⟩ := k3.all
          go_wp2_with fail
          refine HC2.out.mono ?_
          rintro e w4 ⟨rfl, b4⟩
          have B4 := Lib.hid (B3.out.trans (b4.mono B3.out.size))
          clear b4
          go_wp2
          go_meet
          exact ⟨rfl, B4⟩
      case rest =>
        obtain ⟨rfl, B3⟩ := hcut
        have HB3 := Lib.hid (HB2.out.trans (B3.out.mono HB2.out.size))
        have K3 := Lib.hid (K2.out.below B3.out K2.out.lt)
        clear t0 t1 t2 B3 HB2 K2 HB1 K1 HMONO e1 e2
        obtain ⟨w3, rfl⟩ : ∃ q, q = wc := ⟨wc, rfl⟩
        obtain ⟨t0, t1, t2⟩ := K3.out.all
        have hc := HGR.out w3 HB3.out HSM.out
        by_cases hE : grantE ⟨id, o, cs, pr, st, mv, rs, ls⟩ name one = 0
        · have hz := grantM_ok hE
          obtain ⟨g1, g2, g3, g4, g5, g6⟩ := grantE_ok hE
          have hoth := rights_other g1 g4
          rw [hE, hz] at hc
          simp only at g5 g6 hoth
          have hc2 := hc.mono fun e w' h => lit_of h
          have hnl : (rs ++ [(name, one)]).length = rs.length + 1 := by simp
          simp only [hnl] at hc2
          have HC := Lib.hid hc2
          have HOTH := Lib.hid hoth
          have HIS := Lib.hid g3
          clear hc hc2 hE hz g1 g2 g3 g4 hoth hnl
          go_wp2_with fail
          refine HC.out.mono ?_
          rintro e w4 ⟨p1, q1, p2, q2, p3, q3, p4, q4, v9, rfl, hr, b4⟩
          clear t0 t1 t2 HC
          have by_ := below_self_alloc w4 (.cells #[.string id, .int .i64 o, .slice p1 cs.length q1, .string pr, .int .i64 st, .slice p2 mv.length q2, .slice p3 (rs.length + 1) q3, .slice p4 ls.length q4] 27)
          have kn := Blk.new w4 27 #[.string id, .int .i64 o, .slice p1 cs.length q1, .string pr, .int .i64 st, .slice p2 mv.length q2, .slice p3 (rs.length + 1) q3, .slice p4 ls.length q4]
          have bz := b4.trans (by_.mono b4.size)
          have HB5 := Lib.hid (HB3.out.trans (bz.mono HB3.out.size))
          have K5 := Lib.hid (K3.out.below bz K3.out.lt)
          have KN := Lib.hid kn
          have HR := Lib.hid ((hr.below by_).wide by_.size)
          clear by_ kn bz hr b4 HB3 K3
          go_upto_region 7 with fail
          generalize w4.alloc (.cells #[.string id, .int .i64 o, .slice p1 cs.length q1, .string pr, .int .i64 st, .slice p2 mv.length q2, .slice p3 (rs.length + 1) q3, .slice p4 ls.length q4] 27) = w5 at *
          generalize w4.heap.size = gn at *
          obtain ⟨t0, t1, t2⟩ := K5.out.all
          have hrs : RtsAt w5 w.heap.size a3 rs := (HM.out.below HB5.out).rs
          have HRS := Lib.hid hrs
          clear hrs
          go_wp2_with fail
          go_loop [12] (fun i => ∃ k : Nat, k ≤ rs.length ∧ i = .int .i64 (k : Int)) (fun i => rs.length - (intOf i).toNat)
          case atStart => exact ⟨0, Nat.zero_le _, rfl⟩
          case round =>
            obtain ⟨k, hk, rfl⟩ := hrel
            by_cases hlt : k < rs.length
            · obtain ⟨r, hr⟩ : ∃ r, rs[k]? = some r := ⟨_, List.getElem?_eq_getElem hlt⟩
              obtain ⟨g, off, hA, hg, p0, p1'⟩ := HRS.out k r hr
              subst hA
              have hne : (r.1.toList == name.toList) = false := bne_str (HOTH.out r (List.mem_of_getElem? hr))
              clear hr p1'
              go_wp2
              go_round
              case rel => exact ⟨k + 1, by omega, by go_num⟩
              case measure => simp [intOf]; omega
            · obtain rfl : k = rs.length := by omega
              have hms : Sml ⟨id, o, cs, pr, st, mv, rs ++ [(name, one)], ls⟩ := ⟨HSM.out.1, HSM.out.2.1, by show (rs ++ [(name, one)]).length ≤ _; simp; omega, HSM.out.2.2.2⟩
              have hg2 := grant_any w5 w5.heap.size ⟨id, o, cs, pr, st, mv, rs ++ [(name, one)], ls⟩ _ HR.out (Nat.le_refl _) hms name HN.out two
              have hE2 := grant_again (m := ⟨id, o, cs, pr, st, mv, rs ++ [(name, one)], ls⟩) (l := rs) (n := name) (d := one) (t := two) HIS.out rfl
              obtain ⟨E2, hE2'⟩ : ∃ E, grantE ⟨id, o, cs, pr, st, mv, rs ++ [(name, one)], ls⟩ name two = E := ⟨_, rfl⟩
              rw [hE2'] at hg2 hE2
              have hgz : grantM ⟨id, o, cs, pr, st, mv, rs ++ [(name, one)], ls⟩ name two = Mt.zero := grantM_bad (by rw [hE2']; omega)
              rw [hgz] at hg2
              have hc3 := hg2.mono (R' := Lit w5 E2 ⟨#[]⟩ 0 0 ⟨#[]⟩ 0 0 0 0 Mt.zero) fun e w' h => lit_of h
              have hcl : mtC ⟨id, o, cs, pr, st, mv, rs ++ [(name, one)], ls⟩ ⟨p1, q1, p2, q2, p3, q3, p4, q4, v9⟩ = #[.string id, .int .i64 o, .slice p1 cs.length q1, .string pr, .int .i64 st, .slice p2 mv.length q2, .slice p3 (rs.length + 1) q3, .slice p4 ls.length q4] := by simp [mtC]
              rw [hcl] at hc3
              have HC3 := Lib.hid hc3
              have HCL := Lib.hid hcl
              clear hg2 hE2' hgz hc3 hcl hms HRS
              obtain ⟨s0, s1, s2⟩ := KN.out.all
              go_wp2_with fail
              refine HC3.out.mono ?_
              rintro e w6 ⟨u1, y1, u2, y2, u3, y3, u4, y4, y9, rfl, -, b6⟩
              clear s0 s1 s2 t0 t1 t2 HC3
              have by_ := below_self_alloc w6 (.cells #[.string ⟨#[]⟩, .int .i64 0, .slice u1 0 y1, .string ⟨#[]⟩, .int .i64 0, .slice u2 0 y2, .slice u3 0 y3, .slice u4 0 y4] 27)
              have bz := b6.trans (by_.mono b6.size)
              have HB7 := Lib.hid (HB5.out.trans (bz.mono HB5.out.size))
              have K7 := Lib.hid (K5.out.below bz K5.out.lt)
              have KN7 := Lib.hid (KN.out.below bz KN.out.lt)
              have HR7 := Lib.hid ((HR.out.below bz).wide bz.size)
              clear by_ bz b6 HB5 K5 KN HR
              go_upto_region 15 with fail
              generalize w6.alloc (.cells #[.string ⟨#[]⟩, .int .i64 0, .slice u1 0 y1, .string ⟨#[]⟩, .int .i64 0, .slice u2 0 y2, .slice u3 0 y3, .slice u4 0 y4] 27) = w7 at *
              have hc := has_any w7 w7.heap.size ⟨id, o, cs, pr, st, mv, rs ++ [(name, one)], ls⟩ ⟨p1, q1, p2, q2, p3, q3, p4, q4, v9⟩ HR7.out.rs (Nat.le_refl _) (by show (rs ++ [(name, one)]).length ≤ _; simp; omega) name two
              rw [HCL.out] at hc
              have hhb : hasB (rs ++ [(name, one)]) name two = decide (one ≤ two) := has_new HOTH.out
              simp only [hhb] at hc
              obtain ⟨s0, s1, s2⟩ := KN7.out.all
              obtain ⟨t0, t1, t2⟩ := K7.out.all
              have dO : decide (o ≤ one) = true := decide_eq_true g5
              have HC := Lib.hid hc
              clear hc hhb
              cases d12 : decide (one ≤ two)
              all_goals
                have hc := HC.out
                rw [d12] at hc
                have HC4 := Lib.hid hc
                clear hc
                go_wp2_with fail
                refine HC4.out.mono ?_
                rintro e w8 ⟨rfl, b8⟩
                have HB8 := Lib.hid (HB7.out.trans (b8.mono HB7.out.size))
                have k8 := K7.out.below b8 K7.out.lt
                have n8 := KN7.out.below b8 KN7.out.lt
                clear b8 s0 s1 s2 t0 t1 t2
                obtain ⟨s0, s1, s2⟩ := n8.all
                obtain ⟨t0, t1, t2⟩ := k8.all
                rcases hE2 with rfl | rfl
                · go_wp2
                  go_ret
                  exact ⟨rfl, HB8.out⟩
                · go_wp2
                  go_ret
                  exact ⟨rfl, HB8.out⟩
        · have hz := grantM_bad hE
          rw [hz] at hc
          obtain ⟨E, hE'⟩ : ∃ E, grantE ⟨id, o, cs, pr, st, mv, rs, ls⟩ name one = E := ⟨_, rfl⟩
          rw [hE'] at hc hE
          have hc2 := hc.mono (R' := Lit w3 E ⟨#[]⟩ 0 0 ⟨#[]⟩ 0 0 0 0 Mt.zero) fun e w' h => lit_of h
          have HC := Lib.hid hc2
          have dE : (E != 0) = true := by simp [hE]
          clear hc hc2 hE' hz
          go_wp2_with fail
          refine HC.out.mono ?_
          rintro e w4 ⟨p1, q1, p2, q2, p3, q3, p4, q4, v9, rfl, hr, b4⟩
          clear t0 t1 t2 HC
          have by_ := below_self_alloc w4 (.cells #[.string ⟨#[]⟩, .int .i64 0, .slice p1 0 q1, .string ⟨#[]⟩, .int .i64 0, .slice p2 0 q2, .slice p3 0 q3, .slice p4 0 q4] 27)
          have kn := Blk.new w4 27 #[.string ⟨#[]⟩, .int .i64 0, .slice p1 0 q1, .string ⟨#[]⟩, .int .i64 0, .slice p2 0 q2, .slice p3 0 q3, .slice p4 0 q4]
          have bz := b4.trans (by_.mono b4.size)
          have HB5 := Lib.hid (HB3.out.trans (bz.mono HB3.out.size))
          have KN := Lib.hid kn
          clear by_ kn bz b4 HB3 K3 hr
          go_upto_region 7 with fail
          generalize w4.alloc (.cells #[.string ⟨#[]⟩, .int .i64 0, .slice p1 0 q1, .string ⟨#[]⟩, .int .i64 0, .slice p2 0 q2, .slice p3 0 q3, .slice p4 0 q4] 27) = w5 at *
          generalize w4.heap.size = gn at *
          have hc : Calls Tryz.prog 16 #[.agg #[.string ⟨#[]⟩, .int .i64 0, .slice p1 0 q1, .string ⟨#[]⟩, .int .i64 0, .slice p2 0 q2, .slice p3 0 q3, .slice p4 0 q4], .string name, .int .i64 1000000] w5 fun e w' => e = .returned (.bool false) ∧ Below w5.heap.size w5 w' := has_any w5 w5.heap.size Mt.zero ⟨p1, q1, p2, q2, p3, q3, p4, q4, []⟩ (RtsAt.nil _ _ _) (Nat.le_refl _) (by decide) name 1000000
          have HC := Lib.hid hc
          clear hc
          obtain ⟨s0, s1, s2⟩ := KN.out.all
          go_wp2_with fail
          refine HC.out.mono ?_
          rintro e w6 ⟨rfl, b6⟩
          have HB6 := Lib.hid (HB5.out.trans (b6.mono HB5.out.size))
          clear b6
          go_wp2
          go_ret
          exact ⟨rfl, HB6.out⟩
end Go.Proofs.YtgfahifdmacmhaaGreatDoor
