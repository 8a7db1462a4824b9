/- Package matter's formed. Package matter's Proper. -/
import Derived.Test.YtebdkmlganalaaaGreatDoorKTopAccruedGAR
import Derived.Deep.DeepCutAuto
namespace Go.Proofs.YtebdkmlganalaaaGreatDoor
open Go.RowKit Go.Shelf

/-- Days as the package reads them. -/
def dayB (o : Int) (l : List Int) : Bool := srtB l && (decide (l.length = 0) || (decide (o ≤ l.head?.getD 0) && isB (l.getLast?.getD 0)))
theorem srt_last {u : Int} : ∀ {l : List Int}, srtB (u :: l) = true → ∀ z, (u :: l).getLast? = some z → u ≤ z := by
  intro l
  induction l generalizing u with
  | nil => intro _ z hz; simp at hz; omega
  | cons v l ih =>
    intro hs z hz
    have e : srtB (u :: v :: l) = (decide (u ≤ v) && srtB (v :: l)) := rfl
    rw [e, Bool.and_eq_true, decide_eq_true_eq] at hs
    have := ih hs.2 z (by rw [List.getLast?_cons_cons] at hz; exact hz)
    omega
theorem dayB_up {o : Int} (ho : isB o = true) (l : List Int) : dayB o l = upB o l := by
  have h0 := ((isB_iff o).1 ho).1
  rw [Bool.eq_iff_iff, upB_srt]
  unfold dayB
  rw [Bool.and_eq_true, Bool.or_eq_true, Bool.and_eq_true, decide_eq_true_eq, decide_eq_true_eq, isB_iff]
  cases l with
  | nil => simp
  | cons x xs =>
    obtain ⟨z, hz⟩ : ∃ z, (x :: xs).getLast? = some z := by
      cases h : (x :: xs).getLast? with
      | none => simp at h
      | some z => exact ⟨z, rfl⟩
    rw [hz]
    simp only [List.length_cons, Nat.add_one_ne_zero, false_or, List.head?_cons, Option.getD_some, reduceCtorEq, Option.some.injEq, exists_eq_left']
    constructor
    · rintro ⟨h1, h2, h3, h4⟩
      exact ⟨h1, h2, h4⟩
    · rintro ⟨h1, h2, h4⟩
      have := srt_last h1 z hz
      exact ⟨h1, h2, by omega, h4⟩

/-- All but rights and limits. -/
def preM (m : Mt) : Bool := nameB m.id && (nameB m.pr && (isB m.o && (decide (0 ≤ m.st ∧ m.st < 60) && (m.cs.all isB && (decide (m.cs.length ≤ 60) && (dayB m.o m.mv && decide (m.mv.length ≤ 60)))))))
theorem fmB_pre (m : Mt) : fmB m = (preM m && (difB (·.1) (rtB m.o) m.rs && difB (·.id) prB m.ls)) := by
  unfold fmB preM
  cases ho : isB m.o with
  | false => simp
  | true => simp only [dayB_up ho, Bool.and_assoc]
theorem any_bad (l : List Int) : (l.any fun n => !isB n) = !l.all isB := by
  induction l with
  | nil => rfl
  | cons s l ih => rw [List.any_cons, List.all_cons, ih, Bool.not_and]
theorem difB_map {l : List LmV} : difB (fun x : LmV => x.1.id) (fun x => prB x.1) l = difB (·.id) prB (l.map (·.1)) := by
  unfold difB
  rw [List.map_map, List.length_map, List.all_map]
  rfl

set_option maxRecDepth 100000 in
set_option maxHeartbeats 8000000 in
theorem formed_any (w : World) (B : Nat) (m : Mt) (x : MtX) (h : MtAt w B m x) (hB : B ≤ w.heap.size) (hs : Sml m) :
    Calls Tryz.prog 21 #[.agg (mtC m x)] w fun e w' => e = .returned (.bool (fmB m)) ∧ Below w.heap.size w w' := by
  rw [fmB_pre]
  obtain ⟨hcs, hmv, hrs, hls, hlv, hid, hpr, hrn⟩ := h
  obtain ⟨s1, s2, s3, s4⟩ := hs
  obtain ⟨id, o, cs, pr, st, mv, rs, ls⟩ := m
  obtain ⟨a1, c1, a2, c2, a3, c3, a4, c4, lv⟩ := x
  simp only at *
  have hll : lv.length = ls.length := by
    have := congrArg List.length hlv
    simpa using this
  show Calls Tryz.prog 21 #[.agg #[.string id, .int .i64 o, .slice a1 cs.length c1, .string pr, .int .i64 st, .slice a2 mv.length c2, .slice a3 rs.length c3, .slice a4 ls.length c4]] w _
  obtain ⟨k2, hk2⟩ : ∃ k, mv.length = k := ⟨_, rfl⟩
  rw [hk2] at s2 ⊢
  have HK2 := Lib.hid hk2
  clear hk2
  have hb := below_self_alloc w (.cells #[.string id, .int .i64 o, .slice a1 cs.length c1, .string pr, .int .i64 st, .slice a2 k2 c2, .slice a3 rs.length c3, .slice a4 ls.length c4] 27)
  have kx := Blk.new w 27 #[.string id, .int .i64 o, .slice a1 cs.length c1, .string pr, .int .i64 st, .slice a2 k2 c2, .slice a3 rs.length c3, .slice a4 ls.length c4]
  have HCS := Lib.hid hcs
  have HMV := Lib.hid hmv
  have HRS := Lib.hid hrs
  have HLS := Lib.hid hls
  have HLV := Lib.hid hlv
  have HRN := Lib.hid hrn
  have HLL := Lib.hid hll
  have eb := enters_of Tryz.func47 (by kernel_rfl) rfl
  have er := enters_of Tryz.func51 (by kernel_rfl) rfl
  have ep := enters_of Tryz.func54 (by kernel_rfl) rfl
  obtain ⟨P, hP⟩ : ∃ P, preM ⟨id, o, cs, pr, st, mv, rs, ls⟩ = P := ⟨_, rfl⟩
  obtain ⟨RR, hRR⟩ : ∃ RR, (preM ⟨id, o, cs, pr, st, mv, rs, ls⟩ && (difB (·.1) (rtB o) rs && difB (·.id) prB ls)) = RR := ⟨_, rfl⟩
  rw [hRR]
  rw [hP] at hRR
  have HRR := Lib.hid hRR
  have HP := Lib.hid hP
  clear hcs hmv hrs hls hlv hrn hll hP hRR
  obtain ⟨t0, t1, t2⟩ := kx.all
  go_enter Tryz.func21, Tryz.ntmps21
  go_wp2_with fail
  refine (containsI_any _ B a1 cs c1 (HCS.out.below (hb.mono hB)) (Nat.le_trans hB hb.size) (by omega) (fun n => !isB n) 47 #[] eb (fun W n _ => bad_any W n)).mono ?_
  rintro e w1 ⟨rfl, b1⟩
  have hb1 := hb.trans (b1.mono hb.size)
  have k1 := kx.below b1 kx.lt
  rw [any_bad]
  obtain ⟨V, hV⟩ : ∃ V, cs.all isB = V := ⟨_, rfl⟩
  rw [hV]
  have HV := Lib.hid hV
  have HB1 := Lib.hid hb1
  have K1 := Lib.hid k1
  clear b1 kx t0 t1 t2 hb hb1 k1 hV
  obtain ⟨t0, t1, t2⟩ := K1.out.all
  have HB := Lib.hid hB
  have hnn : (!!V) = V := Bool.not_not V
  go_upto_region 2 with fail
  obtain ⟨D, hD⟩ : ∃ D, dayB o mv = D := ⟨_, rfl⟩
  have HDAY := Lib.hid hD
  clear hD
  go_cut [4] (fun v wx => v = .bool D ∧ ∃ nq, wx = w1.drewN nq)
  case first =>
    have hmv1 : IntsAt w1 B a2 mv := HMV.out.below (HB1.out.mono HB.out)
    have hso : ∀ n, Calls Tryz.prog 48 #[.slice a2 k2 c2] (w1.drewN n) fun e w'' => e = .returned (.bool (srtB mv)) ∧ ∃ m, w'' = w1.drewN m := fun n => by
      have := sorted_any (w1.drewN n) B a2 mv c2 hmv1 (by rw [HK2.out]; omega)
      rw [HK2.out] at this
      exact this.mono fun _ _ ⟨h1, q, h2⟩ => ⟨h1, _, h2.trans (drew2 _ _ _)⟩
    have hD := HDAY.out
    unfold dayB at hD
    rw [HK2.out] at hD
    have HD := Lib.hid hD
    clear hD hnn
    cases hsr : srtB mv with
    | false =>
      rw [hsr] at hso
      have HSO := Lib.hid hso
      obtain rfl : false = D := by rw [← HD.out, hsr]; rfl
      clear hso hsr hmv1 HD
      go_quiet ((go_at_call 48; exact HSO.out _))
      go_wp2
      go_meet
      exact ⟨rfl, _, rfl⟩
    | true =>
      have hDD := HD.out
      rw [hsr, Bool.true_and] at hDD
      rw [hsr] at hso
      have HSO := Lib.hid hso
      have HDD := Lib.hid hDD
      clear hso hsr HD hDD
      cases k2 with
      | zero =>
        obtain rfl : true = D := by rw [← HDD.out]; rfl
        clear hmv1 HDD
        go_quiet ((go_at_call 48; exact HSO.out _))
        go_wp2
        go_meet
        exact ⟨rfl, _, rfl⟩
      | succ n =>
        obtain ⟨x0, hx0⟩ : ∃ x, mv[0]? = some x := ⟨_, List.getElem?_eq_getElem (by rw [HK2.out]; omega)⟩
        obtain ⟨y, hy⟩ : ∃ y, mv[n]? = some y := ⟨_, List.getElem?_eq_getElem (by rw [HK2.out]; omega)⟩
        obtain ⟨g, off, hA, hg, e0⟩ := hmv1 0 x0 hx0
        obtain ⟨g', off', hA', hg', e1⟩ := hmv1 n y hy
        rw [hA] at hA'
        injection hA' with hA'
        injection hA' with q1 q2
        subst q1 q2 hA
        have hh0 : mv.head?.getD 0 = x0 := by rw [List.head?_eq_getElem?, hx0]; rfl
        have hh1 : mv.getLast?.getD 0 = y := by rw [List.getLast?_eq_getElem?, HK2.out]; show (mv[n]?).getD 0 = y; rw [hy]; rfl
        have hDD := HDD.out
        rw [hh0, hh1, decide_eq_false (show ¬ n + 1 = 0 by omega), Bool.false_or] at hDD
        have HD3 := Lib.hid hDD
        rw [Nat.add_zero] at e0
        have r1 : IntKind.i64.wrap (n : Int) = (n : Int) := IntWalk.i64_in _ (by omega)
        have r2 : (0 : Int) ≤ (n : Int) := by omega
        have r3 : (n : Int) < (n : Int) + 1 := by omega
        have r4 : ((n : Int) + 1 == 0) = false := by simp; omega
        have r5 : (0 : Int) < (n : Int) + 1 := by omega
        clear hh0 hh1 hDD HDD hx0 hy hmv1
        by_cases hox : o ≤ x0
        · have dox : decide (o ≤ x0) = true := decide_eq_true hox
          have hD4 := HD3.out
          rw [dox, Bool.true_and] at hD4
          have hi : ∀ n, Calls Tryz.prog 32 #[.int .i64 y] (w1.drewN n) fun e w'' => e = .returned (.bool D) ∧ ∃ m, w'' = w1.drewN m := fun n => (mis_any (w1.drewN n) y).mono fun _ _ ⟨h1, h2⟩ => ⟨by rw [h1, hD4], n, h2.symm⟩
          have HI := Lib.hid hi
          clear hD4 hi HD3
          go_quiet (first | (go_at_call 48; exact HSO.out _) | (go_at_call 32; exact HI.out _))
          go_wp2
          go_meet
          exact ⟨by simp, _, rfl⟩
        · have dox : decide (o ≤ x0) = false := decide_eq_false hox
          obtain rfl : false = D := by rw [← HD3.out, dox]; rfl
          have hxo : x0 < o := by omega
          clear HD3 hox
          go_quiet ((go_at_call 48; exact HSO.out _))
          go_wp2
          go_meet
          exact ⟨rfl, _, rfl⟩
  case rest =>
    obtain ⟨rfl, nq, rfl⟩ := hcut
    have hb2 : Below w.heap.size w (w1.drewN nq) := below_dN HB1.out nq
    have k2' : Blk (w1.drewN nq) w.heap.size 27 #[.string id, .int .i64 o, .slice a1 cs.length c1, .string pr, .int .i64 st, .slice a2 k2 c2, .slice a3 rs.length c3, .slice a4 ls.length c4] := K1.out.drewN nq
    generalize hW2 : w1.drewN nq = W2 at *
    clear hW2 t0 t1 t2 hnn
    obtain ⟨t0, t1, t2⟩ := k2'.all
    have HB2 := Lib.hid hb2
    have K2' := Lib.hid k2'
    clear hb2 k2'
    go_upto_region 3 with fail
    go_cut [83] (fun v wx => v = .bool (!P) ∧ Blk wx w.heap.size 27 #[.string id, .int .i64 o, .slice a1 cs.length c1, .string pr, .int .i64 st, .slice a2 k2 c2, .slice a3 rs.length c3, .slice a4 ls.length c4] ∧ Below w.heap.size w wx)
    case first =>
      have n1 := mname_any W2 id hid
      cases h1 : nameB id with
      | false =>
        rw [h1] at n1
        have N1 := Lib.hid n1
        obtain rfl : false = P := by rw [← HP.out]; simp [preM, h1]
        clear n1 h1
        go_wp2_with fail
        refine N1.out.mono ?_
        rintro e w3 ⟨rfl, b3⟩
        have k3 := K2'.out.below b3 K2'.out.lt
        have hb3 := HB2.out.trans (b3.mono HB2.out.size)
        clear b3 t0 t1 t2
        go_wp2
        go_meet
        exact ⟨rfl, k3, hb3⟩
      | true =>
        rw [h1] at n1
        have N1 := Lib.hid n1
        have H1 := Lib.hid h1
        clear n1 h1
        go_wp2_with fail
        refine N1.out.mono ?_
        rintro e w3 ⟨rfl, b3⟩
        have K3 := Lib.hid (K2'.out.below b3 K2'.out.lt)
        have HB3 := Lib.hid (HB2.out.trans (b3.mono HB2.out.size))
        clear b3 t0 t1 t2
        obtain ⟨t0, t1, t2⟩ := K3.out.all
        have n2 := mname_any w3 pr hpr
        cases h2 : nameB pr with
        | false =>
          rw [h2] at n2
          have N2 := Lib.hid n2
          obtain rfl : false = P := by rw [← HP.out]; simp [preM, h2]
          clear n2 h2
          go_wp2_with fail
          refine N2.out.mono ?_
          rintro e w4 ⟨rfl, b4⟩
          have k4 := K3.out.below b4 K3.out.lt
          have hb4 := HB3.out.trans (b4.mono HB3.out.size)
          clear b4 t0 t1 t2
          go_wp2
          go_meet
          exact ⟨rfl, k4, hb4⟩
        | true =>
          rw [h2] at n2
          have N2 := Lib.hid n2
          have H2 := Lib.hid h2
          clear n2 h2
          go_wp2_with fail
          refine N2.out.mono ?_
          rintro e w4 ⟨rfl, b4⟩
          have K4 := Lib.hid (K3.out.below b4 K3.out.lt)
          have HB4 := Lib.hid (HB3.out.trans (b4.mono HB3.out.size))
          clear b4 t0 t1 t2
          obtain ⟨t0, t1, t2⟩ := K4.out.all
          have n3 := mis_any w4 o
          cases h3 : isB o with
          | false =>
            rw [h3] at n3
            have N3 := Lib.hid n3
            obtain rfl : false = P := by rw [← HP.out]; simp [preM, h3]
            clear n3 h3
            go_wp2_with fail
            refine N3.out.mono ?_
            rintro e w5 ⟨rfl, rfl⟩
            go_wp2
            go_meet
            exact ⟨rfl, K4.out, HB4.out⟩
          | true =>
            rw [h3] at n3
            have N3 := Lib.hid n3
            have H3 := Lib.hid h3
            clear n3 h3
            go_wp2_with fail
            refine N3.out.mono ?_
            rintro e w5 ⟨rfl, rfl⟩
            by_cases h4 : 0 ≤ st
            · by_cases h5 : st < 60
              · cases V with
                | false =>
                  obtain rfl : false = P := by rw [← HP.out]; simp [preM, HV.out]
                  go_wp2
                  go_meet
                  exact ⟨rfl, K4.out, HB4.out⟩
                | true =>
                  by_cases h6 : cs.length ≤ 60
                  · have d6 : decide ((60 : Int) < (cs.length : Int)) = false := decide_eq_false (by omega)
                    cases D with
                    | false =>
                      obtain rfl : false = P := by rw [← HP.out]; simp [preM, HDAY.out]
                      go_wp2
                      go_meet
                      exact ⟨rfl, K4.out, HB4.out⟩
                    | true =>
                      by_cases h7 : k2 ≤ 60
                      · have d7 : decide ((60 : Int) < (k2 : Int)) = false := decide_eq_false (by omega)
                        obtain rfl : true = P := by rw [← HP.out]; simp [preM, HDAY.out, HV.out, H1.out, H2.out, H3.out, h4, h5, h6, HK2.out, h7]
                        go_wp2
                        go_meet
                        exact ⟨by simp; omega, K4.out, HB4.out⟩
                      · have d7 : decide ((60 : Int) < (k2 : Int)) = true := decide_eq_true (by omega)
                        obtain rfl : false = P := by rw [← HP.out]; simp [preM, HK2.out, h7]
                        go_wp2
                        go_meet
                        exact ⟨rfl, K4.out, HB4.out⟩
                  · have d6 : decide ((60 : Int) < (cs.length : Int)) = true := decide_eq_true (by omega)
                    obtain rfl : false = P := by rw [← HP.out]; simp [preM, h6]
                    go_wp2
                    go_meet
                    exact ⟨rfl, K4.out, HB4.out⟩
              · have d5 : decide ((60 : Int) ≤ st) = true := decide_eq_true (by omega)
                obtain rfl : false = P := by rw [← HP.out]; simp [preM, h5]
                go_wp2
                go_meet
                exact ⟨rfl, K4.out, HB4.out⟩
            · have d4 : decide (st < 0) = true := decide_eq_true (by omega)
              obtain rfl : false = P := by rw [← HP.out]; simp [preM, h4]
              go_wp2
              go_meet
              exact ⟨rfl, K4.out, HB4.out⟩
    case rest =>
      obtain ⟨rfl, k5, hb5⟩ := hcut
      have HB5 := Lib.hid hb5
      have K5 := Lib.hid k5
      clear hb5 k5 t0 t1 t2
      obtain ⟨t0, t1, t2⟩ := K5.out.all
      cases P with
      | false =>
        obtain rfl : false = RR := HRR.out
        go_wp2
        go_ret
        exact ⟨rfl, HB5.out⟩
      | true =>
        have hR := difR_any wc B a3 rs c3 (HRS.out.below (HB5.out.mono HB.out)) (Nat.le_trans HB.out HB5.out.size) (by omega) (rtB o) 51 #[.pointer (some ⟨w.heap.size, 0, none⟩)] er
          (fun W x hx hb => rgood_any W w.heap.size o ((K5.out.below hb K5.out.lt).cell 1) x (HRN.out x hx) (Nat.lt_of_lt_of_le K5.out.lt hb.size))
        have hL := fun W (hb : Below wc.heap.size wc W) => difL_any W B a4 lv c4 (HLS.out.below ((HB5.out.trans (hb.mono HB5.out.size)).mono HB.out)) (Nat.le_trans HB.out (Nat.le_trans HB5.out.size hb.size)) (by rw [HLL.out]; omega) (fun x => prB x.1) 54 #[] ep
          (fun W2 x hx hb2 => by
            obtain ⟨i, hi⟩ := List.getElem?_of_mem hx
            obtain ⟨_, _, _, _, _, _, _, _, _, hat⟩ := (HLS.out.below ((HB5.out.trans ((hb.trans (hb2.mono hb.size)).mono HB5.out.size)).mono HB.out)) i x hi
            exact lgood_any W2 B x hat (Nat.le_trans HB.out (Nat.le_trans HB5.out.size (Nat.le_trans hb.size hb2.size))))
        rw [HLL.out] at hL
        have hll : difB (fun x : LmV => x.1.id) (fun x => prB x.1) lv = difB (·.id) prB ls := by rw [difB_map, HLV.out]
        rw [hll] at hL
        have hRR := HRR.out
        clear HRR
        generalize difB (·.1) (rtB o) rs = R at *
        generalize difB (·.id) prB ls = LL at *
        rw [Bool.true_and] at hRR
        have HR := Lib.hid hR
        have HLD := Lib.hid hL
        clear hR hL hll
        cases R with
        | false =>
          obtain rfl : false = RR := hRR
          go_wp2_with fail
          refine HR.out.mono ?_
          rintro e w6 ⟨rfl, b6⟩
          have hb6 := HB5.out.trans (b6.mono HB5.out.size)
          clear t0 t1 t2 b6
          go_wp2
          go_ret
          exact ⟨rfl, hb6⟩
        | true =>
          rw [Bool.true_and] at hRR
          subst hRR
          go_wp2_with fail
          refine HR.out.mono ?_
          rintro e w6 ⟨rfl, b6⟩
          have HL6 := Lib.hid (HLD.out w6 b6)
          have HB6 := Lib.hid (HB5.out.trans (b6.mono HB5.out.size))
          have k6 := K5.out.below b6 K5.out.lt
          clear t0 t1 t2 b6
          obtain ⟨t0, t1, t2⟩ := k6.all
          go_wp2_with fail
          refine HL6.out.mono ?_
          rintro e w7 ⟨rfl, b7⟩
          have hb7 := HB6.out.trans (b7.mono HB6.out.size)
          clear t0 t1 t2 b7 k6
          go_wp2
          go_ret
          exact ⟨rfl, hb7⟩
end Go.Proofs.YtebdkmlganalaaaGreatDoor

namespace Go.Proofs.YtebdkmlganalaaaGreatDoor
open Go.RowKit Go.Shelf

/-- A procedure in memory. -/
structure PcX where
  a1 : Option Addr
  c1 : Nat
  a2 : Option Addr
  c2 : Nat
def pcC (p : Pc) (x : PcX) : Array Value := #[.string p.name, .slice x.a1 p.ss.length x.c1, .slice x.a2 p.ms.length x.c2]
structure PcAt (w : World) (B : Nat) (p : Pc) (x : PcX) : Prop where
  ss : BtsAt w B x.a1 p.ss
  ms : StopsAt w B x.a2 p.ms
  nm : p.name.size ≤ 9223372036854775807
  sn : ∀ s ∈ p.ss, s.size ≤ 9223372036854775807
theorem PcAt.below {w w' : World} {B : Nat} {p : Pc} {x : PcX} (h : PcAt w B p x) (hb : Below B w w') : PcAt w' B p x := ⟨h.ss.below hb, h.ms.below hb, h.nm, h.sn⟩
theorem PcAt.wide {w : World} {B B' : Nat} {p : Pc} {x : PcX} (h : PcAt w B p x) (hB : B ≤ B') : PcAt w B' p x := ⟨h.ss.wide hB, h.ms.wide hB, h.nm, h.sn⟩
def SmlP (p : Pc) : Prop := p.ss.length ≤ 1000000 ∧ p.ms.length ≤ 1000000

set_option maxRecDepth 100000 in
set_option maxHeartbeats 4000000 in
theorem proper_p (w : World) (B : Nat) (p : Pc) (x : PcX) (h : PcAt w B p x) (hB : B ≤ w.heap.size) (hs : SmlP p) :
    Calls Tryz.prog 22 #[.agg (pcC p x)] w fun e w' => e = .returned (.bool (pcB p)) ∧ Below w.heap.size w w' := by
  obtain ⟨hss, hms, hnm, hsn⟩ := h
  obtain ⟨s1, s2⟩ := hs
  obtain ⟨name, ss, ms⟩ := p
  obtain ⟨a1, c1, a2, c2⟩ := x
  simp only at *
  show Calls Tryz.prog 22 #[.agg #[.string name, .slice a1 ss.length c1, .slice a2 ms.length c2]] w _
  have hb := (below_self_alloc w (.cells #[.string name, .slice a1 ss.length c1, .slice a2 ms.length c2] 34)).alloc (by simp) (.cells #[.int .i64 (ss.length : Int)] 3)
  have kx := (Blk.new w 34 #[.string name, .slice a1 ss.length c1, .slice a2 ms.length c2]).alloc (.cells #[.int .i64 (ss.length : Int)] 3)
  have kn := Blk.new1 w (.cells #[.string name, .slice a1 ss.length c1, .slice a2 ms.length c2] 34) 3 #[.int .i64 (ss.length : Int)]
  have eg := enters_of Tryz.func31 (by kernel_rfl) rfl
  have em := enters_of Tryz.func59 (by kernel_rfl) rfl
  have hpc : pcB ⟨name, ss, ms⟩ = (nameB name && (decide (0 < ss.length) && (difB id nameB ss && difB id (mvB ss.length) ms))) := rfl
  obtain ⟨RR, hRR⟩ : ∃ RR, pcB ⟨name, ss, ms⟩ = RR := ⟨_, rfl⟩
  rw [hRR] at hpc ⊢
  have HRR := Lib.hid hpc
  have HSS := Lib.hid hss
  have HMS := Lib.hid hms
  have HSN := Lib.hid hsn
  clear hpc hRR hss hms hsn
  go_enter Tryz.func22, Tryz.ntmps22
  go_upto_region 2 with fail
  generalize (w.alloc (.cells #[.string name, .slice a1 ss.length c1, .slice a2 ms.length c2] 34)).alloc (.cells #[.int .i64 (ss.length : Int)] 3) = W0 at *
  have HB0 := Lib.hid hb
  have KX := Lib.hid kx
  have KN := Lib.hid kn
  clear hb kx kn
  obtain ⟨t0, t1, t2⟩ := KX.out.all
  obtain ⟨u0, u1, u2⟩ := KN.out.all
  have n1 := mname_any W0 name hnm
  have hS := fun W (hb : Below W0.heap.size W0 W) => difS_any W B a1 ss c1 (HSS.out.below ((HB0.out.trans (hb.mono HB0.out.size)).mono hB)) (Nat.le_trans hB (Nat.le_trans HB0.out.size hb.size)) (by omega) nameB 31 #[] eg
    (fun W2 x hx _ => mname_any W2 x (HSN.out x hx))
  have hM := fun W (hb : Below W0.heap.size W0 W) => difM_any W B a2 ms c2 (HMS.out.below ((HB0.out.trans (hb.mono HB0.out.size)).mono hB)) (Nat.le_trans hB (Nat.le_trans HB0.out.size hb.size)) (by omega) (mvB ss.length) 59 #[.pointer (some ⟨w.heap.size + 1, 0, none⟩)] em
    (fun W2 x hx hb2 => mgood_any W2 (w.heap.size + 1) ss.length ((KN.out.below (hb.trans (hb2.mono hb.size)) KN.out.lt).cell 0) x (Nat.lt_of_lt_of_le KN.out.lt (Nat.le_trans hb.size hb2.size)))
  have hRR := HRR.out
  clear HRR
  generalize nameB name = N at *
  generalize difB id nameB ss = S1 at *
  generalize difB id (mvB ss.length) ms = M1 at *
  have HN := Lib.hid n1
  have HSD := Lib.hid hS
  have HMD := Lib.hid hM
  clear n1 hS hM
  cases N with
  | false =>
    obtain rfl : RR = false := hRR
    go_wp2_with fail
    refine HN.out.mono ?_
    rintro e w1 ⟨rfl, b1⟩
    have hb1 := HB0.out.trans (b1.mono HB0.out.size)
    clear b1 t0 t1 t2 u0 u1 u2
    go_wp2
    go_ret
    exact ⟨rfl, hb1⟩
  | true =>
    rw [Bool.true_and] at hRR
    go_wp2_with fail
    refine HN.out.mono ?_
    rintro e w1 ⟨rfl, b1⟩
    have HB1 := Lib.hid (HB0.out.trans (b1.mono HB0.out.size))
    have K1 := Lib.hid (KX.out.below b1 KX.out.lt)
    have N1 := Lib.hid (KN.out.below b1 KN.out.lt)
    have HS1 := Lib.hid (HSD.out w1 b1)
    have B1 := Lib.hid b1
    clear b1 t0 t1 t2 u0 u1 u2
    obtain ⟨t0, t1, t2⟩ := K1.out.all
    obtain ⟨u0, u1, u2⟩ := N1.out.all
    by_cases h0 : 0 < ss.length
    · rw [decide_eq_true h0, Bool.true_and] at hRR
      cases S1 with
      | false =>
        obtain rfl : RR = false := hRR
        go_wp2_with fail
        refine HS1.out.mono ?_
        rintro e w2 ⟨rfl, b2⟩
        have hb2 := HB1.out.trans (b2.mono HB1.out.size)
        clear b2 t0 t1 t2 u0 u1 u2
        go_wp2
        go_ret
        exact ⟨rfl, hb2⟩
      | true =>
        rw [Bool.true_and] at hRR
        subst hRR
        go_wp2_with fail
        refine HS1.out.mono ?_
        rintro e w2 ⟨rfl, b2⟩
        have HB2 := Lib.hid (HB1.out.trans (b2.mono HB1.out.size))
        have HM2 := Lib.hid (HMD.out w2 (B1.out.trans (b2.mono B1.out.size)))
        have k2 := K1.out.below b2 K1.out.lt
        have n2 := N1.out.below b2 N1.out.lt
        clear b2 t0 t1 t2 u0 u1 u2
        obtain ⟨t0, t1, t2⟩ := k2.all
        obtain ⟨u0, u1, u2⟩ := n2.all
        go_wp2_with fail
        refine HM2.out.mono ?_
        rintro e w3 ⟨rfl, b3⟩
        have hb3 := HB2.out.trans (b3.mono HB2.out.size)
        clear b3 t0 t1 t2 u0 u1 u2 k2 n2
        go_wp2
        go_ret
        exact ⟨rfl, hb3⟩
    · rw [decide_eq_false h0, Bool.false_and] at hRR
      subst hRR
      have d0 : decide (0 < ss.length) = false := decide_eq_false h0
      have hb1 := HB1.out
      clear h0
      go_wp2
      go_ret
      exact ⟨rfl, hb1⟩
end Go.Proofs.YtebdkmlganalaaaGreatDoor
