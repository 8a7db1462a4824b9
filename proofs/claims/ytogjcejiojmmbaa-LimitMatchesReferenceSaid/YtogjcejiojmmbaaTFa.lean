/- The walk of LimitAccrued. -/
import Derived.Test.YtogjcejiojmmbaaTEp
namespace Go.Proofs.Ytogjcejiojmmbaa
open Go.RowKit Go.Shelf

theorem due_end {L : Lm} {l : List Int} (h : (dueS L l).2 = 0) : (addS l L.f L.n L.u).1 ≤ (dueS L l).1 := by
  obtain ⟨h1, h2, h3⟩ := due_is h
  rw [h3] at h ⊢
  obtain ⟨g1, -, -⟩ := add_ge h2
  obtain ⟨-, -, -, -, hS⟩ := prB_iff.1 h1
  obtain ⟨a1, -, -⟩ := nthU_spec (pz_far (f := L.f) hS) L.f ((addS l L.f L.n L.u).1 - L.f).toNat
  obtain ⟨o1, -⟩ := openS_ok h
  omega
theorem due_days {id : ByteArray} {n f : Int} {S : List Stp2} {l : List Int} (h : (dueS ⟨id, n, 1, f, S⟩ l).2 = 0) : f + n ≤ (dueS ⟨id, n, 1, f, S⟩ l).1 := by
  have h1 := due_end h
  obtain ⟨-, h2, -⟩ := due_is h
  simp only at h1 h2
  obtain ⟨-, -, -, -, -, -, p, h7, -, h9, -⟩ := addS_ok h2
  unfold stepS at h7
  rw [if_pos rfl] at h7
  injection h7 with h7 _
  have := fromS_le l p
  omega
theorem change_cases (L : Lm) (day n u least : Int) (l : List Int) :
    (∃ f, f ≠ 0 ∧ changeS L day n u least l = (Lm.zero, f)) ∨
    ((dueS L l).2 = 0 ∧ (dueS L l).1 < day ∧ changeS L day n u least l = (L, 0)) ∨
    ((dueS L l).2 = 0 ∧ ¬ (dueS L l).1 < day ∧ 0 ≤ day ∧ day ≤ 1000000 ∧ 0 ≤ least ∧ least ≤ 1000000 ∧ ∃ N U F, changeS L day n u least l = (⟨L.id, N, U, F, L.S⟩, 0) ∧ (dueS ⟨L.id, N, U, F, L.S⟩ l).2 = 0 ∧ day + least ≤ (dueS ⟨L.id, N, U, F, L.S⟩ l).1 ∧
      (dueS ⟨L.id, n, u, L.f, L.S⟩ l).2 = 0 ∧ ((dueS ⟨L.id, n, u, L.f, L.S⟩ l).1 < day + least ∨ (N = n ∧ U = u ∧ F = L.f))) := by
  unfold changeS
  by_cases h1 : prB L = false ∨ isB day = false ∨ ptB n u = false ∨ least < 0 ∨ 1000000 < least
  · rw [if_pos h1]; exact .inl ⟨1, by simp, rfl⟩
  rw [if_neg h1]
  by_cases h2 : (dueS L l).2 ≠ 0
  · rw [if_pos h2]; exact .inl ⟨_, h2, rfl⟩
  rw [if_neg h2]
  have h2 : (dueS L l).2 = 0 := Classical.not_not.1 h2
  by_cases h3 : (dueS L l).1 < day
  · rw [if_pos h3]; exact .inr (.inl ⟨h2, h3, rfl⟩)
  rw [if_neg h3]
  have hd : 0 ≤ day ∧ day ≤ 1000000 := by
    refine (isB_iff _).1 ?_
    cases hh : isB day with
    | true => rfl
    | false => exact absurd (.inr (.inl hh)) h1
  have hl : 0 ≤ least ∧ least ≤ 1000000 := by
    constructor
    · rcases Int.lt_or_le least 0 with c | c
      · exact absurd (.inr (.inr (.inr (.inl c)))) h1
      · exact c
    · rcases Int.lt_or_le 1000000 least with c | c
      · exact absurd (.inr (.inr (.inr (.inr c)))) h1
      · exact c
  by_cases h4 : (dueS ⟨L.id, n, u, L.f, L.S⟩ l).2 ≠ 0
  · rw [if_pos h4]; exact .inl ⟨_, h4, rfl⟩
  rw [if_neg h4]
  have h4 : (dueS ⟨L.id, n, u, L.f, L.S⟩ l).2 = 0 := Classical.not_not.1 h4
  by_cases h5 : (dueS ⟨L.id, n, u, L.f, L.S⟩ l).1 < day + least
  · rw [if_pos h5]
    by_cases h6 : (dueS ⟨L.id, least, 1, day, L.S⟩ l).2 ≠ 0
    · rw [if_pos h6]; exact .inl ⟨_, h6, rfl⟩
    rw [if_neg h6]
    have h6 : (dueS ⟨L.id, least, 1, day, L.S⟩ l).2 = 0 := Classical.not_not.1 h6
    exact .inr (.inr ⟨h2, h3, hd.1, hd.2, hl.1, hl.2, least, 1, day, rfl, h6, due_days h6, h4, .inl h5⟩)
  · rw [if_neg h5]
    exact .inr (.inr ⟨h2, h3, hd.1, hd.2, hl.1, hl.2, n, u, L.f, rfl, h4, by omega, h4, .inr ⟨rfl, rfl, rfl⟩⟩)

set_option maxRecDepth 100000 in
set_option maxHeartbeats 4000000 in
theorem accrued_walk (w : World) (x : Lm × Option Addr × Nat) (hx : LmAt w w.heap.size x.2.1 x.1) (day : Int) (_wd : (Lit.int .i64 day).wf = true) (t : Int × Int) (least : Int) (_wl : (Lit.int .i64 least).wf = true) (C : Option Addr) (cl : Nat) (l : List Int) (h : Ints w w.heap.size C l) :
    Calls Try.prog 7 #[.agg (x.1.cells x.2.1 x.2.2), .int .i64 day, .agg #[.int .i64 t.1, .int .i64 t.2], .int .i64 least, .slice C l.length cl] w fun e w' => e = .returned (.bool true) ∧ Below w.heap.size w w' := by
  obtain ⟨hA, hw, hl⟩ := h
  obtain ⟨L, A, c⟩ := x
  obtain ⟨n, u⟩ := t
  simp only at hx
  have HA := Lib.hid hA
  have HW := Lib.hid hw
  have HX := Lib.hid hx
  clear hA hw hx
  have e0 : Array.size #[Value.string L.id] = 1 := rfl
  show Calls Try.prog 7 #[.agg #[.string L.id, .int .i64 L.n, .int .i64 L.u, .int .i64 L.f, .slice A L.S.length c], .int .i64 day, .agg #[.int .i64 n, .int .i64 u], .int .i64 least, .slice C l.length cl] w _
  have hb := ((Below.refl w.heap.size w).alloc (Nat.le_refl _) (.cells #[.string L.id, .int .i64 L.n, .int .i64 L.u, .int .i64 L.f, .slice A L.S.length c] 26)).alloc (by simp) (.cells #[.int .i64 n, .int .i64 u] 23)
  have k0 := (Blk.new w 26 #[.string L.id, .int .i64 L.n, .int .i64 L.u, .int .i64 L.f, .slice A L.S.length c]).alloc (.cells #[.int .i64 n, .int .i64 u] 23)
  have s0 := Blk.new1 w (.cells #[.string L.id, .int .i64 L.n, .int .i64 L.u, .int .i64 L.f, .slice A L.S.length c] 26) 23 #[.int .i64 n, .int .i64 u]
  clear e0
  go_enter Try.func7, Try.ntmps7
  go_wp2_with fail
  refine (head_any _).mono ?_
  rintro e w1 ⟨rfl, b⟩
  have k1 := k0.below b k0.lt
  have s1 := s0.below b s0.lt
  replace hb := hb.trans (b.mono hb.size)
  clear b k0 s0
  generalize hgt : w.heap.size + 1 = gt at *
  clear hgt
  obtain ⟨t0, t1, -⟩ := k1.all
  obtain ⟨r, hr⟩ : ∃ r, frB L l.length = r := ⟨_, rfl⟩
  have hfew := few_any w1 L w.heap.size A c (HX.out.below hb) hb.size C l.length cl hl
  rw [hr] at hfew
  have HF := Lib.hid hfew
  clear hfew
  go_wp2_with fail
  refine HF.out.mono ?_
  rintro e w2 ⟨rfl, b⟩
  have k2 := k1.below b k1.lt
  have s2 := s1.below b s1.lt
  replace hb := hb.trans (b.mono hb.size)
  clear b HF k1 s1 t0 t1
  obtain ⟨v0, v1, -⟩ := s2.all
  cases r with
  | false =>
    clear hr
    go_wp2
    go_ret
    exact ⟨rfl, hb⟩
  | true =>
    have hm := (frB_iff.1 hr).2.2.2.2
    clear hr
    obtain ⟨r1, hr1⟩ : ∃ r1, shB n u = r1 := ⟨_, rfl⟩
    have hsh := short_any w2 n u
    rw [hr1] at hsh
    have HSH := Lib.hid hsh
    clear hsh hr1
    go_wp2_with fail
    refine HSH.out.mono ?_
    rintro e w3 ⟨rfl, b⟩
    replace k2 := k2.below b k2.lt
    replace s2 := s2.below b s2.lt
    replace hb := hb.trans (b.mono hb.size)
    clear b HSH v0 v1
    cases r1 with
    | false =>
      go_wp2
      go_ret
      exact ⟨rfl, hb⟩
    | true =>
    obtain ⟨r2, hr2⟩ : ∃ r2, shB least 1 = r2 := ⟨_, rfl⟩
    have hsh := short_any w3 least 1
    rw [hr2] at hsh
    have HSH := Lib.hid hsh
    clear hsh hr2
    go_wp2_with fail
    refine HSH.out.mono ?_
    rintro e w4 ⟨rfl, b⟩
    have k4 := k2.below b k2.lt
    have s4 := s2.below b s2.lt
    replace hb := hb.trans (b.mono hb.size)
    clear b HSH k2 s2
    cases r2 with
    | false =>
      go_wp2
      go_ret
      exact ⟨rfl, hb⟩
    | true =>
    obtain ⟨t0, t1, -⟩ := k4.all
    obtain ⟨a1, a2, hq⟩ : ∃ a1 a2, dueS L l = (a1, a2) := ⟨_, _, rfl⟩
    have HQ := Lib.hid hq
    clear hq
    go_wp2_with fail
    have hdue := due_any w4 L w.heap.size A c (HX.out.below hb) hb.size C l cl (HA.out.below hb) (by omega) HW.out
    rw [HQ.out] at hdue
    refine hdue.mono ?_
    rintro e w5 ⟨rfl, b⟩
    have k5 := k4.below b k4.lt
    have s5 := s4.below b s4.lt
    replace hb := hb.trans (b.mono hb.size)
    clear b hdue k4 s4 t0 t1
    obtain ⟨t0, t1, -⟩ := k5.all
    obtain ⟨v0, v1, -⟩ := s5.all
    go_wp2_with fail
    have hch := change_any w5 L day n u least w.heap.size A c (HX.out.below hb) hb.size C l cl (HA.out.below hb) (by omega) HW.out
    rcases change_cases L day n u least l with ⟨f, hf, hcc⟩ | ⟨hz, hlt, hcc⟩ | ⟨hz, hlt, d0, d1, l0, l1, N, U, F, hcc, m2, m1, f2, hor⟩
    · rw [hcc] at hch
      have HCH := Lib.hid hch
      clear hch hcc
      refine HCH.out.mono ?_
      rintro e w6 ⟨A', c', he, -, b⟩
      obtain rfl : e = .returned (.tuple #[.agg #[.string ⟨#[]⟩, .int .i64 0, .int .i64 0, .int .i64 0, .slice A' 0 c'], .int .i64 f]) := he
      replace hb := hb.trans (b.mono hb.size)
      have hbm := hb.alloc hb.size (.cells #[.string ⟨#[]⟩, .int .i64 0, .int .i64 0, .int .i64 0, .slice A' 0 c'] 26)
      have mx := Blk.new w6 26 #[.string ⟨#[]⟩, .int .i64 0, .int .i64 0, .int .i64 0, .slice A' 0 c']
      clear b k5 s5 t0 t1 v0 v1 HCH
      obtain ⟨t0, t1, -⟩ := mx.all
      have z1 : (f != 0) = true := by simpa using hf
      have z2 : (f == 0) = false := by simpa using hf
      have z3 : decide (f = 0) = false := decide_eq_false hf
      by_cases ha : a2 = 0
      · subst ha
        go_wp2
        go_ret
        exact ⟨rfl, hbm⟩
      · have z4 : (a2 != 0) = true := by simpa using ha
        go_wp2
        go_ret
        exact ⟨rfl, hbm⟩
    · rw [hcc] at hch
      have HCH := Lib.hid hch
      clear hch hcc
      rw [HQ.out] at hz hlt
      simp only at hz hlt
      subst hz
      refine HCH.out.mono ?_
      rintro e w6 ⟨A', c', he, hst, b⟩
      obtain rfl : e = .returned (.tuple #[.agg #[.string L.id, .int .i64 L.n, .int .i64 L.u, .int .i64 L.f, .slice A' L.S.length c'], .int .i64 0]) := he
      have k6 := k5.below b k5.lt
      replace hb := hb.trans (b.mono hb.size)
      simp only at hst
      have HM := Lib.hid (show LmAt w6 w6.heap.size A' L from ⟨hst, HX.out.2⟩)
      have HX2 := Lib.hid (show LmAt w6 w6.heap.size A L from ⟨(HX.out.below hb).1.wide hb.size, HX.out.2⟩)
      have hbc := Below.refl w6.heap.size w6
      have hbm := hb.alloc hb.size (.cells #[.string L.id, .int .i64 L.n, .int .i64 L.u, .int .i64 L.f, .slice A' L.S.length c'] 26)
      have hcm := hbc.alloc (Nat.le_refl _) (.cells #[.string L.id, .int .i64 L.n, .int .i64 L.u, .int .i64 L.f, .slice A' L.S.length c'] 26)
      have mx := Blk.new w6 26 #[.string L.id, .int .i64 L.n, .int .i64 L.u, .int .i64 L.f, .slice A' L.S.length c']
      have kx := k6.alloc (.cells #[.string L.id, .int .i64 L.n, .int .i64 L.u, .int .i64 L.f, .slice A' L.S.length c'] 26)
      clear b k5 s5 t0 t1 v0 v1 HCH k6 hst hb hbc
      obtain ⟨t0, t1, -⟩ := mx.all
      obtain ⟨v0, v1, -⟩ := kx.all
      have d1 : decide (a1 < day) = true := decide_eq_true hlt
      go_wp2_with fail
      have hsm := same_yes _ L _ A' A c' c (HM.out.below hcm) (HX2.out.below hcm) hcm.size
      refine hsm.mono ?_
      rintro e w7 ⟨rfl, b⟩
      replace hbm := hbm.trans (b.mono hbm.size)
      clear b hsm t0 t1 v0 v1 mx kx hcm
      go_wp2
      go_ret
      exact ⟨rfl, hbm⟩
    · rw [hcc] at hch
      have HCH := Lib.hid hch
      clear hch hcc
      rw [HQ.out] at hz hlt
      simp only at hz hlt
      subst hz
      refine HCH.out.mono ?_
      rintro e w6 ⟨A', c', he, hst, b⟩
      obtain rfl : e = .returned (.tuple #[.agg #[.string L.id, .int .i64 N, .int .i64 U, .int .i64 F, .slice A' L.S.length c'], .int .i64 0]) := he
      have k6 := k5.below b k5.lt
      have s6 := s5.below b s5.lt
      replace hb := hb.trans (b.mono hb.size)
      simp only at hst
      have HM := Lib.hid (show LmAt w6 w6.heap.size A' ⟨L.id, N, U, F, L.S⟩ from ⟨hst, HX.out.2⟩)
      have HX2 := Lib.hid (show LmAt w6 w6.heap.size A L from ⟨(HX.out.below hb).1.wide hb.size, HX.out.2⟩)
      have HA2 := Lib.hid ((HA.out.below hb).wide hb.size)
      have hbc := Below.refl w6.heap.size w6
      have hbm := hb.alloc hb.size (.cells #[.string L.id, .int .i64 N, .int .i64 U, .int .i64 F, .slice A' L.S.length c'] 26)
      have hcm := hbc.alloc (Nat.le_refl _) (.cells #[.string L.id, .int .i64 N, .int .i64 U, .int .i64 F, .slice A' L.S.length c'] 26)
      have mx := Blk.new w6 26 #[.string L.id, .int .i64 N, .int .i64 U, .int .i64 F, .slice A' L.S.length c']
      have kx := k6.alloc (.cells #[.string L.id, .int .i64 N, .int .i64 U, .int .i64 F, .slice A' L.S.length c'] 26)
      have sx := s6.alloc (.cells #[.string L.id, .int .i64 N, .int .i64 U, .int .i64 F, .slice A' L.S.length c'] 26)
      obtain ⟨b1, b2, hbq⟩ : ∃ b1 b2, dueS ⟨L.id, N, U, F, L.S⟩ l = (b1, b2) := ⟨_, _, rfl⟩
      obtain ⟨g1, g2, hgq⟩ : ∃ g1 g2, dueS ⟨L.id, n, u, L.f, L.S⟩ l = (g1, g2) := ⟨_, _, rfl⟩
      rw [hbq] at m2 m1
      rw [hgq] at f2 hor
      simp only at m2 m1 f2 hor
      subst m2 f2
      have HB := Lib.hid hbq
      have HG := Lib.hid hgq
      have HOR := Lib.hid hor
      clear b k5 s5 t0 t1 v0 v1 HCH k6 s6 hst hb hbc hbq hgq hor
      obtain ⟨t0, t1, -⟩ := mx.all
      have dd : decide (a1 < day) = false := decide_eq_false hlt
      have dm : decide (b1 < day + least) = false := decide_eq_false (by omega)
      go_wp2_with fail
      have hdue := due_any _ ⟨L.id, N, U, F, L.S⟩ w6.heap.size A' c' (HM.out.below hcm) hcm.size C l cl (HA2.out.below hcm) (by omega) HW.out
      rw [HB.out] at hdue
      refine hdue.mono ?_
      rintro e w7 ⟨rfl, b⟩
      have k7 := kx.below b kx.lt
      have s7 := sx.below b sx.lt
      have m7 := mx.below b mx.lt
      replace hbm := hbm.trans (b.mono hbm.size)
      replace hcm := hcm.trans (b.mono hcm.size)
      clear b hdue kx sx mx t0 t1
      obtain ⟨gm, hgm⟩ : ∃ gm, w6.heap.size = gm := ⟨_, rfl⟩
      have hcm2 : Below gm w6 w7 := hgm ▸ hcm
      have HM2 := Lib.hid (show LmAt w6 gm A' ⟨L.id, N, U, F, L.S⟩ from hgm ▸ HM.out)
      have HX3 := Lib.hid (show LmAt w6 gm A L from hgm ▸ HX2.out)
      have HA3 := Lib.hid (show IntsAt w6 gm C l from hgm ▸ HA2.out)
      have gmle : gm ≤ w6.heap.size := Nat.le_of_eq hgm.symm
      rw [hgm] at m7 hcm
      rw [hgm]
      clear HM HX2 HA2 hcm hgm
      obtain ⟨t0, t1, -⟩ := k7.all
      obtain ⟨v0, v1, -⟩ := s7.all
      -- fresh
      have f8 := Blk.new w7 26 #[.string L.id, .int .i64 L.n, .int .i64 L.u, .int .i64 L.f, .slice A L.S.length c]
      have k8 := k7.alloc (.cells #[.string L.id, .int .i64 L.n, .int .i64 L.u, .int .i64 L.f, .slice A L.S.length c] 26)
      have s8 := s7.alloc (.cells #[.string L.id, .int .i64 L.n, .int .i64 L.u, .int .i64 L.f, .slice A L.S.length c] 26)
      have m8 := m7.alloc (.cells #[.string L.id, .int .i64 L.n, .int .i64 L.u, .int .i64 L.f, .slice A L.S.length c] 26)
      have hb8 := hbm.alloc hbm.size (.cells #[.string L.id, .int .i64 L.n, .int .i64 L.u, .int .i64 L.f, .slice A L.S.length c] 26)
      have hc8 := hcm2.alloc (Nat.le_trans gmle hcm2.size) (.cells #[.string L.id, .int .i64 L.n, .int .i64 L.u, .int .i64 L.f, .slice A L.S.length c] 26)
      have nk : w.heap.size ≠ w7.heap.size := Nat.ne_of_lt k7.lt
      have ns : gt ≠ w7.heap.size := Nat.ne_of_lt s7.lt
      have nm : gm ≠ w7.heap.size := Nat.ne_of_lt m7.lt
      have gek := hbm.size
      have gec := Nat.le_trans gmle hcm2.size
      go_upto_region 12 with fail
      clear t0 t1 v0 v1 k7 s7 m7 hbm hcm2
      generalize w7.alloc (.cells #[.string L.id, .int .i64 L.n, .int .i64 L.u, .int .i64 L.f, .slice A L.S.length c] 26) = w8 at *
      generalize w7.heap.size = gf at *
      obtain ⟨t0, t1, -⟩ := s8.all
      obtain ⟨v0, v1, -⟩ := f8.all
      have f9 : Blk ((w8.setCell ⟨gf, 1, none⟩ (.int .i64 n)).setCell ⟨gf, 2, none⟩ (.int .i64 u)) gf 26 #[.string L.id, .int .i64 n, .int .i64 u, .int .i64 L.f, .slice A L.S.length c] := (f8.set_ 1 (.int .i64 n)).set_ 2 (.int .i64 u)
      have k9 := (k8.far (p := ⟨gf, 1, none⟩) nk (.int .i64 n)).far (p := ⟨gf, 2, none⟩) nk (.int .i64 u)
      have m9 := (m8.far (p := ⟨gf, 1, none⟩) nm (.int .i64 n)).far (p := ⟨gf, 2, none⟩) nm (.int .i64 u)
      have hb9 := (hb8.setCell (p := ⟨gf, 1, none⟩) gek (.int .i64 n)).setCell (p := ⟨gf, 2, none⟩) gek (.int .i64 u)
      have hc9 := (hc8.setCell (p := ⟨gf, 1, none⟩) gec (.int .i64 n)).setCell (p := ⟨gf, 2, none⟩) gec (.int .i64 u)
      go_upto_region 13 with fail
      clear t0 t1 v0 v1 k8 s8 m8 f8 hb8 hc8
      generalize (w8.setCell ⟨gf, 1, none⟩ (.int .i64 n)).setCell ⟨gf, 2, none⟩ (.int .i64 u) = w9 at *
      obtain ⟨v0, v1, -⟩ := f9.all
      go_wp2_with fail
      have hdue := due_any w9 ⟨L.id, n, u, L.f, L.S⟩ gm A c ⟨(HX3.out.below hc9).1, HX3.out.2⟩ (Nat.le_trans gmle (by have := hc9.size; omega)) C l cl (HA3.out.below hc9) (by omega) HW.out
      rw [HG.out] at hdue
      refine hdue.mono ?_
      rintro e wa ⟨rfl, b⟩
      have ka := k9.below b k9.lt
      have ma := m9.below b m9.lt
      have fa := f9.below b f9.lt
      have hba := hb9.trans (b.mono hb9.size)
      have hca := hc9.trans (b.mono (Nat.le_trans gmle hc9.size))
      clear b hdue k9 m9 f9 hb9 hc9 v0 v1
      obtain ⟨t0, t1, -⟩ := ka.all
      have gb := Blk.new wa 26 #[.string L.id, .int .i64 L.n, .int .i64 L.u, .int .i64 L.f, .slice A L.S.length c]
      have kb := ka.alloc (.cells #[.string L.id, .int .i64 L.n, .int .i64 L.u, .int .i64 L.f, .slice A L.S.length c] 26)
      have mb := ma.alloc (.cells #[.string L.id, .int .i64 L.n, .int .i64 L.u, .int .i64 L.f, .slice A L.S.length c] 26)
      have fb := fa.alloc (.cells #[.string L.id, .int .i64 L.n, .int .i64 L.u, .int .i64 L.f, .slice A L.S.length c] 26)
      have hbb := hba.alloc hba.size (.cells #[.string L.id, .int .i64 L.n, .int .i64 L.u, .int .i64 L.f, .slice A L.S.length c] 26)
      have hcb := hca.alloc (Nat.le_trans gmle hca.size) (.cells #[.string L.id, .int .i64 L.n, .int .i64 L.u, .int .i64 L.f, .slice A L.S.length c] 26)
      have nk2 : w.heap.size ≠ wa.heap.size := Nat.ne_of_lt ka.lt
      have nf2 : gf ≠ wa.heap.size := Nat.ne_of_lt fa.lt
      have nm2 : gm ≠ wa.heap.size := Nat.ne_of_lt ma.lt
      have gek2 := hba.size
      have gec2 := Nat.le_trans gmle hca.size
      go_upto_region 15 with fail
      clear t0 t1 ka ma fa hba hca
      generalize wa.alloc (.cells #[.string L.id, .int .i64 L.n, .int .i64 L.u, .int .i64 L.f, .slice A L.S.length c] 26) = wb at *
      generalize wa.heap.size = gs at *
      have mbD := mb.drew
      refine wp_region_bush (fun V => Blk V gm 26 #[.string L.id, .int .i64 N, .int .i64 U, .int .i64 F, .slice A' L.S.length c']) [0, 1, 2, 3, 4] 1 [] [6, 7] (by kernel_rfl) (by kernel_rfl) (fun _ d _ _ _ h => by cases d <;> exact h) mb ?_
      simp only [pick, List.drop_succ_cons, List.drop_zero, List.head?_cons, Option.toList_some, List.cons_append, List.nil_append, List.append_nil]
      repeat (refine wpHeld_step ?_ rfl ?_ ?_; rotate_left; · (intro V hV; obtain ⟨x0, x1, x2⟩ := Blk.all hV; go_simp; with_reducible rfl))
      refine wpHeld_nil ?_
      have gD := gb.drew
      have kD := kb.drew
      have fD := fb.drew
      have bD := hbb.drew
      have cD := hcb.drew
      clear gb kb mb fb hbb hcb
      generalize wb.drew = V at *
      obtain ⟨x0, x1, x2⟩ := gD.all
      refine wpBush_one 5 (by kernel_rfl) ?_
      simp only [pick, List.drop_succ_cons, List.drop_zero, List.head?_cons, Option.toList_some, List.append_nil]
      go_wp2_with fail
      have gE : Blk (V.setCell ⟨gs, 3, none⟩ (.int .i64 F)) gs 26 #[.string L.id, .int .i64 L.n, .int .i64 L.u, .int .i64 F, .slice A L.S.length c] := gD.set_ 3 (.int .i64 F)
      have kE := kD.far (p := ⟨gs, 3, none⟩) nk2 (.int .i64 F)
      have mE := mbD.far (p := ⟨gs, 3, none⟩) nm2 (.int .i64 F)
      have fE := fD.far (p := ⟨gs, 3, none⟩) nf2 (.int .i64 F)
      have bE := bD.setCell (p := ⟨gs, 3, none⟩) gek2 (.int .i64 F)
      have cE := cD.setCell (p := ⟨gs, 3, none⟩) gec2 (.int .i64 F)
      refine ⟨mE, ?_⟩
      clear gD kD mbD fD bD cD x0 x1 x2
      generalize V.setCell ⟨gs, 3, none⟩ (.int .i64 F) = V2 at *
      refine wpBush_end (by kernel_rfl) (by kernel_rfl) (by kernel_rfl) ?_
      simp only [pick, List.drop_succ_cons, List.drop_zero, List.head?_cons, Option.toList_some, List.cons_append, List.nil_append, List.append_nil]
      refine wpHeld_nil ?_
      obtain ⟨x0, x1, x2⟩ := gE.all
      have gG : Blk ((V2.setCell ⟨gs, 1, none⟩ (.int .i64 N)).setCell ⟨gs, 2, none⟩ (.int .i64 U)) gs 26 #[.string L.id, .int .i64 N, .int .i64 U, .int .i64 F, .slice A L.S.length c] := (gE.set_ 1 (.int .i64 N)).set_ 2 (.int .i64 U)
      have kG := (kE.far (p := ⟨gs, 1, none⟩) nk2 (.int .i64 N)).far (p := ⟨gs, 2, none⟩) nk2 (.int .i64 U)
      have mG := (mE.far (p := ⟨gs, 1, none⟩) nm2 (.int .i64 N)).far (p := ⟨gs, 2, none⟩) nm2 (.int .i64 U)
      have fG := (fE.far (p := ⟨gs, 1, none⟩) nf2 (.int .i64 N)).far (p := ⟨gs, 2, none⟩) nf2 (.int .i64 U)
      have bG := (bE.setCell (p := ⟨gs, 1, none⟩) gek2 (.int .i64 N)).setCell (p := ⟨gs, 2, none⟩) gek2 (.int .i64 U)
      have cG := (cE.setCell (p := ⟨gs, 1, none⟩) gec2 (.int .i64 N)).setCell (p := ⟨gs, 2, none⟩) gec2 (.int .i64 U)
      obtain ⟨v0, v1, -⟩ := gG.all
      obtain ⟨u0, u1, -⟩ := mG.all
      go_wp2_with fail
      clear x0 x1 x2 v0 v1 u0 u1 gE kE mE fE bE cE
      generalize (V2.setCell ⟨gs, 1, none⟩ (.int .i64 N)).setCell ⟨gs, 2, none⟩ (.int .i64 U) = W at *
      have hsm := same_yes W ⟨L.id, N, U, F, L.S⟩ gm A A' c c' ⟨(HX3.out.below cG).1, HX3.out.2⟩ (HM2.out.below cG) (Nat.le_trans gmle cG.size)
      refine hsm.mono ?_
      rintro e wc ⟨rfl, b⟩
      have mc := mG.below b mG.lt
      have fc := fG.below b fG.lt
      have hbc := bG.trans (b.mono bG.size)
      have hcc := cG.trans (b.mono (Nat.le_trans gmle cG.size))
      clear b hsm gG kG mG fG bG cG
      obtain ⟨v0, v1, -⟩ := mc.all
      obtain ⟨u0, u1, -⟩ := fc.all
      by_cases hlt2 : g1 < day + least
      · have d9 : decide (g1 < day + least) = true := decide_eq_true hlt2
        go_wp2
        go_ret
        exact ⟨rfl, hbc⟩
      · have d9 : decide (g1 < day + least) = false := decide_eq_false hlt2
        obtain ⟨e1, e2, e3⟩ := HOR.out.resolve_left hlt2
        subst e1 e2 e3
        go_wp2_with fail
        have hsm := same_yes wc ⟨L.id, N, U, L.f, L.S⟩ gm A' A c' c (HM2.out.below hcc) ⟨(HX3.out.below hcc).1, HX3.out.2⟩ (Nat.le_trans gmle hcc.size)
        refine hsm.mono ?_
        rintro e wd ⟨rfl, b⟩
        replace hbc := hbc.trans (b.mono hbc.size)
        clear b hsm mc fc v0 v1 u0 u1
        go_wp2
        go_ret
        exact ⟨rfl, hbc⟩
end Go.Proofs.Ytogjcejiojmmbaa
