/- The walk of LimitStops. -/
import Derived.Test.YtogjcejiojmmbaaTEp
namespace Go.Proofs.Ytogjcejiojmmbaa
open Go.RowKit Go.Shelf

set_option maxRecDepth 100000 in
/-- A stop as an argument: two ints. -/
theorem stop_at {H : Type} {enc : TypeId × Value → H} {w : World} {base : Nat} {spare : Nat → Bool} {held : Bool} {v : Value} {d : DataW H} {p : List MemPlace} {cs : Array Value}
    (hv : v = .agg cs) (hsz : cs.size = Try.prog.cellsOf 28)
    (h : DataW.Trod enc Try.prog w base spare held 28 v d p) : ∃ x : Int × Int, v = .agg #[.int .i64 x.1, .int .i64 x.2] ∧ (Lit.int .i64 x.1).wf = true ∧ (Lit.int .i64 x.2).wf = true := by
  subst hv
  have h2 : Try.prog.cellsOf 28 = 2 := by kernel_rfl
  rw [h2] at hsz
  obtain ⟨fuel, hf⟩ := h
  have hc : (Value.agg cs).cells.toList = cs.toList := rfl
  rw [hc] at hf
  obtain ⟨c0, c1, hcs⟩ : ∃ c0 c1, cs = #[c0, c1] := by
    obtain ⟨l⟩ := cs
    match l, hsz with
    | [c0, c1], _ => exact ⟨c0, c1, rfl⟩
  subst hcs
  obtain ⟨xs, n, _, hx, hl, hlen, hfl⟩ := DataW.trod_struct Try.underlying28 hf
  have g : ∀ i, i < xs.length → ∃ y, xs[i]? = some y := fun i hi => ⟨_, List.getElem?_eq_getElem hi⟩
  have hlen2 : xs.length = 2 := hlen
  obtain ⟨y0, e0⟩ := g 0 (by omega)
  obtain ⟨y1, e1⟩ := g 1 (by omega)
  have t0 := (hfl 0 _ rfl).trans e0
  have t1 := (hfl 1 _ rfl).trans e1
  obtain ⟨k0, h0, _, w0⟩ := DataW.trod_int Try.underlying3 t0
  obtain ⟨k1, h1, _, w1⟩ := DataW.trod_int Try.underlying3 t1
  have q0 : c0 = .int .i64 k0 := by injection h0
  have q1 : c1 = .int .i64 k1 := by injection h1
  exact ⟨(k0, k1), by rw [q0, q1], w0, w1⟩

theorem pause_cases (L : Lm) (s : Stp2) (hl : L.S.length ≤ 9) : pauseS L s = (Lm.zero, 1) ∨ (psB s = true ∧ pauseS L s = (⟨L.id, L.n, L.u, L.f, L.S ++ [s]⟩, 0)) := by
  unfold pauseS
  by_cases h : (prB L && psB s) = true
  · rw [if_pos h, if_neg (by omega)]
    rw [Bool.and_eq_true] at h
    exact .inr ⟨h.2, rfl⟩
  · rw [if_neg h]
    exact .inl rfl

set_option maxRecDepth 100000 in
set_option maxHeartbeats 4000000 in
theorem stops_walk (w : World) (x : Lm × Option Addr × Nat) (hx : LmAt w w.heap.size x.2.1 x.1) (s : Stp2) (hsw : (Lit.int .i64 s.1).wf = true ∧ (Lit.int .i64 s.2).wf = true) (C : Option Addr) (cl : Nat) (l : List Int) (h : Ints w w.heap.size C l) :
    Calls Try.prog 6 #[.agg (x.1.cells x.2.1 x.2.2), .agg #[.int .i64 s.1, .int .i64 s.2], .slice C l.length cl] w fun e w' => e = .returned (.bool true) ∧ Below w.heap.size w w' := by
  obtain ⟨hA, hw, hl⟩ := h
  obtain ⟨L, A, c⟩ := x
  obtain ⟨p, q⟩ := s
  obtain ⟨⟨p0, p1⟩, ⟨q0, q1⟩⟩ := And.intro (wf64_lit.1 hsw.1) (wf64_lit.1 hsw.2)
  simp only at hx p0 p1 q0 q1
  have HA := Lib.hid hA
  have HW := Lib.hid hw
  have HX := Lib.hid hx
  clear hA hw hx hsw
  have e0 : Array.size #[Value.string L.id] = 1 := rfl
  show Calls Try.prog 6 #[.agg #[.string L.id, .int .i64 L.n, .int .i64 L.u, .int .i64 L.f, .slice A L.S.length c], .agg #[.int .i64 p, .int .i64 q], .slice C l.length cl] w _
  have hb := ((Below.refl w.heap.size w).alloc (Nat.le_refl _) (.cells #[.string L.id, .int .i64 L.n, .int .i64 L.u, .int .i64 L.f, .slice A L.S.length c] 26)).alloc (by simp) (.cells #[.int .i64 p, .int .i64 q] 28)
  have k0 := (Blk.new w 26 #[.string L.id, .int .i64 L.n, .int .i64 L.u, .int .i64 L.f, .slice A L.S.length c]).alloc (.cells #[.int .i64 p, .int .i64 q] 28)
  have s0 := Blk.new1 w (.cells #[.string L.id, .int .i64 L.n, .int .i64 L.u, .int .i64 L.f, .slice A L.S.length c] 26) 28 #[.int .i64 p, .int .i64 q]
  clear e0
  go_enter Try.func6, Try.ntmps6
  go_wp2_with fail
  refine (head_any _).mono ?_
  rintro e w1 ⟨rfl, b⟩
  have k1 := k0.below b k0.lt
  have s1 := s0.below b s0.lt
  replace hb := hb.trans (b.mono hb.size)
  clear b k0 s0
  generalize hgs : w.heap.size + 1 = gs at *
  have hgs2 : w.heap.size ≤ gs := by omega
  clear hgs
  obtain ⟨t0, t1, -⟩ := k1.all
  obtain ⟨r, hr⟩ : ∃ r, frB L l.length = r := ⟨_, rfl⟩
  have hfew := few_any w1 L w.heap.size A c (HX.out.below hb) hb.size C l.length cl hl
  rw [hr] at hfew
  have HF := Lib.hid hfew
  clear hfew
  go_wp2_with fail
  refine HF.out.mono ?_
  rintro e w2 ⟨rfl, b⟩
  have k2 := k1.below b k1.lt
  have s2 := s1.below b s1.lt
  replace hb := hb.trans (b.mono hb.size)
  clear b HF k1 s1 t0 t1
  obtain ⟨t0, t1, -⟩ := k2.all
  obtain ⟨v0, v1, -⟩ := s2.all
  cases r with
  | false =>
    clear hr
    go_wp2
    go_ret
    exact ⟨rfl, hb⟩
  | true =>
    have hm := (frB_iff.1 hr).2.2.2.2
    clear hr
    by_cases c1 : p < 0
    · have d1 : decide (p < 0) = true := decide_eq_true c1
      go_wp2
      go_ret
      exact ⟨rfl, hb⟩
    have d1 : decide (p < 0) = false := decide_eq_false c1
    by_cases c2 : 1000000 < q
    · have d2 : decide (1000000 < q) = true := decide_eq_true c2
      go_wp2
      go_ret
      exact ⟨rfl, hb⟩
    have d2 : decide (1000000 < q) = false := decide_eq_false c2
    by_cases c3 : 2000 < wrap64 (q - p)
    · have d3 : decide (2000 < wrap64 (q - p)) = true := decide_eq_true c3
      go_wp2
      go_ret
      exact ⟨rfl, hb⟩
    have d3 : decide (2000 < wrap64 (q - p)) = false := decide_eq_false c3
    by_cases c4 : 9 < L.S.length
    · have d4 : decide ((9 : Int) < (L.S.length : Int)) = true := decide_eq_true (by omega)
      go_wp2
      go_ret
      exact ⟨rfl, hb⟩
    have d4 : decide ((9 : Int) < (L.S.length : Int)) = false := decide_eq_false (by omega)
    clear c3
    go_wp2_with fail
    clear d1 d2 d3 d4
    have hpa := pause_any w2 L (p, q) w.heap.size A c (HX.out.below hb) hb.size
    rcases pause_cases L (p, q) (by omega) with hpc | ⟨hps, hpc⟩
    · rw [hpc] at hpa
      have HPA := Lib.hid hpa
      clear hpa hpc
      refine HPA.out.mono ?_
      rintro e w3 ⟨A', c', he, -, b⟩
      obtain rfl : e = .returned (.tuple #[.agg #[.string ⟨#[]⟩, .int .i64 0, .int .i64 0, .int .i64 0, .slice A' 0 c'], .int .i64 1]) := he
      have k3 := k2.below b k2.lt
      replace hb := hb.trans (b.mono hb.size)
      clear b k2 s2 t0 t1 v0 v1 HPA
      obtain ⟨a1, a2, hq⟩ : ∃ a1 a2, dueS L l = (a1, a2) := ⟨_, _, rfl⟩
      have hbm := hb.alloc hb.size (.cells #[.string ⟨#[]⟩, .int .i64 0, .int .i64 0, .int .i64 0, .slice A' 0 c'] 26)
      have km := k3.alloc (.cells #[.string ⟨#[]⟩, .int .i64 0, .int .i64 0, .int .i64 0, .slice A' 0 c'] 26)
      obtain ⟨t0, t1, -⟩ := km.all
      have HQ := Lib.hid hq
      clear hq k3 hb
      go_wp2_with fail
      have hdue := due_any _ L w.heap.size A c (HX.out.below hbm) hbm.size C l cl (HA.out.below hbm) (by omega) HW.out
      rw [HQ.out] at hdue
      refine hdue.mono ?_
      rintro e w4 ⟨rfl, b⟩
      replace hb := hbm.trans (b.mono hbm.size)
      clear b hdue km t0 t1 hbm
      go_wp2
      go_ret
      exact ⟨rfl, hb⟩
    · rw [hpc] at hpa
      have HPA := Lib.hid hpa
      clear hpa hpc
      refine HPA.out.mono ?_
      rintro e w3 ⟨A', c', he, hst, b⟩
      obtain ⟨ml, hml⟩ : ∃ ml, (L.S ++ [(p, q)]).length = ml := ⟨_, rfl⟩
      obtain rfl : e = .returned (.tuple #[.agg #[.string L.id, .int .i64 L.n, .int .i64 L.u, .int .i64 L.f, .slice A' ml c'], .int .i64 0]) := by rw [← hml]; exact he
      have HML := Lib.hid hml
      clear he hml
      have k3 := k2.below b k2.lt
      have s3 := s2.below b s2.lt
      replace hb := hb.trans (b.mono hb.size)
      clear b k2 s2 t0 t1 v0 v1 HPA
      simp only at hst
      have hidl := HX.out.2.1
      have HM := Lib.hid (show LmAt w3 w3.heap.size A' ⟨L.id, L.n, L.u, L.f, L.S ++ [(p, q)]⟩ from ⟨hst, hidl, by show (L.S ++ [(p, q)]).length ≤ _; simp; omega⟩)
      have hbc := Below.refl w3.heap.size w3
      have HA2 := Lib.hid ((HA.out.below hb).wide hb.size)
      have HX2 := Lib.hid (show LmAt w3 w3.heap.size A L from ⟨(HX.out.below hb).1.wide hb.size, HX.out.2⟩)
      obtain ⟨a1, a2, hq⟩ : ∃ a1 a2, dueS L l = (a1, a2) := ⟨_, _, rfl⟩
      obtain ⟨b1, b2, hr⟩ : ∃ b1 b2, dueS ⟨L.id, L.n, L.u, L.f, L.S ++ [(p, q)]⟩ l = (b1, b2) := ⟨_, _, rfl⟩
      have HQ := Lib.hid hq
      have HR := Lib.hid hr
      obtain ⟨ps0, ps1, ps2⟩ := psB_iff.1 hps
      simp only at ps0 ps1 ps2
      have HPS := Lib.hid hps
      have HL9 := Lib.hid (show L.S.length ≤ 9 by omega)
      clear hst hq hr hps hidl p0 p1 q0 q1 c1 c2 c4
      have hbm := hb.alloc hb.size (.cells #[.string L.id, .int .i64 L.n, .int .i64 L.u, .int .i64 L.f, .slice A' ml c'] 26)
      have hcm := hbc.alloc (Nat.le_refl _) (.cells #[.string L.id, .int .i64 L.n, .int .i64 L.u, .int .i64 L.f, .slice A' ml c'] 26)
      have km := k3.alloc (.cells #[.string L.id, .int .i64 L.n, .int .i64 L.u, .int .i64 L.f, .slice A' ml c'] 26)
      have sm := s3.alloc (.cells #[.string L.id, .int .i64 L.n, .int .i64 L.u, .int .i64 L.f, .slice A' ml c'] 26)
      have mx := Blk.new w3 26 #[.string L.id, .int .i64 L.n, .int .i64 L.u, .int .i64 L.f, .slice A' ml c']
      obtain ⟨t0, t1, -⟩ := km.all
      go_wp2_with fail
      clear k3 s3 hb hbc t0 t1 hgs2
      generalize w3.alloc (.cells #[.string L.id, .int .i64 L.n, .int .i64 L.u, .int .i64 L.f, .slice A' ml c'] 26) = X at *
      have hdue := due_any X L w.heap.size A c (HX.out.below hbm) hbm.size C l cl (HA.out.below hbm) (by omega) HW.out
      rw [HQ.out] at hdue
      refine hdue.mono ?_
      rintro e w4 ⟨rfl, b⟩
      have k4 := km.below b km.lt
      have s4 := sm.below b sm.lt
      have m4 := mx.below b mx.lt
      have hb := hbm.trans (b.mono hbm.size)
      have hc := hcm.trans (b.mono hcm.size)
      clear b hdue km sm mx hbm hcm
      obtain ⟨t0, t1, -⟩ := m4.all
      by_cases hz : a2 = 0
      case neg =>
        have hz2 : (a2 != 0) = true := by simpa using hz
        go_wp2
        go_ret
        exact ⟨rfl, hb⟩
      subst hz
      obtain ⟨r, hr⟩ : ∃ r, frB ⟨L.id, L.n, L.u, L.f, L.S ++ [(p, q)]⟩ l.length = r := ⟨_, rfl⟩
      have hfew := few_any w4 ⟨L.id, L.n, L.u, L.f, L.S ++ [(p, q)]⟩ _ A' c' (HM.out.below hc) hc.size C l.length cl hl
      rw [hr] at hfew
      simp only [Lm.cells, HML.out] at hfew
      have HF := Lib.hid hfew
      clear hfew hr
      go_wp2_with fail
      refine HF.out.mono ?_
      rintro e w5 ⟨rfl, b⟩
      have k5 := k4.below b k4.lt
      have s5 := s4.below b s4.lt
      have m5 := m4.below b m4.lt
      replace hb := hb.trans (b.mono hb.size)
      replace hc := hc.trans (b.mono hc.size)
      clear b HF k4 s4 m4 t0 t1
      obtain ⟨t0, t1, -⟩ := m5.all
      cases r with
      | false =>
        go_wp2
        go_ret
        exact ⟨rfl, hb⟩
      | true =>
        go_wp2_with fail
        have hdue := due_any w5 ⟨L.id, L.n, L.u, L.f, L.S ++ [(p, q)]⟩ _ A' c' (HM.out.below hc) hc.size C l cl (HA2.out.below hc) (by omega) HW.out
        rw [HR.out] at hdue
        simp only [Lm.cells, HML.out] at hdue
        refine hdue.mono ?_
        rintro e w6 ⟨rfl, b⟩
        have k6 := k5.below b k5.lt
        have s6 := s5.below b s5.lt
        replace hb := hb.trans (b.mono hb.size)
        clear b hdue k5 s5 m5 t0 t1 hc
        obtain ⟨v0, v1, -⟩ := s6.all
        by_cases hz : b2 = 0
        case neg =>
          have h10 : b2 = 10 := by
            have := stops_err (l := l) (by rw [HQ.out]) HPS.out HL9.out
            rw [HR.out] at this
            exact this.resolve_left hz
          subst h10
          go_wp2
          go_ret
          exact ⟨rfl, hb⟩
        subst hz
        have hge := stops_ge (L := L) (s := (p, q)) (l := l) (by rw [HQ.out]) (by rw [HR.out])
        rw [HQ.out, HR.out] at hge
        simp only at hge
        obtain ⟨hge1, hge2⟩ := hge
        have HG := Lib.hid hge2
        clear hge2
        go_wp2_with fail
        clear v0 v1
        go_loopw [14, 15] (fun v i wr => ∃ k : Nat, p + (k : Int) ≤ q ∧ i = .int .i64 (p + (k : Int)) ∧ v = .bool (nonB a1 L.f L.S p k) ∧ Blk wr w.heap.size 26 #[.string L.id, .int .i64 L.n, .int .i64 L.u, .int .i64 L.f, .slice A L.S.length c] ∧ Blk wr gs 28 #[.int .i64 p, .int .i64 q] ∧ Below w.heap.size w wr) (fun _ i _ => (q - intOf i).toNat)
        case atStart => exact ⟨0, by omega, by go_num, rfl, k6, s6, hb⟩
        case round =>
          clear hb k6 s6
          obtain ⟨k, hk, rfl, rfl, k6, s6, hb⟩ := hrel
          obtain ⟨t0, t1, -⟩ := k6.all
          obtain ⟨v0, v1, -⟩ := s6.all
          have hcs : nonB a1 L.f L.S p (k + 1) = (nonB a1 L.f L.S p k && (decide (a1 < p + (k : Int)) || decide (p + (k : Int) ≤ L.f) || pzB L.f L.S (p + (k : Int)))) := rfl
          have HCS := Lib.hid hcs
          clear hcs
          obtain ⟨z, hz⟩ : ∃ z, nonB a1 L.f L.S p k = z := ⟨_, rfl⟩
          have HZ := Lib.hid hz
          rw [hz]
          clear hz
          by_cases hlt : p + (k : Int) < q
          · cases z with
            | false =>
              go_wp2
              go_roundw
              case rel => exact ⟨k + 1, by omega, by go_num, by rw [HCS.out, HZ.out]; rfl, k6, s6, hb⟩
              case measure => simp [intOf]; omega
            | true =>
              by_cases c1 : a1 < p + (k : Int)
              · have d1 : decide (a1 < p + (k : Int)) = true := decide_eq_true c1
                have D1 := Lib.hid d1
                go_wp2
                go_roundw
                case rel => exact ⟨k + 1, by omega, by go_num, by rw [HCS.out, HZ.out, D1.out]; rfl, k6, s6, hb⟩
                case measure => simp [intOf]; omega
              · have d1 : decide (a1 < p + (k : Int)) = false := decide_eq_false c1
                have D1 := Lib.hid d1
                by_cases c2 : p + (k : Int) ≤ L.f
                · have d2 : decide (p + (k : Int) ≤ L.f) = true := decide_eq_true c2
                  have D2 := Lib.hid d2
                  go_wp2
                  go_roundw
                  case rel => exact ⟨k + 1, by omega, by go_num, by rw [HCS.out, HZ.out, D1.out, D2.out]; rfl, k6, s6, hb⟩
                  case measure => simp [intOf]; omega
                · have d2 : decide (p + (k : Int) ≤ L.f) = false := decide_eq_false c2
                  have D2 := Lib.hid d2
                  have hpz := rPaused_any wr L (p + (k : Int)) w.heap.size A c (HX.out.below hb) hb.size
                  obtain ⟨y, hy⟩ : ∃ y, pzB L.f L.S (p + (k : Int)) = y := ⟨_, rfl⟩
                  rw [hy] at hpz
                  have HY := Lib.hid hy
                  have HP := Lib.hid hpz
                  clear hpz hy
                  go_wp2_with fail
                  refine HP.out.mono ?_
                  rintro e w7 ⟨rfl, b⟩
                  have k7 := k6.below b k6.lt
                  have s7 := s6.below b s6.lt
                  replace hb := hb.trans (b.mono hb.size)
                  clear b k6 s6 t0 t1 v0 v1
                  go_wp2
                  go_roundw
                  case rel => exact ⟨k + 1, by omega, by go_num, by rw [HCS.out, HZ.out, D1.out, D2.out, HY.out]; rfl, k7, s7, hb⟩
                  case measure => simp [intOf]; omega
          · have s4 : decide (a1 ≤ b1) = true := decide_eq_true hge1
            cases z with
            | false =>
              go_wp2
              go_ret
              exact ⟨rfl, hb⟩
            | true =>
              have hab : a1 = b1 := HG.out fun i h1 h2 => nonB_all k HZ.out i h1 (by omega)
              clear HG HZ HCS HQ HR
              subst hab
              go_wp2
              go_ret
              exact ⟨rfl, hb⟩
end Go.Proofs.Ytogjcejiojmmbaa
