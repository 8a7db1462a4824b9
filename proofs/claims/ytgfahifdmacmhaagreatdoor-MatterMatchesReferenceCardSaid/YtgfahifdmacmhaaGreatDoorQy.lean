/- Package matter's Valid. -/
import Derived.Test.YtgfahifdmacmhaaGreatDoorQx
namespace Go.Proofs.YtgfahifdmacmhaaGreatDoor
open Go.RowKit Go.Shelf

/-- A domain in memory. -/
structure DmAt (w : World) (B : Nat) (d : List Fc) (A : Option Addr) : Prop where
  at_ : FcsAt w B A d
  nm : ∀ f ∈ d, f.name.size ≤ 9223372036854775807
theorem DmAt.below {w w' : World} {B : Nat} {d : List Fc} {A : Option Addr} (h : DmAt w B d A) (hb : Below B w w') : DmAt w' B d A := ⟨h.at_.below hb, h.nm⟩

set_option maxRecDepth 100000 in
set_option maxHeartbeats 8000000 in
theorem valid_any (w : World) (B : Nat) (m : Mt) (x : MtX) (h : MtAt w B m x) (hB : B ≤ w.heap.size) (hs : Sml m) (p : Pc) (y : PcX) (hp : PcAt w B p y) (hsp : SmlP p) (dm : List Fc) (e1 : Option Addr) (e2 : Nat) (hd : DmAt w B dm e1) (hdl : dm.length ≤ 1000000) :
    Calls Tryz.prog 25 #[.agg (mtC m x), .agg (pcC p y), .agg #[.slice e1 dm.length e2]] w fun e w' => e = .returned (.bool (vldB m p dm)) ∧ Below w.heap.size w w' := by
  obtain ⟨V, hV⟩ : ∃ V, vldB m p dm = V := ⟨_, rfl⟩
  rw [hV]
  have HV := Lib.hid hV
  clear hV
  have hfo := fun W (hb : Below w.heap.size w W) => formed_any W B _ _ (h.below (hb.mono hB)) (Nat.le_trans hB hb.size) hs
  have hpr := fun W (hb : Below w.heap.size w W) => proper_p W B _ _ (hp.below (hb.mono hB)) (Nat.le_trans hB hb.size) hsp
  have hdv := fun W (hb : Below w.heap.size w W) => fvalid_any W B e1 dm e2 (hd.below (hb.mono hB)).at_ (Nat.le_trans hB hb.size) (by omega) hd.nm
  have hft := fun W (hb : Below w.heap.size w W) => fits_any W B e1 dm e2 (hd.below (hb.mono hB)).at_ (Nat.le_trans hB hb.size) (by omega) hd.nm x.a1 m.cs x.c1 (h.below (hb.mono hB)).cs
  have s5 := hsp.1
  obtain ⟨id, o, cs, pr, st, mv, rs, ls⟩ := m
  obtain ⟨a1, c1, a2, c2, a3, c3, a4, c4, lv⟩ := x
  obtain ⟨name, ss, ms⟩ := p
  obtain ⟨b1, d1, b2, d2⟩ := y
  simp only at s5 hft
  show Calls Tryz.prog 25 #[.agg #[.string id, .int .i64 o, .slice a1 cs.length c1, .string pr, .int .i64 st, .slice a2 mv.length c2, .slice a3 rs.length c3, .slice a4 ls.length c4], .agg #[.string name, .slice b1 ss.length d1, .slice b2 ms.length d2], .agg #[.slice e1 dm.length e2]] w _
  have hfo2 : ∀ W, Below w.heap.size w W → Calls Tryz.prog 30 #[.agg #[.string id, .int .i64 o, .slice a1 cs.length c1, .string pr, .int .i64 st, .slice a2 mv.length c2, .slice a3 rs.length c3, .slice a4 ls.length c4]] W fun e w' => e = .returned (.bool (fmB ⟨id, o, cs, pr, st, mv, rs, ls⟩)) ∧ Below W.heap.size W w' := hfo
  have hpr2 : ∀ W, Below w.heap.size w W → Calls Tryz.prog 23 #[.agg #[.string name, .slice b1 ss.length d1, .slice b2 ms.length d2]] W fun e w' => e = .returned (.bool (pcB ⟨name, ss, ms⟩)) ∧ Below W.heap.size W w' := hpr
  have hb := ((below_self_alloc w (.cells #[.string id, .int .i64 o, .slice a1 cs.length c1, .string pr, .int .i64 st, .slice a2 mv.length c2, .slice a3 rs.length c3, .slice a4 ls.length c4] 27)).alloc (by simp) (.cells #[.string name, .slice b1 ss.length d1, .slice b2 ms.length d2] 46)).alloc (by simp; omega) (.cells #[.slice e1 dm.length e2] 52)
  have kx := ((Blk.new w 27 #[.string id, .int .i64 o, .slice a1 cs.length c1, .string pr, .int .i64 st, .slice a2 mv.length c2, .slice a3 rs.length c3, .slice a4 ls.length c4]).alloc (.cells #[.string name, .slice b1 ss.length d1, .slice b2 ms.length d2] 46)).alloc (.cells #[.slice e1 dm.length e2] 52)
  have kp := (Blk.new1 w (.cells #[.string id, .int .i64 o, .slice a1 cs.length c1, .string pr, .int .i64 st, .slice a2 mv.length c2, .slice a3 rs.length c3, .slice a4 ls.length c4] 27) 46 #[.string name, .slice b1 ss.length d1, .slice b2 ms.length d2]).alloc (.cells #[.slice e1 dm.length e2] 52)
  have kd := Blk.new2 w (.cells #[.string id, .int .i64 o, .slice a1 cs.length c1, .string pr, .int .i64 st, .slice a2 mv.length c2, .slice a3 rs.length c3, .slice a4 ls.length c4] 27) (.cells #[.string name, .slice b1 ss.length d1, .slice b2 ms.length d2] 46) 52 #[.slice e1 dm.length e2]
  have HFO := Lib.hid hfo2
  have HPR := Lib.hid hpr2
  have HDV := Lib.hid hdv
  have HFT := Lib.hid hft
  clear hfo hfo2 hpr hpr2 hdv hft h hp hs hsp hd
  obtain ⟨t0, t1, t2⟩ := kx.all
  go_enter Tryz.func25, Tryz.ntmps25
  go_upto_region 1 with fail
  generalize ((w.alloc (.cells #[.string id, .int .i64 o, .slice a1 cs.length c1, .string pr, .int .i64 st, .slice a2 mv.length c2, .slice a3 rs.length c3, .slice a4 ls.length c4] 27)).alloc (.cells #[.string name, .slice b1 ss.length d1, .slice b2 ms.length d2] 46)).alloc (.cells #[.slice e1 dm.length e2] 52) = W0 at *
  have HB0 := Lib.hid hb
  have KX := Lib.hid kx
  have KP := Lib.hid kp
  have KD := Lib.hid kd
  have hf := HFO.out W0 hb
  clear hb kx kp kd
  cases h1 : fmB ⟨id, o, cs, pr, st, mv, rs, ls⟩ with
  | false =>
    rw [h1] at hf
    have HF := Lib.hid hf
    clear hf
    go_wp2_with fail
    refine HF.out.mono ?_
    rintro e w1 ⟨rfl, b1⟩
    have hb1 := HB0.out.trans (b1.mono HB0.out.size)
    obtain rfl : false = V := by rw [← HV.out]; unfold vldB; simp [h1]
    clear t0 t1 t2
    go_wp2
    go_ret
    exact ⟨rfl, hb1⟩
  | true =>
    rw [h1] at hf
    have HF := Lib.hid hf
    have H1 := Lib.hid h1
    clear hf h1
    go_wp2_with fail
    refine HF.out.mono ?_
    rintro e w1 ⟨rfl, b1⟩
    have HB1 := Lib.hid (HB0.out.trans (b1.mono HB0.out.size))
    have KX1 := Lib.hid (KX.out.below b1 KX.out.lt)
    have KP1 := Lib.hid (KP.out.below b1 KP.out.lt)
    have KD1 := Lib.hid (KD.out.below b1 KD.out.lt)
    clear b1 t0 t1 t2
    obtain ⟨u0, u1, u2⟩ := KP1.out.all
    have hq := HPR.out w1 HB1.out
    cases h2 : pcB ⟨name, ss, ms⟩ with
    | false =>
      rw [h2] at hq
      have HQ := Lib.hid hq
      clear hq
      go_wp2_with fail
      refine HQ.out.mono ?_
      rintro e w2 ⟨rfl, b2⟩
      have hb2 := HB1.out.trans (b2.mono HB1.out.size)
      obtain rfl : false = V := by rw [← HV.out]; unfold vldB; simp [h2]
      clear u0 u1 u2
      go_wp2
      go_ret
      exact ⟨rfl, hb2⟩
    | true =>
      rw [h2] at hq
      have HQ := Lib.hid hq
      have H2 := Lib.hid h2
      clear hq h2
      go_wp2_with fail
      refine HQ.out.mono ?_
      rintro e w2 ⟨rfl, b2⟩
      have HB2 := Lib.hid (HB1.out.trans (b2.mono HB1.out.size))
      have KX2 := Lib.hid (KX1.out.below b2 KX1.out.lt)
      have KP2 := Lib.hid (KP1.out.below b2 KP1.out.lt)
      have KD2 := Lib.hid (KD1.out.below b2 KD1.out.lt)
      clear b2 u0 u1 u2
      obtain ⟨v0, v1, v2⟩ := KD2.out.all
      have hdd := HDV.out w2 HB2.out
      cases h3 : dmB dm with
      | false =>
        rw [h3] at hdd
        have HD := Lib.hid hdd
        clear hdd
        go_wp2_with fail
        refine HD.out.mono ?_
        rintro e w3 ⟨rfl, b3⟩
        have hb3 := HB2.out.trans (b3.mono HB2.out.size)
        obtain rfl : false = V := by rw [← HV.out]; unfold vldB; simp [h3]
        clear v0 v1 v2
        go_wp2
        go_ret
        exact ⟨rfl, hb3⟩
      | true =>
        rw [h3] at hdd
        have HD := Lib.hid hdd
        have H3 := Lib.hid h3
        clear hdd h3
        go_wp2_with fail
        refine HD.out.mono ?_
        rintro e w3 ⟨rfl, b3⟩
        have HB3 := Lib.hid (HB2.out.trans (b3.mono HB2.out.size))
        have KX3 := Lib.hid (KX2.out.below b3 KX2.out.lt)
        have KP3 := Lib.hid (KP2.out.below b3 KP2.out.lt)
        have KD3 := Lib.hid (KD2.out.below b3 KD2.out.lt)
        clear b3 v0 v1 v2
        obtain ⟨t0, t1, t2⟩ := KX3.out.all
        obtain ⟨u0, u1, u2⟩ := KP3.out.all
        obtain ⟨v0, v1, v2⟩ := KD3.out.all
        by_cases h4 : pr = name
        · have HNM := Lib.hid h4
          have e4 : (pr.toList == name.toList) = true := by rw [h4]; simp
          clear h4
          by_cases h5 : st < (ss.length : Int)
          · have hfit := HFT.out w3 HB3.out
            cases h6 : fitB dm cs with
            | false =>
              rw [h6] at hfit
              have HF2 := Lib.hid hfit
              clear hfit
              go_wp2_with fail
              refine HF2.out.mono ?_
              rintro e w4 ⟨rfl, b4⟩
              have hb4 := HB3.out.trans (b4.mono HB3.out.size)
              obtain rfl : false = V := by rw [← HV.out]; unfold vldB; simp [h6]
              clear t0 t1 t2 u0 u1 u2 v0 v1 v2
              go_wp2
              go_ret
              exact ⟨rfl, hb4⟩
            | true =>
              rw [h6] at hfit
              have HF2 := Lib.hid hfit
              obtain rfl : true = V := by rw [← HV.out]; unfold vldB; rw [H1.out, H2.out, H3.out, h6, decide_eq_true (show pr = name from HNM.out), decide_eq_true (show st < (ss.length : Int) from h5)]; rfl
              clear hfit
              go_wp2_with fail
              refine HF2.out.mono ?_
              rintro e w4 ⟨rfl, b4⟩
              have hb4 := HB3.out.trans (b4.mono HB3.out.size)
              clear t0 t1 t2 u0 u1 u2 v0 v1 v2
              go_wp2
              go_ret
              exact ⟨rfl, hb4⟩
          · have d5 : decide (st < (ss.length : Int)) = false := decide_eq_false h5
            have hb3 := HB3.out
            obtain rfl : false = V := by rw [← HV.out]; unfold vldB; simp [h5]
            have h5p : (ss.length : Int) ≤ st := by omega
            clear h5
            go_wp2
            go_ret
            exact ⟨rfl, hb3⟩
        · have e4 := str_no h4
          have hb3 := HB3.out
          obtain rfl : false = V := by rw [← HV.out]; unfold vldB; simp [h4]
          clear h4
          go_wp2
          go_ret
          exact ⟨rfl, hb3⟩
end Go.Proofs.YtgfahifdmacmhaaGreatDoor
