/- Package matter's Move. -/
import Derived.Test.YtebdkmlganalaaaGreatDoorKTopAccruedQs
namespace Go.Proofs.YtebdkmlganalaaaGreatDoor
open Go.RowKit Go.Shelf

section
variable {m : Mt} {p : Pc} {s day : Int}
/-- What Move asks first. -/
def okM (m : Mt) (p : Pc) (day : Int) : Bool := fmB m && (pcB p && (decide (m.pr = p.name) && (decide (m.st < (p.ss.length : Int)) && isB day)))
theorem moveE1 (h : okM m p day = false) : moveE m p s day = 1 := by unfold okM at h; unfold moveE; rw [h]; rfl
theorem moveE11 (h : okM m p day = true) (h2 : s < 0 ∨ (p.ss.length : Int) ≤ s) : moveE m p s day = 11 := by unfold okM at h; unfold moveE; rw [h, if_neg (by decide), if_pos h2]
theorem moveE12 (h : okM m p day = true) (h2 : ¬ (s < 0 ∨ (p.ss.length : Int) ≤ s)) (h3 : (m.st, s) ∉ p.ms) : moveE m p s day = 12 := by unfold okM at h; unfold moveE; rw [h, if_neg (by decide), if_neg h2, if_pos h3]
theorem moveE24 (h : okM m p day = true) (h2 : ¬ (s < 0 ∨ (p.ss.length : Int) ≤ s)) (h3 : (m.st, s) ∈ p.ms) (h4 : day < m.o ∨ day < lastI m.o m.mv) : moveE m p s day = 24 := by unfold okM at h; unfold moveE; rw [h, if_neg (by decide), if_neg h2, if_neg (by simpa using h3), if_pos h4]
theorem moveE2 (h : okM m p day = true) (h2 : ¬ (s < 0 ∨ (p.ss.length : Int) ≤ s)) (h3 : (m.st, s) ∈ p.ms) (h4 : ¬ (day < m.o ∨ day < lastI m.o m.mv)) (h5 : 60 ≤ m.mv.length) : moveE m p s day = 2 := by unfold okM at h; unfold moveE; rw [h, if_neg (by decide), if_neg h2, if_neg (by simpa using h3), if_neg h4, if_pos h5]
theorem moveE0 (h : okM m p day = true) (h2 : ¬ (s < 0 ∨ (p.ss.length : Int) ≤ s)) (h3 : (m.st, s) ∈ p.ms) (h4 : ¬ (day < m.o ∨ day < lastI m.o m.mv)) (h5 : ¬ 60 ≤ m.mv.length) : moveE m p s day = 0 := by unfold okM at h; unfold moveE; rw [h, if_neg (by decide), if_neg h2, if_neg (by simpa using h3), if_neg h4, if_neg h5]
theorem moveM_bad (h : moveE m p s day ≠ 0) : moveM m p s day = Mt.zero := by unfold moveM; rw [if_neg h]
theorem moveM_ok (h : moveE m p s day = 0) : moveM m p s day = { m with st := s, mv := m.mv ++ [day] } := by unfold moveM; rw [if_pos h]
end

set_option maxRecDepth 100000 in
set_option maxHeartbeats 16000000 in
theorem move_any (w : World) (B : Nat) (m : Mt) (x : MtX) (h : MtAt w B m x) (hB : B ≤ w.heap.size) (hs : Sml m) (p : Pc) (y : PcX) (hp : PcAt w B p y) (hsp : SmlP p) (s day : Int) :
    Calls Tryz.prog 15 #[.agg (mtC m x), .agg (pcC p y), .int .i64 s, .int .i64 day] w (MtPost w (moveE m p s day) (moveM m p s day)) := by
  obtain ⟨i0, hi0, hz0, hz1, hz2⟩ := info_parts Tryz.infoInt
  obtain ⟨E, hE⟩ : ∃ E, moveE m p s day = E := ⟨_, rfl⟩
  obtain ⟨Z, hZ⟩ : ∃ Z, moveM m p s day = Z := ⟨_, rfl⟩
  rw [hE, hZ]
  have HE := Lib.hid hE
  have HZ := Lib.hid hZ
  clear hE hZ
  have s2 := hs.2.1
  have s5 := hsp.1
  have s6 := hsp.2
  have hfo := fun W (hb : Below w.heap.size w W) => formed_any W B _ _ (h.below (hb.mono hB)) (Nat.le_trans hB hb.size) hs
  have hpr := fun W (hb : Below w.heap.size w W) => proper_p W B _ _ (hp.below (hb.mono hB)) (Nat.le_trans hB hb.size) hsp
  obtain ⟨id, o, cs, pr, st, mv, rs, ls⟩ := m
  obtain ⟨a1, c1, a2, c2, a3, c3, a4, c4, lv⟩ := x
  obtain ⟨name, ss, ms⟩ := p
  obtain ⟨b1, d1, b2, d2⟩ := y
  simp only at s2 s5 s6
  have H := Lib.hid h
  have HPC := Lib.hid hp
  obtain ⟨k2, hk2⟩ : ∃ k, mv.length = k := ⟨_, rfl⟩
  have HK2 := Lib.hid hk2
  show Calls Tryz.prog 15 #[.agg #[.string id, .int .i64 o, .slice a1 cs.length c1, .string pr, .int .i64 st, .slice a2 mv.length c2, .slice a3 rs.length c3, .slice a4 ls.length c4], .agg #[.string name, .slice b1 ss.length d1, .slice b2 ms.length d2], .int .i64 s, .int .i64 day] w _
  have hfo2 : ∀ W, Below w.heap.size w W → Calls Tryz.prog 21 #[.agg #[.string id, .int .i64 o, .slice a1 cs.length c1, .string pr, .int .i64 st, .slice a2 mv.length c2, .slice a3 rs.length c3, .slice a4 ls.length c4]] W fun e w' => e = .returned (.bool (fmB ⟨id, o, cs, pr, st, mv, rs, ls⟩)) ∧ Below W.heap.size W w' := hfo
  have hpr2 : ∀ W, Below w.heap.size w W → Calls Tryz.prog 22 #[.agg #[.string name, .slice b1 ss.length d1, .slice b2 ms.length d2]] W fun e w' => e = .returned (.bool (pcB ⟨name, ss, ms⟩)) ∧ Below W.heap.size W w' := hpr
  rw [hk2] at hfo2 s2 ⊢
  have hb := ((below_self_alloc w (.cells #[.string id, .int .i64 o, .slice a1 cs.length c1, .string pr, .int .i64 st, .slice a2 k2 c2, .slice a3 rs.length c3, .slice a4 ls.length c4] 27)).alloc (by simp) (.cells #[.string name, .slice b1 ss.length d1, .slice b2 ms.length d2] 34)).alloc (by simp; omega) (.cells #[.string ⟨#[]⟩, .int .i64 0, .slice none 0 0, .string ⟨#[]⟩, .int .i64 0, .slice none 0 0, .slice none 0 0, .slice none 0 0] 27)
  have kx := ((Blk.new w 27 #[.string id, .int .i64 o, .slice a1 cs.length c1, .string pr, .int .i64 st, .slice a2 k2 c2, .slice a3 rs.length c3, .slice a4 ls.length c4]).alloc (.cells #[.string name, .slice b1 ss.length d1, .slice b2 ms.length d2] 34)).alloc (.cells #[.string ⟨#[]⟩, .int .i64 0, .slice none 0 0, .string ⟨#[]⟩, .int .i64 0, .slice none 0 0, .slice none 0 0, .slice none 0 0] 27)
  have kp := (Blk.new1 w (.cells #[.string id, .int .i64 o, .slice a1 cs.length c1, .string pr, .int .i64 st, .slice a2 k2 c2, .slice a3 rs.length c3, .slice a4 ls.length c4] 27) 34 #[.string name, .slice b1 ss.length d1, .slice b2 ms.length d2]).alloc (.cells #[.string ⟨#[]⟩, .int .i64 0, .slice none 0 0, .string ⟨#[]⟩, .int .i64 0, .slice none 0 0, .slice none 0 0, .slice none 0 0] 27)
  have kz := Blk.new2 w (.cells #[.string id, .int .i64 o, .slice a1 cs.length c1, .string pr, .int .i64 st, .slice a2 k2 c2, .slice a3 rs.length c3, .slice a4 ls.length c4] 27) (.cells #[.string name, .slice b1 ss.length d1, .slice b2 ms.length d2] 34) 27 #[.string ⟨#[]⟩, .int .i64 0, .slice none 0 0, .string ⟨#[]⟩, .int .i64 0, .slice none 0 0, .slice none 0 0, .slice none 0 0]
  have HFO := Lib.hid hfo2
  have HPR := Lib.hid hpr2
  have HB := Lib.hid hB
  clear hfo hfo2 hpr hpr2 h hp hs hsp hB hk2
  obtain ⟨t0, t1, t2⟩ := kx.all
  obtain ⟨u0, u1, u2⟩ := kp.all
  go_enter Tryz.func15, Tryz.ntmps15
  go_upto_region 2 with fail
  generalize ((w.alloc (.cells #[.string id, .int .i64 o, .slice a1 cs.length c1, .string pr, .int .i64 st, .slice a2 k2 c2, .slice a3 rs.length c3, .slice a4 ls.length c4] 27)).alloc (.cells #[.string name, .slice b1 ss.length d1, .slice b2 ms.length d2] 34)).alloc (.cells #[.string ⟨#[]⟩, .int .i64 0, .slice none 0 0, .string ⟨#[]⟩, .int .i64 0, .slice none 0 0, .slice none 0 0, .slice none 0 0] 27) = W0 at *
  have HB0 := Lib.hid hb
  have KX := Lib.hid kx
  have KP := Lib.hid kp
  have KZ := Lib.hid kz
  have hf := HFO.out W0 hb
  clear hb kx kp kz
  cases h1 : fmB ⟨id, o, cs, pr, st, mv, rs, ls⟩ with
  | false =>
    rw [h1] at hf
    have HF := Lib.hid hf
    clear hf
    go_wp2_with fail
    refine HF.out.mono ?_
    rintro e w1 ⟨rfl, b1⟩
    have hb1 := HB0.out.trans (b1.mono HB0.out.size)
    have kz1 := KZ.out.below b1 KZ.out.lt
    clear b1 t0 t1 t2 u0 u1 u2
    go_upto_region 3 with fail
    have hEE : moveE ⟨id, o, cs, pr, st, mv, rs, ls⟩ ⟨name, ss, ms⟩ s day = 1 := moveE1 (by unfold okM; simp [h1])
    obtain rfl : E = 1 := HE.out.symm.trans hEE
    obtain rfl : Z = Mt.zero := HZ.out.symm.trans (moveM_bad (by rw [hEE]; decide))
    clear hEE
    have hlv := row_load kz1 #[.string ⟨#[]⟩, .int .i64 0, .slice none 0 0, .string ⟨#[]⟩, .int .i64 0, .slice none 0 0, .slice none 0 0, .slice none 0 0] rfl
    have HLV := Lib.hid hlv
    have KR := Lib.hid kz1
    have hfin := mt_err (w := w) (E := 1) (below_row hb1 (show w.heap.size ≤ w.heap.size + 1 + 1 by omega) #[.string ⟨#[]⟩, .int .i64 0, .slice none 0 0, .string ⟨#[]⟩, .int .i64 0, .slice none 0 0, .slice none 0 0, .slice none 0 0])
    have HFIN := Lib.hid hfin
    clear hlv hfin
    go_wp2_with (refine wp_row rfl (.tmp 8) (.tmp 43) rfl (w.heap.size + 1 + 1) #[.string ⟨#[]⟩, .int .i64 0, .slice none 0 0, .string ⟨#[]⟩, .int .i64 0, .slice none 0 0, .slice none 0 0, .slice none 0 0] rfl rfl rfl one8 rfl KR.out ?_)
    exact bodyPost_ret (v := .tuple #[.agg #[.string ⟨#[]⟩, .int .i64 0, .slice none 0 0, .string ⟨#[]⟩, .int .i64 0, .slice none 0 0, .slice none 0 0, .slice none 0 0], .int .i64 1]) (by simp [results, Tryz.results15, asAddr, HLV.out]) rfl HFIN.out
  | true =>
    rw [h1] at hf
    have HF := Lib.hid hf
    have H1 := Lib.hid h1
    clear hf h1
    go_wp2_with fail
    refine HF.out.mono ?_
    rintro e w1 ⟨rfl, b1⟩
    have HB1 := Lib.hid (HB0.out.trans (b1.mono HB0.out.size))
    have KX1 := Lib.hid (KX.out.below b1 KX.out.lt)
    have KP1 := Lib.hid (KP.out.below b1 KP.out.lt)
    have KZ1 := Lib.hid (KZ.out.below b1 KZ.out.lt)
    clear b1 t0 t1 t2 u0 u1 u2
    obtain ⟨u0, u1, u2⟩ := KP1.out.all
    have hq := HPR.out w1 HB1.out
    cases h2 : pcB ⟨name, ss, ms⟩ with
    | false =>
      rw [h2] at hq
      have HQ := Lib.hid hq
      clear hq
      go_wp2_with fail
      refine HQ.out.mono ?_
      rintro e w2 ⟨rfl, b2⟩
      have hb2 := HB1.out.trans (b2.mono HB1.out.size)
      have kz2 := KZ1.out.below b2 KZ1.out.lt
      clear b2 u0 u1 u2
      go_upto_region 3 with fail
      have hEE : moveE ⟨id, o, cs, pr, st, mv, rs, ls⟩ ⟨name, ss, ms⟩ s day = 1 := moveE1 (by unfold okM; simp [h2])
      obtain rfl : E = 1 := HE.out.symm.trans hEE
      obtain rfl : Z = Mt.zero := HZ.out.symm.trans (moveM_bad (by rw [hEE]; decide))
      clear hEE
      have hlv := row_load kz2 #[.string ⟨#[]⟩, .int .i64 0, .slice none 0 0, .string ⟨#[]⟩, .int .i64 0, .slice none 0 0, .slice none 0 0, .slice none 0 0] rfl
      have HLV := Lib.hid hlv
      have KR := Lib.hid kz2
      have hfin := mt_err (w := w) (E := 1) (below_row hb2 (show w.heap.size ≤ w.heap.size + 1 + 1 by omega) #[.string ⟨#[]⟩, .int .i64 0, .slice none 0 0, .string ⟨#[]⟩, .int .i64 0, .slice none 0 0, .slice none 0 0, .slice none 0 0])
      have HFIN := Lib.hid hfin
      clear hlv hfin
      go_wp2_with (refine wp_row rfl (.tmp 8) (.tmp 43) rfl (w.heap.size + 1 + 1) #[.string ⟨#[]⟩, .int .i64 0, .slice none 0 0, .string ⟨#[]⟩, .int .i64 0, .slice none 0 0, .slice none 0 0, .slice none 0 0] rfl rfl rfl one8 rfl KR.out ?_)
      exact bodyPost_ret (v := .tuple #[.agg #[.string ⟨#[]⟩, .int .i64 0, .slice none 0 0, .string ⟨#[]⟩, .int .i64 0, .slice none 0 0, .slice none 0 0, .slice none 0 0], .int .i64 1]) (by simp [results, Tryz.results15, asAddr, HLV.out]) rfl HFIN.out
    | true =>
      rw [h2] at hq
      have HQ := Lib.hid hq
      have H2 := Lib.hid h2
      clear hq h2
      go_wp2_with fail
      refine HQ.out.mono ?_
      rintro e w2 ⟨rfl, b2⟩
      have HB2 := Lib.hid (HB1.out.trans (b2.mono HB1.out.size))
      have KX2 := Lib.hid (KX1.out.below b2 KX1.out.lt)
      have KP2 := Lib.hid (KP1.out.below b2 KP1.out.lt)
      have KZ2 := Lib.hid (KZ1.out.below b2 KZ1.out.lt)
      clear b2 u0 u1 u2
      obtain ⟨t0, t1, t2⟩ := KX2.out.all
      obtain ⟨u0, u1, u2⟩ := KP2.out.all
      have hb2 := HB2.out
      have kz2 := KZ2.out
      by_cases h3 : pr = name
      · have HNM := Lib.hid h3
        have e3 : (pr.toList != name.toList) = false := by rw [h3]; simp
        have e3' : (pr.toList == name.toList) = true := by rw [h3]; simp
        clear h3
        by_cases h4 : st < (ss.length : Int)
        · have d4 : decide ((ss.length : Int) ≤ st) = false := decide_eq_false (by omega)
          have hi := mis_any w2 day
          cases h5 : isB day with
          | false =>
            rw [h5] at hi
            have HI := Lib.hid hi
            clear hi
            go_wp2_with fail
            refine HI.out.mono ?_
            rintro e w3 ⟨rfl, rfl⟩
            go_upto_region 3 with fail
            clear t0 t1 t2 u0 u1 u2
            have hEE : moveE ⟨id, o, cs, pr, st, mv, rs, ls⟩ ⟨name, ss, ms⟩ s day = 1 := moveE1 (by unfold okM; simp [h5])
            obtain rfl : E = 1 := HE.out.symm.trans hEE
            obtain rfl : Z = Mt.zero := HZ.out.symm.trans (moveM_bad (by rw [hEE]; decide))
            clear hEE
            have hlv := row_load kz2 #[.string ⟨#[]⟩, .int .i64 0, .slice none 0 0, .string ⟨#[]⟩, .int .i64 0, .slice none 0 0, .slice none 0 0, .slice none 0 0] rfl
            have HLV := Lib.hid hlv
            have KR := Lib.hid kz2
            have hfin := mt_err (w := w) (E := 1) (below_row hb2 (show w.heap.size ≤ w.heap.size + 1 + 1 by omega) #[.string ⟨#[]⟩, .int .i64 0, .slice none 0 0, .string ⟨#[]⟩, .int .i64 0, .slice none 0 0, .slice none 0 0, .slice none 0 0])
            have HFIN := Lib.hid hfin
            clear hlv hfin
            go_wp2_with (refine wp_row rfl (.tmp 8) (.tmp 43) rfl (w.heap.size + 1 + 1) #[.string ⟨#[]⟩, .int .i64 0, .slice none 0 0, .string ⟨#[]⟩, .int .i64 0, .slice none 0 0, .slice none 0 0, .slice none 0 0] rfl rfl rfl one8 rfl KR.out ?_)
            exact bodyPost_ret (v := .tuple #[.agg #[.string ⟨#[]⟩, .int .i64 0, .slice none 0 0, .string ⟨#[]⟩, .int .i64 0, .slice none 0 0, .slice none 0 0, .slice none 0 0], .int .i64 1]) (by simp [results, Tryz.results15, asAddr, HLV.out]) rfl HFIN.out
          | true =>
            rw [h5] at hi
            have HI := Lib.hid hi
            have HALL : Hid (okM ⟨id, o, cs, pr, st, mv, rs, ls⟩ ⟨name, ss, ms⟩ day = true) := Lib.hid (by unfold okM; rw [H1.out, H2.out, h5]; simp [HNM.out, h4])
            clear hi h5
            go_wp2_with fail
            refine HI.out.mono ?_
            rintro e w3 ⟨rfl, rfl⟩
            by_cases h6 : s < 0 ∨ (ss.length : Int) ≤ s
            · by_cases h7 : s < 0
              · go_upto_region 5 with fail
                clear t0 t1 t2 u0 u1 u2
                have hEE : moveE ⟨id, o, cs, pr, st, mv, rs, ls⟩ ⟨name, ss, ms⟩ s day = 11 := moveE11 HALL.out h6
                obtain rfl : E = 11 := HE.out.symm.trans hEE
                obtain rfl : Z = Mt.zero := HZ.out.symm.trans (moveM_bad (by rw [hEE]; decide))
                clear hEE
                have hlv := row_load kz2 #[.string ⟨#[]⟩, .int .i64 0, .slice none 0 0, .string ⟨#[]⟩, .int .i64 0, .slice none 0 0, .slice none 0 0, .slice none 0 0] rfl
                have HLV := Lib.hid hlv
                have KR := Lib.hid kz2
                have hfin := mt_err (w := w) (E := 11) (below_row hb2 (show w.heap.size ≤ w.heap.size + 1 + 1 by omega) #[.string ⟨#[]⟩, .int .i64 0, .slice none 0 0, .string ⟨#[]⟩, .int .i64 0, .slice none 0 0, .slice none 0 0, .slice none 0 0])
                have HFIN := Lib.hid hfin
                clear hlv hfin
                go_wp2_with (refine wp_row rfl (.tmp 8) (.tmp 54) rfl (w.heap.size + 1 + 1) #[.string ⟨#[]⟩, .int .i64 0, .slice none 0 0, .string ⟨#[]⟩, .int .i64 0, .slice none 0 0, .slice none 0 0, .slice none 0 0] rfl rfl rfl one8 rfl KR.out ?_)
                exact bodyPost_ret (v := .tuple #[.agg #[.string ⟨#[]⟩, .int .i64 0, .slice none 0 0, .string ⟨#[]⟩, .int .i64 0, .slice none 0 0, .slice none 0 0, .slice none 0 0], .int .i64 11]) (by simp [results, Tryz.results15, asAddr, HLV.out]) rfl HFIN.out
              · have d7 : decide (s < 0) = false := decide_eq_false h7
                have d8 : decide ((ss.length : Int) ≤ s) = true := decide_eq_true (by omega)
                go_upto_region 5 with fail
                clear t0 t1 t2 u0 u1 u2
                have hEE : moveE ⟨id, o, cs, pr, st, mv, rs, ls⟩ ⟨name, ss, ms⟩ s day = 11 := moveE11 HALL.out h6
                obtain rfl : E = 11 := HE.out.symm.trans hEE
                obtain rfl : Z = Mt.zero := HZ.out.symm.trans (moveM_bad (by rw [hEE]; decide))
                clear hEE
                have hlv := row_load kz2 #[.string ⟨#[]⟩, .int .i64 0, .slice none 0 0, .string ⟨#[]⟩, .int .i64 0, .slice none 0 0, .slice none 0 0, .slice none 0 0] rfl
                have HLV := Lib.hid hlv
                have KR := Lib.hid kz2
                have hfin := mt_err (w := w) (E := 11) (below_row hb2 (show w.heap.size ≤ w.heap.size + 1 + 1 by omega) #[.string ⟨#[]⟩, .int .i64 0, .slice none 0 0, .string ⟨#[]⟩, .int .i64 0, .slice none 0 0, .slice none 0 0, .slice none 0 0])
                have HFIN := Lib.hid hfin
                clear hlv hfin
                go_wp2_with (refine wp_row rfl (.tmp 8) (.tmp 54) rfl (w.heap.size + 1 + 1) #[.string ⟨#[]⟩, .int .i64 0, .slice none 0 0, .string ⟨#[]⟩, .int .i64 0, .slice none 0 0, .slice none 0 0, .slice none 0 0] rfl rfl rfl one8 rfl KR.out ?_)
                exact bodyPost_ret (v := .tuple #[.agg #[.string ⟨#[]⟩, .int .i64 0, .slice none 0 0, .string ⟨#[]⟩, .int .i64 0, .slice none 0 0, .slice none 0 0, .slice none 0 0], .int .i64 11]) (by simp [results, Tryz.results15, asAddr, HLV.out]) rfl HFIN.out
            · have d7 : decide (s < 0) = false := decide_eq_false (by omega)
              have d8 : decide ((ss.length : Int) ≤ s) = false := decide_eq_false (by omega)
              have HS1 := Lib.hid h6
              have hco := containsM_any w2 B b2 ms d2 (HPC.out.below (HB2.out.mono HB.out)).ms (Nat.le_trans HB.out HB2.out.size) (by omega) (st, s)
              clear h6 kz2 hb2
              by_cases h9 : (st, s) ∈ ms
              · rw [decide_eq_true h9] at hco
                have HCO := Lib.hid hco
                have HIN := Lib.hid h9
                clear hco h9
                go_wp2_with fail
                refine HCO.out.mono ?_
                rintro e w3 ⟨rfl, b3⟩
                have HB3 := Lib.hid (HB2.out.trans (b3.mono HB2.out.size))
                have KX3 := Lib.hid (KX2.out.below b3 KX2.out.lt)
                have KP3 := Lib.hid (KP2.out.below b3 KP2.out.lt)
                have KZ3 := Lib.hid (KZ2.out.below b3 KZ2.out.lt)
                clear b3 t0 t1 t2 u0 u1 u2 e3 e3' d4 d7 d8
                obtain ⟨t0, t1, t2⟩ := KX3.out.all
                obtain ⟨u0, u1, u2⟩ := KP3.out.all
                by_cases h10 : day < o
                · have hb3 := HB3.out
                  have kz3 := KZ3.out
                  go_upto_region 9 with fail
                  clear t0 t1 t2 u0 u1 u2
                  have hEE : moveE ⟨id, o, cs, pr, st, mv, rs, ls⟩ ⟨name, ss, ms⟩ s day = 24 := moveE24 HALL.out HS1.out HIN.out (.inl h10)
                  obtain rfl : E = 24 := HE.out.symm.trans hEE
                  obtain rfl : Z = Mt.zero := HZ.out.symm.trans (moveM_bad (by rw [hEE]; decide))
                  clear hEE
                  have hlv := row_load kz3 #[.string ⟨#[]⟩, .int .i64 0, .slice none 0 0, .string ⟨#[]⟩, .int .i64 0, .slice none 0 0, .slice none 0 0, .slice none 0 0] rfl
                  have HLV := Lib.hid hlv
                  have KR := Lib.hid kz3
                  have hfin := mt_err (w := w) (E := 24) (below_row hb3 (show w.heap.size ≤ w.heap.size + 1 + 1 by omega) #[.string ⟨#[]⟩, .int .i64 0, .slice none 0 0, .string ⟨#[]⟩, .int .i64 0, .slice none 0 0, .slice none 0 0, .slice none 0 0])
                  have HFIN := Lib.hid hfin
                  clear hlv hfin
                  go_wp2_with (refine wp_row rfl (.tmp 8) (.tmp 84) rfl (w.heap.size + 1 + 1) #[.string ⟨#[]⟩, .int .i64 0, .slice none 0 0, .string ⟨#[]⟩, .int .i64 0, .slice none 0 0, .slice none 0 0, .slice none 0 0] rfl rfl rfl one8 rfl KR.out ?_)
                  exact bodyPost_ret (v := .tuple #[.agg #[.string ⟨#[]⟩, .int .i64 0, .slice none 0 0, .string ⟨#[]⟩, .int .i64 0, .slice none 0 0, .slice none 0 0, .slice none 0 0], .int .i64 24]) (by simp [results, Tryz.results15, asAddr, HLV.out]) rfl HFIN.out
                · have h10p : o ≤ day := by omega
                  have d10 : decide (day < o) = false := decide_eq_false h10
                  cases k2 with
                  | zero =>
                    have HND : Hid (¬ (day < o ∨ day < lastI o mv)) := Lib.hid (by
                      have : mv = [] := List.length_eq_zero_iff.1 HK2.out
                      rw [this]
                      show ¬ (day < o ∨ day < o)
                      omega)
                    have h9 : ¬ 60 ≤ 0 := by omega
                    have d9 : decide ((60 : Int) ≤ (0 : Int)) = false := decide_eq_false (by omega)
                    have hEE : moveE ⟨id, o, cs, pr, st, mv, rs, ls⟩ ⟨name, ss, ms⟩ s day = 0 := moveE0 HALL.out HS1.out HIN.out HND.out (by show ¬ 60 ≤ mv.length; rw [HK2.out]; exact h9)
                    obtain rfl : E = 0 := HE.out.symm.trans hEE
                    obtain rfl : Z = ⟨id, o, cs, pr, s, mv ++ [day], rs, ls⟩ := HZ.out.symm.trans (moveM_ok hEE)
                    clear hEE
                    have kx3 := KX3.out.set_ 4 (.int .i64 s)
                    have kz3 := KZ3.out.far (show w.heap.size + 1 + 1 ≠ w.heap.size by omega) (p := ⟨w.heap.size, 4, none⟩) (.int .i64 s)
                    have hb3 := HB3.out.setCell (p := ⟨w.heap.size, 4, none⟩) (Nat.le_refl _) (.int .i64 s)
                    go_upto_region 13 with fail
                    generalize w3.setCell ⟨w.heap.size, 4, none⟩ (.int .i64 s) = w4 at *
                    have KX4 := Lib.hid kx3
                    have KZ4 := Lib.hid kz3
                    have HB4 := Lib.hid hb3
                    clear kx3 kz3 hb3 t0 t1 t2 u0 u1 u2
                    obtain ⟨t0, t1, t2⟩ := KX4.out.all
                    have hcl := cloneI_any w4 B a2 mv c2 (H.out.below (HB4.out.mono HB.out)).mv (Nat.le_trans HB.out HB4.out.size) (by rw [HK2.out]; omega)
                    unfold ClonePostI at hcl
                    rw [HK2.out] at hcl
                    have HCL := Lib.hid hcl
                    clear hcl
                    go_wp2_with fail
                    refine HCL.out.mono ?_
                    rintro e w5 ⟨A4, k4, rfl, own4, b4⟩
                    have HB5 := Lib.hid (HB4.out.trans (b4.mono HB4.out.size))
                    have KX5 := Lib.hid (KX4.out.below b4 KX4.out.lt)
                    have KZ5 := Lib.hid (KZ4.out.below b4 KZ4.out.lt)
                    have kn := Blk.new w5 3 #[.int .i64 day]
                    have OW := Lib.hid own4
                    have KN := Lib.hid kn
                    have hz4 := b4.size
                    have hlen : 0 < 60 - 0 := by omega
                    clear b4 t0 t1 t2 own4 kn d9
                    go_upto_region 14 with (at_builtin; refine wpList_append_lies _ rfl _ _ 22 rfl w4.heap.size 3 i0 _ 1 8 Tryz.underlying22 hi0 hz0 hz1 hz2 rfl (by omega) (.slice A4 0 k4) 0 (intCells mv) rfl (World.ownsRow.alloc OW.out _) ⟨w5.heap.size, 0, none⟩ 1 1 [.int .i64 day] rfl rfl (World.news_of_block KN.out) (intCells_one [day]) (by omega) (by unfold maxLen; omega) (by omega) (by simp; omega) (w5.heap.size + 1) (by simp) ?_; intro gz cz Y own9 gr9 l9 z9; have kx6 := (KX5.out.alloc (.cells #[.int .i64 day] 3)).grown gr9 (fun e => own_blk_ne OW.out KX5.out (by decide) e.symm); obtain ⟨t0, t1, t2⟩ := kx6.all)
                    have kx7 := kx6.set_ 5 (.slice (some ⟨gz, 0, none⟩) (0 + 1) cz)
                    have kz6 := (KZ5.out.alloc (.cells #[.int .i64 day] 3)).grown gr9 (fun e => own_blk_ne OW.out KZ5.out (by decide) e.symm)
                    have kz7 := kz6.far (show w.heap.size + 1 + 1 ≠ w.heap.size by omega) (p := ⟨w.heap.size, 5, none⟩) (.slice (some ⟨gz, 0, none⟩) (0 + 1) cz)
                    have hb6 := (HB5.out.alloc HB5.out.size (.cells #[.int .i64 day] 3)).grown gr9 (by simp; have := HB5.out.size; omega) (fun k e => Nat.le_trans HB4.out.size (World.ownsRow.lt OW.out k e).1)
                    have hb7 := hb6.setCell (p := ⟨w.heap.size, 5, none⟩) (Nat.le_refl _) (.slice (some ⟨gz, 0, none⟩) (0 + 1) cz)
                    have own6 := ((Only.refl (fun g => g = w.heap.size) Y).setCell (p := ⟨w.heap.size, 5, none⟩) (.inl rfl) (.slice (some ⟨gz, 0, none⟩) (0 + 1) cz)).owns own9 (fun g hv hg => own_blk_ne own9 kx6 (by decide) (by rw [hv, hg]))
                    have own7 := (only_setRow (Y.setCell ⟨w.heap.size, 5, none⟩ (.slice (some ⟨gz, 0, none⟩) (0 + 1) cz)) (w.heap.size + 1 + 1) #[.string id, .int .i64 o, .slice a1 cs.length c1, .string pr, .int .i64 s, .slice (some ⟨gz, 0, none⟩) (0 + 1) cz, .slice a3 rs.length c3, .slice a4 ls.length c4]).owns own6 (fun g hv hg => own_blk_ne own6 kz7 (by decide) (by rw [hv, hg]))
                    have hb8 := below_row hb7 (show w.heap.size ≤ w.heap.size + 1 + 1 by omega) #[.string id, .int .i64 o, .slice a1 cs.length c1, .string pr, .int .i64 s, .slice (some ⟨gz, 0, none⟩) (0 + 1) cz, .slice a3 rs.length c3, .slice a4 ls.length c4]
                    have hlv := row_load kz7 #[.string id, .int .i64 o, .slice a1 cs.length c1, .string pr, .int .i64 s, .slice (some ⟨gz, 0, none⟩) (0 + 1) cz, .slice a3 rs.length c3, .slice a4 ls.length c4] rfl
                    have KX7 := Lib.hid kx7
                    have KZ7 := Lib.hid kz7
                    have OW7 := Lib.hid own7
                    have HB8 := Lib.hid hb8
                    have HLV := Lib.hid hlv
                    clear kx6 kx7 kz6 kz7 hb6 hb7 own6 own7 hb8 hlv t0 t1 t2 own9 gr9 l9 z9
                    obtain ⟨t0, t1, t2⟩ := KX7.out.all
                    go_wp2_with (refine wp_row rfl (.tmp 8) (.tmp 98) rfl (w.heap.size + 1 + 1) #[.string id, .int .i64 o, .slice a1 cs.length c1, .string pr, .int .i64 s, .slice (some ⟨gz, 0, none⟩) (0 + 1) cz, .slice a3 rs.length c3, .slice a4 ls.length c4] rfl rfl rfl one8 rfl KZ7.out ?_)
                    refine bodyPost_ret (v := .tuple #[.agg #[.string id, .int .i64 o, .slice a1 cs.length c1, .string pr, .int .i64 s, .slice (some ⟨gz, 0, none⟩) (0 + 1) cz, .slice a3 rs.length c3, .slice a4 ls.length c4], .int .i64 0]) (by simp [results, Tryz.results15, asAddr, HLV.out]) rfl ?_
                    have hlen2 : (mv ++ [day]).length = 0 + 1 := by rw [List.length_append, HK2.out]; rfl
                    have hrow := IntsAt.of_row hlen2 (by rw [intCells_app]; exact OW7.out)
                    have hm := H.out.below (HB8.out.mono HB.out)
                    have hsz7 := Nat.le_trans HB.out HB8.out.size
                    refine ⟨⟨a1, c1, some ⟨gz, 0, none⟩, cz, a3, c3, a4, c4, lv⟩, ?_, ⟨hm.cs.wide hsz7, hrow, hm.rs.wide hsz7, hm.ls.wide hsz7, hm.lv, hm.id, hm.pr, hm.rn⟩, HB8.out⟩
                    unfold mtC
                    simp only [hlen2]
                  | succ n =>
                    obtain ⟨z, hz⟩ : ∃ z, mv[n]? = some z := ⟨_, List.getElem?_eq_getElem (by rw [HK2.out]; omega)⟩
                    obtain ⟨g, off, hA, hg, e1⟩ := (H.out.below (HB3.out.mono HB.out)).mv n z hz
                    simp only at hA
                    subst hA
                    have hlast : lastI o mv = z := by unfold lastI; rw [List.getLast?_eq_getElem?, HK2.out]; show (mv[n]?).getD o = z; rw [hz]; rfl
                    have r5 : (0 : Int) < (n : Int) + 1 := by omega
                    have HLA := Lib.hid hlast
                    clear hlast hz
                    by_cases h11 : day < z
                    · have hb3 := HB3.out
                      have kz3 := KZ3.out
                      go_upto_region 9 with fail
                      clear t0 t1 t2 u0 u1 u2 e1
                      have hEE : moveE ⟨id, o, cs, pr, st, mv, rs, ls⟩ ⟨name, ss, ms⟩ s day = 24 := moveE24 HALL.out HS1.out HIN.out (.inr (by show day < lastI o mv; rw [HLA.out]; exact h11))
                      obtain rfl : E = 24 := HE.out.symm.trans hEE
                      obtain rfl : Z = Mt.zero := HZ.out.symm.trans (moveM_bad (by rw [hEE]; decide))
                      clear hEE
                      have hlv := row_load kz3 #[.string ⟨#[]⟩, .int .i64 0, .slice none 0 0, .string ⟨#[]⟩, .int .i64 0, .slice none 0 0, .slice none 0 0, .slice none 0 0] rfl
                      have HLV := Lib.hid hlv
                      have KR := Lib.hid kz3
                      have hfin := mt_err (w := w) (E := 24) (below_row hb3 (show w.heap.size ≤ w.heap.size + 1 + 1 by omega) #[.string ⟨#[]⟩, .int .i64 0, .slice none 0 0, .string ⟨#[]⟩, .int .i64 0, .slice none 0 0, .slice none 0 0, .slice none 0 0])
                      have HFIN := Lib.hid hfin
                      clear hlv hfin
                      go_wp2_with (refine wp_row rfl (.tmp 8) (.tmp 84) rfl (w.heap.size + 1 + 1) #[.string ⟨#[]⟩, .int .i64 0, .slice none 0 0, .string ⟨#[]⟩, .int .i64 0, .slice none 0 0, .slice none 0 0, .slice none 0 0] rfl rfl rfl one8 rfl KR.out ?_)
                      exact bodyPost_ret (v := .tuple #[.agg #[.string ⟨#[]⟩, .int .i64 0, .slice none 0 0, .string ⟨#[]⟩, .int .i64 0, .slice none 0 0, .slice none 0 0, .slice none 0 0], .int .i64 24]) (by simp [results, Tryz.results15, asAddr, HLV.out]) rfl HFIN.out
                    · have HND : Hid (¬ (day < o ∨ day < lastI o mv)) := Lib.hid (by rw [HLA.out]; omega)
                      have h11p : z ≤ day := by omega
                      by_cases h9 : 60 ≤ (n + 1)
                      · have d9 : decide ((60 : Int) ≤ ((n + 1) : Int)) = true := decide_eq_true (by omega)
                        have hb3 := HB3.out
                        have kz3 := KZ3.out
                        go_upto_region 11 with fail
                        clear t0 t1 t2 u0 u1 u2
                        have hEE : moveE ⟨id, o, cs, pr, st, mv, rs, ls⟩ ⟨name, ss, ms⟩ s day = 2 := moveE2 HALL.out HS1.out HIN.out HND.out (by show 60 ≤ mv.length; rw [HK2.out]; exact h9)
                        obtain rfl : E = 2 := HE.out.symm.trans hEE
                        obtain rfl : Z = Mt.zero := HZ.out.symm.trans (moveM_bad (by rw [hEE]; decide))
                        clear hEE
                        have hlv := row_load kz3 #[.string ⟨#[]⟩, .int .i64 0, .slice none 0 0, .string ⟨#[]⟩, .int .i64 0, .slice none 0 0, .slice none 0 0, .slice none 0 0] rfl
                        have HLV := Lib.hid hlv
                        have KR := Lib.hid kz3
                        have hfin := mt_err (w := w) (E := 2) (below_row hb3 (show w.heap.size ≤ w.heap.size + 1 + 1 by omega) #[.string ⟨#[]⟩, .int .i64 0, .slice none 0 0, .string ⟨#[]⟩, .int .i64 0, .slice none 0 0, .slice none 0 0, .slice none 0 0])
                        have HFIN := Lib.hid hfin
                        clear hlv hfin
                        go_wp2_with (refine wp_row rfl (.tmp 8) (.tmp 88) rfl (w.heap.size + 1 + 1) #[.string ⟨#[]⟩, .int .i64 0, .slice none 0 0, .string ⟨#[]⟩, .int .i64 0, .slice none 0 0, .slice none 0 0, .slice none 0 0] rfl rfl rfl one8 rfl KR.out ?_)
                        exact bodyPost_ret (v := .tuple #[.agg #[.string ⟨#[]⟩, .int .i64 0, .slice none 0 0, .string ⟨#[]⟩, .int .i64 0, .slice none 0 0, .slice none 0 0, .slice none 0 0], .int .i64 2]) (by simp [results, Tryz.results15, asAddr, HLV.out]) rfl HFIN.out
                      · have d9 : decide ((60 : Int) ≤ ((n + 1) : Int)) = false := decide_eq_false (by omega)
                        have hEE : moveE ⟨id, o, cs, pr, st, mv, rs, ls⟩ ⟨name, ss, ms⟩ s day = 0 := moveE0 HALL.out HS1.out HIN.out HND.out (by show ¬ 60 ≤ mv.length; rw [HK2.out]; exact h9)
                        obtain rfl : E = 0 := HE.out.symm.trans hEE
                        obtain rfl : Z = ⟨id, o, cs, pr, s, mv ++ [day], rs, ls⟩ := HZ.out.symm.trans (moveM_ok hEE)
                        clear hEE
                        have kx3 := KX3.out.set_ 4 (.int .i64 s)
                        have kz3 := KZ3.out.far (show w.heap.size + 1 + 1 ≠ w.heap.size by omega) (p := ⟨w.heap.size, 4, none⟩) (.int .i64 s)
                        have hb3 := HB3.out.setCell (p := ⟨w.heap.size, 4, none⟩) (Nat.le_refl _) (.int .i64 s)
                        go_upto_region 13 with fail
                        generalize w3.setCell ⟨w.heap.size, 4, none⟩ (.int .i64 s) = w4 at *
                        have KX4 := Lib.hid kx3
                        have KZ4 := Lib.hid kz3
                        have HB4 := Lib.hid hb3
                        clear kx3 kz3 hb3 t0 t1 t2 u0 u1 u2
                        obtain ⟨t0, t1, t2⟩ := KX4.out.all
                        have hcl := cloneI_any w4 B (some ⟨g, off, none⟩) mv c2 (H.out.below (HB4.out.mono HB.out)).mv (Nat.le_trans HB.out HB4.out.size) (by rw [HK2.out]; omega)
                        unfold ClonePostI at hcl
                        rw [HK2.out] at hcl
                        have HCL := Lib.hid hcl
                        clear hcl
                        go_wp2_with fail
                        refine HCL.out.mono ?_
                        rintro e w5 ⟨A4, k4, rfl, own4, b4⟩
                        have HB5 := Lib.hid (HB4.out.trans (b4.mono HB4.out.size))
                        have KX5 := Lib.hid (KX4.out.below b4 KX4.out.lt)
                        have KZ5 := Lib.hid (KZ4.out.below b4 KZ4.out.lt)
                        have kn := Blk.new w5 3 #[.int .i64 day]
                        have OW := Lib.hid own4
                        have KN := Lib.hid kn
                        have hz4 := b4.size
                        have hlen : 0 < 60 - (n + 1) := by omega
                        clear b4 t0 t1 t2 own4 kn d9
                        go_upto_region 14 with (at_builtin; refine wpList_append_lies _ rfl _ _ 22 rfl w4.heap.size 3 i0 _ 1 8 Tryz.underlying22 hi0 hz0 hz1 hz2 rfl (by omega) (.slice A4 (n + 1) k4) (n + 1) (intCells mv) rfl (World.ownsRow.alloc OW.out _) ⟨w5.heap.size, 0, none⟩ 1 1 [.int .i64 day] rfl rfl (World.news_of_block KN.out) (intCells_one [day]) (by omega) (by unfold maxLen; omega) (by omega) (by simp; omega) (w5.heap.size + 1) (by simp) ?_; intro gz cz Y own9 gr9 l9 z9; have kx6 := (KX5.out.alloc (.cells #[.int .i64 day] 3)).grown gr9 (fun e => own_blk_ne OW.out KX5.out (by decide) e.symm); obtain ⟨t0, t1, t2⟩ := kx6.all)
                        have kx7 := kx6.set_ 5 (.slice (some ⟨gz, 0, none⟩) ((n + 1) + 1) cz)
                        have kz6 := (KZ5.out.alloc (.cells #[.int .i64 day] 3)).grown gr9 (fun e => own_blk_ne OW.out KZ5.out (by decide) e.symm)
                        have kz7 := kz6.far (show w.heap.size + 1 + 1 ≠ w.heap.size by omega) (p := ⟨w.heap.size, 5, none⟩) (.slice (some ⟨gz, 0, none⟩) ((n + 1) + 1) cz)
                        have hb6 := (HB5.out.alloc HB5.out.size (.cells #[.int .i64 day] 3)).grown gr9 (by simp; have := HB5.out.size; omega) (fun k e => Nat.le_trans HB4.out.size (World.ownsRow.lt OW.out k e).1)
                        have hb7 := hb6.setCell (p := ⟨w.heap.size, 5, none⟩) (Nat.le_refl _) (.slice (some ⟨gz, 0, none⟩) ((n + 1) + 1) cz)
                        have own6 := ((Only.refl (fun g => g = w.heap.size) Y).setCell (p := ⟨w.heap.size, 5, none⟩) (.inl rfl) (.slice (some ⟨gz, 0, none⟩) ((n + 1) + 1) cz)).owns own9 (fun g hv hg => own_blk_ne own9 kx6 (by decide) (by rw [hv, hg]))
                        have own7 := (only_setRow (Y.setCell ⟨w.heap.size, 5, none⟩ (.slice (some ⟨gz, 0, none⟩) ((n + 1) + 1) cz)) (w.heap.size + 1 + 1) #[.string id, .int .i64 o, .slice a1 cs.length c1, .string pr, .int .i64 s, .slice (some ⟨gz, 0, none⟩) ((n + 1) + 1) cz, .slice a3 rs.length c3, .slice a4 ls.length c4]).owns own6 (fun g hv hg => own_blk_ne own6 kz7 (by decide) (by rw [hv, hg]))
                        have hb8 := below_row hb7 (show w.heap.size ≤ w.heap.size + 1 + 1 by omega) #[.string id, .int .i64 o, .slice a1 cs.length c1, .string pr, .int .i64 s, .slice (some ⟨gz, 0, none⟩) ((n + 1) + 1) cz, .slice a3 rs.length c3, .slice a4 ls.length c4]
                        have hlv := row_load kz7 #[.string id, .int .i64 o, .slice a1 cs.length c1, .string pr, .int .i64 s, .slice (some ⟨gz, 0, none⟩) ((n + 1) + 1) cz, .slice a3 rs.length c3, .slice a4 ls.length c4] rfl
                        have KX7 := Lib.hid kx7
                        have KZ7 := Lib.hid kz7
                        have OW7 := Lib.hid own7
                        have HB8 := Lib.hid hb8
                        have HLV := Lib.hid hlv
                        clear kx6 kx7 kz6 kz7 hb6 hb7 own6 own7 hb8 hlv t0 t1 t2 own9 gr9 l9 z9
                        obtain ⟨t0, t1, t2⟩ := KX7.out.all
                        go_wp2_with (refine wp_row rfl (.tmp 8) (.tmp 98) rfl (w.heap.size + 1 + 1) #[.string id, .int .i64 o, .slice a1 cs.length c1, .string pr, .int .i64 s, .slice (some ⟨gz, 0, none⟩) ((n + 1) + 1) cz, .slice a3 rs.length c3, .slice a4 ls.length c4] rfl rfl rfl one8 rfl KZ7.out ?_)
                        refine bodyPost_ret (v := .tuple #[.agg #[.string id, .int .i64 o, .slice a1 cs.length c1, .string pr, .int .i64 s, .slice (some ⟨gz, 0, none⟩) ((n + 1) + 1) cz, .slice a3 rs.length c3, .slice a4 ls.length c4], .int .i64 0]) (by simp [results, Tryz.results15, asAddr, HLV.out]) rfl ?_
                        have hlen2 : (mv ++ [day]).length = (n + 1) + 1 := by rw [List.length_append, HK2.out]; rfl
                        have hrow := IntsAt.of_row hlen2 (by rw [intCells_app]; exact OW7.out)
                        have hm := H.out.below (HB8.out.mono HB.out)
                        have hsz7 := Nat.le_trans HB.out HB8.out.size
                        refine ⟨⟨a1, c1, some ⟨gz, 0, none⟩, cz, a3, c3, a4, c4, lv⟩, ?_, ⟨hm.cs.wide hsz7, hrow, hm.rs.wide hsz7, hm.ls.wide hsz7, hm.lv, hm.id, hm.pr, hm.rn⟩, HB8.out⟩
                        unfold mtC
                        simp only [hlen2]
              · rw [decide_eq_false h9] at hco
                have HCO := Lib.hid hco
                have HNI := Lib.hid h9
                clear hco h9
                go_wp2_with fail
                refine HCO.out.mono ?_
                rintro e w3 ⟨rfl, b3⟩
                have hb3 := HB2.out.trans (b3.mono HB2.out.size)
                have kz3 := KZ2.out.below b3 KZ2.out.lt
                clear b3 t0 t1 t2 u0 u1 u2
                go_upto_region 7 with fail
                have hEE : moveE ⟨id, o, cs, pr, st, mv, rs, ls⟩ ⟨name, ss, ms⟩ s day = 12 := moveE12 HALL.out HS1.out HNI.out
                obtain rfl : E = 12 := HE.out.symm.trans hEE
                obtain rfl : Z = Mt.zero := HZ.out.symm.trans (moveM_bad (by rw [hEE]; decide))
                clear hEE
                have hlv := row_load kz3 #[.string ⟨#[]⟩, .int .i64 0, .slice none 0 0, .string ⟨#[]⟩, .int .i64 0, .slice none 0 0, .slice none 0 0, .slice none 0 0] rfl
                have HLV := Lib.hid hlv
                have KR := Lib.hid kz3
                have hfin := mt_err (w := w) (E := 12) (below_row hb3 (show w.heap.size ≤ w.heap.size + 1 + 1 by omega) #[.string ⟨#[]⟩, .int .i64 0, .slice none 0 0, .string ⟨#[]⟩, .int .i64 0, .slice none 0 0, .slice none 0 0, .slice none 0 0])
                have HFIN := Lib.hid hfin
                clear hlv hfin
                go_wp2_with (refine wp_row rfl (.tmp 8) (.tmp 64) rfl (w.heap.size + 1 + 1) #[.string ⟨#[]⟩, .int .i64 0, .slice none 0 0, .string ⟨#[]⟩, .int .i64 0, .slice none 0 0, .slice none 0 0, .slice none 0 0] rfl rfl rfl one8 rfl KR.out ?_)
                exact bodyPost_ret (v := .tuple #[.agg #[.string ⟨#[]⟩, .int .i64 0, .slice none 0 0, .string ⟨#[]⟩, .int .i64 0, .slice none 0 0, .slice none 0 0, .slice none 0 0], .int .i64 12]) (by simp [results, Tryz.results15, asAddr, HLV.out]) rfl HFIN.out
        · have d4 : decide ((ss.length : Int) ≤ st) = true := decide_eq_true (by omega)
          go_upto_region 3 with fail
          clear t0 t1 t2 u0 u1 u2
          have hEE : moveE ⟨id, o, cs, pr, st, mv, rs, ls⟩ ⟨name, ss, ms⟩ s day = 1 := moveE1 (by unfold okM; have h4n : ¬ st < (ss.length : Int) := (by omega); simp [h4n])
          obtain rfl : E = 1 := HE.out.symm.trans hEE
          obtain rfl : Z = Mt.zero := HZ.out.symm.trans (moveM_bad (by rw [hEE]; decide))
          clear hEE
          have hlv := row_load kz2 #[.string ⟨#[]⟩, .int .i64 0, .slice none 0 0, .string ⟨#[]⟩, .int .i64 0, .slice none 0 0, .slice none 0 0, .slice none 0 0] rfl
          have HLV := Lib.hid hlv
          have KR := Lib.hid kz2
          have hfin := mt_err (w := w) (E := 1) (below_row hb2 (show w.heap.size ≤ w.heap.size + 1 + 1 by omega) #[.string ⟨#[]⟩, .int .i64 0, .slice none 0 0, .string ⟨#[]⟩, .int .i64 0, .slice none 0 0, .slice none 0 0, .slice none 0 0])
          have HFIN := Lib.hid hfin
          clear hlv hfin
          go_wp2_with (refine wp_row rfl (.tmp 8) (.tmp 43) rfl (w.heap.size + 1 + 1) #[.string ⟨#[]⟩, .int .i64 0, .slice none 0 0, .string ⟨#[]⟩, .int .i64 0, .slice none 0 0, .slice none 0 0, .slice none 0 0] rfl rfl rfl one8 rfl KR.out ?_)
          exact bodyPost_ret (v := .tuple #[.agg #[.string ⟨#[]⟩, .int .i64 0, .slice none 0 0, .string ⟨#[]⟩, .int .i64 0, .slice none 0 0, .slice none 0 0, .slice none 0 0], .int .i64 1]) (by simp [results, Tryz.results15, asAddr, HLV.out]) rfl HFIN.out
      · have e3 : (pr.toList != name.toList) = true := by have := str_no h3; simp only [bne, this]; rfl
        have e3' := str_no h3
        go_upto_region 3 with fail
        clear t0 t1 t2 u0 u1 u2
        have hEE : moveE ⟨id, o, cs, pr, st, mv, rs, ls⟩ ⟨name, ss, ms⟩ s day = 1 := moveE1 (by unfold okM; simp [h3])
        obtain rfl : E = 1 := HE.out.symm.trans hEE
        obtain rfl : Z = Mt.zero := HZ.out.symm.trans (moveM_bad (by rw [hEE]; decide))
        clear hEE
        have hlv := row_load kz2 #[.string ⟨#[]⟩, .int .i64 0, .slice none 0 0, .string ⟨#[]⟩, .int .i64 0, .slice none 0 0, .slice none 0 0, .slice none 0 0] rfl
        have HLV := Lib.hid hlv
        have KR := Lib.hid kz2
        have hfin := mt_err (w := w) (E := 1) (below_row hb2 (show w.heap.size ≤ w.heap.size + 1 + 1 by omega) #[.string ⟨#[]⟩, .int .i64 0, .slice none 0 0, .string ⟨#[]⟩, .int .i64 0, .slice none 0 0, .slice none 0 0, .slice none 0 0])
        have HFIN := Lib.hid hfin
        clear hlv hfin
        go_wp2_with (refine wp_row rfl (.tmp 8) (.tmp 43) rfl (w.heap.size + 1 + 1) #[.string ⟨#[]⟩, .int .i64 0, .slice none 0 0, .string ⟨#[]⟩, .int .i64 0, .slice none 0 0, .slice none 0 0, .slice none 0 0] rfl rfl rfl one8 rfl KR.out ?_)
        exact bodyPost_ret (v := .tuple #[.agg #[.string ⟨#[]⟩, .int .i64 0, .slice none 0 0, .string ⟨#[]⟩, .int .i64 0, .slice none 0 0, .slice none 0 0, .slice none 0 0], .int .i64 1]) (by simp [results, Tryz.results15, asAddr, HLV.out]) rfl HFIN.out
end Go.Proofs.YtebdkmlganalaaaGreatDoor
