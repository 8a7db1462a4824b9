/- Package matter's Grant. -/
import Derived.Test.YtebdkmlganalaaaGreatDoorKTopAccruedGAU
namespace Go.Proofs.YtebdkmlganalaaaGreatDoor
open Go.RowKit Go.Shelf

def xz : MtX := ⟨none, 0, none, 0, none, 0, none, 0, []⟩
theorem mt_zero (w : World) (B : Nat) : MtAt w B Mt.zero xz := ⟨fun i v h => by simp [Mt.zero] at h, fun i v h => by simp [Mt.zero] at h, RtsAt.nil _ _ _, LmsAt.nil _ _ _, rfl, by decide, by decide, fun r h => by simp [Mt.zero] at h⟩
theorem one8 {a f : ByteArray} {b g : Int} {A1 A2 A3 A4 : Option Addr} {n1 n2 n3 n4 c1 c2 c3 c4 : Nat} : (#[.string a, .int .i64 b, .slice A1 n1 c1, .string f, .int .i64 g, .slice A2 n2 c2, .slice A3 n3 c3, .slice A4 n4 c4] : Array Value).all (·.oneCell') = true := by simp [Value.oneCell']
/-- A matter stored whole. -/
theorem wp_row {ops : Array Oper} {rest : List Oper} {o : Oper} {a : Act} {W : World} {Q : Exit → Act → World → Prop} (hgd : o.guard = none) (x y : Operand) (ho : o.op = .store 27 x y) (g : Nat) (C : Array Value)
    (hx : a.eval x = .pointer (some ⟨g, 0, none⟩)) (hy : a.eval y = .agg C) (hC : C.size = 8) (h1 : C.all (·.oneCell') = true) {old : Array Value} (hold : old.size = 8) (hb : Blk W g 27 old)
    (h : wpList Tryz.prog ops Q rest (a.put o.dst undef) (W.setRow g C)) : wpList Tryz.prog ops Q (o :: rest) a W :=
  wpList_store_row hgd 27 x y ho g C hx hy 27 old hb (by rw [hC]; kernel_rfl) (by rw [hC, hold]) h1 h
/-- What Move and Grant return: an error, a matter. -/
def MtPost (w : World) (E : Int) (m : Mt) (e : Ending) (w' : World) : Prop := ∃ x, e = .returned (.tuple #[.agg (mtC m x), .int .i64 E]) ∧ MtAt w' w'.heap.size m x ∧ Below w.heap.size w w'
theorem mt_err {w w' : World} {E : Int} (h : Below w.heap.size w w') : MtPost w E Mt.zero (.returned (.tuple #[.agg (mtC Mt.zero xz), .int .i64 E])) w' := ⟨xz, rfl, mt_zero _ _, h⟩
theorem row_load {W : World} {g : Nat} {old : Array Value} (h : Blk W g 27 old) (cells : Array Value) (hs : cells.size = 8) :
    (loadVar 27 ⟨g, 0, none⟩).run Tryz.prog (W.setRow g cells) = .ok (.agg cells) (W.setRow g cells) :=
  run_loadVar_row (P := Tryz.prog) _ g 27 27 cells (0, 0) _ (setRow_heap W g old cells _ _ h) Tryz.underlying27 rfl (by rw [hs]; kernel_rfl)
theorem below_row {B g : Nat} {w W : World} (h : Below B w W) (hg : B ≤ g) (cells : Array Value) : Below B w (W.setRow g cells) :=
  ⟨h.os, h.tape, h.output, by rw [size_setRow]; exact h.size, fun i hi => (setRow_other W g i cells (by omega)).trans (h.block i hi)⟩

section
variable {m : Mt} {n : ByteArray} {day : Int}
theorem grantE1 (h : (fmB m && (nameB n && isB day)) = false) : grantE m n day = 1 := by unfold grantE; rw [h]; rfl
theorem grantE9 (h : (fmB m && (nameB n && isB day)) = true) (h2 : hasB m.rs n 1000000 = true) : grantE m n day = 9 := by unfold grantE; rw [h, h2]; rfl
theorem grantE24 (h : (fmB m && (nameB n && isB day)) = true) (h2 : hasB m.rs n 1000000 = false) (h3 : day < m.o) : grantE m n day = 24 := by unfold grantE; rw [h, h2]; simp [h3]
theorem grantE2 (h : (fmB m && (nameB n && isB day)) = true) (h2 : hasB m.rs n 1000000 = false) (h3 : ¬ day < m.o) (h4 : 60 ≤ m.rs.length) : grantE m n day = 2 := by unfold grantE; rw [h, h2]; simp [h3, h4]
theorem grantE0 (h : (fmB m && (nameB n && isB day)) = true) (h2 : hasB m.rs n 1000000 = false) (h3 : ¬ day < m.o) (h4 : ¬ 60 ≤ m.rs.length) : grantE m n day = 0 := by unfold grantE; rw [h, h2]; simp [h3, h4]
theorem grantM_bad (h : grantE m n day ≠ 0) : grantM m n day = Mt.zero := by unfold grantM; rw [if_neg h]
theorem grantM_ok (h : grantE m n day = 0) : grantM m n day = { m with rs := m.rs ++ [(n, day)] } := by unfold grantM; rw [if_pos h]
end

set_option maxRecDepth 100000 in
set_option maxHeartbeats 8000000 in
theorem grant_any (w : World) (B : Nat) (m : Mt) (x : MtX) (h : MtAt w B m x) (hB : B ≤ w.heap.size) (hs : Sml m) (n : ByteArray) (hn : n.size ≤ 9223372036854775807) (day : Int) :
    Calls Tryz.prog 13 #[.agg (mtC m x), .string n, .int .i64 day] w (MtPost w (grantE m n day) (grantM m n day)) := by
  obtain ⟨i0, hi0, hz0, hz1, hz2⟩ := info_parts Tryz.infoRight
  obtain ⟨E, hE⟩ : ∃ E, grantE m n day = E := ⟨_, rfl⟩
  obtain ⟨Z, hZ⟩ : ∃ Z, grantM m n day = Z := ⟨_, rfl⟩
  rw [hE, hZ]
  have HE := Lib.hid hE
  have HZ := Lib.hid hZ
  clear hE hZ
  have s3 := hs.2.2.1
  obtain ⟨id, o, cs, pr, st, mv, rs, ls⟩ := m
  obtain ⟨a1, c1, a2, c2, a3, c3, a4, c4, lv⟩ := x
  simp only at s3
  have H := Lib.hid h
  show Calls Tryz.prog 13 #[.agg #[.string id, .int .i64 o, .slice a1 cs.length c1, .string pr, .int .i64 st, .slice a2 mv.length c2, .slice a3 rs.length c3, .slice a4 ls.length c4], .string n, .int .i64 day] w _
  have hb := (below_self_alloc w (.cells #[.string id, .int .i64 o, .slice a1 cs.length c1, .string pr, .int .i64 st, .slice a2 mv.length c2, .slice a3 rs.length c3, .slice a4 ls.length c4] 27)).alloc (by simp) (.cells #[.string ⟨#[]⟩, .int .i64 0, .slice none 0 0, .string ⟨#[]⟩, .int .i64 0, .slice none 0 0, .slice none 0 0, .slice none 0 0] 27)
  have kx := (Blk.new w 27 #[.string id, .int .i64 o, .slice a1 cs.length c1, .string pr, .int .i64 st, .slice a2 mv.length c2, .slice a3 rs.length c3, .slice a4 ls.length c4]).alloc (.cells #[.string ⟨#[]⟩, .int .i64 0, .slice none 0 0, .string ⟨#[]⟩, .int .i64 0, .slice none 0 0, .slice none 0 0, .slice none 0 0] 27)
  have kz := Blk.new1 w (.cells #[.string id, .int .i64 o, .slice a1 cs.length c1, .string pr, .int .i64 st, .slice a2 mv.length c2, .slice a3 rs.length c3, .slice a4 ls.length c4] 27) 27 #[.string ⟨#[]⟩, .int .i64 0, .slice none 0 0, .string ⟨#[]⟩, .int .i64 0, .slice none 0 0, .slice none 0 0, .slice none 0 0]
  have hfo := fun W (hb : Below w.heap.size w W) => formed_any W B _ _ (H.out.below (hb.mono hB)) (Nat.le_trans hB hb.size) hs
  have hfo2 : ∀ W, Below w.heap.size w W → Calls Tryz.prog 21 #[.agg #[.string id, .int .i64 o, .slice a1 cs.length c1, .string pr, .int .i64 st, .slice a2 mv.length c2, .slice a3 rs.length c3, .slice a4 ls.length c4]] W fun e w' => e = .returned (.bool (fmB ⟨id, o, cs, pr, st, mv, rs, ls⟩)) ∧ Below W.heap.size W w' := hfo
  have hha : ∀ W, Below w.heap.size w W → Calls Tryz.prog 17 #[.agg #[.string id, .int .i64 o, .slice a1 cs.length c1, .string pr, .int .i64 st, .slice a2 mv.length c2, .slice a3 rs.length c3, .slice a4 ls.length c4], .string n, .int .i64 1000000] W fun e w' => e = .returned (.bool (hasB rs n 1000000)) ∧ Below W.heap.size W w' := fun W hb => has_any W B ⟨id, o, cs, pr, st, mv, rs, ls⟩ ⟨a1, c1, a2, c2, a3, c3, a4, c4, lv⟩ (H.out.below (hb.mono hB)).rs (Nat.le_trans hB hb.size) (by show rs.length ≤ _; omega) n 1000000
  have HFO := Lib.hid hfo2
  have HHA := Lib.hid hha
  have HB := Lib.hid hB
  clear hfo hfo2 hha h hs hB
  obtain ⟨t0, t1, t2⟩ := kx.all
  go_enter Tryz.func13, Tryz.ntmps13
  go_upto_region 1 with fail
  generalize (w.alloc (.cells #[.string id, .int .i64 o, .slice a1 cs.length c1, .string pr, .int .i64 st, .slice a2 mv.length c2, .slice a3 rs.length c3, .slice a4 ls.length c4] 27)).alloc (.cells #[.string ⟨#[]⟩, .int .i64 0, .slice none 0 0, .string ⟨#[]⟩, .int .i64 0, .slice none 0 0, .slice none 0 0, .slice none 0 0] 27) = W0 at *
  have HB0 := Lib.hid hb
  have KX := Lib.hid kx
  have KZ := Lib.hid kz
  have hf := HFO.out W0 hb
  clear hb kx kz
  cases h1 : fmB ⟨id, o, cs, pr, st, mv, rs, ls⟩ with
  | false =>
    rw [h1] at hf
    have HF := Lib.hid hf
    clear hf
    go_wp2_with fail
    refine HF.out.mono ?_
    rintro e w1 ⟨rfl, b1⟩
    go_upto_region 2 with fail
    have hb1 := HB0.out.trans (b1.mono HB0.out.size)
    have kz1 := KZ.out.below b1 KZ.out.lt
    clear b1 t0 t1 t2
    have hEE : grantE ⟨id, o, cs, pr, st, mv, rs, ls⟩ n day = 1 := grantE1 (by rw [h1]; rfl)
    obtain rfl : E = 1 := HE.out.symm.trans hEE
    obtain rfl : Z = Mt.zero := HZ.out.symm.trans (grantM_bad (by rw [hEE]; decide))
    clear hEE
    have hlv := row_load kz1 #[.string ⟨#[]⟩, .int .i64 0, .slice none 0 0, .string ⟨#[]⟩, .int .i64 0, .slice none 0 0, .slice none 0 0, .slice none 0 0] rfl
    have HLV := Lib.hid hlv
    have KR := Lib.hid kz1
    have hfin := mt_err (w := w) (E := 1) (below_row hb1 (show w.heap.size ≤ w.heap.size + 1 by omega) #[.string ⟨#[]⟩, .int .i64 0, .slice none 0 0, .string ⟨#[]⟩, .int .i64 0, .slice none 0 0, .slice none 0 0, .slice none 0 0])
    have HFIN := Lib.hid hfin
    clear hlv hfin
    go_wp2_with (refine wp_row rfl (.tmp 6) (.tmp 22) rfl (w.heap.size + 1) #[.string ⟨#[]⟩, .int .i64 0, .slice none 0 0, .string ⟨#[]⟩, .int .i64 0, .slice none 0 0, .slice none 0 0, .slice none 0 0] rfl rfl rfl one8 rfl KR.out ?_)
    exact bodyPost_ret (v := .tuple #[.agg #[.string ⟨#[]⟩, .int .i64 0, .slice none 0 0, .string ⟨#[]⟩, .int .i64 0, .slice none 0 0, .slice none 0 0, .slice none 0 0], .int .i64 1]) (by simp [results, Tryz.results13, asAddr, HLV.out]) rfl HFIN.out
  | true =>
    rw [h1] at hf
    have HF := Lib.hid hf
    have H1 := Lib.hid h1
    clear hf h1
    go_wp2_with fail
    refine HF.out.mono ?_
    rintro e w1 ⟨rfl, b1⟩
    have HB1 := Lib.hid (HB0.out.trans (b1.mono HB0.out.size))
    have KX1 := Lib.hid (KX.out.below b1 KX.out.lt)
    have KZ1 := Lib.hid (KZ.out.below b1 KZ.out.lt)
    clear b1 t0 t1 t2
    have hnm := mname_any w1 n hn
    cases h2 : nameB n with
    | false =>
      rw [h2] at hnm
      have HNM := Lib.hid hnm
      clear hnm
      go_wp2_with fail
      refine HNM.out.mono ?_
      rintro e w2 ⟨rfl, b2⟩
      go_upto_region 2 with fail
      have hb2 := HB1.out.trans (b2.mono HB1.out.size)
      have kz2 := KZ1.out.below b2 KZ1.out.lt
      clear b2
      have hEE : grantE ⟨id, o, cs, pr, st, mv, rs, ls⟩ n day = 1 := grantE1 (by rw [h2]; simp)
      obtain rfl : E = 1 := HE.out.symm.trans hEE
      obtain rfl : Z = Mt.zero := HZ.out.symm.trans (grantM_bad (by rw [hEE]; decide))
      clear hEE
      have hlv := row_load kz2 #[.string ⟨#[]⟩, .int .i64 0, .slice none 0 0, .string ⟨#[]⟩, .int .i64 0, .slice none 0 0, .slice none 0 0, .slice none 0 0] rfl
      have HLV := Lib.hid hlv
      have KR := Lib.hid kz2
      have hfin := mt_err (w := w) (E := 1) (below_row hb2 (show w.heap.size ≤ w.heap.size + 1 by omega) #[.string ⟨#[]⟩, .int .i64 0, .slice none 0 0, .string ⟨#[]⟩, .int .i64 0, .slice none 0 0, .slice none 0 0, .slice none 0 0])
      have HFIN := Lib.hid hfin
      clear hlv hfin
      go_wp2_with (refine wp_row rfl (.tmp 6) (.tmp 22) rfl (w.heap.size + 1) #[.string ⟨#[]⟩, .int .i64 0, .slice none 0 0, .string ⟨#[]⟩, .int .i64 0, .slice none 0 0, .slice none 0 0, .slice none 0 0] rfl rfl rfl one8 rfl KR.out ?_)
      exact bodyPost_ret (v := .tuple #[.agg #[.string ⟨#[]⟩, .int .i64 0, .slice none 0 0, .string ⟨#[]⟩, .int .i64 0, .slice none 0 0, .slice none 0 0, .slice none 0 0], .int .i64 1]) (by simp [results, Tryz.results13, asAddr, HLV.out]) rfl HFIN.out
    | true =>
      rw [h2] at hnm
      have HNM := Lib.hid hnm
      have H2 := Lib.hid h2
      clear hnm h2
      go_wp2_with fail
      refine HNM.out.mono ?_
      rintro e w2 ⟨rfl, b2⟩
      have HB2 := Lib.hid (HB1.out.trans (b2.mono HB1.out.size))
      have KX2 := Lib.hid (KX1.out.below b2 KX1.out.lt)
      have KZ2 := Lib.hid (KZ1.out.below b2 KZ1.out.lt)
      clear b2
      have hi := mis_any w2 day
      cases h3 : isB day with
      | false =>
        rw [h3] at hi
        have HI := Lib.hid hi
        clear hi
        have hb2 := HB2.out
        have kz2 := KZ2.out
        go_wp2_with fail
        refine HI.out.mono ?_
        rintro e w3 ⟨rfl, rfl⟩
        go_upto_region 2 with fail
        have hEE : grantE ⟨id, o, cs, pr, st, mv, rs, ls⟩ n day = 1 := grantE1 (by rw [h3]; simp)
        obtain rfl : E = 1 := HE.out.symm.trans hEE
        obtain rfl : Z = Mt.zero := HZ.out.symm.trans (grantM_bad (by rw [hEE]; decide))
        clear hEE
        have hlv := row_load kz2 #[.string ⟨#[]⟩, .int .i64 0, .slice none 0 0, .string ⟨#[]⟩, .int .i64 0, .slice none 0 0, .slice none 0 0, .slice none 0 0] rfl
        have HLV := Lib.hid hlv
        have KR := Lib.hid kz2
        have hfin := mt_err (w := w) (E := 1) (below_row hb2 (show w.heap.size ≤ w.heap.size + 1 by omega) #[.string ⟨#[]⟩, .int .i64 0, .slice none 0 0, .string ⟨#[]⟩, .int .i64 0, .slice none 0 0, .slice none 0 0, .slice none 0 0])
        have HFIN := Lib.hid hfin
        clear hlv hfin
        go_wp2_with (refine wp_row rfl (.tmp 6) (.tmp 22) rfl (w.heap.size + 1) #[.string ⟨#[]⟩, .int .i64 0, .slice none 0 0, .string ⟨#[]⟩, .int .i64 0, .slice none 0 0, .slice none 0 0, .slice none 0 0] rfl rfl rfl one8 rfl KR.out ?_)
        exact bodyPost_ret (v := .tuple #[.agg #[.string ⟨#[]⟩, .int .i64 0, .slice none 0 0, .string ⟨#[]⟩, .int .i64 0, .slice none 0 0, .slice none 0 0, .slice none 0 0], .int .i64 1]) (by simp [results, Tryz.results13, asAddr, HLV.out]) rfl HFIN.out
      | true =>
        rw [h3] at hi
        have HI := Lib.hid hi
        have HALL : Hid ((fmB ⟨id, o, cs, pr, st, mv, rs, ls⟩ && (nameB n && isB day)) = true) := Lib.hid (by rw [H1.out, H2.out, h3]; rfl)
        have hh := HHA.out w2 HB2.out
        clear hi h3
        obtain ⟨t0, t1, t2⟩ := KX2.out.all
        cases h4 : hasB rs n 1000000 with
        | true =>
          rw [h4] at hh
          have HH := Lib.hid hh
          clear hh
          go_wp2_with fail
          refine HI.out.mono ?_
          rintro e w3 ⟨rfl, rfl⟩
          go_wp2_with fail
          refine HH.out.mono ?_
          rintro e w3 ⟨rfl, b3⟩
          go_upto_region 4 with fail
          have hb3 := HB2.out.trans (b3.mono HB2.out.size)
          have kz3 := KZ2.out.below b3 KZ2.out.lt
          clear b3 t0 t1 t2
          have hEE : grantE ⟨id, o, cs, pr, st, mv, rs, ls⟩ n day = 9 := grantE9 HALL.out h4
          obtain rfl : E = 9 := HE.out.symm.trans hEE
          obtain rfl : Z = Mt.zero := HZ.out.symm.trans (grantM_bad (by rw [hEE]; decide))
          clear hEE
          have hlv := row_load kz3 #[.string ⟨#[]⟩, .int .i64 0, .slice none 0 0, .string ⟨#[]⟩, .int .i64 0, .slice none 0 0, .slice none 0 0, .slice none 0 0] rfl
          have HLV := Lib.hid hlv
          have KR := Lib.hid kz3
          have hfin := mt_err (w := w) (E := 9) (below_row hb3 (show w.heap.size ≤ w.heap.size + 1 by omega) #[.string ⟨#[]⟩, .int .i64 0, .slice none 0 0, .string ⟨#[]⟩, .int .i64 0, .slice none 0 0, .slice none 0 0, .slice none 0 0])
          have HFIN := Lib.hid hfin
          clear hlv hfin
          go_wp2_with (refine wp_row rfl (.tmp 6) (.tmp 27) rfl (w.heap.size + 1) #[.string ⟨#[]⟩, .int .i64 0, .slice none 0 0, .string ⟨#[]⟩, .int .i64 0, .slice none 0 0, .slice none 0 0, .slice none 0 0] rfl rfl rfl one8 rfl KR.out ?_)
          exact bodyPost_ret (v := .tuple #[.agg #[.string ⟨#[]⟩, .int .i64 0, .slice none 0 0, .string ⟨#[]⟩, .int .i64 0, .slice none 0 0, .slice none 0 0, .slice none 0 0], .int .i64 9]) (by simp [results, Tryz.results13, asAddr, HLV.out]) rfl HFIN.out
        | false =>
          rw [h4] at hh
          have HH := Lib.hid hh
          have H4 := Lib.hid h4
          clear hh h4
          go_wp2_with fail
          refine HI.out.mono ?_
          rintro e w3 ⟨rfl, rfl⟩
          go_wp2_with fail
          refine HH.out.mono ?_
          rintro e w3 ⟨rfl, b3⟩
          have HB3 := Lib.hid (HB2.out.trans (b3.mono HB2.out.size))
          have KX3 := Lib.hid (KX2.out.below b3 KX2.out.lt)
          have KZ3 := Lib.hid (KZ2.out.below b3 KZ2.out.lt)
          clear b3 t0 t1 t2
          obtain ⟨t0, t1, t2⟩ := KX3.out.all
          by_cases h5 : day < o
          · have d5 : decide (day < o) = true := decide_eq_true h5
            have hb3 := HB3.out
            have kz3 := KZ3.out
            go_upto_region 6 with fail
            clear t0 t1 t2
            have hEE : grantE ⟨id, o, cs, pr, st, mv, rs, ls⟩ n day = 24 := grantE24 HALL.out H4.out h5
            obtain rfl : E = 24 := HE.out.symm.trans hEE
            obtain rfl : Z = Mt.zero := HZ.out.symm.trans (grantM_bad (by rw [hEE]; decide))
            clear hEE
            have hlv := row_load kz3 #[.string ⟨#[]⟩, .int .i64 0, .slice none 0 0, .string ⟨#[]⟩, .int .i64 0, .slice none 0 0, .slice none 0 0, .slice none 0 0] rfl
            have HLV := Lib.hid hlv
            have KR := Lib.hid kz3
            have hfin := mt_err (w := w) (E := 24) (below_row hb3 (show w.heap.size ≤ w.heap.size + 1 by omega) #[.string ⟨#[]⟩, .int .i64 0, .slice none 0 0, .string ⟨#[]⟩, .int .i64 0, .slice none 0 0, .slice none 0 0, .slice none 0 0])
            have HFIN := Lib.hid hfin
            clear hlv hfin
            go_wp2_with (refine wp_row rfl (.tmp 6) (.tmp 33) rfl (w.heap.size + 1) #[.string ⟨#[]⟩, .int .i64 0, .slice none 0 0, .string ⟨#[]⟩, .int .i64 0, .slice none 0 0, .slice none 0 0, .slice none 0 0] rfl rfl rfl one8 rfl KR.out ?_)
            exact bodyPost_ret (v := .tuple #[.agg #[.string ⟨#[]⟩, .int .i64 0, .slice none 0 0, .string ⟨#[]⟩, .int .i64 0, .slice none 0 0, .slice none 0 0, .slice none 0 0], .int .i64 24]) (by simp [results, Tryz.results13, asAddr, HLV.out]) rfl HFIN.out
          · have d5 : decide (day < o) = false := decide_eq_false h5
            have h5p : o ≤ day := by omega
            by_cases h6 : 60 ≤ rs.length
            · have d6 : decide ((60 : Int) ≤ (rs.length : Int)) = true := decide_eq_true (by omega)
              have hb3 := HB3.out
              have kz3 := KZ3.out
              go_upto_region 8 with fail
              clear t0 t1 t2
              have hEE : grantE ⟨id, o, cs, pr, st, mv, rs, ls⟩ n day = 2 := grantE2 HALL.out H4.out (Int.not_lt.2 h5p) h6
              obtain rfl : E = 2 := HE.out.symm.trans hEE
              obtain rfl : Z = Mt.zero := HZ.out.symm.trans (grantM_bad (by rw [hEE]; decide))
              clear hEE
              have hlv := row_load kz3 #[.string ⟨#[]⟩, .int .i64 0, .slice none 0 0, .string ⟨#[]⟩, .int .i64 0, .slice none 0 0, .slice none 0 0, .slice none 0 0] rfl
              have HLV := Lib.hid hlv
              have KR := Lib.hid kz3
              have hfin := mt_err (w := w) (E := 2) (below_row hb3 (show w.heap.size ≤ w.heap.size + 1 by omega) #[.string ⟨#[]⟩, .int .i64 0, .slice none 0 0, .string ⟨#[]⟩, .int .i64 0, .slice none 0 0, .slice none 0 0, .slice none 0 0])
              have HFIN := Lib.hid hfin
              clear hlv hfin
              go_wp2_with (refine wp_row rfl (.tmp 6) (.tmp 39) rfl (w.heap.size + 1) #[.string ⟨#[]⟩, .int .i64 0, .slice none 0 0, .string ⟨#[]⟩, .int .i64 0, .slice none 0 0, .slice none 0 0, .slice none 0 0] rfl rfl rfl one8 rfl KR.out ?_)
              exact bodyPost_ret (v := .tuple #[.agg #[.string ⟨#[]⟩, .int .i64 0, .slice none 0 0, .string ⟨#[]⟩, .int .i64 0, .slice none 0 0, .slice none 0 0, .slice none 0 0], .int .i64 2]) (by simp [results, Tryz.results13, asAddr, HLV.out]) rfl HFIN.out
            · have d6 : decide ((60 : Int) ≤ (rs.length : Int)) = false := decide_eq_false (by omega)
              have hEE : grantE ⟨id, o, cs, pr, st, mv, rs, ls⟩ n day = 0 := grantE0 HALL.out H4.out (Int.not_lt.2 h5p) h6
              obtain rfl : E = 0 := HE.out.symm.trans hEE
              obtain rfl : Z = ⟨id, o, cs, pr, st, mv, rs ++ [(n, day)], ls⟩ := HZ.out.symm.trans (grantM_ok hEE)
              clear hEE
              have hcl := cloneR_any w3 B a3 rs c3 (H.out.below (HB3.out.mono HB.out)).rs (Nat.le_trans HB.out HB3.out.size) (by omega)
              have HCL := Lib.hid hcl
              clear hcl
              go_wp2_with fail
              refine HCL.out.mono ?_
              rintro e w4 ⟨A4, k4, rfl, own4, b4⟩
              have HB4 := Lib.hid (HB3.out.trans (b4.mono HB3.out.size))
              have KX4 := Lib.hid (KX3.out.below b4 KX3.out.lt)
              have KZ4 := Lib.hid (KZ3.out.below b4 KZ3.out.lt)
              have kn := Blk.new w4 53 #[.string n, .int .i64 day]
              have OW := Lib.hid own4
              have KN := Lib.hid kn
              have hz4 := b4.size
              have hlen : 0 < 60 - rs.length := by omega
              clear b4 t0 t1 t2 own4 kn d5 d6
              go_upto_region 10 with (at_builtin; refine wpList_append_lies _ rfl _ _ 24 rfl w3.heap.size 53 i0 _ 2 24 Tryz.underlying24 hi0 hz0 hz1 hz2 rfl (by omega) (.slice A4 rs.length k4) rs.length (rtCells rs) rfl (World.ownsRow.alloc OW.out _) ⟨w4.heap.size, 0, none⟩ 1 1 [.string n, .int .i64 day] rfl rfl (World.news_of_block KN.out) (rtCells_one [(n, day)]) (by omega) (by unfold maxLen; omega) (by omega) (by simp; omega) (w4.heap.size + 1) (by simp) ?_; intro gz cz Y own9 gr9 l9 z9; have kx5 := (KX4.out.alloc (.cells #[.string n, .int .i64 day] 53)).grown gr9 (fun e => own_blk_ne OW.out KX4.out (by decide) e.symm); obtain ⟨t0, t1, t2⟩ := kx5.all)
              have kx6 := kx5.set_ 6 (.slice (some ⟨gz, 0, none⟩) (rs.length + 1) cz)
              have kz5 := (KZ4.out.alloc (.cells #[.string n, .int .i64 day] 53)).grown gr9 (fun e => own_blk_ne OW.out KZ4.out (by decide) e.symm)
              have kz6 := kz5.far (show w.heap.size + 1 ≠ w.heap.size by omega) (p := ⟨w.heap.size, 6, none⟩) (.slice (some ⟨gz, 0, none⟩) (rs.length + 1) cz)
              have hb5 := (HB4.out.alloc HB4.out.size (.cells #[.string n, .int .i64 day] 53)).grown gr9 (by simp; have := HB4.out.size; omega) (fun k e => Nat.le_trans HB3.out.size (World.ownsRow.lt OW.out k e).1)
              have hb6 := hb5.setCell (p := ⟨w.heap.size, 6, none⟩) (Nat.le_refl _) (.slice (some ⟨gz, 0, none⟩) (rs.length + 1) cz)
              have own6 := ((Only.refl (fun g => g = w.heap.size) Y).setCell (p := ⟨w.heap.size, 6, none⟩) (.inl rfl) (.slice (some ⟨gz, 0, none⟩) (rs.length + 1) cz)).owns own9 (fun g hv hg => own_blk_ne own9 kx5 (by decide) (by rw [hv, hg]))
              have own7 := (only_setRow (Y.setCell ⟨w.heap.size, 6, none⟩ (.slice (some ⟨gz, 0, none⟩) (rs.length + 1) cz)) (w.heap.size + 1) #[.string id, .int .i64 o, .slice a1 cs.length c1, .string pr, .int .i64 st, .slice a2 mv.length c2, .slice (some ⟨gz, 0, none⟩) (rs.length + 1) cz, .slice a4 ls.length c4]).owns own6 (fun g hv hg => own_blk_ne own6 kz6 (by decide) (by rw [hv, hg]))
              have hb7 := below_row hb6 (show w.heap.size ≤ w.heap.size + 1 by omega) #[.string id, .int .i64 o, .slice a1 cs.length c1, .string pr, .int .i64 st, .slice a2 mv.length c2, .slice (some ⟨gz, 0, none⟩) (rs.length + 1) cz, .slice a4 ls.length c4]
              have hlv := row_load kz6 #[.string id, .int .i64 o, .slice a1 cs.length c1, .string pr, .int .i64 st, .slice a2 mv.length c2, .slice (some ⟨gz, 0, none⟩) (rs.length + 1) cz, .slice a4 ls.length c4] rfl
              have KX6 := Lib.hid kx6
              have KZ6 := Lib.hid kz6
              have OW7 := Lib.hid own7
              have HB7 := Lib.hid hb7
              have HLV := Lib.hid hlv
              clear kx6 kz5 kz6 hb5 hb6 own6 own7 hb7 hlv t0 t1 t2 own9 gr9 l9 z9 kx5
              obtain ⟨t0, t1, t2⟩ := KX6.out.all
              go_wp2_with (refine wp_row rfl (.tmp 6) (.tmp 49) rfl (w.heap.size + 1) #[.string id, .int .i64 o, .slice a1 cs.length c1, .string pr, .int .i64 st, .slice a2 mv.length c2, .slice (some ⟨gz, 0, none⟩) (rs.length + 1) cz, .slice a4 ls.length c4] rfl rfl rfl one8 rfl KZ6.out ?_)
              refine bodyPost_ret (v := .tuple #[.agg #[.string id, .int .i64 o, .slice a1 cs.length c1, .string pr, .int .i64 st, .slice a2 mv.length c2, .slice (some ⟨gz, 0, none⟩) (rs.length + 1) cz, .slice a4 ls.length c4], .int .i64 0]) (by simp [results, Tryz.results13, asAddr, HLV.out]) rfl ?_
              have hlen2 : (rs ++ [(n, day)]).length = rs.length + 1 := by simp
              have hrow := RtsAt.of_row hlen2 (by rw [rtCells_app]; exact OW7.out)
              have hm := H.out.below (HB7.out.mono HB.out)
              have hsz7 := Nat.le_trans HB.out HB7.out.size
              refine ⟨⟨a1, c1, a2, c2, some ⟨gz, 0, none⟩, cz, a4, c4, lv⟩, ?_, ⟨hm.cs.wide hsz7, hm.mv.wide hsz7, hrow, hm.ls.wide hsz7, hm.lv, hm.id, hm.pr, fun r hr => ?_⟩, HB7.out⟩
              · unfold mtC
                simp only [hlen2]
              · rcases List.mem_append.1 hr with hr | hr
                · exact hm.rn r hr
                · rw [List.mem_singleton.1 hr]
                  exact hn
end Go.Proofs.YtebdkmlganalaaaGreatDoor
