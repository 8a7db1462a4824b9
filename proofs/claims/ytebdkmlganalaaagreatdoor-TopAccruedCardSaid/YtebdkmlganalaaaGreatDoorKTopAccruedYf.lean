/- Grant and Move once more: what a block may count on that holds nothing of the matter's. -/
import Derived.Test.YtebdkmlganalaaaGreatDoorKTopAccruedQx
namespace Go.Proofs.YtebdkmlganalaaaGreatDoor
open Go.RowKit Go.Shelf

/-- Nothing of a matter lies in block g. -/
def Off (g : Nat) (m : Mt) (x : MtX) : Prop := (m.cs ≠ [] → ∀ a, x.a1 = some a → a.block ≠ g) ∧ (m.mv ≠ [] → ∀ a, x.a2 = some a → a.block ≠ g) ∧ (m.rs ≠ [] → ∀ a, x.a3 = some a → a.block ≠ g) ∧ (x.lv ≠ [] → ∀ a, x.a4 = some a → a.block ≠ g) ∧ ∀ y ∈ x.lv, y.1.S ≠ [] → ∀ a, y.2.1 = some a → a.block ≠ g
theorem off_cell {w w' : World} {g b i : Nat} (ho : Only (fun i => i = g) w w') (hb : b ≠ g) {v : Value} (h : w.cell? ⟨b, i, none⟩ = some v) : w'.cell? ⟨b, i, none⟩ = some v := by
  have hlt := World.block_lt_of_cell? w ⟨b, i, none⟩ h
  have := ho.block b hlt hb
  rw [← h]
  simp [World.cell?, this]
theorem nel {α : Type} {l : List α} {i : Nat} {x : α} (h : l[i]? = some x) : l ≠ [] := by rintro rfl; simp at h
theorem MtAt.off {w w' : World} {B g : Nat} {m : Mt} {x : MtX} (h : MtAt w B m x) (ho : Only (fun i => i = g) w w') (hf : Off g m x) : MtAt w' B m x := by
  obtain ⟨f1, f2, f3, f4, f5⟩ := hf
  refine ⟨fun i v hi => ?_, fun i v hi => ?_, fun i v hi => ?_, fun i v hi => ?_, h.lv, h.id, h.pr, h.rn⟩
  · obtain ⟨b, off, hA, hb, hc⟩ := h.cs i v hi
    exact ⟨b, off, hA, hb, off_cell ho (f1 (nel hi) _ hA) hc⟩
  · obtain ⟨b, off, hA, hb, hc⟩ := h.mv i v hi
    exact ⟨b, off, hA, hb, off_cell ho (f2 (nel hi) _ hA) hc⟩
  · obtain ⟨b, off, hA, hb, c0, c1⟩ := h.rs i v hi
    exact ⟨b, off, hA, hb, off_cell ho (f3 (nel hi) _ hA) c0, off_cell ho (f3 (nel hi) _ hA) c1⟩
  · obtain ⟨b, off, hA, hb, c0, c1, c2, c3, c4, hl⟩ := h.ls i v hi
    refine ⟨b, off, hA, hb, off_cell ho (f4 (nel hi) _ hA) c0, off_cell ho (f4 (nel hi) _ hA) c1, off_cell ho (f4 (nel hi) _ hA) c2, off_cell ho (f4 (nel hi) _ hA) c3, off_cell ho (f4 (nel hi) _ hA) c4, fun j s hj => ?_, hl.2⟩
    obtain ⟨b2, off2, hA2, hb2, d0, d1⟩ := hl.1 j s hj
    exact ⟨b2, off2, hA2, hb2, off_cell ho (f5 v (List.mem_of_getElem? hi) (nel hj) _ hA2) d0, off_cell ho (f5 v (List.mem_of_getElem? hi) (nel hj) _ hA2) d1⟩
theorem MtAt.off_of {w : World} {B g : Nat} {m : Mt} {x : MtX} (h : MtAt w B m x) (hB : B ≤ g) : Off g m x := by
  refine ⟨fun h0 a ha => ?_, fun h0 a ha => ?_, fun h0 a ha => ?_, fun h0 a ha => ?_, fun y hy h0 a ha => ?_⟩
  · obtain ⟨v, l, hl⟩ := List.exists_cons_of_ne_nil h0
    obtain ⟨b, off, hA, hb, _⟩ := h.cs 0 v (by rw [hl]; rfl)
    rw [hA] at ha; injection ha with ha; subst ha
    exact Nat.ne_of_lt (Nat.lt_of_lt_of_le hb hB)
  · obtain ⟨v, l, hl⟩ := List.exists_cons_of_ne_nil h0
    obtain ⟨b, off, hA, hb, _⟩ := h.mv 0 v (by rw [hl]; rfl)
    rw [hA] at ha; injection ha with ha; subst ha
    exact Nat.ne_of_lt (Nat.lt_of_lt_of_le hb hB)
  · obtain ⟨v, l, hl⟩ := List.exists_cons_of_ne_nil h0
    obtain ⟨b, off, hA, hb, _⟩ := h.rs 0 v (by rw [hl]; rfl)
    rw [hA] at ha; injection ha with ha; subst ha
    exact Nat.ne_of_lt (Nat.lt_of_lt_of_le hb hB)
  · obtain ⟨v, l, hl⟩ := List.exists_cons_of_ne_nil h0
    obtain ⟨b, off, hA, hb, _⟩ := h.ls 0 v (by rw [hl]; rfl)
    rw [hA] at ha; injection ha with ha; subst ha
    exact Nat.ne_of_lt (Nat.lt_of_lt_of_le hb hB)
  · obtain ⟨i, hi⟩ := List.getElem?_of_mem hy
    obtain ⟨_, _, _, _, _, _, _, _, _, hl⟩ := h.ls i y hi
    obtain ⟨v, l, hl2⟩ := List.exists_cons_of_ne_nil h0
    obtain ⟨b, off, hA, hb, _⟩ := hl.1 0 v (by rw [hl2]; rfl)
    rw [hA] at ha; injection ha with ha; subst ha
    exact Nat.ne_of_lt (Nat.lt_of_lt_of_le hb hB)
def MtPostO (w : World) (m0 : Mt) (x0 : MtX) (E : Int) (m : Mt) (e : Ending) (w' : World) : Prop := ∃ x, e = .returned (.tuple #[.agg (mtC m x), .int .i64 E]) ∧ (MtAt w' w'.heap.size m x ∧ ∀ g, g < w.heap.size → Off g m0 x0 → Off g m x) ∧ Below w.heap.size w w'
theorem off_xz (g : Nat) : Off g Mt.zero xz := ⟨fun _ _ h => (nomatch h), fun _ _ h => (nomatch h), fun _ _ h => (nomatch h), fun _ _ h => (nomatch h), fun _ h => (nomatch h)⟩
theorem mt_errO {w w' : World} {m0 : Mt} {x0 : MtX} {E : Int} (h : Below w.heap.size w w') : MtPostO w m0 x0 E Mt.zero (.returned (.tuple #[.agg (mtC Mt.zero xz), .int .i64 E])) w' := ⟨xz, rfl, ⟨mt_zero _ _, fun g _ _ => off_xz g⟩, h⟩
set_option maxRecDepth 100000 in
set_option maxHeartbeats 8000000 in
theorem grant_off (w : World) (B : Nat) (m : Mt) (x : MtX) (h : MtAt w B m x) (hB : B ≤ w.heap.size) (hs : Sml m) (n : ByteArray) (hn : n.size ≤ 9223372036854775807) (day : Int) :
    Calls Tryz.prog 13 #[.agg (mtC m x), .string n, .int .i64 day] w (MtPostO w m x (grantE m n day) (grantM m n day)) := by
  obtain ⟨i0, hi0, hz0, hz1, hz2⟩ := info_parts Tryz.infoRight
  obtain ⟨E, hE⟩ : ∃ E, grantE m n day = E := ⟨_, rfl⟩
  obtain ⟨Z, hZ⟩ : ∃ Z, grantM m n day = Z := ⟨_, rfl⟩
  rw [hE, hZ]
  have HE := Lib.hid hE
  have HZ := Lib.hid hZ
  clear hE hZ
  have s3 := hs.2.2.1
  obtain ⟨id, o, cs, pr, st, mv, rs, ls⟩ := m
  obtain ⟨a1, c1, a2, c2, a3, c3, a4, c4, lv⟩ := x
  simp only at s3
  have H := Lib.hid h
  show Calls Tryz.prog 13 #[.agg #[.string id, .int .i64 o, .slice a1 cs.length c1, .string pr, .int .i64 st, .slice a2 mv.length c2, .slice a3 rs.length c3, .slice a4 ls.length c4], .string n, .int .i64 day] w _
  have hb := (below_self_alloc w (.cells #[.string id, .int .i64 o, .slice a1 cs.length c1, .string pr, .int .i64 st, .slice a2 mv.length c2, .slice a3 rs.length c3, .slice a4 ls.length c4] 27)).alloc (by simp) (.cells #[.string ⟨#[]⟩, .int .i64 0, .slice none 0 0, .string ⟨#[]⟩, .int .i64 0, .slice none 0 0, .slice none 0 0, .slice none 0 0] 27)
  have kx := (Blk.new w 27 #[.string id, .int .i64 o, .slice a1 cs.length c1, .string pr, .int .i64 st, .slice a2 mv.length c2, .slice a3 rs.length c3, .slice a4 ls.length c4]).alloc (.cells #[.string ⟨#[]⟩, .int .i64 0, .slice none 0 0, .string ⟨#[]⟩, .int .i64 0, .slice none 0 0, .slice none 0 0, .slice none 0 0] 27)
  have kz := Blk.new1 w (.cells #[.string id, .int .i64 o, .slice a1 cs.length c1, .string pr, .int .i64 st, .slice a2 mv.length c2, .slice a3 rs.length c3, .slice a4 ls.length c4] 27) 27 #[.string ⟨#[]⟩, .int .i64 0, .slice none 0 0, .string ⟨#[]⟩, .int .i64 0, .slice none 0 0, .slice none 0 0, .slice none 0 0]
  have hfo := fun W (hb : Below w.heap.size w W) => formed_any W B _ _ (H.out.below (hb.mono hB)) (Nat.le_trans hB hb.size) hs
  have hfo2 : ∀ W, Below w.heap.size w W → Calls Tryz.prog 21 #[.agg #[.string id, .int .i64 o, .slice a1 cs.length c1, .string pr, .int .i64 st, .slice a2 mv.length c2, .slice a3 rs.length c3, .slice a4 ls.length c4]] W fun e w' => e = .returned (.bool (fmB ⟨id, o, cs, pr, st, mv, rs, ls⟩)) ∧ Below W.heap.size W w' := hfo
  have hha : ∀ W, Below w.heap.size w W → Calls Tryz.prog 17 #[.agg #[.string id, .int .i64 o, .slice a1 cs.length c1, .string pr, .int .i64 st, .slice a2 mv.length c2, .slice a3 rs.length c3, .slice a4 ls.length c4], .string n, .int .i64 1000000] W fun e w' => e = .returned (.bool (hasB rs n 1000000)) ∧ Below W.heap.size W w' := fun W hb => has_any W B ⟨id, o, cs, pr, st, mv, rs, ls⟩ ⟨a1, c1, a2, c2, a3, c3, a4, c4, lv⟩ (H.out.below (hb.mono hB)).rs (Nat.le_trans hB hb.size) (by show rs.length ≤ _; omega) n 1000000
  have HFO := Lib.hid hfo2
  have HHA := Lib.hid hha
  have HB := Lib.hid hB
  clear hfo hfo2 hha h hs hB
  obtain ⟨t0, t1, t2⟩ := kx.all
  go_enter Tryz.func13, Tryz.ntmps13
  go_upto_region 1 with fail
  generalize (w.alloc (.cells #[.string id, .int .i64 o, .slice a1 cs.length c1, .string pr, .int .i64 st, .slice a2 mv.length c2, .slice a3 rs.length c3, .slice a4 ls.length c4] 27)).alloc (.cells #[.string ⟨#[]⟩, .int .i64 0, .slice none 0 0, .string ⟨#[]⟩, .int .i64 0, .slice none 0 0, .slice none 0 0, .slice none 0 0] 27) = W0 at *
  have HB0 := Lib.hid hb
  have KX := Lib.hid kx
  have KZ := Lib.hid kz
  have hf := HFO.out W0 hb
  clear hb kx kz
  cases h1 : fmB ⟨id, o, cs, pr, st, mv, rs, ls⟩ with
  | false =>
    rw [h1] at hf
    have HF := Lib.hid hf
    clear hf
    go_wp2_with fail
    refine HF.out.mono ?_
    rintro e w1 ⟨rfl, b1⟩
    go_upto_region 2 with fail
    have hb1 := HB0.out.trans (b1.mono HB0.out.size)
    have kz1 := KZ.out.below b1 KZ.out.lt
    clear b1 t0 t1 t2
    have hEE : grantE ⟨id, o, cs, pr, st, mv, rs, ls⟩ n day = 1 := grantE1 (by rw [h1]; rfl)
    obtain rfl : E = 1 := HE.out.symm.trans hEE
    obtain rfl : Z = Mt.zero := HZ.out.symm.trans (grantM_bad (by rw [hEE]; decide))
    clear hEE
    have hlv := row_load kz1 #[.string ⟨#[]⟩, .int .i64 0, .slice none 0 0, .string ⟨#[]⟩, .int .i64 0, .slice none 0 0, .slice none 0 0, .slice none 0 0] rfl
    have HLV := Lib.hid hlv
    have KR := Lib.hid kz1
    have hfin := mt_errO (w := w) (m0 := ⟨id, o, cs, pr, st, mv, rs, ls⟩) (x0 := ⟨a1, c1, a2, c2, a3, c3, a4, c4, lv⟩) (E := 1) (below_row hb1 (show w.heap.size ≤ w.heap.size + 1 by omega) #[.string ⟨#[]⟩, .int .i64 0, .slice none 0 0, .string ⟨#[]⟩, .int .i64 0, .slice none 0 0, .slice none 0 0, .slice none 0 0])
    have HFIN := Lib.hid hfin
    clear hlv hfin
    go_wp2_with (refine wp_row rfl (.tmp 6) (.tmp 22) rfl (w.heap.size + 1) #[.string ⟨#[]⟩, .int .i64 0, .slice none 0 0, .string ⟨#[]⟩, .int .i64 0, .slice none 0 0, .slice none 0 0, .slice none 0 0] rfl rfl rfl one8 rfl KR.out ?_)
    exact bodyPost_ret (v := .tuple #[.agg #[.string ⟨#[]⟩, .int .i64 0, .slice none 0 0, .string ⟨#[]⟩, .int .i64 0, .slice none 0 0, .slice none 0 0, .slice none 0 0], .int .i64 1]) (by simp [results, Tryz.results13, asAddr, HLV.out]) rfl HFIN.out
  | true =>
    rw [h1] at hf
    have HF := Lib.hid hf
    have H1 := Lib.hid h1
    clear hf h1
    go_wp2_with fail
    refine HF.out.mono ?_
    rintro e w1 ⟨rfl, b1⟩
    have HB1 := Lib.hid (HB0.out.trans (b1.mono HB0.out.size))
    have KX1 := Lib.hid (KX.out.below b1 KX.out.lt)
    have KZ1 := Lib.hid (KZ.out.below b1 KZ.out.lt)
    clear b1 t0 t1 t2
    have hnm := mname_any w1 n hn
    cases h2 : nameB n with
    | false =>
      rw [h2] at hnm
      have HNM := Lib.hid hnm
      clear hnm
      go_wp2_with fail
      refine HNM.out.mono ?_
      rintro e w2 ⟨rfl, b2⟩
      go_upto_region 2 with fail
      have hb2 := HB1.out.trans (b2.mono HB1.out.size)
      have kz2 := KZ1.out.below b2 KZ1.out.lt
      clear b2
      have hEE : grantE ⟨id, o, cs, pr, st, mv, rs, ls⟩ n day = 1 := grantE1 (by rw [h2]; simp)
      obtain rfl : E = 1 := HE.out.symm.trans hEE
      obtain rfl : Z = Mt.zero := HZ.out.symm.trans (grantM_bad (by rw [hEE]; decide))
      clear hEE
      have hlv := row_load kz2 #[.string ⟨#[]⟩, .int .i64 0, .slice none 0 0, .string ⟨#[]⟩, .int .i64 0, .slice none 0 0, .slice none 0 0, .slice none 0 0] rfl
      have HLV := Lib.hid hlv
      have KR := Lib.hid kz2
      have hfin := mt_errO (w := w) (m0 := ⟨id, o, cs, pr, st, mv, rs, ls⟩) (x0 := ⟨a1, c1, a2, c2, a3, c3, a4, c4, lv⟩) (E := 1) (below_row hb2 (show w.heap.size ≤ w.heap.size + 1 by omega) #[.string ⟨#[]⟩, .int .i64 0, .slice none 0 0, .string ⟨#[]⟩, .int .i64 0, .slice none 0 0, .slice none 0 0, .slice none 0 0])
      have HFIN := Lib.hid hfin
      clear hlv hfin
      go_wp2_with (refine wp_row rfl (.tmp 6) (.tmp 22) rfl (w.heap.size + 1) #[.string ⟨#[]⟩, .int .i64 0, .slice none 0 0, .string ⟨#[]⟩, .int .i64 0, .slice none 0 0, .slice none 0 0, .slice none 0 0] rfl rfl rfl one8 rfl KR.out ?_)
      exact bodyPost_ret (v := .tuple #[.agg #[.string ⟨#[]⟩, .int .i64 0, .slice none 0 0, .string ⟨#[]⟩, .int .i64 0, .slice none 0 0, .slice none 0 0, .slice none 0 0], .int .i64 1]) (by simp [results, Tryz.results13, asAddr, HLV.out]) rfl HFIN.out
    | true =>
      rw [h2] at hnm
      have HNM := Lib.hid hnm
      have H2 := Lib.hid h2
      clear hnm h2
      go_wp2_with fail
      refine HNM.out.mono ?_
      rintro e w2 ⟨rfl, b2⟩
      have HB2 := Lib.hid (HB1.out.trans (b2.mono HB1.out.size))
      have KX2 := Lib.hid (KX1.out.below b2 KX1.out.lt)
      have KZ2 := Lib.hid (KZ1.out.below b2 KZ1.out.lt)
      clear b2
      have hi := mis_any w2 day
      cases h3 : isB day with
      | false =>
        rw [h3] at hi
        have HI := Lib.hid hi
        clear hi
        have hb2 := HB2.out
        have kz2 := KZ2.out
        go_wp2_with fail
        refine HI.out.mono ?_
        rintro e w3 ⟨rfl, rfl⟩
        go_upto_region 2 with fail
        have hEE : grantE ⟨id, o, cs, pr, st, mv, rs, ls⟩ n day = 1 := grantE1 (by rw [h3]; simp)
        obtain rfl : E = 1 := HE.out.symm.trans hEE
        obtain rfl : Z = Mt.zero := HZ.out.symm.trans (grantM_bad (by rw [hEE]; decide))
        clear hEE
        have hlv := row_load kz2 #[.string ⟨#[]⟩, .int .i64 0, .slice none 0 0, .string ⟨#[]⟩, .int .i64 0, .slice none 0 0, .slice none 0 0, .slice none 0 0] rfl
        have HLV := Lib.hid hlv
        have KR := Lib.hid kz2
        have hfin := mt_errO (w := w) (m0 := ⟨id, o, cs, pr, st, mv, rs, ls⟩) (x0 := ⟨a1, c1, a2, c2, a3, c3, a4, c4, lv⟩) (E := 1) (below_row hb2 (show w.heap.size ≤ w.heap.size + 1 by omega) #[.string ⟨#[]⟩, .int .i64 0, .slice none 0 0, .string ⟨#[]⟩, .int .i64 0, .slice none 0 0, .slice none 0 0, .slice none 0 0])
        have HFIN := Lib.hid hfin
        clear hlv hfin
        go_wp2_with (refine wp_row rfl (.tmp 6) (.tmp 22) rfl (w.heap.size + 1) #[.string ⟨#[]⟩, .int .i64 0, .slice none 0 0, .string ⟨#[]⟩, .int .i64 0, .slice none 0 0, .slice none 0 0, .slice none 0 0] rfl rfl rfl one8 rfl KR.out ?_)
        exact bodyPost_ret (v := .tuple #[.agg #[.string ⟨#[]⟩, .int .i64 0, .slice none 0 0, .string ⟨#[]⟩, .int .i64 0, .slice none 0 0, .slice none 0 0, .slice none 0 0], .int .i64 1]) (by simp [results, Tryz.results13, asAddr, HLV.out]) rfl HFIN.out
      | true =>
        rw [h3] at hi
        have HI := Lib.hid hi
        have HALL : Hid ((fmB ⟨id, o, cs, pr, st, mv, rs, ls⟩ && (nameB n && isB day)) = true) := Lib.hid (by rw [H1.out, H2.out, h3]; rfl)
        have hh := HHA.out w2 HB2.out
        clear hi h3
        obtain ⟨t0, t1, t2⟩ := KX2.out.all
        cases h4 : hasB rs n 1000000 with
        | true =>
          rw [h4] at hh
          have HH := Lib.hid hh
          clear hh
          go_wp2_with fail
          refine HI.out.mono ?_
          rintro e w3 ⟨rfl, rfl⟩
          go_wp2_with fail
          refine HH.out.mono ?_
          rintro e w3 ⟨rfl, b3⟩
          go_upto_region 4 with fail
          have hb3 := HB2.out.trans (b3.mono HB2.out.size)
          have kz3 := KZ2.out.below b3 KZ2.out.lt
          clear b3 t0 t1 t2
          have hEE : grantE ⟨id, o, cs, pr, st, mv, rs, ls⟩ n day = 9 := grantE9 HALL.out h4
          obtain rfl : E = 9 := HE.out.symm.trans hEE
          obtain rfl : Z = Mt.zero := HZ.out.symm.trans (grantM_bad (by rw [hEE]; decide))
          clear hEE
          have hlv := row_load kz3 #[.string ⟨#[]⟩, .int .i64 0, .slice none 0 0, .string ⟨#[]⟩, .int .i64 0, .slice none 0 0, .slice none 0 0, .slice none 0 0] rfl
          have HLV := Lib.hid hlv
          have KR := Lib.hid kz3
          have hfin := mt_errO (w := w) (m0 := ⟨id, o, cs, pr, st, mv, rs, ls⟩) (x0 := ⟨a1, c1, a2, c2, a3, c3, a4, c4, lv⟩) (E := 9) (below_row hb3 (show w.heap.size ≤ w.heap.size + 1 by omega) #[.string ⟨#[]⟩, .int .i64 0, .slice none 0 0, .string ⟨#[]⟩, .int .i64 0, .slice none 0 0, .slice none 0 0, .slice none 0 0])
          have HFIN := Lib.hid hfin
          clear hlv hfin
          go_wp2_with (refine wp_row rfl (.tmp 6) (.tmp 27) rfl (w.heap.size + 1) #[.string ⟨#[]⟩, .int .i64 0, .slice none 0 0, .string ⟨#[]⟩, .int .i64 0, .slice none 0 0, .slice none 0 0, .slice none 0 0] rfl rfl rfl one8 rfl KR.out ?_)
          exact bodyPost_ret (v := .tuple #[.agg #[.string ⟨#[]⟩, .int .i64 0, .slice none 0 0, .string ⟨#[]⟩, .int .i64 0, .slice none 0 0, .slice none 0 0, .slice none 0 0], .int .i64 9]) (by simp [results, Tryz.results13, asAddr, HLV.out]) rfl HFIN.out
        | false =>
          rw [h4] at hh
          have HH := Lib.hid hh
          have H4 := Lib.hid h4
          clear hh h4
          go_wp2_with fail
          refine HI.out.mono ?_
          rintro e w3 ⟨rfl, rfl⟩
          go_wp2_with fail
          refine HH.out.mono ?_
          rintro e w3 ⟨rfl, b3⟩
          have HB3 := Lib.hid (HB2.out.trans (b3.mono HB2.out.size))
          have KX3 := Lib.hid (KX2.out.below b3 KX2.out.lt)
          have KZ3 := Lib.hid (KZ2.out.below b3 KZ2.out.lt)
          clear b3 t0 t1 t2
          obtain ⟨t0, t1, t2⟩ := KX3.out.all
          by_cases h5 : day < o
          · have d5 : decide (day < o) = true := decide_eq_true h5
            have hb3 := HB3.out
            have kz3 := KZ3.out
            go_upto_region 6 with fail
            clear t0 t1 t2
            have hEE : grantE ⟨id, o, cs, pr, st, mv, rs, ls⟩ n day = 24 := grantE24 HALL.out H4.out h5
            obtain rfl : E = 24 := HE.out.symm.trans hEE
            obtain rfl : Z = Mt.zero := HZ.out.symm.trans (grantM_bad (by rw [hEE]; decide))
            clear hEE
            have hlv := row_load kz3 #[.string ⟨#[]⟩, .int .i64 0, .slice none 0 0, .string ⟨#[]⟩, .int .i64 0, .slice none 0 0, .slice none 0 0, .slice none 0 0] rfl
            have HLV := Lib.hid hlv
            have KR := Lib.hid kz3
            have hfin := mt_errO (w := w) (m0 := ⟨id, o, cs, pr, st, mv, rs, ls⟩) (x0 := ⟨a1, c1, a2, c2, a3, c3, a4, c4, lv⟩) (E := 24) (below_row hb3 (show w.heap.size ≤ w.heap.size + 1 by omega) #[.string ⟨#[]⟩, .int .i64 0, .slice none 0 0, .string ⟨#[]⟩, .int .i64 0, .slice none 0 0, .slice none 0 0, .slice none 0 0])
            have HFIN := Lib.hid hfin
            clear hlv hfin
            go_wp2_with (refine wp_row rfl (.tmp 6) (.tmp 33) rfl (w.heap.size + 1) #[.string ⟨#[]⟩, .int .i64 0, .slice none 0 0, .string ⟨#[]⟩, .int .i64 0, .slice none 0 0, .slice none 0 0, .slice none 0 0] rfl rfl rfl one8 rfl KR.out ?_)
            exact bodyPost_ret (v := .tuple #[.agg #[.string ⟨#[]⟩, .int .i64 0, .slice none 0 0, .string ⟨#[]⟩, .int .i64 0, .slice none 0 0, .slice none 0 0, .slice none 0 0], .int .i64 24]) (by simp [results, Tryz.results13, asAddr, HLV.out]) rfl HFIN.out
          · have d5 : decide (day < o) = false := decide_eq_false h5
            have h5p : o ≤ day := by omega
            by_cases h6 : 60 ≤ rs.length
            · have d6 : decide ((60 : Int) ≤ (rs.length : Int)) = true := decide_eq_true (by omega)
              have hb3 := HB3.out
              have kz3 := KZ3.out
              go_upto_region 8 with fail
              clear t0 t1 t2
              have hEE : grantE ⟨id, o, cs, pr, st, mv, rs, ls⟩ n day = 2 := grantE2 HALL.out H4.out (Int.not_lt.2 h5p) h6
              obtain rfl : E = 2 := HE.out.symm.trans hEE
              obtain rfl : Z = Mt.zero := HZ.out.symm.trans (grantM_bad (by rw [hEE]; decide))
              clear hEE
              have hlv := row_load kz3 #[.string ⟨#[]⟩, .int .i64 0, .slice none 0 0, .string ⟨#[]⟩, .int .i64 0, .slice none 0 0, .slice none 0 0, .slice none 0 0] rfl
              have HLV := Lib.hid hlv
              have KR := Lib.hid kz3
              have hfin := mt_errO (w := w) (m0 := ⟨id, o, cs, pr, st, mv, rs, ls⟩) (x0 := ⟨a1, c1, a2, c2, a3, c3, a4, c4, lv⟩) (E := 2) (below_row hb3 (show w.heap.size ≤ w.heap.size + 1 by omega) #[.string ⟨#[]⟩, .int .i64 0, .slice none 0 0, .string ⟨#[]⟩, .int .i64 0, .slice none 0 0, .slice none 0 0, .slice none 0 0])
              have HFIN := Lib.hid hfin
              clear hlv hfin
              go_wp2_with (refine wp_row rfl (.tmp 6) (.tmp 39) rfl (w.heap.size + 1) #[.string ⟨#[]⟩, .int .i64 0, .slice none 0 0, .string ⟨#[]⟩, .int .i64 0, .slice none 0 0, .slice none 0 0, .slice none 0 0] rfl rfl rfl one8 rfl KR.out ?_)
              exact bodyPost_ret (v := .tuple #[.agg #[.string ⟨#[]⟩, .int .i64 0, .slice none 0 0, .string ⟨#[]⟩, .int .i64 0, .slice none 0 0, .slice none 0 0, .slice none 0 0], .int .i64 2]) (by simp [results, Tryz.results13, asAddr, HLV.out]) rfl HFIN.out
            · have d6 : decide ((60 : Int) ≤ (rs.length : Int)) = false := decide_eq_false (by omega)
              have hEE : grantE ⟨id, o, cs, pr, st, mv, rs, ls⟩ n day = 0 := grantE0 HALL.out H4.out (Int.not_lt.2 h5p) h6
              obtain rfl : E = 0 := HE.out.symm.trans hEE
              obtain rfl : Z = ⟨id, o, cs, pr, st, mv, rs ++ [(n, day)], ls⟩ := HZ.out.symm.trans (grantM_ok hEE)
              clear hEE
              have hcl := cloneR_any w3 B a3 rs c3 (H.out.below (HB3.out.mono HB.out)).rs (Nat.le_trans HB.out HB3.out.size) (by omega)
              have HCL := Lib.hid hcl
              clear hcl
              go_wp2_with fail
              refine HCL.out.mono ?_
              rintro e w4 ⟨A4, k4, rfl, own4, b4⟩
              have HB4 := Lib.hid (HB3.out.trans (b4.mono HB3.out.size))
              have KX4 := Lib.hid (KX3.out.below b4 KX3.out.lt)
              have KZ4 := Lib.hid (KZ3.out.below b4 KZ3.out.lt)
              have kn := Blk.new w4 53 #[.string n, .int .i64 day]
              have OW := Lib.hid own4
              have KN := Lib.hid kn
              have hz4 := b4.size
              have hlen : 0 < 60 - rs.length := by omega
              clear b4 t0 t1 t2 own4 kn d5 d6
              go_upto_region 10 with (at_builtin; refine wpList_append_lies _ rfl _ _ 24 rfl w3.heap.size 53 i0 _ 2 24 Tryz.underlying24 hi0 hz0 hz1 hz2 rfl (by omega) (.slice A4 rs.length k4) rs.length (rtCells rs) rfl (World.ownsRow.alloc OW.out _) ⟨w4.heap.size, 0, none⟩ 1 1 [.string n, .int .i64 day] rfl rfl (World.news_of_block KN.out) (rtCells_one [(n, day)]) (by omega) (by unfold maxLen; omega) (by omega) (by simp; omega) (w4.heap.size + 1) (by simp) ?_; intro gz cz Y own9 gr9 l9 z9; have kx5 := (KX4.out.alloc (.cells #[.string n, .int .i64 day] 53)).grown gr9 (fun e => own_blk_ne OW.out KX4.out (by decide) e.symm); obtain ⟨t0, t1, t2⟩ := kx5.all)
              have kx6 := kx5.set_ 6 (.slice (some ⟨gz, 0, none⟩) (rs.length + 1) cz)
              have kz5 := (KZ4.out.alloc (.cells #[.string n, .int .i64 day] 53)).grown gr9 (fun e => own_blk_ne OW.out KZ4.out (by decide) e.symm)
              have kz6 := kz5.far (show w.heap.size + 1 ≠ w.heap.size by omega) (p := ⟨w.heap.size, 6, none⟩) (.slice (some ⟨gz, 0, none⟩) (rs.length + 1) cz)
              have hb5 := (HB4.out.alloc HB4.out.size (.cells #[.string n, .int .i64 day] 53)).grown gr9 (by simp; have := HB4.out.size; omega) (fun k e => Nat.le_trans HB3.out.size (World.ownsRow.lt OW.out k e).1)
              have hb6 := hb5.setCell (p := ⟨w.heap.size, 6, none⟩) (Nat.le_refl _) (.slice (some ⟨gz, 0, none⟩) (rs.length + 1) cz)
              have own6 := ((Only.refl (fun g => g = w.heap.size) Y).setCell (p := ⟨w.heap.size, 6, none⟩) (.inl rfl) (.slice (some ⟨gz, 0, none⟩) (rs.length + 1) cz)).owns own9 (fun g hv hg => own_blk_ne own9 kx5 (by decide) (by rw [hv, hg]))
              have own7 := (only_setRow (Y.setCell ⟨w.heap.size, 6, none⟩ (.slice (some ⟨gz, 0, none⟩) (rs.length + 1) cz)) (w.heap.size + 1) #[.string id, .int .i64 o, .slice a1 cs.length c1, .string pr, .int .i64 st, .slice a2 mv.length c2, .slice (some ⟨gz, 0, none⟩) (rs.length + 1) cz, .slice a4 ls.length c4]).owns own6 (fun g hv hg => own_blk_ne own6 kz6 (by decide) (by rw [hv, hg]))
              have hb7 := below_row hb6 (show w.heap.size ≤ w.heap.size + 1 by omega) #[.string id, .int .i64 o, .slice a1 cs.length c1, .string pr, .int .i64 st, .slice a2 mv.length c2, .slice (some ⟨gz, 0, none⟩) (rs.length + 1) cz, .slice a4 ls.length c4]
              have hlv := row_load kz6 #[.string id, .int .i64 o, .slice a1 cs.length c1, .string pr, .int .i64 st, .slice a2 mv.length c2, .slice (some ⟨gz, 0, none⟩) (rs.length + 1) cz, .slice a4 ls.length c4] rfl
              have KX6 := Lib.hid kx6
              have KZ6 := Lib.hid kz6
              have OW7 := Lib.hid own7
              have HB7 := Lib.hid hb7
              have HLV := Lib.hid hlv
              clear kx6 kz5 kz6 hb5 hb6 own6 own7 hb7 hlv t0 t1 t2 own9 gr9 l9 z9 kx5
              obtain ⟨t0, t1, t2⟩ := KX6.out.all
              go_wp2_with (refine wp_row rfl (.tmp 6) (.tmp 49) rfl (w.heap.size + 1) #[.string id, .int .i64 o, .slice a1 cs.length c1, .string pr, .int .i64 st, .slice a2 mv.length c2, .slice (some ⟨gz, 0, none⟩) (rs.length + 1) cz, .slice a4 ls.length c4] rfl rfl rfl one8 rfl KZ6.out ?_)
              refine bodyPost_ret (v := .tuple #[.agg #[.string id, .int .i64 o, .slice a1 cs.length c1, .string pr, .int .i64 st, .slice a2 mv.length c2, .slice (some ⟨gz, 0, none⟩) (rs.length + 1) cz, .slice a4 ls.length c4], .int .i64 0]) (by simp [results, Tryz.results13, asAddr, HLV.out]) rfl ?_
              have hlen2 : (rs ++ [(n, day)]).length = rs.length + 1 := by simp
              have hrow := RtsAt.of_row hlen2 (by rw [rtCells_app]; exact OW7.out)
              have hm := H.out.below (HB7.out.mono HB.out)
              have hsz7 := Nat.le_trans HB.out HB7.out.size
              refine ⟨⟨a1, c1, a2, c2, some ⟨gz, 0, none⟩, cz, a4, c4, lv⟩, ?_, ⟨⟨hm.cs.wide hsz7, hm.mv.wide hsz7, hrow, hm.ls.wide hsz7, hm.lv, hm.id, hm.pr, fun r hr => ?_⟩, fun g hg h => ⟨h.1, h.2.1, fun _ a ha => by injection ha with ha; subst ha; show gz ≠ g; have h1 := (World.ownsRow.lt OW7.out gz rfl).1; have h2 := HB3.out.size; omega, h.2.2.2.1, h.2.2.2.2⟩⟩, HB7.out⟩
              · unfold mtC
                simp only [hlen2]
              · rcases List.mem_append.1 hr with hr | hr
                · exact hm.rn r hr
                · rw [List.mem_singleton.1 hr]
                  exact hn
set_option maxRecDepth 100000 in
set_option maxHeartbeats 16000000 in
theorem move_off (w : World) (B : Nat) (m : Mt) (x : MtX) (h : MtAt w B m x) (hB : B ≤ w.heap.size) (hs : Sml m) (p : Pc) (y : PcX) (hp : PcAt w B p y) (hsp : SmlP p) (s day : Int) :
    Calls Tryz.prog 15 #[.agg (mtC m x), .agg (pcC p y), .int .i64 s, .int .i64 day] w (MtPostO w m x (moveE m p s day) (moveM m p s day)) := by
  obtain ⟨i0, hi0, hz0, hz1, hz2⟩ := info_parts Tryz.infoInt
  obtain ⟨E, hE⟩ : ∃ E, moveE m p s day = E := ⟨_, rfl⟩
  obtain ⟨Z, hZ⟩ : ∃ Z, moveM m p s day = Z := ⟨_, rfl⟩
  rw [hE, hZ]
  have HE := Lib.hid hE
  have HZ := Lib.hid hZ
  clear hE hZ
  have s2 := hs.2.1
  have s5 := hsp.1
  have s6 := hsp.2
  have hfo := fun W (hb : Below w.heap.size w W) => formed_any W B _ _ (h.below (hb.mono hB)) (Nat.le_trans hB hb.size) hs
  have hpr := fun W (hb : Below w.heap.size w W) => proper_p W B _ _ (hp.below (hb.mono hB)) (Nat.le_trans hB hb.size) hsp
  obtain ⟨id, o, cs, pr, st, mv, rs, ls⟩ := m
  obtain ⟨a1, c1, a2, c2, a3, c3, a4, c4, lv⟩ := x
  obtain ⟨name, ss, ms⟩ := p
  obtain ⟨b1, d1, b2, d2⟩ := y
  simp only at s2 s5 s6
  have H := Lib.hid h
  have HPC := Lib.hid hp
  obtain ⟨k2, hk2⟩ : ∃ k, mv.length = k := ⟨_, rfl⟩
  have HK2 := Lib.hid hk2
  show Calls Tryz.prog 15 #[.agg #[.string id, .int .i64 o, .slice a1 cs.length c1, .string pr, .int .i64 st, .slice a2 mv.length c2, .slice a3 rs.length c3, .slice a4 ls.length c4], .agg #[.string name, .slice b1 ss.length d1, .slice b2 ms.length d2], .int .i64 s, .int .i64 day] w _
  have hfo2 : ∀ W, Below w.heap.size w W → Calls Tryz.prog 21 #[.agg #[.string id, .int .i64 o, .slice a1 cs.length c1, .string pr, .int .i64 st, .slice a2 mv.length c2, .slice a3 rs.length c3, .slice a4 ls.length c4]] W fun e w' => e = .returned (.bool (fmB ⟨id, o, cs, pr, st, mv, rs, ls⟩)) ∧ Below W.heap.size W w' := hfo
  have hpr2 : ∀ W, Below w.heap.size w W → Calls Tryz.prog 22 #[.agg #[.string name, .slice b1 ss.length d1, .slice b2 ms.length d2]] W fun e w' => e = .returned (.bool (pcB ⟨name, ss, ms⟩)) ∧ Below W.heap.size W w' := hpr
  rw [hk2] at hfo2 s2 ⊢
  have hb := ((below_self_alloc w (.cells #[.string id, .int .i64 o, .slice a1 cs.length c1, .string pr, .int .i64 st, .slice a2 k2 c2, .slice a3 rs.length c3, .slice a4 ls.length c4] 27)).alloc (by simp) (.cells #[.string name, .slice b1 ss.length d1, .slice b2 ms.length d2] 34)).alloc (by simp; omega) (.cells #[.string ⟨#[]⟩, .int .i64 0, .slice none 0 0, .string ⟨#[]⟩, .int .i64 0, .slice none 0 0, .slice none 0 0, .slice none 0 0] 27)
  have kx := ((Blk.new w 27 #[.string id, .int .i64 o, .slice a1 cs.length c1, .string pr, .int .i64 st, .slice a2 k2 c2, .slice a3 rs.length c3, .slice a4 ls.length c4]).alloc (.cells #[.string name, .slice b1 ss.length d1, .slice b2 ms.length d2] 34)).alloc (.cells #[.string ⟨#[]⟩, .int .i64 0, .slice none 0 0, .string ⟨#[]⟩, .int .i64 0, .slice none 0 0, .slice none 0 0, .slice none 0 0] 27)
  have kp := (Blk.new1 w (.cells #[.string id, .int .i64 o, .slice a1 cs.length c1, .string pr, .int .i64 st, .slice a2 k2 c2, .slice a3 rs.length c3, .slice a4 ls.length c4] 27) 34 #[.string name, .slice b1 ss.length d1, .slice b2 ms.length d2]).alloc (.cells #[.string ⟨#[]⟩, .int .i64 0, .slice none 0 0, .string ⟨#[]⟩, .int .i64 0, .slice none 0 0, .slice none 0 0, .slice none 0 0] 27)
  have kz := Blk.new2 w (.cells #[.string id, .int .i64 o, .slice a1 cs.length c1, .string pr, .int .i64 st, .slice a2 k2 c2, .slice a3 rs.length c3, .slice a4 ls.length c4] 27) (.cells #[.string name, .slice b1 ss.length d1, .slice b2 ms.length d2] 34) 27 #[.string ⟨#[]⟩, .int .i64 0, .slice none 0 0, .string ⟨#[]⟩, .int .i64 0, .slice none 0 0, .slice none 0 0, .slice none 0 0]
  have HFO := Lib.hid hfo2
  have HPR := Lib.hid hpr2
  have HB := Lib.hid hB
  clear hfo hfo2 hpr hpr2 h hp hs hsp hB hk2
  obtain ⟨t0, t1, t2⟩ := kx.all
  obtain ⟨u0, u1, u2⟩ := kp.all
  go_enter Tryz.func15, Tryz.ntmps15
  go_upto_region 2 with fail
  generalize ((w.alloc (.cells #[.string id, .int .i64 o, .slice a1 cs.length c1, .string pr, .int .i64 st, .slice a2 k2 c2, .slice a3 rs.length c3, .slice a4 ls.length c4] 27)).alloc (.cells #[.string name, .slice b1 ss.length d1, .slice b2 ms.length d2] 34)).alloc (.cells #[.string ⟨#[]⟩, .int .i64 0, .slice none 0 0, .string ⟨#[]⟩, .int .i64 0, .slice none 0 0, .slice none 0 0, .slice none 0 0] 27) = W0 at *
  have HB0 := Lib.hid hb
  have KX := Lib.hid kx
  have KP := Lib.hid kp
  have KZ := Lib.hid kz
  have hf := HFO.out W0 hb
  clear hb kx kp kz
  cases h1 : fmB ⟨id, o, cs, pr, st, mv, rs, ls⟩ with
  | false =>
    rw [h1] at hf
    have HF := Lib.hid hf
    clear hf
    go_wp2_with fail
    refine HF.out.mono ?_
    rintro e w1 ⟨rfl, b1⟩
    have hb1 := HB0.out.trans (b1.mono HB0.out.size)
    have kz1 := KZ.out.below b1 KZ.out.lt
    clear b1 t0 t1 t2 u0 u1 u2
    go_upto_region 3 with fail
    have hEE : moveE ⟨id, o, cs, pr, st, mv, rs, ls⟩ ⟨name, ss, ms⟩ s day = 1 := moveE1 (by unfold okM; simp [h1])
    obtain rfl : E = 1 := HE.out.symm.trans hEE
    obtain rfl : Z = Mt.zero := HZ.out.symm.trans (moveM_bad (by rw [hEE]; decide))
    clear hEE
    have hlv := row_load kz1 #[.string ⟨#[]⟩, .int .i64 0, .slice none 0 0, .string ⟨#[]⟩, .int .i64 0, .slice none 0 0, .slice none 0 0, .slice none 0 0] rfl
    have HLV := Lib.hid hlv
    have KR := Lib.hid kz1
    have hfin := mt_errO (w := w) (m0 := ⟨id, o, cs, pr, st, mv, rs, ls⟩) (x0 := ⟨a1, c1, a2, c2, a3, c3, a4, c4, lv⟩) (E := 1) (below_row hb1 (show w.heap.size ≤ w.heap.size + 1 + 1 by omega) #[.string ⟨#[]⟩, .int .i64 0, .slice none 0 0, .string ⟨#[]⟩, .int .i64 0, .slice none 0 0, .slice none 0 0, .slice none 0 0])
    have HFIN := Lib.hid hfin
    clear hlv hfin
    go_wp2_with (refine wp_row rfl (.tmp 8) (.tmp 43) rfl (w.heap.size + 1 + 1) #[.string ⟨#[]⟩, .int .i64 0, .slice none 0 0, .string ⟨#[]⟩, .int .i64 0, .slice none 0 0, .slice none 0 0, .slice none 0 0] rfl rfl rfl one8 rfl KR.out ?_)
    exact bodyPost_ret (v := .tuple #[.agg #[.string ⟨#[]⟩, .int .i64 0, .slice none 0 0, .string ⟨#[]⟩, .int .i64 0, .slice none 0 0, .slice none 0 0, .slice none 0 0], .int .i64 1]) (by simp [results, Tryz.results15, asAddr, HLV.out]) rfl HFIN.out
  | true =>
    rw [h1] at hf
    have HF := Lib.hid hf
    have H1 := Lib.hid h1
    clear hf h1
    go_wp2_with fail
    refine HF.out.mono ?_
    rintro e w1 ⟨rfl, b1⟩
    have HB1 := Lib.hid (HB0.out.trans (b1.mono HB0.out.size))
    have KX1 := Lib.hid (KX.out.below b1 KX.out.lt)
    have KP1 := Lib.hid (KP.out.below b1 KP.out.lt)
    have KZ1 := Lib.hid (KZ.out.below b1 KZ.out.lt)
    clear b1 t0 t1 t2 u0 u1 u2
    obtain ⟨u0, u1, u2⟩ := KP1.out.all
    have hq := HPR.out w1 HB1.out
    cases h2 : pcB ⟨name, ss, ms⟩ with
    | false =>
      rw [h2] at hq
      have HQ := Lib.hid hq
      clear hq
      go_wp2_with fail
      refine HQ.out.mono ?_
      rintro e w2 ⟨rfl, b2⟩
      have hb2 := HB1.out.trans (b2.mono HB1.out.size)
      have kz2 := KZ1.out.below b2 KZ1.out.lt
      clear b2 u0 u1 u2
      go_upto_region 3 with fail
      have hEE : moveE ⟨id, o, cs, pr, st, mv, rs, ls⟩ ⟨name, ss, ms⟩ s day = 1 := moveE1 (by unfold okM; simp [h2])
      obtain rfl : E = 1 := HE.out.symm.trans hEE
      obtain rfl : Z = Mt.zero := HZ.out.symm.trans (moveM_bad (by rw [hEE]; decide))
      clear hEE
      have hlv := row_load kz2 #[.string ⟨#[]⟩, .int .i64 0, .slice none 0 0, .string ⟨#[]⟩, .int .i64 0, .slice none 0 0, .slice none 0 0, .slice none 0 0] rfl
      have HLV := Lib.hid hlv
      have KR := Lib.hid kz2
      have hfin := mt_errO (w := w) (m0 := ⟨id, o, cs, pr, st, mv, rs, ls⟩) (x0 := ⟨a1, c1, a2, c2, a3, c3, a4, c4, lv⟩) (E := 1) (below_row hb2 (show w.heap.size ≤ w.heap.size + 1 + 1 by omega) #[.string ⟨#[]⟩, .int .i64 0, .slice none 0 0, .string ⟨#[]⟩, .int .i64 0, .slice none 0 0, .slice none 0 0, .slice none 0 0])
      have HFIN := Lib.hid hfin
      clear hlv hfin
      go_wp2_with (refine wp_row rfl (.tmp 8) (.tmp 43) rfl (w.heap.size + 1 + 1) #[.string ⟨#[]⟩, .int .i64 0, .slice none 0 0, .string ⟨#[]⟩, .int .i64 0, .slice none 0 0, .slice none 0 0, .slice none 0 0] rfl rfl rfl one8 rfl KR.out ?_)
      exact bodyPost_ret (v := .tuple #[.agg #[.string ⟨#[]⟩, .int .i64 0, .slice none 0 0, .string ⟨#[]⟩, .int .i64 0, .slice none 0 0, .slice none 0 0, .slice none 0 0], .int .i64 1]) (by simp [results, Tryz.results15, asAddr, HLV.out]) rfl HFIN.out
    | true =>
      rw [h2] at hq
      have HQ := Lib.hid hq
      have H2 := Lib.hid h2
      clear hq h2
      go_wp2_with fail
      refine HQ.out.mono ?_
      rintro e w2 ⟨rfl, b2⟩
      have HB2 := Lib.hid (HB1.out.trans (b2.mono HB1.out.size))
      have KX2 := Lib.hid (KX1.out.below b2 KX1.out.lt)
      have KP2 := Lib.hid (KP1.out.below b2 KP1.out.lt)
      have KZ2 := Lib.hid (KZ1.out.below b2 KZ1.out.lt)
      clear b2 u0 u1 u2
      obtain ⟨t0, t1, t2⟩ := KX2.out.all
      obtain ⟨u0, u1, u2⟩ := KP2.out.all
      have hb2 := HB2.out
      have kz2 := KZ2.out
      by_cases h3 : pr = name
      · have HNM := Lib.hid h3
        have e3 : (pr.toList != name.toList) = false := by rw [h3]; simp
        have e3' : (pr.toList == name.toList) = true := by rw [h3]; simp
        clear h3
        by_cases h4 : st < (ss.length : Int)
        · have d4 : decide ((ss.length : Int) ≤ st) = false := decide_eq_false (by omega)
          have hi := mis_any w2 day
          cases h5 : isB day with
          | false =>
            rw [h5] at hi
            have HI := Lib.hid hi
            clear hi
            go_wp2_with fail
            refine HI.out.mono ?_
            rintro e w3 ⟨rfl, rfl⟩
            go_upto_region 3 with fail
            clear t0 t1 t2 u0 u1 u2
            have hEE : moveE ⟨id, o, cs, pr, st, mv, rs, ls⟩ ⟨name, ss, ms⟩ s day = 1 := moveE1 (by unfold okM; simp [h5])
            obtain rfl : E = 1 := HE.out.symm.trans hEE
            obtain rfl : Z = Mt.zero := HZ.out.symm.trans (moveM_bad (by rw [hEE]; decide))
            clear hEE
            have hlv := row_load kz2 #[.string ⟨#[]⟩, .int .i64 0, .slice none 0 0, .string ⟨#[]⟩, .int .i64 0, .slice none 0 0, .slice none 0 0, .slice none 0 0] rfl
            have HLV := Lib.hid hlv
            have KR := Lib.hid kz2
            have hfin := mt_errO (w := w) (m0 := ⟨id, o, cs, pr, st, mv, rs, ls⟩) (x0 := ⟨a1, c1, a2, c2, a3, c3, a4, c4, lv⟩) (E := 1) (below_row hb2 (show w.heap.size ≤ w.heap.size + 1 + 1 by omega) #[.string ⟨#[]⟩, .int .i64 0, .slice none 0 0, .string ⟨#[]⟩, .int .i64 0, .slice none 0 0, .slice none 0 0, .slice none 0 0])
            have HFIN := Lib.hid hfin
            clear hlv hfin
            go_wp2_with (refine wp_row rfl (.tmp 8) (.tmp 43) rfl (w.heap.size + 1 + 1) #[.string ⟨#[]⟩, .int .i64 0, .slice none 0 0, .string ⟨#[]⟩, .int .i64 0, .slice none 0 0, .slice none 0 0, .slice none 0 0] rfl rfl rfl one8 rfl KR.out ?_)
            exact bodyPost_ret (v := .tuple #[.agg #[.string ⟨#[]⟩, .int .i64 0, .slice none 0 0, .string ⟨#[]⟩, .int .i64 0, .slice none 0 0, .slice none 0 0, .slice none 0 0], .int .i64 1]) (by simp [results, Tryz.results15, asAddr, HLV.out]) rfl HFIN.out
          | true =>
            rw [h5] at hi
            have HI := Lib.hid hi
            have HALL : Hid (okM ⟨id, o, cs, pr, st, mv, rs, ls⟩ ⟨name, ss, ms⟩ day = true) := Lib.hid (by unfold okM; rw [H1.out, H2.out, h5]; simp [HNM.out, h4])
            clear hi h5
            go_wp2_with fail
            refine HI.out.mono ?_
            rintro e w3 ⟨rfl, rfl⟩
            by_cases h6 : s < 0 ∨ (ss.length : Int) ≤ s
            · by_cases h7 : s < 0
              · go_upto_region 5 with fail
                clear t0 t1 t2 u0 u1 u2
                have hEE : moveE ⟨id, o, cs, pr, st, mv, rs, ls⟩ ⟨name, ss, ms⟩ s day = 11 := moveE11 HALL.out h6
                obtain rfl : E = 11 := HE.out.symm.trans hEE
                obtain rfl : Z = Mt.zero := HZ.out.symm.trans (moveM_bad (by rw [hEE]; decide))
                clear hEE
                have hlv := row_load kz2 #[.string ⟨#[]⟩, .int .i64 0, .slice none 0 0, .string ⟨#[]⟩, .int .i64 0, .slice none 0 0, .slice none 0 0, .slice none 0 0] rfl
                have HLV := Lib.hid hlv
                have KR := Lib.hid kz2
                have hfin := mt_errO (w := w) (m0 := ⟨id, o, cs, pr, st, mv, rs, ls⟩) (x0 := ⟨a1, c1, a2, c2, a3, c3, a4, c4, lv⟩) (E := 11) (below_row hb2 (show w.heap.size ≤ w.heap.size + 1 + 1 by omega) #[.string ⟨#[]⟩, .int .i64 0, .slice none 0 0, .string ⟨#[]⟩, .int .i64 0, .slice none 0 0, .slice none 0 0, .slice none 0 0])
                have HFIN := Lib.hid hfin
                clear hlv hfin
                go_wp2_with (refine wp_row rfl (.tmp 8) (.tmp 54) rfl (w.heap.size + 1 + 1) #[.string ⟨#[]⟩, .int .i64 0, .slice none 0 0, .string ⟨#[]⟩, .int .i64 0, .slice none 0 0, .slice none 0 0, .slice none 0 0] rfl rfl rfl one8 rfl KR.out ?_)
                exact bodyPost_ret (v := .tuple #[.agg #[.string ⟨#[]⟩, .int .i64 0, .slice none 0 0, .string ⟨#[]⟩, .int .i64 0, .slice none 0 0, .slice none 0 0, .slice none 0 0], .int .i64 11]) (by simp [results, Tryz.results15, asAddr, HLV.out]) rfl HFIN.out
              · have d7 : decide (s < 0) = false := decide_eq_false h7
                have d8 : decide ((ss.length : Int) ≤ s) = true := decide_eq_true (by omega)
                go_upto_region 5 with fail
                clear t0 t1 t2 u0 u1 u2
                have hEE : moveE ⟨id, o, cs, pr, st, mv, rs, ls⟩ ⟨name, ss, ms⟩ s day = 11 := moveE11 HALL.out h6
                obtain rfl : E = 11 := HE.out.symm.trans hEE
                obtain rfl : Z = Mt.zero := HZ.out.symm.trans (moveM_bad (by rw [hEE]; decide))
                clear hEE
                have hlv := row_load kz2 #[.string ⟨#[]⟩, .int .i64 0, .slice none 0 0, .string ⟨#[]⟩, .int .i64 0, .slice none 0 0, .slice none 0 0, .slice none 0 0] rfl
                have HLV := Lib.hid hlv
                have KR := Lib.hid kz2
                have hfin := mt_errO (w := w) (m0 := ⟨id, o, cs, pr, st, mv, rs, ls⟩) (x0 := ⟨a1, c1, a2, c2, a3, c3, a4, c4, lv⟩) (E := 11) (below_row hb2 (show w.heap.size ≤ w.heap.size + 1 + 1 by omega) #[.string ⟨#[]⟩, .int .i64 0, .slice none 0 0, .string ⟨#[]⟩, .int .i64 0, .slice none 0 0, .slice none 0 0, .slice none 0 0])
                have HFIN := Lib.hid hfin
                clear hlv hfin
                go_wp2_with (refine wp_row rfl (.tmp 8) (.tmp 54) rfl (w.heap.size + 1 + 1) #[.string ⟨#[]⟩, .int .i64 0, .slice none 0 0, .string ⟨#[]⟩, .int .i64 0, .slice none 0 0, .slice none 0 0, .slice none 0 0] rfl rfl rfl one8 rfl KR.out ?_)
                exact bodyPost_ret (v := .tuple #[.agg #[.string ⟨#[]⟩, .int .i64 0, .slice none 0 0, .string ⟨#[]⟩, .int .i64 0, .slice none 0 0, .slice none 0 0, .slice none 0 0], .int .i64 11]) (by simp [results, Tryz.results15, asAddr, HLV.out]) rfl HFIN.out
            · have d7 : decide (s < 0) = false := decide_eq_false (by omega)
              have d8 : decide ((ss.length : Int) ≤ s) = false := decide_eq_false (by omega)
              have HS1 := Lib.hid h6
              have hco := containsM_any w2 B b2 ms d2 (HPC.out.below (HB2.out.mono HB.out)).ms (Nat.le_trans HB.out HB2.out.size) (by omega) (st, s)
              clear h6 kz2 hb2
              by_cases h9 : (st, s) ∈ ms
              · rw [decide_eq_true h9] at hco
                have HCO := Lib.hid hco
                have HIN := Lib.hid h9
                clear hco h9
                go_wp2_with fail
                refine HCO.out.mono ?_
                rintro e w3 ⟨rfl, b3⟩
                have HB3 := Lib.hid (HB2.out.trans (b3.mono HB2.out.size))
                have KX3 := Lib.hid (KX2.out.below b3 KX2.out.lt)
                have KP3 := Lib.hid (KP2.out.below b3 KP2.out.lt)
                have KZ3 := Lib.hid (KZ2.out.below b3 KZ2.out.lt)
                clear b3 t0 t1 t2 u0 u1 u2 e3 e3' d4 d7 d8
                obtain ⟨t0, t1, t2⟩ := KX3.out.all
                obtain ⟨u0, u1, u2⟩ := KP3.out.all
                by_cases h10 : day < o
                · have hb3 := HB3.out
                  have kz3 := KZ3.out
                  go_upto_region 9 with fail
                  clear t0 t1 t2 u0 u1 u2
                  have hEE : moveE ⟨id, o, cs, pr, st, mv, rs, ls⟩ ⟨name, ss, ms⟩ s day = 24 := moveE24 HALL.out HS1.out HIN.out (.inl h10)
                  obtain rfl : E = 24 := HE.out.symm.trans hEE
                  obtain rfl : Z = Mt.zero := HZ.out.symm.trans (moveM_bad (by rw [hEE]; decide))
                  clear hEE
                  have hlv := row_load kz3 #[.string ⟨#[]⟩, .int .i64 0, .slice none 0 0, .string ⟨#[]⟩, .int .i64 0, .slice none 0 0, .slice none 0 0, .slice none 0 0] rfl
                  have HLV := Lib.hid hlv
                  have KR := Lib.hid kz3
                  have hfin := mt_errO (w := w) (m0 := ⟨id, o, cs, pr, st, mv, rs, ls⟩) (x0 := ⟨a1, c1, a2, c2, a3, c3, a4, c4, lv⟩) (E := 24) (below_row hb3 (show w.heap.size ≤ w.heap.size + 1 + 1 by omega) #[.string ⟨#[]⟩, .int .i64 0, .slice none 0 0, .string ⟨#[]⟩, .int .i64 0, .slice none 0 0, .slice none 0 0, .slice none 0 0])
                  have HFIN := Lib.hid hfin
                  clear hlv hfin
                  go_wp2_with (refine wp_row rfl (.tmp 8) (.tmp 84) rfl (w.heap.size + 1 + 1) #[.string ⟨#[]⟩, .int .i64 0, .slice none 0 0, .string ⟨#[]⟩, .int .i64 0, .slice none 0 0, .slice none 0 0, .slice none 0 0] rfl rfl rfl one8 rfl KR.out ?_)
                  exact bodyPost_ret (v := .tuple #[.agg #[.string ⟨#[]⟩, .int .i64 0, .slice none 0 0, .string ⟨#[]⟩, .int .i64 0, .slice none 0 0, .slice none 0 0, .slice none 0 0], .int .i64 24]) (by simp [results, Tryz.results15, asAddr, HLV.out]) rfl HFIN.out
                · have h10p : o ≤ day := by omega
                  have d10 : decide (day < o) = false := decide_eq_false h10
                  cases k2 with
                  | zero =>
                    have HND : Hid (¬ (day < o ∨ day < lastI o mv)) := Lib.hid (by
                      have : mv = [] := List.length_eq_zero_iff.1 HK2.out
                      rw [this]
                      show ¬ (day < o ∨ day < o)
                      omega)
                    have h9 : ¬ 60 ≤ 0 := by omega
                    have d9 : decide ((60 : Int) ≤ (0 : Int)) = false := decide_eq_false (by omega)
                    have hEE : moveE ⟨id, o, cs, pr, st, mv, rs, ls⟩ ⟨name, ss, ms⟩ s day = 0 := moveE0 HALL.out HS1.out HIN.out HND.out (by show ¬ 60 ≤ mv.length; rw [HK2.out]; exact h9)
                    obtain rfl : E = 0 := HE.out.symm.trans hEE
                    obtain rfl : Z = ⟨id, o, cs, pr, s, mv ++ [day], rs, ls⟩ := HZ.out.symm.trans (moveM_ok hEE)
                    clear hEE
                    have kx3 := KX3.out.set_ 4 (.int .i64 s)
                    have kz3 := KZ3.out.far (show w.heap.size + 1 + 1 ≠ w.heap.size by omega) (p := ⟨w.heap.size, 4, none⟩) (.int .i64 s)
                    have hb3 := HB3.out.setCell (p := ⟨w.heap.size, 4, none⟩) (Nat.le_refl _) (.int .i64 s)
                    go_upto_region 13 with fail
                    generalize w3.setCell ⟨w.heap.size, 4, none⟩ (.int .i64 s) = w4 at *
                    have KX4 := Lib.hid kx3
                    have KZ4 := Lib.hid kz3
                    have HB4 := Lib.hid hb3
                    clear kx3 kz3 hb3 t0 t1 t2 u0 u1 u2
                    obtain ⟨t0, t1, t2⟩ := KX4.out.all
                    have hcl := cloneI_any w4 B a2 mv c2 (H.out.below (HB4.out.mono HB.out)).mv (Nat.le_trans HB.out HB4.out.size) (by rw [HK2.out]; omega)
                    unfold ClonePostI at hcl
                    rw [HK2.out] at hcl
                    have HCL := Lib.hid hcl
                    clear hcl
                    go_wp2_with fail
                    refine HCL.out.mono ?_
                    rintro e w5 ⟨A4, k4, rfl, own4, b4⟩
                    have HB5 := Lib.hid (HB4.out.trans (b4.mono HB4.out.size))
                    have KX5 := Lib.hid (KX4.out.below b4 KX4.out.lt)
                    have KZ5 := Lib.hid (KZ4.out.below b4 KZ4.out.lt)
                    have kn := Blk.new w5 3 #[.int .i64 day]
                    have OW := Lib.hid own4
                    have KN := Lib.hid kn
                    have hz4 := b4.size
                    have hlen : 0 < 60 - 0 := by omega
                    clear b4 t0 t1 t2 own4 kn d9
                    go_upto_region 14 with (at_builtin; refine wpList_append_lies _ rfl _ _ 22 rfl w4.heap.size 3 i0 _ 1 8 Tryz.underlying22 hi0 hz0 hz1 hz2 rfl (by omega) (.slice A4 0 k4) 0 (intCells mv) rfl (World.ownsRow.alloc OW.out _) ⟨w5.heap.size, 0, none⟩ 1 1 [.int .i64 day] rfl rfl (World.news_of_block KN.out) (intCells_one [day]) (by omega) (by unfold maxLen; omega) (by omega) (by simp; omega) (w5.heap.size + 1) (by simp) ?_; intro gz cz Y own9 gr9 l9 z9; have kx6 := (KX5.out.alloc (.cells #[.int .i64 day] 3)).grown gr9 (fun e => own_blk_ne OW.out KX5.out (by decide) e.symm); obtain ⟨t0, t1, t2⟩ := kx6.all)
                    have kx7 := kx6.set_ 5 (.slice (some ⟨gz, 0, none⟩) (0 + 1) cz)
                    have kz6 := (KZ5.out.alloc (.cells #[.int .i64 day] 3)).grown gr9 (fun e => own_blk_ne OW.out KZ5.out (by decide) e.symm)
                    have kz7 := kz6.far (show w.heap.size + 1 + 1 ≠ w.heap.size by omega) (p := ⟨w.heap.size, 5, none⟩) (.slice (some ⟨gz, 0, none⟩) (0 + 1) cz)
                    have hb6 := (HB5.out.alloc HB5.out.size (.cells #[.int .i64 day] 3)).grown gr9 (by simp; have := HB5.out.size; omega) (fun k e => Nat.le_trans HB4.out.size (World.ownsRow.lt OW.out k e).1)
                    have hb7 := hb6.setCell (p := ⟨w.heap.size, 5, none⟩) (Nat.le_refl _) (.slice (some ⟨gz, 0, none⟩) (0 + 1) cz)
                    have own6 := ((Only.refl (fun g => g = w.heap.size) Y).setCell (p := ⟨w.heap.size, 5, none⟩) (.inl rfl) (.slice (some ⟨gz, 0, none⟩) (0 + 1) cz)).owns own9 (fun g hv hg => own_blk_ne own9 kx6 (by decide) (by rw [hv, hg]))
                    have own7 := (only_setRow (Y.setCell ⟨w.heap.size, 5, none⟩ (.slice (some ⟨gz, 0, none⟩) (0 + 1) cz)) (w.heap.size + 1 + 1) #[.string id, .int .i64 o, .slice a1 cs.length c1, .string pr, .int .i64 s, .slice (some ⟨gz, 0, none⟩) (0 + 1) cz, .slice a3 rs.length c3, .slice a4 ls.length c4]).owns own6 (fun g hv hg => own_blk_ne own6 kz7 (by decide) (by rw [hv, hg]))
                    have hb8 := below_row hb7 (show w.heap.size ≤ w.heap.size + 1 + 1 by omega) #[.string id, .int .i64 o, .slice a1 cs.length c1, .string pr, .int .i64 s, .slice (some ⟨gz, 0, none⟩) (0 + 1) cz, .slice a3 rs.length c3, .slice a4 ls.length c4]
                    have hlv := row_load kz7 #[.string id, .int .i64 o, .slice a1 cs.length c1, .string pr, .int .i64 s, .slice (some ⟨gz, 0, none⟩) (0 + 1) cz, .slice a3 rs.length c3, .slice a4 ls.length c4] rfl
                    have KX7 := Lib.hid kx7
                    have KZ7 := Lib.hid kz7
                    have OW7 := Lib.hid own7
                    have HB8 := Lib.hid hb8
                    have HLV := Lib.hid hlv
                    clear kx6 kx7 kz6 kz7 hb6 hb7 own6 own7 hb8 hlv t0 t1 t2 own9 gr9 l9 z9
                    obtain ⟨t0, t1, t2⟩ := KX7.out.all
                    go_wp2_with (refine wp_row rfl (.tmp 8) (.tmp 98) rfl (w.heap.size + 1 + 1) #[.string id, .int .i64 o, .slice a1 cs.length c1, .string pr, .int .i64 s, .slice (some ⟨gz, 0, none⟩) (0 + 1) cz, .slice a3 rs.length c3, .slice a4 ls.length c4] rfl rfl rfl one8 rfl KZ7.out ?_)
                    refine bodyPost_ret (v := .tuple #[.agg #[.string id, .int .i64 o, .slice a1 cs.length c1, .string pr, .int .i64 s, .slice (some ⟨gz, 0, none⟩) (0 + 1) cz, .slice a3 rs.length c3, .slice a4 ls.length c4], .int .i64 0]) (by simp [results, Tryz.results15, asAddr, HLV.out]) rfl ?_
                    have hlen2 : (mv ++ [day]).length = 0 + 1 := by rw [List.length_append, HK2.out]; rfl
                    have hrow := IntsAt.of_row hlen2 (by rw [intCells_app]; exact OW7.out)
                    have hm := H.out.below (HB8.out.mono HB.out)
                    have hsz7 := Nat.le_trans HB.out HB8.out.size
                    refine ⟨⟨a1, c1, some ⟨gz, 0, none⟩, cz, a3, c3, a4, c4, lv⟩, ?_, ⟨⟨hm.cs.wide hsz7, hrow, hm.rs.wide hsz7, hm.ls.wide hsz7, hm.lv, hm.id, hm.pr, hm.rn⟩, fun g hg h => ⟨h.1, fun _ a ha => by injection ha with ha; subst ha; show gz ≠ g; have h1 := (World.ownsRow.lt OW7.out gz rfl).1; have h2 := HB4.out.size; omega, h.2.2.1, h.2.2.2.1, h.2.2.2.2⟩⟩, HB8.out⟩
                    unfold mtC
                    simp only [hlen2]
                  | succ n =>
                    obtain ⟨z, hz⟩ : ∃ z, mv[n]? = some z := ⟨_, List.getElem?_eq_getElem (by rw [HK2.out]; omega)⟩
                    obtain ⟨g, off, hA, hg, e1⟩ := (H.out.below (HB3.out.mono HB.out)).mv n z hz
                    simp only at hA
                    subst hA
                    have hlast : lastI o mv = z := by unfold lastI; rw [List.getLast?_eq_getElem?, HK2.out]; show (mv[n]?).getD o = z; rw [hz]; rfl
                    have r5 : (0 : Int) < (n : Int) + 1 := by omega
                    have HLA := Lib.hid hlast
                    clear hlast hz
                    by_cases h11 : day < z
                    · have hb3 := HB3.out
                      have kz3 := KZ3.out
                      go_upto_region 9 with fail
                      clear t0 t1 t2 u0 u1 u2 e1
                      have hEE : moveE ⟨id, o, cs, pr, st, mv, rs, ls⟩ ⟨name, ss, ms⟩ s day = 24 := moveE24 HALL.out HS1.out HIN.out (.inr (by show day < lastI o mv; rw [HLA.out]; exact h11))
                      obtain rfl : E = 24 := HE.out.symm.trans hEE
                      obtain rfl : Z = Mt.zero := HZ.out.symm.trans (moveM_bad (by rw [hEE]; decide))
                      clear hEE
                      have hlv := row_load kz3 #[.string ⟨#[]⟩, .int .i64 0, .slice none 0 0, .string ⟨#[]⟩, .int .i64 0, .slice none 0 0, .slice none 0 0, .slice none 0 0] rfl
                      have HLV := Lib.hid hlv
                      have KR := Lib.hid kz3
                      have hfin := mt_errO (w := w) (m0 := ⟨id, o, cs, pr, st, mv, rs, ls⟩) (x0 := ⟨a1, c1, some ⟨g, off, none⟩, c2, a3, c3, a4, c4, lv⟩) (E := 24) (below_row hb3 (show w.heap.size ≤ w.heap.size + 1 + 1 by omega) #[.string ⟨#[]⟩, .int .i64 0, .slice none 0 0, .string ⟨#[]⟩, .int .i64 0, .slice none 0 0, .slice none 0 0, .slice none 0 0])
                      have HFIN := Lib.hid hfin
                      clear hlv hfin
                      go_wp2_with (refine wp_row rfl (.tmp 8) (.tmp 84) rfl (w.heap.size + 1 + 1) #[.string ⟨#[]⟩, .int .i64 0, .slice none 0 0, .string ⟨#[]⟩, .int .i64 0, .slice none 0 0, .slice none 0 0, .slice none 0 0] rfl rfl rfl one8 rfl KR.out ?_)
                      exact bodyPost_ret (v := .tuple #[.agg #[.string ⟨#[]⟩, .int .i64 0, .slice none 0 0, .string ⟨#[]⟩, .int .i64 0, .slice none 0 0, .slice none 0 0, .slice none 0 0], .int .i64 24]) (by simp [results, Tryz.results15, asAddr, HLV.out]) rfl HFIN.out
                    · have HND : Hid (¬ (day < o ∨ day < lastI o mv)) := Lib.hid (by rw [HLA.out]; omega)
                      have h11p : z ≤ day := by omega
                      by_cases h9 : 60 ≤ (n + 1)
                      · have d9 : decide ((60 : Int) ≤ ((n + 1) : Int)) = true := decide_eq_true (by omega)
                        have hb3 := HB3.out
                        have kz3 := KZ3.out
                        go_upto_region 11 with fail
                        clear t0 t1 t2 u0 u1 u2
                        have hEE : moveE ⟨id, o, cs, pr, st, mv, rs, ls⟩ ⟨name, ss, ms⟩ s day = 2 := moveE2 HALL.out HS1.out HIN.out HND.out (by show 60 ≤ mv.length; rw [HK2.out]; exact h9)
                        obtain rfl : E = 2 := HE.out.symm.trans hEE
                        obtain rfl : Z = Mt.zero := HZ.out.symm.trans (moveM_bad (by rw [hEE]; decide))
                        clear hEE
                        have hlv := row_load kz3 #[.string ⟨#[]⟩, .int .i64 0, .slice none 0 0, .string ⟨#[]⟩, .int .i64 0, .slice none 0 0, .slice none 0 0, .slice none 0 0] rfl
                        have HLV := Lib.hid hlv
                        have KR := Lib.hid kz3
                        have hfin := mt_errO (w := w) (m0 := ⟨id, o, cs, pr, st, mv, rs, ls⟩) (x0 := ⟨a1, c1, some ⟨g, off, none⟩, c2, a3, c3, a4, c4, lv⟩) (E := 2) (below_row hb3 (show w.heap.size ≤ w.heap.size + 1 + 1 by omega) #[.string ⟨#[]⟩, .int .i64 0, .slice none 0 0, .string ⟨#[]⟩, .int .i64 0, .slice none 0 0, .slice none 0 0, .slice none 0 0])
                        have HFIN := Lib.hid hfin
                        clear hlv hfin
                        go_wp2_with (refine wp_row rfl (.tmp 8) (.tmp 88) rfl (w.heap.size + 1 + 1) #[.string ⟨#[]⟩, .int .i64 0, .slice none 0 0, .string ⟨#[]⟩, .int .i64 0, .slice none 0 0, .slice none 0 0, .slice none 0 0] rfl rfl rfl one8 rfl KR.out ?_)
                        exact bodyPost_ret (v := .tuple #[.agg #[.string ⟨#[]⟩, .int .i64 0, .slice none 0 0, .string ⟨#[]⟩, .int .i64 0, .slice none 0 0, .slice none 0 0, .slice none 0 0], .int .i64 2]) (by simp [results, Tryz.results15, asAddr, HLV.out]) rfl HFIN.out
                      · have d9 : decide ((60 : Int) ≤ ((n + 1) : Int)) = false := decide_eq_false (by omega)
                        have hEE : moveE ⟨id, o, cs, pr, st, mv, rs, ls⟩ ⟨name, ss, ms⟩ s day = 0 := moveE0 HALL.out HS1.out HIN.out HND.out (by show ¬ 60 ≤ mv.length; rw [HK2.out]; exact h9)
                        obtain rfl : E = 0 := HE.out.symm.trans hEE
                        obtain rfl : Z = ⟨id, o, cs, pr, s, mv ++ [day], rs, ls⟩ := HZ.out.symm.trans (moveM_ok hEE)
                        clear hEE
                        have kx3 := KX3.out.set_ 4 (.int .i64 s)
                        have kz3 := KZ3.out.far (show w.heap.size + 1 + 1 ≠ w.heap.size by omega) (p := ⟨w.heap.size, 4, none⟩) (.int .i64 s)
                        have hb3 := HB3.out.setCell (p := ⟨w.heap.size, 4, none⟩) (Nat.le_refl _) (.int .i64 s)
                        go_upto_region 13 with fail
                        generalize w3.setCell ⟨w.heap.size, 4, none⟩ (.int .i64 s) = w4 at *
                        have KX4 := Lib.hid kx3
                        have KZ4 := Lib.hid kz3
                        have HB4 := Lib.hid hb3
                        clear kx3 kz3 hb3 t0 t1 t2 u0 u1 u2
                        obtain ⟨t0, t1, t2⟩ := KX4.out.all
                        have hcl := cloneI_any w4 B (some ⟨g, off, none⟩) mv c2 (H.out.below (HB4.out.mono HB.out)).mv (Nat.le_trans HB.out HB4.out.size) (by rw [HK2.out]; omega)
                        unfold ClonePostI at hcl
                        rw [HK2.out] at hcl
                        have HCL := Lib.hid hcl
                        clear hcl
                        go_wp2_with fail
                        refine HCL.out.mono ?_
                        rintro e w5 ⟨A4, k4, rfl, own4, b4⟩
                        have HB5 := Lib.hid (HB4.out.trans (b4.mono HB4.out.size))
                        have KX5 := Lib.hid (KX4.out.below b4 KX4.out.lt)
                        have KZ5 := Lib.hid (KZ4.out.below b4 KZ4.out.lt)
                        have kn := Blk.new w5 3 #[.int .i64 day]
                        have OW := Lib.hid own4
                        have KN := Lib.hid kn
                        have hz4 := b4.size
                        have hlen : 0 < 60 - (n + 1) := by omega
                        clear b4 t0 t1 t2 own4 kn d9
                        go_upto_region 14 with (at_builtin; refine wpList_append_lies _ rfl _ _ 22 rfl w4.heap.size 3 i0 _ 1 8 Tryz.underlying22 hi0 hz0 hz1 hz2 rfl (by omega) (.slice A4 (n + 1) k4) (n + 1) (intCells mv) rfl (World.ownsRow.alloc OW.out _) ⟨w5.heap.size, 0, none⟩ 1 1 [.int .i64 day] rfl rfl (World.news_of_block KN.out) (intCells_one [day]) (by omega) (by unfold maxLen; omega) (by omega) (by simp; omega) (w5.heap.size + 1) (by simp) ?_; intro gz cz Y own9 gr9 l9 z9; have kx6 := (KX5.out.alloc (.cells #[.int .i64 day] 3)).grown gr9 (fun e => own_blk_ne OW.out KX5.out (by decide) e.symm); obtain ⟨t0, t1, t2⟩ := kx6.all)
                        have kx7 := kx6.set_ 5 (.slice (some ⟨gz, 0, none⟩) ((n + 1) + 1) cz)
                        have kz6 := (KZ5.out.alloc (.cells #[.int .i64 day] 3)).grown gr9 (fun e => own_blk_ne OW.out KZ5.out (by decide) e.symm)
                        have kz7 := kz6.far (show w.heap.size + 1 + 1 ≠ w.heap.size by omega) (p := ⟨w.heap.size, 5, none⟩) (.slice (some ⟨gz, 0, none⟩) ((n + 1) + 1) cz)
                        have hb6 := (HB5.out.alloc HB5.out.size (.cells #[.int .i64 day] 3)).grown gr9 (by simp; have := HB5.out.size; omega) (fun k e => Nat.le_trans HB4.out.size (World.ownsRow.lt OW.out k e).1)
                        have hb7 := hb6.setCell (p := ⟨w.heap.size, 5, none⟩) (Nat.le_refl _) (.slice (some ⟨gz, 0, none⟩) ((n + 1) + 1) cz)
                        have own6 := ((Only.refl (fun g => g = w.heap.size) Y).setCell (p := ⟨w.heap.size, 5, none⟩) (.inl rfl) (.slice (some ⟨gz, 0, none⟩) ((n + 1) + 1) cz)).owns own9 (fun g hv hg => own_blk_ne own9 kx6 (by decide) (by rw [hv, hg]))
                        have own7 := (only_setRow (Y.setCell ⟨w.heap.size, 5, none⟩ (.slice (some ⟨gz, 0, none⟩) ((n + 1) + 1) cz)) (w.heap.size + 1 + 1) #[.string id, .int .i64 o, .slice a1 cs.length c1, .string pr, .int .i64 s, .slice (some ⟨gz, 0, none⟩) ((n + 1) + 1) cz, .slice a3 rs.length c3, .slice a4 ls.length c4]).owns own6 (fun g hv hg => own_blk_ne own6 kz7 (by decide) (by rw [hv, hg]))
                        have hb8 := below_row hb7 (show w.heap.size ≤ w.heap.size + 1 + 1 by omega) #[.string id, .int .i64 o, .slice a1 cs.length c1, .string pr, .int .i64 s, .slice (some ⟨gz, 0, none⟩) ((n + 1) + 1) cz, .slice a3 rs.length c3, .slice a4 ls.length c4]
                        have hlv := row_load kz7 #[.string id, .int .i64 o, .slice a1 cs.length c1, .string pr, .int .i64 s, .slice (some ⟨gz, 0, none⟩) ((n + 1) + 1) cz, .slice a3 rs.length c3, .slice a4 ls.length c4] rfl
                        have KX7 := Lib.hid kx7
                        have KZ7 := Lib.hid kz7
                        have OW7 := Lib.hid own7
                        have HB8 := Lib.hid hb8
                        have HLV := Lib.hid hlv
                        clear kx6 kx7 kz6 kz7 hb6 hb7 own6 own7 hb8 hlv t0 t1 t2 own9 gr9 l9 z9
                        obtain ⟨t0, t1, t2⟩ := KX7.out.all
                        go_wp2_with (refine wp_row rfl (.tmp 8) (.tmp 98) rfl (w.heap.size + 1 + 1) #[.string id, .int .i64 o, .slice a1 cs.length c1, .string pr, .int .i64 s, .slice (some ⟨gz, 0, none⟩) ((n + 1) + 1) cz, .slice a3 rs.length c3, .slice a4 ls.length c4] rfl rfl rfl one8 rfl KZ7.out ?_)
                        refine bodyPost_ret (v := .tuple #[.agg #[.string id, .int .i64 o, .slice a1 cs.length c1, .string pr, .int .i64 s, .slice (some ⟨gz, 0, none⟩) ((n + 1) + 1) cz, .slice a3 rs.length c3, .slice a4 ls.length c4], .int .i64 0]) (by simp [results, Tryz.results15, asAddr, HLV.out]) rfl ?_
                        have hlen2 : (mv ++ [day]).length = (n + 1) + 1 := by rw [List.length_append, HK2.out]; rfl
                        have hrow := IntsAt.of_row hlen2 (by rw [intCells_app]; exact OW7.out)
                        have hm := H.out.below (HB8.out.mono HB.out)
                        have hsz7 := Nat.le_trans HB.out HB8.out.size
                        refine ⟨⟨a1, c1, some ⟨gz, 0, none⟩, cz, a3, c3, a4, c4, lv⟩, ?_, ⟨⟨hm.cs.wide hsz7, hrow, hm.rs.wide hsz7, hm.ls.wide hsz7, hm.lv, hm.id, hm.pr, hm.rn⟩, fun g hg h => ⟨h.1, fun _ a ha => by injection ha with ha; subst ha; show gz ≠ g; have h1 := (World.ownsRow.lt OW7.out gz rfl).1; have h2 := HB4.out.size; omega, h.2.2.1, h.2.2.2.1, h.2.2.2.2⟩⟩, HB8.out⟩
                        unfold mtC
                        simp only [hlen2]
              · rw [decide_eq_false h9] at hco
                have HCO := Lib.hid hco
                have HNI := Lib.hid h9
                clear hco h9
                go_wp2_with fail
                refine HCO.out.mono ?_
                rintro e w3 ⟨rfl, b3⟩
                have hb3 := HB2.out.trans (b3.mono HB2.out.size)
                have kz3 := KZ2.out.below b3 KZ2.out.lt
                clear b3 t0 t1 t2 u0 u1 u2
                go_upto_region 7 with fail
                have hEE : moveE ⟨id, o, cs, pr, st, mv, rs, ls⟩ ⟨name, ss, ms⟩ s day = 12 := moveE12 HALL.out HS1.out HNI.out
                obtain rfl : E = 12 := HE.out.symm.trans hEE
                obtain rfl : Z = Mt.zero := HZ.out.symm.trans (moveM_bad (by rw [hEE]; decide))
                clear hEE
                have hlv := row_load kz3 #[.string ⟨#[]⟩, .int .i64 0, .slice none 0 0, .string ⟨#[]⟩, .int .i64 0, .slice none 0 0, .slice none 0 0, .slice none 0 0] rfl
                have HLV := Lib.hid hlv
                have KR := Lib.hid kz3
                have hfin := mt_errO (w := w) (m0 := ⟨id, o, cs, pr, st, mv, rs, ls⟩) (x0 := ⟨a1, c1, a2, c2, a3, c3, a4, c4, lv⟩) (E := 12) (below_row hb3 (show w.heap.size ≤ w.heap.size + 1 + 1 by omega) #[.string ⟨#[]⟩, .int .i64 0, .slice none 0 0, .string ⟨#[]⟩, .int .i64 0, .slice none 0 0, .slice none 0 0, .slice none 0 0])
                have HFIN := Lib.hid hfin
                clear hlv hfin
                go_wp2_with (refine wp_row rfl (.tmp 8) (.tmp 64) rfl (w.heap.size + 1 + 1) #[.string ⟨#[]⟩, .int .i64 0, .slice none 0 0, .string ⟨#[]⟩, .int .i64 0, .slice none 0 0, .slice none 0 0, .slice none 0 0] rfl rfl rfl one8 rfl KR.out ?_)
                exact bodyPost_ret (v := .tuple #[.agg #[.string ⟨#[]⟩, .int .i64 0, .slice none 0 0, .string ⟨#[]⟩, .int .i64 0, .slice none 0 0, .slice none 0 0, .slice none 0 0], .int .i64 12]) (by simp [results, Tryz.results15, asAddr, HLV.out]) rfl HFIN.out
        · have d4 : decide ((ss.length : Int) ≤ st) = true := decide_eq_true (by omega)
          go_upto_region 3 with fail
          clear t0 t1 t2 u0 u1 u2
          have hEE : moveE ⟨id, o, cs, pr, st, mv, rs, ls⟩ ⟨name, ss, ms⟩ s day = 1 := moveE1 (by unfold okM; have h4n : ¬ st < (ss.length : Int) := (by omega); simp [h4n])
          obtain rfl : E = 1 := HE.out.symm.trans hEE
          obtain rfl : Z = Mt.zero := HZ.out.symm.trans (moveM_bad (by rw [hEE]; decide))
          clear hEE
          have hlv := row_load kz2 #[.string ⟨#[]⟩, .int .i64 0, .slice none 0 0, .string ⟨#[]⟩, .int .i64 0, .slice none 0 0, .slice none 0 0, .slice none 0 0] rfl
          have HLV := Lib.hid hlv
          have KR := Lib.hid kz2
          have hfin := mt_errO (w := w) (m0 := ⟨id, o, cs, pr, st, mv, rs, ls⟩) (x0 := ⟨a1, c1, a2, c2, a3, c3, a4, c4, lv⟩) (E := 1) (below_row hb2 (show w.heap.size ≤ w.heap.size + 1 + 1 by omega) #[.string ⟨#[]⟩, .int .i64 0, .slice none 0 0, .string ⟨#[]⟩, .int .i64 0, .slice none 0 0, .slice none 0 0, .slice none 0 0])
          have HFIN := Lib.hid hfin
          clear hlv hfin
          go_wp2_with (refine wp_row rfl (.tmp 8) (.tmp 43) rfl (w.heap.size + 1 + 1) #[.string ⟨#[]⟩, .int .i64 0, .slice none 0 0, .string ⟨#[]⟩, .int .i64 0, .slice none 0 0, .slice none 0 0, .slice none 0 0] rfl rfl rfl one8 rfl KR.out ?_)
          exact bodyPost_ret (v := .tuple #[.agg #[.string ⟨#[]⟩, .int .i64 0, .slice none 0 0, .string ⟨#[]⟩, .int .i64 0, .slice none 0 0, .slice none 0 0, .slice none 0 0], .int .i64 1]) (by simp [results, Tryz.results15, asAddr, HLV.out]) rfl HFIN.out
      · have e3 : (pr.toList != name.toList) = true := by have := str_no h3; simp only [bne, this]; rfl
        have e3' := str_no h3
        go_upto_region 3 with fail
        clear t0 t1 t2 u0 u1 u2
        have hEE : moveE ⟨id, o, cs, pr, st, mv, rs, ls⟩ ⟨name, ss, ms⟩ s day = 1 := moveE1 (by unfold okM; simp [h3])
        obtain rfl : E = 1 := HE.out.symm.trans hEE
        obtain rfl : Z = Mt.zero := HZ.out.symm.trans (moveM_bad (by rw [hEE]; decide))
        clear hEE
        have hlv := row_load kz2 #[.string ⟨#[]⟩, .int .i64 0, .slice none 0 0, .string ⟨#[]⟩, .int .i64 0, .slice none 0 0, .slice none 0 0, .slice none 0 0] rfl
        have HLV := Lib.hid hlv
        have KR := Lib.hid kz2
        have hfin := mt_errO (w := w) (m0 := ⟨id, o, cs, pr, st, mv, rs, ls⟩) (x0 := ⟨a1, c1, a2, c2, a3, c3, a4, c4, lv⟩) (E := 1) (below_row hb2 (show w.heap.size ≤ w.heap.size + 1 + 1 by omega) #[.string ⟨#[]⟩, .int .i64 0, .slice none 0 0, .string ⟨#[]⟩, .int .i64 0, .slice none 0 0, .slice none 0 0, .slice none 0 0])
        have HFIN := Lib.hid hfin
        clear hlv hfin
        go_wp2_with (refine wp_row rfl (.tmp 8) (.tmp 43) rfl (w.heap.size + 1 + 1) #[.string ⟨#[]⟩, .int .i64 0, .slice none 0 0, .string ⟨#[]⟩, .int .i64 0, .slice none 0 0, .slice none 0 0, .slice none 0 0] rfl rfl rfl one8 rfl KR.out ?_)
        exact bodyPost_ret (v := .tuple #[.agg #[.string ⟨#[]⟩, .int .i64 0, .slice none 0 0, .string ⟨#[]⟩, .int .i64 0, .slice none 0 0, .slice none 0 0, .slice none 0 0], .int .i64 1]) (by simp [results, Tryz.results15, asAddr, HLV.out]) rfl HFIN.out
end Go.Proofs.YtebdkmlganalaaaGreatDoor
