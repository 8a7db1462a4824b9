/- Package matter's Text. -/
import Derived.Test.YtebdkmlganalaaaGreatDoorKTopAccruedGBB
import Derived.Test.YtebdkmlganalaaaGreatDoorKTopAccruedPlan
import Derived.Deep.DeepCutAuto
import Derived.Deep.LoopGhost
namespace Go.Proofs.YtebdkmlganalaaaGreatDoor
open Go.RowKit Go.Shelf

def TextPost (w : World) (m : Mt) (e : Ending) (w' : World) : Prop := e = .returned (.tuple #[.string (bs (if fmB m then textL m else [])), .int .i64 (if fmB m then 0 else 1)]) ∧ Below w.heap.size w w'
set_option maxRecDepth 100000 in
set_option maxHeartbeats 8000000 in
theorem text_any (w : World) (ht : Tbs w) (B : Nat) (m : Mt) (x : MtX) (h : MtAt w B m x) (hB : B ≤ w.heap.size) (hs : Sml m) :
    Calls Tryz.prog 25 #[.agg (mtC m x)] w (TextPost w m) := by
  obtain ⟨i0, hi0, hz0, hz1, hz2⟩ := info_parts Tryz.infoInt
  obtain ⟨R, hR⟩ : ∃ R, (if fmB m then textL m else []) = R := ⟨_, rfl⟩
  obtain ⟨E, hE⟩ : ∃ E : Int, (if fmB m then (0 : Int) else 1) = E := ⟨_, rfl⟩
  unfold TextPost
  rw [hR, hE]
  have hfo := fun W (hb : Below w.heap.size w W) => formed_any W B _ _ (h.below (hb.mono hB)) (Nat.le_trans hB hb.size) hs
  have H := Lib.hid h
  obtain ⟨id, o, cs, pr, st, mv, rs, ls⟩ := m
  obtain ⟨a1, c1, a2, c2, a3, c3, a4, c4, lv⟩ := x
  obtain ⟨s1, s2, s3, s4⟩ := hs
  simp only at s1 s2 s3 s4
  show Calls Tryz.prog 25 #[.agg #[.string id, .int .i64 o, .slice a1 cs.length c1, .string pr, .int .i64 st, .slice a2 mv.length c2, .slice a3 rs.length c3, .slice a4 ls.length c4]] w _
  have hfo2 : ∀ W, Below w.heap.size w W → Calls Tryz.prog 21 #[.agg #[.string id, .int .i64 o, .slice a1 cs.length c1, .string pr, .int .i64 st, .slice a2 mv.length c2, .slice a3 rs.length c3, .slice a4 ls.length c4]] W fun e w' => e = .returned (.bool (fmB ⟨id, o, cs, pr, st, mv, rs, ls⟩)) ∧ Below W.heap.size W w' := hfo
  have hb := below_self_alloc w (.cells #[.string id, .int .i64 o, .slice a1 cs.length c1, .string pr, .int .i64 st, .slice a2 mv.length c2, .slice a3 rs.length c3, .slice a4 ls.length c4] 27)
  have kx := Blk.new w 27 #[.string id, .int .i64 o, .slice a1 cs.length c1, .string pr, .int .i64 st, .slice a2 mv.length c2, .slice a3 rs.length c3, .slice a4 ls.length c4]
  have hf := hfo2 _ hb
  have HTB := Lib.hid ht
  have HB := Lib.hid hB
  have HR := Lib.hid hR
  have HE := Lib.hid hE
  clear hfo hfo2 h ht hB hR hE
  obtain ⟨t0, t1, t2⟩ := kx.all
  cases h1 : fmB ⟨id, o, cs, pr, st, mv, rs, ls⟩ with
  | false =>
    rw [h1] at hf
    have HF := Lib.hid hf
    have hR := HR.out
    have hE := HE.out
    rw [h1] at hR hE
    obtain rfl : [] = R := hR
    obtain rfl : (1 : Int) = E := hE
    clear hf h1
    go_enter Tryz.func25, Tryz.ntmps25
    go_wp2_with fail
    refine HF.out.mono ?_
    rintro e w1 ⟨rfl, b1⟩
    have hb1 := hb.trans (b1.mono hb.size)
    clear t0 t1 t2 b1
    go_wp2
    go_ret2
    exact ⟨rfl, hb1⟩
  | true =>
    rw [h1] at hf
    have HF := Lib.hid hf
    have hR := HR.out
    have hE := HE.out
    rw [h1] at hR hE
    obtain rfl : (0 : Int) = E := hE
    have HT := Lib.hid hR
    have hfm := fmB_iff.1 h1
    clear hf h1 hR HR HE
    simp only at hfm
    obtain ⟨f1, f2, f3, f4, f5, f6, f7, f8, f9, f10⟩ := hfm
    have hid := name_len f1
    have hpl := name_len f2
    have ho := isB_wf f3
    have hst : wf64 st := ⟨by omega, by omega⟩
    have hcsw : ∀ n ∈ cs, wf64 n := fun n hn => isB_wf (f5 n hn)
    have hmvw := upB_wf mv o (((isB_iff o).1 f3).1) f7
    have r9 := difB_iff.1 f9
    have r10 := difB_iff.1 f10
    have hit := fun W (ht : Tbs W) => itoa_int W ht o ho.1 ho.2
    have hil := itoa_len ho.1 ho.2
    have hhl : ([] : List UInt8).length + (headL ⟨id, o, cs, pr, st, mv, rs, ls⟩).length ≤ 1000 := by
      have e7 : mattL.length = 7 := rfl
      simp only [headL, List.length_append, List.length_cons, List.length_nil, e7]
      omega
    have hfin : textL ⟨id, o, cs, pr, st, mv, rs, ls⟩ = R := HT.out
    obtain ⟨D, hD⟩ : ∃ D, Lib.itoa o = D := ⟨_, rfl⟩
    rw [hD] at hit hil
    obtain ⟨X1, hX1⟩ : ∃ X, bs (mattL ++ sL id) = X := ⟨_, rfl⟩
    obtain ⟨X2, hX2⟩ : ∃ X, bs ((mattL ++ sL id) ++ [32]) = X := ⟨_, rfl⟩
    obtain ⟨X3, hX3⟩ : ∃ X, bs (((mattL ++ sL id) ++ [32]) ++ D) = X := ⟨_, rfl⟩
    obtain ⟨X4, hX4⟩ : ∃ X, bs ((((mattL ++ sL id) ++ [32]) ++ D) ++ [32]) = X := ⟨_, rfl⟩
    obtain ⟨X5, hX5⟩ : ∃ X, bs (((((mattL ++ sL id) ++ [32]) ++ D) ++ [32]) ++ sL pr) = X := ⟨_, rfl⟩
    obtain ⟨XD, hXD⟩ : ∃ X, bs D = X := ⟨_, rfl⟩
    rw [hXD] at hit
    have ml : mattL.length = 7 := rfl
    have g1 := fun W => (sum_x (A := mattL) (B := sL id) (a := ⟨#[109, 97, 116, 116, 101, 114, 32]⟩) (b := id) rfl rfl (by omega) W)
    have g2 := fun W => (sum_x (A := mattL ++ sL id) (B := [32]) (a := X1) (b := ⟨#[32]⟩) hX1.symm rfl (by simp only [List.length_append, List.length_cons, List.length_nil]; omega) W)
    have g3 := fun W => (sum_x (A := (mattL ++ sL id) ++ [32]) (B := D) (a := X2) (b := XD) hX2.symm hXD.symm (by simp only [List.length_append, List.length_cons, List.length_nil]; omega) W)
    have g4 := fun W => (sum_x (A := ((mattL ++ sL id) ++ [32]) ++ D) (B := [32]) (a := X3) (b := ⟨#[32]⟩) hX3.symm rfl (by simp only [List.length_append, List.length_cons, List.length_nil]; omega) W)
    have g5 := fun W => (sum_x (A := (((mattL ++ sL id) ++ [32]) ++ D) ++ [32]) (B := sL pr) (a := X4) (b := pr) hX4.symm rfl (by simp only [List.length_append, List.length_cons, List.length_nil]; omega) W)
    rw [hX1] at g1
    rw [hX2] at g2
    rw [hX3] at g3
    rw [hX4] at g4
    rw [hX5] at g5
    have HX5 : Hid (X5 = bs (headL ⟨id, o, cs, pr, st, mv, rs, ls⟩)) := Lib.hid (by rw [← hX5]; unfold headL; rw [hD]; simp [List.append_assoc])
    have HIT := Lib.hid hit
    have HCS := Lib.hid hcsw
    have HMV := Lib.hid hmvw
    have R9 := Lib.hid r9
    have R10 := Lib.hid r10
    have HFIN := Lib.hid hfin
    clear hX1 hX2 hX3 hX4 hX5 hXD hD hit hcsw hmvw r9 r10 hfin f1 f2 f3 f5 f7 f9 f10 HT ml
    go_enter Tryz.func25, Tryz.ntmps25
    go_wp2_with fail
    refine HF.out.mono ?_
    rintro e w1 ⟨rfl, b1⟩
    have hb1 := hb.trans (b1.mono hb.size)
    have k1 := kx.below b1 kx.lt
    clear t0 t1 t2 b1 hb kx
    have kb := Blk.new w1 119 #[.pointer none, .slice none 0 0]
    have hq : w.heap.size < w1.heap.size := k1.lt
    have k2 := k1.alloc (.cells #[.pointer none, .slice none 0 0] 119)
    have hb2 := hb1.alloc hb1.size (.cells #[.pointer none, .slice none 0 0] 119)
    have hsz2 : (w1.alloc (.cells #[.pointer none, .slice none 0 0] 119)).heap.size = w1.heap.size + 1 := by simp
    go_upto_region 5 with fail
    generalize w1.alloc (.cells #[.pointer none, .slice none 0 0] 119) = W2 at *
    obtain ⟨b, hbb⟩ : ∃ b, w1.heap.size = b := ⟨_, rfl⟩
    rw [hbb] at kb hq hsz2 ⊢
    have hbld : Bld b b [] W2 := Bld.fresh (Nat.le_refl _) kb
    have HBD := Lib.hid hbld
    have KX := Lib.hid k2
    have HB2 := Lib.hid hb2
    clear hbld k2 hb2 kb k1 hb1 hbb
    go_cut [] (fun wx => Hid (Bld b b ([] ++ lineL (headL ⟨id, o, cs, pr, st, mv, rs, ls⟩) [st]) wx) ∧ Hid (Below w.heap.size w wx) ∧ Hid (Blk wx w.heap.size 27 #[.string id, .int .i64 o, .slice a1 cs.length c1, .string pr, .int .i64 st, .slice a2 mv.length c2, .slice a3 rs.length c3, .slice a4 ls.length c4]) ∧ b < wx.heap.size)
    case first =>
      have kx := KX.out.drew
      have hb := HB2.out.drew
      have bl : Bld b b [] W2.drew := HBD.out.below (Below.refl _ W2).drew
      have hv : b < W2.drew.heap.size := show b < W2.heap.size by omega
      clear HBD KX HB2 hsz2
      refine wp_region_bush (fun V => Blk V w.heap.size 27 #[.string id, .int .i64 o, .slice a1 cs.length c1, .string pr, .int .i64 st, .slice a2 mv.length c2, .slice a3 rs.length c3, .slice a4 ls.length c4]) [0, 1, 2, 3, 4, 5, 6, 10, 11, 13, 14] 5 [] [16] (by kernel_rfl) (by kernel_rfl) (fun _ d _ _ _ h => by cases d <;> exact h) kx ?_
      simp only [pick, List.drop_succ_cons, List.drop_zero, List.head?_cons, Option.toList_some, List.cons_append, List.nil_append, List.append_nil]
      repeat (refine wpHeld_step ?_ rfl ?_ ?_; rotate_left; · (intro V hV; obtain ⟨v0, v1, v2⟩ := hV.all; go_simp; with_reducible rfl))
      refine wpHeld_nil ?_
      generalize W2.drew = V at *
      refine wpBush_two 7 15 (by kernel_rfl) ?_ ?_
      · simp only [pick, List.drop_succ_cons, List.drop_zero, List.head?_cons, Option.toList_some, List.append_nil]
        go_wp2_with fail
        refine (HIT.out V (HTB.out.below hb)).mono ?_
        rintro e X ⟨rfl, b7⟩
        replace kx := kx.below b7 kx.lt
        replace hb := hb.trans (b7.mono hb.size)
        replace bl := bl.below b7
        replace hv := Nat.lt_of_lt_of_le hv b7.size
        clear b7
        go_wp2_with fail
        refine ⟨kx, ?_⟩
        try clear V
        obtain ⟨V, rfl⟩ : ∃ q, q = X := ⟨X, rfl⟩
        refine wpBush_two 8 15 (by kernel_rfl) ?_ ?_
        · simp only [pick, List.drop_succ_cons, List.drop_zero, List.head?_cons, Option.toList_some, List.append_nil]
          go_wp2_with fail
          refine ⟨kx, ?_⟩
          refine wpBush_two 9 15 (by kernel_rfl) ?_ ?_
          · simp only [pick, List.drop_succ_cons, List.drop_zero, List.head?_cons, Option.toList_some, List.append_nil]
            go_wp2_with fail
            refine ⟨kx, ?_⟩
            refine wpBush_two 12 15 (by kernel_rfl) ?_ ?_
            · simp only [pick, List.drop_succ_cons, List.drop_zero, List.head?_cons, Option.toList_some, List.append_nil]
              go_wp2_with fail
              refine ⟨kx, ?_⟩
              refine wpBush_one 15 (by kernel_rfl) ?_
              simp only [pick, List.drop_succ_cons, List.drop_zero, List.head?_cons, Option.toList_some, List.append_nil]
              go_wp2_with fail
              have kn := Blk.new V 3 #[.int .i64 st]
              have hne : V.heap.size ≠ b := by omega
              replace hb := hb.alloc hb.size (.cells #[.int .i64 st] 3)
              replace kx := kx.alloc (.cells #[.int .i64 st] 3)
              replace bl := bl.below (below_self_alloc V (.cells #[.int .i64 st] 3))
              replace hv : b < (V.alloc (.cells #[.int .i64 st] 3)).heap.size := by simp; omega
              refine ⟨kx, ?_⟩
              generalize V.heap.size = gn at *
              generalize V.alloc (.cells #[.int .i64 st] 3) = V at *
              refine wpBush_end (by kernel_rfl) (by kernel_rfl) (by kernel_rfl) ?_
              simp only [pick, List.drop_succ_cons, List.drop_zero, List.head?_cons, Option.toList_some, List.append_nil]
              refine wpHeld_nil ?_
              have hla : Calls Tryz.prog 61 #[.string X5, .slice (some ⟨gn, 0, none⟩) 1 1, .pointer (some ⟨b, 0, none⟩)] V _ := HX5.out ▸ line_any V b b (fun W hW => HTB.out.below (hb.trans (hW.mono (Nat.le_of_lt hq)))) [] bl (Nat.le_of_lt hv) (headL ⟨id, o, cs, pr, st, mv, rs, ls⟩) (some ⟨gn, 0, none⟩) [st] 1 (fun W _ kW => ints_one (kW.2 _ _ _ hne (by decide) kn)) (by intro n hn; rw [List.mem_singleton] at hn; subst hn; exact hst) (by simp) (Nat.le_trans hhl (by decide))
              have HLA := Lib.hid hla
              clear hla
              have HB0 := Lib.hid hb
              have KX0 := Lib.hid kx
              have HNE := Lib.hid hne
              have HV0 := Lib.hid hv
              clear hb kx bl kn hne hv
              go_wp2_with fail
              refine HLA.out.mono ?_
              rintro e W9 ⟨⟨v, rfl⟩, h9, b9, k9⟩
              have H9 := Lib.hid h9
              have HB9 := Lib.hid (HB0.out.trans (b9.mono (Nat.le_of_lt hq)))
              have KX9 := Lib.hid (k9.2 _ _ _ (by omega) (by decide) KX0.out)
              have HV9 := Nat.lt_of_lt_of_le HV0.out k9.1
              clear h9 b9 k9
              go_wp2_with fail
              go_meet
              exact ⟨H9, HB9, KX9, HV9⟩
            · simp only [pick, List.drop_succ_cons, List.drop_zero, List.head?_cons, Option.toList_some, List.append_nil]
              go_wp2_with fail
              have kn := Blk.new V 3 #[.int .i64 st]
              have hne : V.heap.size ≠ b := by omega
              replace hb := hb.alloc hb.size (.cells #[.int .i64 st] 3)
              replace kx := kx.alloc (.cells #[.int .i64 st] 3)
              replace bl := bl.below (below_self_alloc V (.cells #[.int .i64 st] 3))
              replace hv : b < (V.alloc (.cells #[.int .i64 st] 3)).heap.size := by simp; omega
              refine ⟨kx, ?_⟩
              generalize V.heap.size = gn at *
              generalize V.alloc (.cells #[.int .i64 st] 3) = V at *
              refine wpBush_one 12 (by kernel_rfl) ?_
              simp only [pick, List.drop_succ_cons, List.drop_zero, List.head?_cons, Option.toList_some, List.append_nil]
              go_wp2_with fail
              refine ⟨kx, ?_⟩
              refine wpBush_end (by kernel_rfl) (by kernel_rfl) (by kernel_rfl) ?_
              simp only [pick, List.drop_succ_cons, List.drop_zero, List.head?_cons, Option.toList_some, List.append_nil]
              refine wpHeld_nil ?_
              have hla : Calls Tryz.prog 61 #[.string X5, .slice (some ⟨gn, 0, none⟩) 1 1, .pointer (some ⟨b, 0, none⟩)] V _ := HX5.out ▸ line_any V b b (fun W hW => HTB.out.below (hb.trans (hW.mono (Nat.le_of_lt hq)))) [] bl (Nat.le_of_lt hv) (headL ⟨id, o, cs, pr, st, mv, rs, ls⟩) (some ⟨gn, 0, none⟩) [st] 1 (fun W _ kW => ints_one (kW.2 _ _ _ hne (by decide) kn)) (by intro n hn; rw [List.mem_singleton] at hn; subst hn; exact hst) (by simp) (Nat.le_trans hhl (by decide))
              have HLA := Lib.hid hla
              clear hla
              have HB0 := Lib.hid hb
              have KX0 := Lib.hid kx
              have HNE := Lib.hid hne
              have HV0 := Lib.hid hv
              clear hb kx bl kn hne hv
              go_wp2_with fail
              refine HLA.out.mono ?_
              rintro e W9 ⟨⟨v, rfl⟩, h9, b9, k9⟩
              have H9 := Lib.hid h9
              have HB9 := Lib.hid (HB0.out.trans (b9.mono (Nat.le_of_lt hq)))
              have KX9 := Lib.hid (k9.2 _ _ _ (by omega) (by decide) KX0.out)
              have HV9 := Nat.lt_of_lt_of_le HV0.out k9.1
              clear h9 b9 k9
              go_wp2_with fail
              go_meet
              exact ⟨H9, HB9, KX9, HV9⟩
          · simp only [pick, List.drop_succ_cons, List.drop_zero, List.head?_cons, Option.toList_some, List.append_nil]
            go_wp2_with fail
            have kn := Blk.new V 3 #[.int .i64 st]
            have hne : V.heap.size ≠ b := by omega
            replace hb := hb.alloc hb.size (.cells #[.int .i64 st] 3)
            replace kx := kx.alloc (.cells #[.int .i64 st] 3)
            replace bl := bl.below (below_self_alloc V (.cells #[.int .i64 st] 3))
            replace hv : b < (V.alloc (.cells #[.int .i64 st] 3)).heap.size := by simp; omega
            refine ⟨kx, ?_⟩
            generalize V.heap.size = gn at *
            generalize V.alloc (.cells #[.int .i64 st] 3) = V at *
            refine wpBush_one 9 (by kernel_rfl) ?_
            simp only [pick, List.drop_succ_cons, List.drop_zero, List.head?_cons, Option.toList_some, List.append_nil]
            go_wp2_with fail
            refine ⟨kx, ?_⟩
            refine wpBush_one 12 (by kernel_rfl) ?_
            simp only [pick, List.drop_succ_cons, List.drop_zero, List.head?_cons, Option.toList_some, List.append_nil]
            go_wp2_with fail
            refine ⟨kx, ?_⟩
            refine wpBush_end (by kernel_rfl) (by kernel_rfl) (by kernel_rfl) ?_
            simp only [pick, List.drop_succ_cons, List.drop_zero, List.head?_cons, Option.toList_some, List.append_nil]
            refine wpHeld_nil ?_
            have hla : Calls Tryz.prog 61 #[.string X5, .slice (some ⟨gn, 0, none⟩) 1 1, .pointer (some ⟨b, 0, none⟩)] V _ := HX5.out ▸ line_any V b b (fun W hW => HTB.out.below (hb.trans (hW.mono (Nat.le_of_lt hq)))) [] bl (Nat.le_of_lt hv) (headL ⟨id, o, cs, pr, st, mv, rs, ls⟩) (some ⟨gn, 0, none⟩) [st] 1 (fun W _ kW => ints_one (kW.2 _ _ _ hne (by decide) kn)) (by intro n hn; rw [List.mem_singleton] at hn; subst hn; exact hst) (by simp) (Nat.le_trans hhl (by decide))
            have HLA := Lib.hid hla
            clear hla
            have HB0 := Lib.hid hb
            have KX0 := Lib.hid kx
            have HNE := Lib.hid hne
            have HV0 := Lib.hid hv
            clear hb kx bl kn hne hv
            go_wp2_with fail
            refine HLA.out.mono ?_
            rintro e W9 ⟨⟨v, rfl⟩, h9, b9, k9⟩
            have H9 := Lib.hid h9
            have HB9 := Lib.hid (HB0.out.trans (b9.mono (Nat.le_of_lt hq)))
            have KX9 := Lib.hid (k9.2 _ _ _ (by omega) (by decide) KX0.out)
            have HV9 := Nat.lt_of_lt_of_le HV0.out k9.1
            clear h9 b9 k9
            go_wp2_with fail
            go_meet
            exact ⟨H9, HB9, KX9, HV9⟩
        · simp only [pick, List.drop_succ_cons, List.drop_zero, List.head?_cons, Option.toList_some, List.append_nil]
          go_wp2_with fail
          have kn := Blk.new V 3 #[.int .i64 st]
          have hne : V.heap.size ≠ b := by omega
          replace hb := hb.alloc hb.size (.cells #[.int .i64 st] 3)
          replace kx := kx.alloc (.cells #[.int .i64 st] 3)
          replace bl := bl.below (below_self_alloc V (.cells #[.int .i64 st] 3))
          replace hv : b < (V.alloc (.cells #[.int .i64 st] 3)).heap.size := by simp; omega
          refine ⟨kx, ?_⟩
          generalize V.heap.size = gn at *
          generalize V.alloc (.cells #[.int .i64 st] 3) = V at *
          refine wpBush_one 8 (by kernel_rfl) ?_
          simp only [pick, List.drop_succ_cons, List.drop_zero, List.head?_cons, Option.toList_some, List.append_nil]
          go_wp2_with fail
          refine ⟨kx, ?_⟩
          refine wpBush_one 9 (by kernel_rfl) ?_
          simp only [pick, List.drop_succ_cons, List.drop_zero, List.head?_cons, Option.toList_some, List.append_nil]
          go_wp2_with fail
          refine ⟨kx, ?_⟩
          refine wpBush_one 12 (by kernel_rfl) ?_
          simp only [pick, List.drop_succ_cons, List.drop_zero, List.head?_cons, Option.toList_some, List.append_nil]
          go_wp2_with fail
          refine ⟨kx, ?_⟩
          refine wpBush_end (by kernel_rfl) (by kernel_rfl) (by kernel_rfl) ?_
          simp only [pick, List.drop_succ_cons, List.drop_zero, List.head?_cons, Option.toList_some, List.append_nil]
          refine wpHeld_nil ?_
          have hla : Calls Tryz.prog 61 #[.string X5, .slice (some ⟨gn, 0, none⟩) 1 1, .pointer (some ⟨b, 0, none⟩)] V _ := HX5.out ▸ line_any V b b (fun W hW => HTB.out.below (hb.trans (hW.mono (Nat.le_of_lt hq)))) [] bl (Nat.le_of_lt hv) (headL ⟨id, o, cs, pr, st, mv, rs, ls⟩) (some ⟨gn, 0, none⟩) [st] 1 (fun W _ kW => ints_one (kW.2 _ _ _ hne (by decide) kn)) (by intro n hn; rw [List.mem_singleton] at hn; subst hn; exact hst) (by simp) (Nat.le_trans hhl (by decide))
          have HLA := Lib.hid hla
          clear hla
          have HB0 := Lib.hid hb
          have KX0 := Lib.hid kx
          have HNE := Lib.hid hne
          have HV0 := Lib.hid hv
          clear hb kx bl kn hne hv
          go_wp2_with fail
          refine HLA.out.mono ?_
          rintro e W9 ⟨⟨v, rfl⟩, h9, b9, k9⟩
          have H9 := Lib.hid h9
          have HB9 := Lib.hid (HB0.out.trans (b9.mono (Nat.le_of_lt hq)))
          have KX9 := Lib.hid (k9.2 _ _ _ (by omega) (by decide) KX0.out)
          have HV9 := Nat.lt_of_lt_of_le HV0.out k9.1
          clear h9 b9 k9
          go_wp2_with fail
          go_meet
          exact ⟨H9, HB9, KX9, HV9⟩
      · simp only [pick, List.drop_succ_cons, List.drop_zero, List.head?_cons, Option.toList_some, List.append_nil]
        go_wp2_with fail
        have kn := Blk.new V 3 #[.int .i64 st]
        have hne : V.heap.size ≠ b := by omega
        replace hb := hb.alloc hb.size (.cells #[.int .i64 st] 3)
        replace kx := kx.alloc (.cells #[.int .i64 st] 3)
        replace bl := bl.below (below_self_alloc V (.cells #[.int .i64 st] 3))
        replace hv : b < (V.alloc (.cells #[.int .i64 st] 3)).heap.size := by simp; omega
        refine ⟨kx, ?_⟩
        generalize V.heap.size = gn at *
        generalize V.alloc (.cells #[.int .i64 st] 3) = V at *
        refine wpBush_one 7 (by kernel_rfl) ?_
        simp only [pick, List.drop_succ_cons, List.drop_zero, List.head?_cons, Option.toList_some, List.append_nil]
        go_wp2_with fail
        refine (HIT.out V (HTB.out.below hb)).mono ?_
        rintro e X ⟨rfl, b7⟩
        replace kx := kx.below b7 kx.lt
        replace hb := hb.trans (b7.mono hb.size)
        replace bl := bl.below b7
        replace hv := Nat.lt_of_lt_of_le hv b7.size
        replace kn := kn.below b7 kn.lt
        clear b7
        go_wp2_with fail
        refine ⟨kx, ?_⟩
        try clear V
        obtain ⟨V, rfl⟩ : ∃ q, q = X := ⟨X, rfl⟩
        refine wpBush_one 8 (by kernel_rfl) ?_
        simp only [pick, List.drop_succ_cons, List.drop_zero, List.head?_cons, Option.toList_some, List.append_nil]
        go_wp2_with fail
        refine ⟨kx, ?_⟩
        refine wpBush_one 9 (by kernel_rfl) ?_
        simp only [pick, List.drop_succ_cons, List.drop_zero, List.head?_cons, Option.toList_some, List.append_nil]
        go_wp2_with fail
        refine ⟨kx, ?_⟩
        refine wpBush_one 12 (by kernel_rfl) ?_
        simp only [pick, List.drop_succ_cons, List.drop_zero, List.head?_cons, Option.toList_some, List.append_nil]
        go_wp2_with fail
        refine ⟨kx, ?_⟩
        refine wpBush_end (by kernel_rfl) (by kernel_rfl) (by kernel_rfl) ?_
        simp only [pick, List.drop_succ_cons, List.drop_zero, List.head?_cons, Option.toList_some, List.append_nil]
        refine wpHeld_nil ?_
        have hla : Calls Tryz.prog 61 #[.string X5, .slice (some ⟨gn, 0, none⟩) 1 1, .pointer (some ⟨b, 0, none⟩)] V _ := HX5.out ▸ line_any V b b (fun W hW => HTB.out.below (hb.trans (hW.mono (Nat.le_of_lt hq)))) [] bl (Nat.le_of_lt hv) (headL ⟨id, o, cs, pr, st, mv, rs, ls⟩) (some ⟨gn, 0, none⟩) [st] 1 (fun W _ kW => ints_one (kW.2 _ _ _ hne (by decide) kn)) (by intro n hn; rw [List.mem_singleton] at hn; subst hn; exact hst) (by simp) (Nat.le_trans hhl (by decide))
        have HLA := Lib.hid hla
        clear hla
        have HB0 := Lib.hid hb
        have KX0 := Lib.hid kx
        have HNE := Lib.hid hne
        have HV0 := Lib.hid hv
        clear hb kx bl kn hne hv
        go_wp2_with fail
        refine HLA.out.mono ?_
        rintro e W9 ⟨⟨v, rfl⟩, h9, b9, k9⟩
        have H9 := Lib.hid h9
        have HB9 := Lib.hid (HB0.out.trans (b9.mono (Nat.le_of_lt hq)))
        have KX9 := Lib.hid (k9.2 _ _ _ (by omega) (by decide) KX0.out)
        have HV9 := Nat.lt_of_lt_of_le HV0.out k9.1
        clear h9 b9 k9
        go_wp2_with fail
        go_meet
        exact ⟨H9, HB9, KX9, HV9⟩
    case rest =>
      obtain ⟨BL1, HB1, KX1, hv1⟩ := hcut
      clear HBD KX HB2 hsz2 g1 g2 g3 g4 g5 HIT HX5
      have ll1 := lineL_len (f := headL ⟨id, o, cs, pr, st, mv, rs, ls⟩) (l := [st]) (by intro n hn; rw [List.mem_singleton] at hn; subst hn; exact hst)
      have lg1 : (([] : List UInt8) ++ lineL (headL ⟨id, o, cs, pr, st, mv, rs, ls⟩) [st]).length ≤ 1200 := by
        simp only [List.length_append, List.length_cons, List.length_nil] at ll1 hhl ⊢; omega
      obtain ⟨A1, hA1⟩ : ∃ A, [] ++ lineL (headL ⟨id, o, cs, pr, st, mv, rs, ls⟩) [st] = A := ⟨_, rfl⟩
      rw [hA1] at BL1 lg1
      have HA1 := Lib.hid hA1
      clear hA1 ll1
      have hla : Calls Tryz.prog 61 #[.string ⟨#[99, 97, 115, 101]⟩, .slice a1 cs.length c1, .pointer (some ⟨b, 0, none⟩)] wc _ := line_any wc b b (fun W hW => HTB.out.below (HB1.out.trans (hW.mono (Nat.le_of_lt hq)))) A1 BL1.out (Nat.le_of_lt hv1) caseL a1 cs c1 (fun W hW _ => (H.out.cs.below ((HB1.out.trans (hW.mono (Nat.le_of_lt hq))).mono HB.out)).wide (by have := HB.out; have := hW.size; omega)) HCS.out s1 (by have e4 : caseL.length ≤ 10 := (by decide); omega)
      have HLA := Lib.hid hla
      clear hla
      obtain ⟨t0, t1, t2⟩ := KX1.out.all
      go_wp2_with fail
      refine HLA.out.mono ?_
      rintro e w3 ⟨⟨v, rfl⟩, h9, b9, k9⟩
      have BL2 := Lib.hid h9
      have HB2 := Lib.hid (HB1.out.trans (b9.mono (Nat.le_of_lt hq)))
      have KX2 := Lib.hid (k9.2 _ _ _ (by omega) (by decide) KX1.out)
      have hv2 := Nat.lt_of_lt_of_le hv1 k9.1
      have ll2 := lineL_len (f := caseL) HCS.out
      have lg2 : (A1 ++ lineL caseL cs).length ≤ A1.length + 21000020 := by
        have e4 : caseL.length ≤ 10 := by decide
        rw [List.length_append]; omega
      obtain ⟨A2, hA2⟩ : ∃ A, A1 ++ lineL caseL cs = A := ⟨_, rfl⟩
      rw [hA2] at BL2 lg2
      have HA2 := Lib.hid hA2
      clear h9 b9 k9 t0 t1 t2 ll2 hA2 BL1 HB1 KX1 hv1 HLA
      have hla : Calls Tryz.prog 61 #[.string ⟨#[109, 111, 118, 101, 100]⟩, .slice a2 mv.length c2, .pointer (some ⟨b, 0, none⟩)] w3 _ := line_any w3 b b (fun W hW => HTB.out.below (HB2.out.trans (hW.mono (Nat.le_of_lt hq)))) A2 BL2.out (Nat.le_of_lt hv2) movedL a2 mv c2 (fun W hW _ => (H.out.mv.below ((HB2.out.trans (hW.mono (Nat.le_of_lt hq))).mono HB.out)).wide (by have := HB.out; have := hW.size; omega)) HMV.out s2 (by have e4 : movedL.length ≤ 10 := (by decide); omega)
      have HLA := Lib.hid hla
      clear hla
      obtain ⟨t0, t1, t2⟩ := KX2.out.all
      go_wp2_with fail
      refine HLA.out.mono ?_
      rintro e w4 ⟨⟨v, rfl⟩, h9, b9, k9⟩
      have BL3 := Lib.hid h9
      have HB3 := Lib.hid (HB2.out.trans (b9.mono (Nat.le_of_lt hq)))
      have KX3 := Lib.hid (k9.2 _ _ _ (by omega) (by decide) KX2.out)
      have hv3 := Nat.lt_of_lt_of_le hv2 k9.1
      have ll3 := lineL_len (f := movedL) HMV.out
      have lg3 : (A2 ++ lineL movedL mv).length ≤ A2.length + 21000020 := by
        have e4 : movedL.length ≤ 10 := by decide
        rw [List.length_append]; omega
      obtain ⟨A3, hA3⟩ : ∃ A, A2 ++ lineL movedL mv = A := ⟨_, rfl⟩
      rw [hA3] at BL3 lg3
      have HA3 := Lib.hid hA3
      clear h9 b9 k9 t0 t1 t2 ll3 hA3 BL2 HB2 KX2 hv2 HLA
      obtain ⟨t0, t1, t2⟩ := KX3.out.all
      go_wp2_with fail
      go_loopw [45] (fun i wr => ∃ k : Nat, k ≤ rs.length ∧ i = .int .i64 (k : Int) ∧ Hid (Bld b b (A3 ++ rtsL (rs.take k)) wr) ∧ Hid (Below w.heap.size w wr) ∧ Hid (Blk wr w.heap.size 27 #[.string id, .int .i64 o, .slice a1 cs.length c1, .string pr, .int .i64 st, .slice a2 mv.length c2, .slice a3 rs.length c3, .slice a4 ls.length c4]) ∧ b < wr.heap.size) (fun i _ => rs.length - (intOf i).toNat)
      case atStart => exact ⟨0, Nat.zero_le _, rfl, Lib.hid (by simpa [rtsL] using BL3.out), HB3, KX3, hv3⟩
      case round =>
        clear t0 t1 t2 BL3 HB3 KX3 hv3
        obtain ⟨k, hk, rfl, BL, HB0, KX, hv⟩ := hrel
        by_cases hlt : k < rs.length
        · obtain ⟨⟨n, d⟩, hx⟩ : ∃ x, rs[k]? = some x := ⟨_, List.getElem?_eq_getElem hlt⟩
          have hrs : RtsAt w B a3 rs := H.out.rs
          obtain ⟨g, off, hA, hg, c0, c1⟩ := (hrs.below (HB0.out.mono HB.out)) k _ hx
          obtain ⟨nl, dw⟩ := rtB_out (R9.out.1 _ (List.mem_of_getElem? hx))
          have tk := rtsL_take hx
          have tl := rtsL_len (o := o) (rs.take k) (fun r hr => R9.out.1 r (List.mem_of_mem_take hr))
          have tl2 : (rs.take k).length ≤ 60 := Nat.le_trans (List.length_take_le' _ _) R9.out.2.2
          simp only at c0 c1 nl dw tk
          obtain ⟨X, hX⟩ : ∃ X, bs (rightL ++ sL n) = X := ⟨_, rfl⟩
          have e6 : rightL.length = 6 := rfl
          have gs := fun W => (sum_x (A := rightL) (B := sL n) (a := ⟨#[114, 105, 103, 104, 116, 32]⟩) (b := n) rfl rfl (by omega) W)
          rw [hX] at gs
          have HX := Lib.hid hX
          have q0 := below_self_alloc wr (.cells #[.string n, .int .i64 d] 53)
          have q1 := below_self_alloc (wr.alloc (.cells #[.string n, .int .i64 d] 53)) (.cells #[.int .i64 d] 3)
          have kr := Blk.new wr 53 #[.string n, .int .i64 d]
          have kn := Blk.new (wr.alloc (.cells #[.string n, .int .i64 d] 53)) 3 #[.int .i64 d]
          have hs1 : (wr.alloc (.cells #[.string n, .int .i64 d] 53)).heap.size = wr.heap.size + 1 := by simp
          have hs2 : ((wr.alloc (.cells #[.string n, .int .i64 d] 53)).alloc (.cells #[.int .i64 d] 3)).heap.size = wr.heap.size + 2 := by simp
          rw [hs1] at kn
          have BL' := Lib.hid ((BL.out.below q0).below q1)
          have HB' := Lib.hid ((HB0.out.trans (q0.mono HB0.out.size)).trans (q1.mono (by have := HB0.out.size; omega)))
          have KX' := Lib.hid ((KX.out.alloc (.cells #[.string n, .int .i64 d] 53)).alloc (.cells #[.int .i64 d] 3))
          have hla : Calls Tryz.prog 61 #[.string X, .slice (some ⟨wr.heap.size + 1, 0, none⟩) 1 1, .pointer (some ⟨b, 0, none⟩)] ((wr.alloc (.cells #[.string n, .int .i64 d] 53)).alloc (.cells #[.int .i64 d] 3)) _ := HX.out ▸ line_any _ b b (fun W hW => HTB.out.below (HB'.out.trans (hW.mono (Nat.le_of_lt hq)))) _ BL'.out (by omega) (rightL ++ sL n) (some ⟨wr.heap.size + 1, 0, none⟩) [d] 1 (fun W _ kW => ints_one (kW.2 _ _ _ (by omega) (by decide) kn)) (by intro y hy; rw [List.mem_singleton] at hy; subst hy; exact dw) (by simp) (by simp only [List.length_append]; omega)
          have HLA := Lib.hid hla
          have TK := Lib.hid tk
          obtain ⟨x0, x1, x2⟩ := kr.all
          subst hA
          clear hla q0 q1 kr kn BL HB0 KX tk hx hX hrs
          go_wp2_with fail
          refine HLA.out.mono ?_
          rintro e w5 ⟨⟨v, rfl⟩, h9, b9, k9⟩
          have BL5 := Lib.hid h9
          have HB5 := Lib.hid (HB'.out.trans (b9.mono (Nat.le_of_lt hq)))
          have KX5 := Lib.hid (k9.2 _ _ _ (by omega) (by decide) KX'.out)
          have hv5 : b < w5.heap.size := by have := k9.1; omega
          clear h9 b9 k9 c0 c1 x0 x1 x2 gs
          go_wp2
          go_roundw
          case rel => exact ⟨k + 1, by omega, by go_num, Lib.hid (by rw [TK.out]; have := BL5.out; simpa [List.append_assoc] using this), HB5, KX5, hv5⟩
          case measure => simp [intOf]; omega
        · obtain rfl : k = rs.length := by omega
          obtain ⟨wl, rfl⟩ : ∃ q, q = wr := ⟨wr, rfl⟩
          have bl := BL.out
          rw [List.take_length] at bl
          have tl := rtsL_len (o := o) rs R9.out.1
          have tl2 := R9.out.2.2
          have lg4 : (A3 ++ rtsL rs).length ≤ A3.length + 3600 := by rw [List.length_append]; omega
          obtain ⟨A4, hA4⟩ : ∃ A, A3 ++ rtsL rs = A := ⟨_, rfl⟩
          rw [hA4] at bl lg4
          have BL6 := Lib.hid bl
          have HA4 := Lib.hid hA4
          obtain ⟨t0, t1, t2⟩ := KX.out.all
          clear BL bl hlt hk hA4 tl tl2
          go_wp2_with fail
          go_loopw [61] (fun i wr => ∃ k : Nat, k ≤ ls.length ∧ i = .int .i64 (k : Int) ∧ Hid (Bld b b (A4 ++ lmsL (ls.take k)) wr) ∧ Hid (Below w.heap.size w wr) ∧ Hid (Blk wr w.heap.size 27 #[.string id, .int .i64 o, .slice a1 cs.length c1, .string pr, .int .i64 st, .slice a2 mv.length c2, .slice a3 rs.length c3, .slice a4 ls.length c4]) ∧ b < wr.heap.size) (fun i _ => ls.length - (intOf i).toNat)
          case atStart => exact ⟨0, Nat.zero_le _, rfl, Lib.hid (by simpa [lmsL] using BL6.out), HB0, KX, hv⟩
          case round =>
            clear t0 t1 t2 BL6 HB0 KX hv
            obtain ⟨k, hk, rfl, BL, HB0, KX, hv⟩ := hrel
            by_cases hlt : k < ls.length
            · obtain ⟨⟨⟨lid, n, u, f, S⟩, Aj, cj⟩, hx⟩ : ∃ x, lv[k]? = some x := ⟨_, List.getElem?_eq_getElem (by have := H.out.len; simp only at this; omega)⟩
              have hxl : ls[k]? = some ⟨lid, n, u, f, S⟩ := by
                have e := H.out.lv
                simp only at e
                rw [← e, List.getElem?_map, hx]
                rfl
              have hls : LmsAt w B a4 lv := H.out.ls
              obtain ⟨g, off, hA, hg, dc0, dc1, dc2, dc3, dc4, hLm⟩ := (hls.below (HB0.out.mono HB.out)) k _ hx
              have hpr := R10.out.1 _ (List.mem_of_getElem? hxl)
              have nl := name_len (s := lid) (prB_iff.1 hpr).1
              have hS := (prB_iff.1 hpr).2.2.2.1
              have hwf := limI_wf hpr
              have tk := lmsL_take hxl
              have tl := lmsL_len (ls.take k) (fun r hr => R10.out.1 r (List.mem_of_mem_take hr))
              have tl2 : (ls.take k).length ≤ 60 := Nat.le_trans (List.length_take_le' _ _) R10.out.2.2
              have hln := limI_len ⟨lid, n, u, f, S⟩
              simp only at dc0 dc1 dc2 dc3 dc4 nl tk hS hwf hln
              obtain ⟨X, hX⟩ : ∃ X, bs (limitL ++ sL lid) = X := ⟨_, rfl⟩
              have e6 : limitL.length = 6 := rfl
              have gs := fun W => (sum_x (A := limitL) (B := sL lid) (a := ⟨#[108, 105, 109, 105, 116, 32]⟩) (b := lid) rfl rfl (by omega) W)
              rw [hX] at gs
              have HX := Lib.hid hX
              have q0 := below_self_alloc wr (.cells #[.string lid, .int .i64 n, .int .i64 u, .int .i64 f, .slice Aj S.length cj] 66)
              have q1 := below_self_alloc (wr.alloc (.cells #[.string lid, .int .i64 n, .int .i64 u, .int .i64 f, .slice Aj S.length cj] 66)) (.cells #[.int .i64 n, .int .i64 u, .int .i64 f] 3)
              have kr := Blk.new wr 66 #[.string lid, .int .i64 n, .int .i64 u, .int .i64 f, .slice Aj S.length cj]
              have kr2 := kr.alloc (.cells #[.int .i64 n, .int .i64 u, .int .i64 f] 3)
              have hs1 : (wr.alloc (.cells #[.string lid, .int .i64 n, .int .i64 u, .int .i64 f, .slice Aj S.length cj] 66)).heap.size = wr.heap.size + 1 := by simp
              have hs2 : ((wr.alloc (.cells #[.string lid, .int .i64 n, .int .i64 u, .int .i64 f, .slice Aj S.length cj] 66)).alloc (.cells #[.int .i64 n, .int .i64 u, .int .i64 f] 3)).heap.size = wr.heap.size + 2 := by simp
              have own0 := World.ownsRow_lit (base := wr.heap.size) (e := 3) (size := 1) (wr.alloc (.cells #[.string lid, .int .i64 n, .int .i64 u, .int .i64 f, .slice Aj S.length cj] 66)) #[.int .i64 n, .int .i64 u, .int .i64 f] 3 (by omega) (by unfold maxLen; omega) rfl
              rw [hs1] at own0
              have BZ := q0.trans (q1.mono q0.size)
              obtain ⟨wz, hwz⟩ : ∃ q, q = wr := ⟨wr, rfl⟩
              obtain ⟨zs, hzs⟩ : ∃ q, q = wr.heap.size := ⟨_, rfl⟩
              have OW0 : Hid (((wr.alloc (.cells #[.string lid, .int .i64 n, .int .i64 u, .int .i64 f, .slice Aj S.length cj] 66)).alloc (.cells #[.int .i64 n, .int .i64 u, .int .i64 f] 3)).ownsRow zs 3 1 (.slice (some ⟨zs + 1, 0, none⟩) 3 3) 3 (intCells ([n, u, f] ++ (S.take 0).flatMap fun s => [s.1, s.2]))) := Lib.hid (hzs ▸ own0)
              have KR2 := Lib.hid (hzs ▸ kr2 : Blk ((wr.alloc (.cells #[.string lid, .int .i64 n, .int .i64 u, .int .i64 f, .slice Aj S.length cj] 66)).alloc (.cells #[.int .i64 n, .int .i64 u, .int .i64 f] 3)) zs 66 #[.string lid, .int .i64 n, .int .i64 u, .int .i64 f, .slice Aj S.length cj])
              have HBZ : Hid (Below zs wz ((wr.alloc (.cells #[.string lid, .int .i64 n, .int .i64 u, .int .i64 f, .slice Aj S.length cj] 66)).alloc (.cells #[.int .i64 n, .int .i64 u, .int .i64 f] 3))) := Lib.hid (by rw [hwz, hzs]; exact BZ)
              have HLM : Hid (LmAt wz B Aj ⟨lid, n, u, f, S⟩) := Lib.hid (by rw [hwz]; exact hLm)
              have BLz : Hid (Bld b b (A4 ++ lmsL (ls.take k)) wz) := Lib.hid (by rw [hwz]; exact BL.out)
              have HBz : Hid (Below w.heap.size w wz) := Lib.hid (by rw [hwz]; exact HB0.out)
              have KXz : Hid (Blk wz w.heap.size 27 #[.string id, .int .i64 o, .slice a1 cs.length c1, .string pr, .int .i64 st, .slice a2 mv.length c2, .slice a3 rs.length c3, .slice a4 ls.length c4]) := Lib.hid (by rw [hwz]; exact KX.out)
              have hvz : b < zs := by omega
              have hzq : Hid (wz.heap.size = zs) := Lib.hid (by rw [hwz, hzs])
              have TK := Lib.hid tk
              have HPR := Lib.hid hpr
              have HWF := Lib.hid hwf
              obtain ⟨x0, x1, x2⟩ := kr.all
              obtain ⟨y0, y1, y2⟩ := kr2.all
              subst hA
              clear BZ own0 q0 q1 kr kr2 BL HB0 KX tk hx hxl hX hls hpr hLm hwf
              have HZS := Lib.hid hzs
              clear hzs hwz
              go_wp2_with fail
              rw [← HZS.out]
              go_loopg [10, 77] (S.length) (fun nn v i wr => ∃ (j : Nat) (A' : Option Addr) (cap N : Nat), j + nn = S.length ∧ Hid (N = 3 + j * 2) ∧ i = .int .i64 (j : Int) ∧ v = .slice A' N cap ∧ Hid (wr.ownsRow zs 3 1 (.slice A' N cap) N (intCells ([n, u, f] ++ (S.take j).flatMap fun s => [s.1, s.2]))) ∧ Hid (Blk wr zs 66 #[.string lid, .int .i64 n, .int .i64 u, .int .i64 f, .slice Aj S.length cj]) ∧ Hid (Below zs wz wr))
              case atStart => exact ⟨0, _, _, 3, Nat.zero_add _, Lib.hid rfl, rfl, rfl, OW0, KR2, HBZ⟩
              case round =>
                clear x0 x1 x2 y0 y1 y2 OW0 KR2 HBZ dc0 dc1 dc2 dc3 dc4
                obtain ⟨j, A', cap, N, hj, HN, rfl, rfl, OW, KR, HBZ⟩ := hrel
                have hszr := HBZ.out.size
                have hzq' := hzq.out
                have hNb : N ≤ 130 := by have := HN.out; omega
                have HBr : Below wz.heap.size wz wr := by rw [hzq']; exact HBZ.out
                by_cases hlt2 : j < S.length
                · obtain ⟨⟨p, q⟩, hss⟩ : ∃ s, S[j]? = some s := ⟨_, List.getElem?_eq_getElem hlt2⟩
                  obtain ⟨gs, os, hAs, hgs, e0, e1⟩ := (HLM.out.1.below (HBr.mono (Nat.le_trans HB.out HBz.out.size))) j _ hss
                  simp only at hAs e0 e1
                  subst hAs
                  have TK2 := Lib.hid (limI_take hss)
                  have q0 := below_self_alloc wr (.cells #[.int .i64 p, .int .i64 q] 102)
                  have kb := Blk.new wr 102 #[.int .i64 p, .int .i64 q]
                  have kn := Blk.new (wr.alloc (.cells #[.int .i64 p, .int .i64 q] 102)) 3 #[.int .i64 p, .int .i64 q]
                  have hs3 : (wr.alloc (.cells #[.int .i64 p, .int .i64 q] 102)).heap.size = wr.heap.size + 1 := by simp
                  have hs4 : ((wr.alloc (.cells #[.int .i64 p, .int .i64 q] 102)).alloc (.cells #[.int .i64 p, .int .i64 q] 3)).heap.size = wr.heap.size + 2 := by simp
                  rw [hs3] at kn
                  have own1 := (OW.out.alloc (.cells #[.int .i64 p, .int .i64 q] 102)).alloc (.cells #[.int .i64 p, .int .i64 q] 3)
                  have KR1 := Lib.hid ((KR.out.alloc (.cells #[.int .i64 p, .int .i64 q] 102)).alloc (.cells #[.int .i64 p, .int .i64 q] 3))
                  have HBZ1 := Lib.hid ((HBZ.out.alloc (by omega) (.cells #[.int .i64 p, .int .i64 q] 102)).alloc (by omega) (.cells #[.int .i64 p, .int .i64 q] 3))
                  obtain ⟨x0, x1, x2⟩ := kb.all
                  clear hss q0 kb HBr OW
                  go_wp2_with (at_builtin; refine wpList_append_lies _ rfl _ _ 22 rfl zs 3 i0 _ 1 8 Tryz.underlying22 hi0 hz0 hz1 hz2 rfl (by omega) (.slice A' N cap) N _ rfl own1 ⟨wr.heap.size + 1, 0, none⟩ 2 2 [.int .i64 p, .int .i64 q] rfl rfl (World.news_of_block kn) (intCells_one [p, q]) (by omega) (by unfold maxLen; omega) (by omega) (by omega) _ rfl ?_; intro gz cz Y own9 gr9 l9 z9)
                  have kr9 := KR1.out.grown gr9 (fun e => own_blk_ne own1 KR1.out (by decide) e.symm)
                  have hb9 := HBZ1.out.grown gr9 (by omega) (fun k e => (World.ownsRow.lt own1 k e).1)
                  have OW9 := Lib.hid own9
                  have KR9 := Lib.hid kr9
                  have HB9 := Lib.hid hb9
                  clear own1 own9 gr9 l9 z9 kr9 hb9 kn x0 x1 x2 KR1 HBZ1 e0 e1
                  go_wp2
                  go_roundg (gk - 1)
                  case rel => exact ⟨j + 1, _, _, N + 2, by omega, Lib.hid (by have := HN.out; omega), by go_num, rfl, Lib.hid (by rw [TK2.out, ← List.append_assoc, intCells_app _ [p, q]]; exact OW9.out), KR9, HB9⟩
                  case measure => omega
                · obtain rfl : j = S.length := by omega
                  obtain ⟨wm, rfl⟩ : ∃ q, q = wr := ⟨wr, rfl⟩
                  have own1 := OW.out
                  rw [List.take_length] at own1
                  obtain ⟨I, hI⟩ : ∃ I, limI ⟨lid, n, u, f, S⟩ = I := ⟨_, rfl⟩
                  have hI2 : [n, u, f] ++ S.flatMap (fun s => [s.1, s.2]) = I := hI
                  have hIl : I.length = N := by rw [← hI, hln, HN.out]; omega
                  have hwfI := HWF.out
                  have tkI := TK.out
                  rw [hI] at hwfI tkI
                  rw [hI2] at own1
                  subst hIl
                  have OW1 := Lib.hid own1
                  have HBw := Lib.hid (HBz.out.trans (HBr.mono HBz.out.size))
                  have KXw := Lib.hid (KXz.out.below HBr KXz.out.lt)
                  have hla : Calls Tryz.prog 61 #[.string X, .slice A' I.length cap, .pointer (some ⟨b, 0, none⟩)] wm _ := HX.out ▸ line_any wm b b (fun W hW => HTB.out.below (HBw.out.trans (hW.mono (Nat.le_of_lt hq)))) _ (BLz.out.below HBr) (by omega) (limitL ++ sL lid) A' I cap (fun W _ kW => IntsAt.of_row rfl (KeepB.own kW hvz (by decide) OW1.out)) hwfI (by omega) (by simp only [List.length_append]; omega)
                  have HLA := Lib.hid hla
                  have TKI := Lib.hid tkI
                  obtain ⟨x0, x1, x2⟩ := KR.out.all
                  clear hla own1 OW hI hI2 hwfI tkI HBr OW1 HN
                  go_wp2_with fail
                  refine HLA.out.mono ?_
                  rintro e w5 ⟨⟨v, rfl⟩, h9, b9, k9⟩
                  have BL5 := Lib.hid h9
                  have HB5 := Lib.hid (HBw.out.trans (b9.mono (Nat.le_of_lt hq)))
                  have KX5 := Lib.hid (k9.2 _ _ _ (by omega) (by decide) KXw.out)
                  have hv5 : b < w5.heap.size := by have := k9.1; omega
                  clear h9 b9 k9 x0 x1 x2 gs HLA HBw KXw KR HBZ
                  go_wp2
                  go_roundw
                  case rel => exact ⟨k + 1, by omega, by go_num, Lib.hid (by rw [TKI.out]; have := BL5.out; simpa [List.append_assoc] using this), HB5, KX5, hv5⟩
                  case measure => simp [intOf]; omega
            · obtain rfl : k = ls.length := by omega
              have bl := BL.out
              rw [List.take_length] at bl
              have hR : A4 ++ lmsL ls = R := by rw [← HFIN.out, ← HA4.out, ← HA3.out, ← HA2.out, ← HA1.out]; simp [textL, List.append_assoc]
              rw [hR] at bl
              have hst := string_any b b R wr bl (Nat.le_of_lt hv)
              have HST := Lib.hid hst
              clear bl BL hst
              go_wp2_with fail
              refine HST.out.mono ?_
              rintro e w7 ⟨rfl, b7⟩
              have hb7 := HB0.out.trans (b7.mono (Nat.le_of_lt hq))
              clear b7
              go_wp2
              first | go_ret2 | go_ret
              exact ⟨rfl, hb7⟩
end Go.Proofs.YtebdkmlganalaaaGreatDoor
