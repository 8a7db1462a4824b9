/- pandectlaw31's head: the examples of the chapter. -/
import Derived.Test.YtgfahifdmacmhaaGreatDoorZUWs
import Derived.Test.YtgfahifdmacmhaaGreatDoorZUGD
import Derived.Deep.DeepCutAuto
namespace Go.Proofs.YtgfahifdmacmhaaGreatDoor
open Go.RowKit Go.Shelf

theorem row_cell {V : World} {gn g i : Nat} {c : Array Value} (h : g ≠ gn) : (V.setRow gn c).cell? ⟨g, i, none⟩ = V.cell? ⟨g, i, none⟩ := by
  have := setRow_other V gn g c h
  simp [World.cell?, this]
theorem zcell_int {V : World} {gn g off : Nat} {v : Int} (hk : Blk V gn 27 #[.string ⟨#[]⟩, .int .i64 0, .slice none 0 0, .string ⟨#[]⟩, .int .i64 0, .slice none 0 0, .slice none 0 0, .slice none 0 0]) (hv : v ≠ 0) (hc : V.cell? ⟨g, off, none⟩ = some (.int .i64 v)) : g ≠ gn := by
  rintro rfl
  rw [hk.cell] at hc
  match off, hc with
  | 0, hc => simp at hc
  | 1, hc => simp at hc; exact hv hc.symm
  | 2, hc => simp at hc
  | 3, hc => simp at hc
  | 4, hc => simp at hc; exact hv hc.symm
  | 5, hc => simp at hc
  | 6, hc => simp at hc
  | 7, hc => simp at hc
  | n + 8, hc => simp at hc
theorem exA_row {V : World} {gn B : Nat} {x : MtX} {c : Array Value} (h : MtAt V B exA x) (hk : Blk V gn 27 #[.string ⟨#[]⟩, .int .i64 0, .slice none 0 0, .string ⟨#[]⟩, .int .i64 0, .slice none 0 0, .slice none 0 0, .slice none 0 0]) : MtAt (V.setRow gn c) B exA x := by
  refine ⟨fun i v hi => ?_, fun i v hi => ?_, fun i v hi => by simp [exA] at hi, ?_, h.lv, h.id, h.pr, h.rn⟩
  · obtain ⟨g0, off0, hA0, hg0, hc0⟩ := h.cs 0 20 rfl
    obtain ⟨g, off, hA, hg, hc⟩ := h.cs i v hi
    rw [hA] at hA0
    injection hA0 with e
    injection e with e1 e2 _
    subst e1 e2
    exact ⟨g, off, hA, hg, by rw [row_cell (zcell_int hk (by decide) hc0)]; exact hc⟩
  · obtain ⟨g0, off0, hA0, hg0, hc0⟩ := h.mv 0 7 rfl
    obtain ⟨g, off, hA, hg, hc⟩ := h.mv i v hi
    rw [hA] at hA0
    injection hA0 with e
    injection e with e1 e2 _
    subst e1 e2
    exact ⟨g, off, hA, hg, by rw [row_cell (zcell_int hk (by decide) hc0)]; exact hc⟩
  · have : x.lv = [] := by have e := h.lv; simpa [exA] using e
    rw [this]
    exact LmsAt.nil _ _ _

set_option maxRecDepth 100000 in
set_option maxHeartbeats 8000000 in
theorem head_any (w : World) (ht : Tbs w) : Calls Tryz.prog 9 #[] w fun e w' => e = .returned (.bool true) ∧ Below w.heap.size w w' := by
  have hb := (below_self_alloc w (.cells #[.int .i64 20, .int .i64 0] 3)).alloc (by simp) (.cells #[.string ⟨#[109, 49]⟩, .int .i64 5, .slice (some ⟨w.heap.size, 0, none⟩) 2 2, .string ⟨#[111, 108, 100]⟩, .int .i64 0, .slice none 0 0, .slice none 0 0, .slice none 0 0] 27)
  have kr := (Blk.new w 3 #[.int .i64 20, .int .i64 0]).alloc (.cells #[.string ⟨#[109, 49]⟩, .int .i64 5, .slice (some ⟨w.heap.size, 0, none⟩) 2 2, .string ⟨#[111, 108, 100]⟩, .int .i64 0, .slice none 0 0, .slice none 0 0, .slice none 0 0] 27)
  have k1 := Blk.new1 w (.cells #[.int .i64 20, .int .i64 0] 3) 27 #[.string ⟨#[109, 49]⟩, .int .i64 5, .slice (some ⟨w.heap.size, 0, none⟩) 2 2, .string ⟨#[111, 108, 100]⟩, .int .i64 0, .slice none 0 0, .slice none 0 0, .slice none 0 0]
  have HT := Lib.hid ht
  clear ht
  go_enter Tryz.func9, Tryz.ntmps9
  go_upto_region 2 with fail
  generalize (w.alloc (.cells #[.int .i64 20, .int .i64 0] 3)).alloc (.cells #[.string ⟨#[109, 49]⟩, .int .i64 5, .slice (some ⟨w.heap.size, 0, none⟩) 2 2, .string ⟨#[111, 108, 100]⟩, .int .i64 0, .slice none 0 0, .slice none 0 0, .slice none 0 0] 27) = W0 at *
  have hM : MtAt W0 W0.heap.size exM ⟨some ⟨w.heap.size, 0, none⟩, 2, none, 0, none, 0, none, 0, []⟩ := by
    refine ⟨fun i v hi => ⟨w.heap.size, 0, rfl, kr.lt, ?_⟩, fun i v hi => by simp [exM] at hi, RtsAt.nil _ _ _, LmsAt.nil _ _ _, rfl, by decide, by decide, fun r h => by simp [exM] at h⟩
    rw [kr.cell]
    match i, hi with
    | 0, hi => simp [exM] at hi; subst hi; rfl
    | 1, hi => simp [exM] at hi; subst hi; rfl
    | i + 2, hi => simp [exM] at hi
  have HB := Lib.hid hb
  have K1 := Lib.hid k1
  have HM := Lib.hid hM
  clear hb kr k1 hM
  go_cut [2, 3] (fun v u wx => ∃ (ga : Nat) (a1 : Option Addr) (a5 : Nat) (a2 : Option Addr) (a6 : Nat) (a3 : Option Addr) (a7 : Nat) (a4 : Option Addr) (a8 : Nat) (a9 : List LmV), v = .pointer (some ⟨ga, 0, none⟩) ∧ u = .int .i64 0 ∧ Hid (Below W0.heap.size W0 wx) ∧ Hid (Blk wx ga 27 #[.string ⟨#[109, 49]⟩, .int .i64 5, .slice a1 2 a5, .string ⟨#[111, 108, 100]⟩, .int .i64 1, .slice a2 1 a6, .slice a3 0 a7, .slice a4 0 a8]) ∧ Hid (MtAt wx wx.heap.size exA ⟨a1, a5, a2, a6, a3, a7, a4, a8, a9⟩))
  case first =>
    have hb0 := below_drew0 W0
    refine wp_region_ats (fun V => Below W0.heap.size W0 V) (by kernel_rfl) (by kernel_rfl) (fun _ d _ _ _ h => by cases d <;> exact h) rfl ?_
    generalize W0.drew = V at *
    refine ats_take [0] 8 rfl (by kernel_rfl) hb0 ?_
    simp only [pick, List.drop_zero, List.head?_cons, Option.toList_some, List.append_nil]
    repeat (refine wpHeld_step ?_ rfl ?_ ?_; rotate_left; · (intro V hV; obtain ⟨v0, v1, v2⟩ := (K1.out.below hV K1.out.lt).all; go_simp; with_reducible rfl))
    refine wpHeld_nil ?_
    refine ats_two 1 6 (by kernel_rfl) ?_ ?_
    · simp only [pick, List.drop_succ_cons, List.drop_zero, List.head?_cons, Option.toList_some, List.append_nil]
      go_wp2_with fail
      refine (procedure_any V).mono ?_
      rintro e X ⟨y, rfl, hp, bx⟩
      replace hb0 := hb0.trans (bx.mono hb0.size)
      clear bx
      go_wp2_with fail
      refine ⟨hb0, ?_⟩
      clear V
      obtain ⟨V, rfl⟩ : ∃ q, q = X := ⟨X, rfl⟩
      refine ats_two 2 6 (by kernel_rfl) ?_ ?_
      · simp only [pick, List.drop_succ_cons, List.drop_zero, List.head?_cons, Option.toList_some, List.append_nil]
        have hc := hmv1 (w := V) (y := y) ((HM.out.below hb0).wide hb0.size) hp
        have HC := Lib.hid hc
        clear hc
        go_wp2_with fail
        refine HC.out.mono ?_
        rintro e X ⟨a1, a5, a2, a6, a3, a7, a4, a8, a9, rfl, hA, bx⟩
        replace hb0 := hb0.trans (bx.mono hb0.size)
        clear bx HC hp
        go_wp2_with fail
        refine ⟨hb0, ?_⟩
        clear V
        obtain ⟨V, rfl⟩ : ∃ q, q = X := ⟨X, rfl⟩
        refine ats_take [3, 4, 5] 3 rfl (by kernel_rfl) hb0 ?_
        simp only [pick, List.drop_succ_cons, List.drop_zero, List.head?_cons, Option.toList_some, List.cons_append, List.nil_append, List.append_nil]
        repeat (refine wpHeld_step ?_ rfl ?_ ?_; rotate_left; · (intro V hV; go_simp; with_reducible rfl))
        refine wpHeld_nil ?_
        refine ats_one 6 (by kernel_rfl) ?_
        simp only [pick, List.drop_succ_cons, List.drop_zero, List.head?_cons, Option.toList_some, List.append_nil]
        go_wp2_with fail
        have kz := Blk.new V 27 #[.string ⟨#[]⟩, .int .i64 0, .slice none 0 0, .string ⟨#[]⟩, .int .i64 0, .slice none 0 0, .slice none 0 0, .slice none 0 0]
        have bx := below_self_alloc V (.cells #[.string ⟨#[]⟩, .int .i64 0, .slice none 0 0, .string ⟨#[]⟩, .int .i64 0, .slice none 0 0, .slice none 0 0, .slice none 0 0] 27)
        have GN := hb0.size
        replace hb0 := hb0.trans (bx.mono hb0.size)
        replace hA := (hA.below bx).wide bx.size
        clear bx
        refine ⟨hb0, ?_⟩
        generalize V.heap.size = gn at *
        generalize V.alloc (.cells #[.string ⟨#[]⟩, .int .i64 0, .slice none 0 0, .string ⟨#[]⟩, .int .i64 0, .slice none 0 0, .slice none 0 0, .slice none 0 0] 27) = V at *
        refine ats_one 7 (by kernel_rfl) ?_
        simp only [pick, List.drop_succ_cons, List.drop_zero, List.head?_cons, Option.toList_some, List.append_nil]
        have KZ := Lib.hid kz
        have HA := Lib.hid hA
        have HB1 : Hid (Below W0.heap.size W0 (V.setRow gn #[.string ⟨#[109, 49]⟩, .int .i64 5, .slice a1 2 a5, .string ⟨#[111, 108, 100]⟩, .int .i64 1, .slice a2 1 a6, .slice a3 0 a7, .slice a4 0 a8])) := Lib.hid (below_row hb0 GN #[.string ⟨#[109, 49]⟩, .int .i64 5, .slice a1 2 a5, .string ⟨#[111, 108, 100]⟩, .int .i64 1, .slice a2 1 a6, .slice a3 0 a7, .slice a4 0 a8])
        have KR : Hid (Blk (V.setRow gn #[.string ⟨#[109, 49]⟩, .int .i64 5, .slice a1 2 a5, .string ⟨#[111, 108, 100]⟩, .int .i64 1, .slice a2 1 a6, .slice a3 0 a7, .slice a4 0 a8]) gn 27 #[.string ⟨#[109, 49]⟩, .int .i64 5, .slice a1 2 a5, .string ⟨#[111, 108, 100]⟩, .int .i64 1, .slice a2 1 a6, .slice a3 0 a7, .slice a4 0 a8]) := Lib.hid (setRow_heap V gn #[.string ⟨#[]⟩, .int .i64 0, .slice none 0 0, .string ⟨#[]⟩, .int .i64 0, .slice none 0 0, .slice none 0 0, .slice none 0 0] #[.string ⟨#[109, 49]⟩, .int .i64 5, .slice a1 2 a5, .string ⟨#[111, 108, 100]⟩, .int .i64 1, .slice a2 1 a6, .slice a3 0 a7, .slice a4 0 a8] _ _ KZ.out)
        have HR : Hid (MtAt (V.setRow gn #[.string ⟨#[109, 49]⟩, .int .i64 5, .slice a1 2 a5, .string ⟨#[111, 108, 100]⟩, .int .i64 1, .slice a2 1 a6, .slice a3 0 a7, .slice a4 0 a8]) (V.setRow gn #[.string ⟨#[109, 49]⟩, .int .i64 5, .slice a1 2 a5, .string ⟨#[111, 108, 100]⟩, .int .i64 1, .slice a2 1 a6, .slice a3 0 a7, .slice a4 0 a8]).heap.size exA ⟨a1, a5, a2, a6, a3, a7, a4, a8, a9⟩) := Lib.hid (by rw [size_setRow]; exact exA_row HA.out KZ.out)
        clear kz hA hb0
        go_wp2_with (refine wp_row rfl (.tmp 2) (.tmp 25) rfl gn #[.string ⟨#[109, 49]⟩, .int .i64 5, .slice a1 2 a5, .string ⟨#[111, 108, 100]⟩, .int .i64 1, .slice a2 1 a6, .slice a3 0 a7, .slice a4 0 a8] rfl rfl rfl one8 rfl KZ.out ?_)
        refine ⟨HB1.out, ?_⟩
        refine ats_one 8 (by kernel_rfl) ?_
        simp only [pick, List.drop_succ_cons, List.drop_zero, List.head?_cons, Option.toList_some, List.append_nil]
        go_wp2_with fail
        refine ⟨HB1.out, ?_⟩
        refine ats_end (by kernel_rfl) ?_
        go_wp2_with fail
        go_meet
        exact ⟨gn, a1, a5, a2, a6, a3, a7, a4, a8, a9, rfl, rfl, HB1, KR, HR⟩
      · simp only [pick, List.drop_succ_cons, List.drop_zero, List.head?_cons, Option.toList_some, List.append_nil]
        go_wp2_with fail
        have kz := Blk.new V 27 #[.string ⟨#[]⟩, .int .i64 0, .slice none 0 0, .string ⟨#[]⟩, .int .i64 0, .slice none 0 0, .slice none 0 0, .slice none 0 0]
        have bx := below_self_alloc V (.cells #[.string ⟨#[]⟩, .int .i64 0, .slice none 0 0, .string ⟨#[]⟩, .int .i64 0, .slice none 0 0, .slice none 0 0, .slice none 0 0] 27)
        have GN := hb0.size
        replace hb0 := hb0.trans (bx.mono hb0.size)
        replace hp := (hp.below bx).wide bx.size
        clear bx
        refine ⟨hb0, ?_⟩
        generalize V.heap.size = gn at *
        generalize V.alloc (.cells #[.string ⟨#[]⟩, .int .i64 0, .slice none 0 0, .string ⟨#[]⟩, .int .i64 0, .slice none 0 0, .slice none 0 0, .slice none 0 0] 27) = V at *
        refine ats_one 2 (by kernel_rfl) ?_
        simp only [pick, List.drop_succ_cons, List.drop_zero, List.head?_cons, Option.toList_some, List.append_nil]
        have hc := hmv1 (w := V) (y := y) ((HM.out.below hb0).wide hb0.size) hp
        have HC := Lib.hid hc
        clear hc
        go_wp2_with fail
        refine HC.out.mono ?_
        rintro e X ⟨a1, a5, a2, a6, a3, a7, a4, a8, a9, rfl, hA, bx⟩
        replace hb0 := hb0.trans (bx.mono hb0.size)
        replace kz := kz.below bx kz.lt
        clear bx HC hp
        go_wp2_with fail
        refine ⟨hb0, ?_⟩
        clear V
        obtain ⟨V, rfl⟩ : ∃ q, q = X := ⟨X, rfl⟩
        refine ats_take [3, 4, 5] 2 rfl (by kernel_rfl) hb0 ?_
        simp only [pick, List.drop_succ_cons, List.drop_zero, List.head?_cons, Option.toList_some, List.cons_append, List.nil_append, List.append_nil]
        repeat (refine wpHeld_step ?_ rfl ?_ ?_; rotate_left; · (intro V hV; go_simp; with_reducible rfl))
        refine wpHeld_nil ?_
        refine ats_one 7 (by kernel_rfl) ?_
        simp only [pick, List.drop_succ_cons, List.drop_zero, List.head?_cons, Option.toList_some, List.append_nil]
        have KZ := Lib.hid kz
        have HA := Lib.hid hA
        have HB1 : Hid (Below W0.heap.size W0 (V.setRow gn #[.string ⟨#[109, 49]⟩, .int .i64 5, .slice a1 2 a5, .string ⟨#[111, 108, 100]⟩, .int .i64 1, .slice a2 1 a6, .slice a3 0 a7, .slice a4 0 a8])) := Lib.hid (below_row hb0 GN #[.string ⟨#[109, 49]⟩, .int .i64 5, .slice a1 2 a5, .string ⟨#[111, 108, 100]⟩, .int .i64 1, .slice a2 1 a6, .slice a3 0 a7, .slice a4 0 a8])
        have KR : Hid (Blk (V.setRow gn #[.string ⟨#[109, 49]⟩, .int .i64 5, .slice a1 2 a5, .string ⟨#[111, 108, 100]⟩, .int .i64 1, .slice a2 1 a6, .slice a3 0 a7, .slice a4 0 a8]) gn 27 #[.string ⟨#[109, 49]⟩, .int .i64 5, .slice a1 2 a5, .string ⟨#[111, 108, 100]⟩, .int .i64 1, .slice a2 1 a6, .slice a3 0 a7, .slice a4 0 a8]) := Lib.hid (setRow_heap V gn #[.string ⟨#[]⟩, .int .i64 0, .slice none 0 0, .string ⟨#[]⟩, .int .i64 0, .slice none 0 0, .slice none 0 0, .slice none 0 0] #[.string ⟨#[109, 49]⟩, .int .i64 5, .slice a1 2 a5, .string ⟨#[111, 108, 100]⟩, .int .i64 1, .slice a2 1 a6, .slice a3 0 a7, .slice a4 0 a8] _ _ KZ.out)
        have HR : Hid (MtAt (V.setRow gn #[.string ⟨#[109, 49]⟩, .int .i64 5, .slice a1 2 a5, .string ⟨#[111, 108, 100]⟩, .int .i64 1, .slice a2 1 a6, .slice a3 0 a7, .slice a4 0 a8]) (V.setRow gn #[.string ⟨#[109, 49]⟩, .int .i64 5, .slice a1 2 a5, .string ⟨#[111, 108, 100]⟩, .int .i64 1, .slice a2 1 a6, .slice a3 0 a7, .slice a4 0 a8]).heap.size exA ⟨a1, a5, a2, a6, a3, a7, a4, a8, a9⟩) := Lib.hid (by rw [size_setRow]; exact exA_row HA.out KZ.out)
        clear kz hA hb0
        go_wp2_with (refine wp_row rfl (.tmp 2) (.tmp 25) rfl gn #[.string ⟨#[109, 49]⟩, .int .i64 5, .slice a1 2 a5, .string ⟨#[111, 108, 100]⟩, .int .i64 1, .slice a2 1 a6, .slice a3 0 a7, .slice a4 0 a8] rfl rfl rfl one8 rfl KZ.out ?_)
        refine ⟨HB1.out, ?_⟩
        refine ats_one 8 (by kernel_rfl) ?_
        simp only [pick, List.drop_succ_cons, List.drop_zero, List.head?_cons, Option.toList_some, List.append_nil]
        go_wp2_with fail
        refine ⟨HB1.out, ?_⟩
        refine ats_end (by kernel_rfl) ?_
        go_wp2_with fail
        go_meet
        exact ⟨gn, a1, a5, a2, a6, a3, a7, a4, a8, a9, rfl, rfl, HB1, KR, HR⟩
    · simp only [pick, List.drop_succ_cons, List.drop_zero, List.head?_cons, Option.toList_some, List.append_nil]
      go_wp2_with fail
      have kz := Blk.new V 27 #[.string ⟨#[]⟩, .int .i64 0, .slice none 0 0, .string ⟨#[]⟩, .int .i64 0, .slice none 0 0, .slice none 0 0, .slice none 0 0]
      have bx := below_self_alloc V (.cells #[.string ⟨#[]⟩, .int .i64 0, .slice none 0 0, .string ⟨#[]⟩, .int .i64 0, .slice none 0 0, .slice none 0 0, .slice none 0 0] 27)
      have GN := hb0.size
      replace hb0 := hb0.trans (bx.mono hb0.size)
      clear bx
      refine ⟨hb0, ?_⟩
      generalize V.heap.size = gn at *
      generalize V.alloc (.cells #[.string ⟨#[]⟩, .int .i64 0, .slice none 0 0, .string ⟨#[]⟩, .int .i64 0, .slice none 0 0, .slice none 0 0, .slice none 0 0] 27) = V at *
      refine ats_one 1 (by kernel_rfl) ?_
      simp only [pick, List.drop_succ_cons, List.drop_zero, List.head?_cons, Option.toList_some, List.append_nil]
      go_wp2_with fail
      refine (procedure_any V).mono ?_
      rintro e X ⟨y, rfl, hp, bx⟩
      replace hb0 := hb0.trans (bx.mono hb0.size)
      replace kz := kz.below bx kz.lt
      clear bx
      go_wp2_with fail
      refine ⟨hb0, ?_⟩
      clear V
      obtain ⟨V, rfl⟩ : ∃ q, q = X := ⟨X, rfl⟩
      refine ats_one 2 (by kernel_rfl) ?_
      simp only [pick, List.drop_succ_cons, List.drop_zero, List.head?_cons, Option.toList_some, List.append_nil]
      have hc := hmv1 (w := V) (y := y) ((HM.out.below hb0).wide hb0.size) hp
      have HC := Lib.hid hc
      clear hc
      go_wp2_with fail
      refine HC.out.mono ?_
      rintro e X ⟨a1, a5, a2, a6, a3, a7, a4, a8, a9, rfl, hA, bx⟩
      replace hb0 := hb0.trans (bx.mono hb0.size)
      replace kz := kz.below bx kz.lt
      clear bx HC hp
      go_wp2_with fail
      refine ⟨hb0, ?_⟩
      clear V
      obtain ⟨V, rfl⟩ : ∃ q, q = X := ⟨X, rfl⟩
      refine ats_take [3, 4, 5] 2 rfl (by kernel_rfl) hb0 ?_
      simp only [pick, List.drop_succ_cons, List.drop_zero, List.head?_cons, Option.toList_some, List.cons_append, List.nil_append, List.append_nil]
      repeat (refine wpHeld_step ?_ rfl ?_ ?_; rotate_left; · (intro V hV; go_simp; with_reducible rfl))
      refine wpHeld_nil ?_
      refine ats_one 7 (by kernel_rfl) ?_
      simp only [pick, List.drop_succ_cons, List.drop_zero, List.head?_cons, Option.toList_some, List.append_nil]
      have KZ := Lib.hid kz
      have HA := Lib.hid hA
      have HB1 : Hid (Below W0.heap.size W0 (V.setRow gn #[.string ⟨#[109, 49]⟩, .int .i64 5, .slice a1 2 a5, .string ⟨#[111, 108, 100]⟩, .int .i64 1, .slice a2 1 a6, .slice a3 0 a7, .slice a4 0 a8])) := Lib.hid (below_row hb0 GN #[.string ⟨#[109, 49]⟩, .int .i64 5, .slice a1 2 a5, .string ⟨#[111, 108, 100]⟩, .int .i64 1, .slice a2 1 a6, .slice a3 0 a7, .slice a4 0 a8])
      have KR : Hid (Blk (V.setRow gn #[.string ⟨#[109, 49]⟩, .int .i64 5, .slice a1 2 a5, .string ⟨#[111, 108, 100]⟩, .int .i64 1, .slice a2 1 a6, .slice a3 0 a7, .slice a4 0 a8]) gn 27 #[.string ⟨#[109, 49]⟩, .int .i64 5, .slice a1 2 a5, .string ⟨#[111, 108, 100]⟩, .int .i64 1, .slice a2 1 a6, .slice a3 0 a7, .slice a4 0 a8]) := Lib.hid (setRow_heap V gn #[.string ⟨#[]⟩, .int .i64 0, .slice none 0 0, .string ⟨#[]⟩, .int .i64 0, .slice none 0 0, .slice none 0 0, .slice none 0 0] #[.string ⟨#[109, 49]⟩, .int .i64 5, .slice a1 2 a5, .string ⟨#[111, 108, 100]⟩, .int .i64 1, .slice a2 1 a6, .slice a3 0 a7, .slice a4 0 a8] _ _ KZ.out)
      have HR : Hid (MtAt (V.setRow gn #[.string ⟨#[109, 49]⟩, .int .i64 5, .slice a1 2 a5, .string ⟨#[111, 108, 100]⟩, .int .i64 1, .slice a2 1 a6, .slice a3 0 a7, .slice a4 0 a8]) (V.setRow gn #[.string ⟨#[109, 49]⟩, .int .i64 5, .slice a1 2 a5, .string ⟨#[111, 108, 100]⟩, .int .i64 1, .slice a2 1 a6, .slice a3 0 a7, .slice a4 0 a8]).heap.size exA ⟨a1, a5, a2, a6, a3, a7, a4, a8, a9⟩) := Lib.hid (by rw [size_setRow]; exact exA_row HA.out KZ.out)
      clear kz hA hb0
      go_wp2_with (refine wp_row rfl (.tmp 2) (.tmp 25) rfl gn #[.string ⟨#[109, 49]⟩, .int .i64 5, .slice a1 2 a5, .string ⟨#[111, 108, 100]⟩, .int .i64 1, .slice a2 1 a6, .slice a3 0 a7, .slice a4 0 a8] rfl rfl rfl one8 rfl KZ.out ?_)
      refine ⟨HB1.out, ?_⟩
      refine ats_one 8 (by kernel_rfl) ?_
      simp only [pick, List.drop_succ_cons, List.drop_zero, List.head?_cons, Option.toList_some, List.append_nil]
      go_wp2_with fail
      refine ⟨HB1.out, ?_⟩
      refine ats_end (by kernel_rfl) ?_
      go_wp2_with fail
      go_meet
      exact ⟨gn, a1, a5, a2, a6, a3, a7, a4, a8, a9, rfl, rfl, HB1, KR, HR⟩
  case rest =>
    obtain ⟨ga, a1, a5, a2, a6, a3, a7, a4, a8, a9, rfl, rfl, HBC, KA, HA⟩ := hcut
    have hbc := HBC.out
    have K1x := Lib.hid (K1.out.below hbc K1.out.lt)
    clear K1
    have K1 := K1x
    clear K1x
    have HMx := Lib.hid ((HM.out.below hbc).wide hbc.size)
    clear HM
    have HM := HMx
    clear HMx
    have HBx := Lib.hid (HB.out.trans (hbc.mono HB.out.size))
    clear HB
    have HB := HBx
    clear HBx
    clear hbc HBC
    clear W0
    obtain ⟨W1, rfl⟩ : ∃ q, q = wc := ⟨wc, rfl⟩
    go_upto_region 3 with fail
    go_cut [4, 5] (fun v u wx => ∃ (ga : Nat), v = .pointer (some ⟨ga, 0, none⟩) ∧ u = .int .i64 24 ∧ Hid (Below W1.heap.size W1 wx))
    case first =>
      have hb0 := below_drew0 W1
      refine wp_region_ats (fun V => Below W1.heap.size W1 V) (by kernel_rfl) (by kernel_rfl) (fun _ d _ _ _ h => by cases d <;> exact h) rfl ?_
      generalize W1.drew = V at *
      refine ats_take [0] 8 rfl (by kernel_rfl) hb0 ?_
      simp only [pick, List.drop_zero, List.head?_cons, Option.toList_some, List.append_nil]
      repeat (refine wpHeld_step ?_ rfl ?_ ?_; rotate_left; · (intro V hV; obtain ⟨v0, v1, v2⟩ := (KA.out.below hV KA.out.lt).all; go_simp; with_reducible rfl))
      refine wpHeld_nil ?_
      refine ats_two 1 6 (by kernel_rfl) ?_ ?_
      · simp only [pick, List.drop_succ_cons, List.drop_zero, List.head?_cons, Option.toList_some, List.append_nil]
        go_wp2_with fail
        refine (procedure_any V).mono ?_
        rintro e X ⟨y, rfl, hp, bx⟩
        replace hb0 := hb0.trans (bx.mono hb0.size)
        clear bx
        go_wp2_with fail
        refine ⟨hb0, ?_⟩
        clear V
        obtain ⟨V, rfl⟩ : ∃ q, q = X := ⟨X, rfl⟩
        refine ats_two 2 6 (by kernel_rfl) ?_ ?_
        · simp only [pick, List.drop_succ_cons, List.drop_zero, List.head?_cons, Option.toList_some, List.append_nil]
          have hc := hmv2 (w := V) (y := y) ((HA.out.below hb0).wide hb0.size) hp
          have HC := Lib.hid hc
          clear hc
          go_wp2_with fail
          refine HC.out.mono ?_
          rintro e X ⟨b1, b5, b2, b6, b3, b7, b4, b8, b9, rfl, hA, bx⟩
          replace hb0 := hb0.trans (bx.mono hb0.size)
          clear bx HC hp
          go_wp2_with fail
          refine ⟨hb0, ?_⟩
          clear V
          obtain ⟨V, rfl⟩ : ∃ q, q = X := ⟨X, rfl⟩
          refine ats_take [3, 4, 5] 3 rfl (by kernel_rfl) hb0 ?_
          simp only [pick, List.drop_succ_cons, List.drop_zero, List.head?_cons, Option.toList_some, List.cons_append, List.nil_append, List.append_nil]
          repeat (refine wpHeld_step ?_ rfl ?_ ?_; rotate_left; · (intro V hV; go_simp; with_reducible rfl))
          refine wpHeld_nil ?_
          refine ats_one 6 (by kernel_rfl) ?_
          simp only [pick, List.drop_succ_cons, List.drop_zero, List.head?_cons, Option.toList_some, List.append_nil]
          go_wp2_with fail
          have kz := Blk.new V 27 #[.string ⟨#[]⟩, .int .i64 0, .slice none 0 0, .string ⟨#[]⟩, .int .i64 0, .slice none 0 0, .slice none 0 0, .slice none 0 0]
          have bx := below_self_alloc V (.cells #[.string ⟨#[]⟩, .int .i64 0, .slice none 0 0, .string ⟨#[]⟩, .int .i64 0, .slice none 0 0, .slice none 0 0, .slice none 0 0] 27)
          have GN := hb0.size
          replace hb0 := hb0.trans (bx.mono hb0.size)
          replace hA := (hA.below bx).wide bx.size
          clear bx
          refine ⟨hb0, ?_⟩
          generalize V.heap.size = gn at *
          generalize V.alloc (.cells #[.string ⟨#[]⟩, .int .i64 0, .slice none 0 0, .string ⟨#[]⟩, .int .i64 0, .slice none 0 0, .slice none 0 0, .slice none 0 0] 27) = V at *
          refine ats_one 7 (by kernel_rfl) ?_
          simp only [pick, List.drop_succ_cons, List.drop_zero, List.head?_cons, Option.toList_some, List.append_nil]
          have KZ := Lib.hid kz
          have HA := Lib.hid hA
          have HB1 : Hid (Below W1.heap.size W1 (V.setRow gn #[.string ⟨#[]⟩, .int .i64 0, .slice b1 0 b5, .string ⟨#[]⟩, .int .i64 0, .slice b2 0 b6, .slice b3 0 b7, .slice b4 0 b8])) := Lib.hid (below_row hb0 GN #[.string ⟨#[]⟩, .int .i64 0, .slice b1 0 b5, .string ⟨#[]⟩, .int .i64 0, .slice b2 0 b6, .slice b3 0 b7, .slice b4 0 b8])
          clear kz hA hb0
          go_wp2_with (refine wp_row rfl (.tmp 4) (.tmp 31) rfl gn #[.string ⟨#[]⟩, .int .i64 0, .slice b1 0 b5, .string ⟨#[]⟩, .int .i64 0, .slice b2 0 b6, .slice b3 0 b7, .slice b4 0 b8] rfl rfl rfl one8 rfl KZ.out ?_)
          refine ⟨HB1.out, ?_⟩
          refine ats_one 8 (by kernel_rfl) ?_
          simp only [pick, List.drop_succ_cons, List.drop_zero, List.head?_cons, Option.toList_some, List.append_nil]
          go_wp2_with fail
          refine ⟨HB1.out, ?_⟩
          refine ats_end (by kernel_rfl) ?_
          go_wp2_with fail
          go_meet
          exact ⟨gn, rfl, rfl, HB1⟩
        · simp only [pick, List.drop_succ_cons, List.drop_zero, List.head?_cons, Option.toList_some, List.append_nil]
          go_wp2_with fail
          have kz := Blk.new V 27 #[.string ⟨#[]⟩, .int .i64 0, .slice none 0 0, .string ⟨#[]⟩, .int .i64 0, .slice none 0 0, .slice none 0 0, .slice none 0 0]
          have bx := below_self_alloc V (.cells #[.string ⟨#[]⟩, .int .i64 0, .slice none 0 0, .string ⟨#[]⟩, .int .i64 0, .slice none 0 0, .slice none 0 0, .slice none 0 0] 27)
          have GN := hb0.size
          replace hb0 := hb0.trans (bx.mono hb0.size)
          replace hp := (hp.below bx).wide bx.size
          clear bx
          refine ⟨hb0, ?_⟩
          generalize V.heap.size = gn at *
          generalize V.alloc (.cells #[.string ⟨#[]⟩, .int .i64 0, .slice none 0 0, .string ⟨#[]⟩, .int .i64 0, .slice none 0 0, .slice none 0 0, .slice none 0 0] 27) = V at *
          refine ats_one 2 (by kernel_rfl) ?_
          simp only [pick, List.drop_succ_cons, List.drop_zero, List.head?_cons, Option.toList_some, List.append_nil]
          have hc := hmv2 (w := V) (y := y) ((HA.out.below hb0).wide hb0.size) hp
          have HC := Lib.hid hc
          clear hc
          go_wp2_with fail
          refine HC.out.mono ?_
          rintro e X ⟨b1, b5, b2, b6, b3, b7, b4, b8, b9, rfl, hA, bx⟩
          replace hb0 := hb0.trans (bx.mono hb0.size)
          replace kz := kz.below bx kz.lt
          clear bx HC hp
          go_wp2_with fail
          refine ⟨hb0, ?_⟩
          clear V
          obtain ⟨V, rfl⟩ : ∃ q, q = X := ⟨X, rfl⟩
          refine ats_take [3, 4, 5] 2 rfl (by kernel_rfl) hb0 ?_
          simp only [pick, List.drop_succ_cons, List.drop_zero, List.head?_cons, Option.toList_some, List.cons_append, List.nil_append, List.append_nil]
          repeat (refine wpHeld_step ?_ rfl ?_ ?_; rotate_left; · (intro V hV; go_simp; with_reducible rfl))
          refine wpHeld_nil ?_
          refine ats_one 7 (by kernel_rfl) ?_
          simp only [pick, List.drop_succ_cons, List.drop_zero, List.head?_cons, Option.toList_some, List.append_nil]
          have KZ := Lib.hid kz
          have HA := Lib.hid hA
          have HB1 : Hid (Below W1.heap.size W1 (V.setRow gn #[.string ⟨#[]⟩, .int .i64 0, .slice b1 0 b5, .string ⟨#[]⟩, .int .i64 0, .slice b2 0 b6, .slice b3 0 b7, .slice b4 0 b8])) := Lib.hid (below_row hb0 GN #[.string ⟨#[]⟩, .int .i64 0, .slice b1 0 b5, .string ⟨#[]⟩, .int .i64 0, .slice b2 0 b6, .slice b3 0 b7, .slice b4 0 b8])
          clear kz hA hb0
          go_wp2_with (refine wp_row rfl (.tmp 4) (.tmp 31) rfl gn #[.string ⟨#[]⟩, .int .i64 0, .slice b1 0 b5, .string ⟨#[]⟩, .int .i64 0, .slice b2 0 b6, .slice b3 0 b7, .slice b4 0 b8] rfl rfl rfl one8 rfl KZ.out ?_)
          refine ⟨HB1.out, ?_⟩
          refine ats_one 8 (by kernel_rfl) ?_
          simp only [pick, List.drop_succ_cons, List.drop_zero, List.head?_cons, Option.toList_some, List.append_nil]
          go_wp2_with fail
          refine ⟨HB1.out, ?_⟩
          refine ats_end (by kernel_rfl) ?_
          go_wp2_with fail
          go_meet
          exact ⟨gn, rfl, rfl, HB1⟩
      · simp only [pick, List.drop_succ_cons, List.drop_zero, List.head?_cons, Option.toList_some, List.append_nil]
        go_wp2_with fail
        have kz := Blk.new V 27 #[.string ⟨#[]⟩, .int .i64 0, .slice none 0 0, .string ⟨#[]⟩, .int .i64 0, .slice none 0 0, .slice none 0 0, .slice none 0 0]
        have bx := below_self_alloc V (.cells #[.string ⟨#[]⟩, .int .i64 0, .slice none 0 0, .string ⟨#[]⟩, .int .i64 0, .slice none 0 0, .slice none 0 0, .slice none 0 0] 27)
        have GN := hb0.size
        replace hb0 := hb0.trans (bx.mono hb0.size)
        clear bx
        refine ⟨hb0, ?_⟩
        generalize V.heap.size = gn at *
        generalize V.alloc (.cells #[.string ⟨#[]⟩, .int .i64 0, .slice none 0 0, .string ⟨#[]⟩, .int .i64 0, .slice none 0 0, .slice none 0 0, .slice none 0 0] 27) = V at *
        refine ats_one 1 (by kernel_rfl) ?_
        simp only [pick, List.drop_succ_cons, List.drop_zero, List.head?_cons, Option.toList_some, List.append_nil]
        go_wp2_with fail
        refine (procedure_any V).mono ?_
        rintro e X ⟨y, rfl, hp, bx⟩
        replace hb0 := hb0.trans (bx.mono hb0.size)
        replace kz := kz.below bx kz.lt
        clear bx
        go_wp2_with fail
        refine ⟨hb0, ?_⟩
        clear V
        obtain ⟨V, rfl⟩ : ∃ q, q = X := ⟨X, rfl⟩
        refine ats_one 2 (by kernel_rfl) ?_
        simp only [pick, List.drop_succ_cons, List.drop_zero, List.head?_cons, Option.toList_some, List.append_nil]
        have hc := hmv2 (w := V) (y := y) ((HA.out.below hb0).wide hb0.size) hp
        have HC := Lib.hid hc
        clear hc
        go_wp2_with fail
        refine HC.out.mono ?_
        rintro e X ⟨b1, b5, b2, b6, b3, b7, b4, b8, b9, rfl, hA, bx⟩
        replace hb0 := hb0.trans (bx.mono hb0.size)
        replace kz := kz.below bx kz.lt
        clear bx HC hp
        go_wp2_with fail
        refine ⟨hb0, ?_⟩
        clear V
        obtain ⟨V, rfl⟩ : ∃ q, q = X := ⟨X, rfl⟩
        refine ats_take [3, 4, 5] 2 rfl (by kernel_rfl) hb0 ?_
        simp only [pick, List.drop_succ_cons, List.drop_zero, List.head?_cons, Option.toList_some, List.cons_append, List.nil_append, List.append_nil]
        repeat (refine wpHeld_step ?_ rfl ?_ ?_; rotate_left; · (intro V hV; go_simp; with_reducible rfl))
        refine wpHeld_nil ?_
        refine ats_one 7 (by kernel_rfl) ?_
        simp only [pick, List.drop_succ_cons, List.drop_zero, List.head?_cons, Option.toList_some, List.append_nil]
        have KZ := Lib.hid kz
        have HA := Lib.hid hA
        have HB1 : Hid (Below W1.heap.size W1 (V.setRow gn #[.string ⟨#[]⟩, .int .i64 0, .slice b1 0 b5, .string ⟨#[]⟩, .int .i64 0, .slice b2 0 b6, .slice b3 0 b7, .slice b4 0 b8])) := Lib.hid (below_row hb0 GN #[.string ⟨#[]⟩, .int .i64 0, .slice b1 0 b5, .string ⟨#[]⟩, .int .i64 0, .slice b2 0 b6, .slice b3 0 b7, .slice b4 0 b8])
        clear kz hA hb0
        go_wp2_with (refine wp_row rfl (.tmp 4) (.tmp 31) rfl gn #[.string ⟨#[]⟩, .int .i64 0, .slice b1 0 b5, .string ⟨#[]⟩, .int .i64 0, .slice b2 0 b6, .slice b3 0 b7, .slice b4 0 b8] rfl rfl rfl one8 rfl KZ.out ?_)
        refine ⟨HB1.out, ?_⟩
        refine ats_one 8 (by kernel_rfl) ?_
        simp only [pick, List.drop_succ_cons, List.drop_zero, List.head?_cons, Option.toList_some, List.append_nil]
        go_wp2_with fail
        refine ⟨HB1.out, ?_⟩
        refine ats_end (by kernel_rfl) ?_
        go_wp2_with fail
        go_meet
        exact ⟨gn, rfl, rfl, HB1⟩
    case rest =>
      obtain ⟨ga, rfl, rfl, HBC⟩ := hcut
      have hbc := HBC.out
      have K1x := Lib.hid (K1.out.below hbc K1.out.lt)
      clear K1
      have K1 := K1x
      clear K1x
      have KAx := Lib.hid (KA.out.below hbc KA.out.lt)
      clear KA
      have KA := KAx
      clear KAx
      have HMx := Lib.hid ((HM.out.below hbc).wide hbc.size)
      clear HM
      have HM := HMx
      clear HMx
      have HAx := Lib.hid ((HA.out.below hbc).wide hbc.size)
      clear HA
      have HA := HAx
      clear HAx
      have HBx := Lib.hid (HB.out.trans (hbc.mono HB.out.size))
      clear HB
      have HB := HBx
      clear HBx
      clear hbc HBC
      obtain ⟨W2, rfl⟩ : ∃ q, q = wc := ⟨wc, rfl⟩
      go_upto_region 4 with fail
      go_cut [6, 7] (fun v u wx => ∃ (ga : Nat), v = .pointer (some ⟨ga, 0, none⟩) ∧ u = .int .i64 12 ∧ Hid (Below W2.heap.size W2 wx))
      case first =>
        have hb0 := below_drew0 W2
        refine wp_region_ats (fun V => Below W2.heap.size W2 V) (by kernel_rfl) (by kernel_rfl) (fun _ d _ _ _ h => by cases d <;> exact h) rfl ?_
        generalize W2.drew = V at *
        refine ats_take [0] 8 rfl (by kernel_rfl) hb0 ?_
        simp only [pick, List.drop_zero, List.head?_cons, Option.toList_some, List.append_nil]
        repeat (refine wpHeld_step ?_ rfl ?_ ?_; rotate_left; · (intro V hV; obtain ⟨v0, v1, v2⟩ := (K1.out.below hV K1.out.lt).all; go_simp; with_reducible rfl))
        refine wpHeld_nil ?_
        refine ats_two 1 6 (by kernel_rfl) ?_ ?_
        · simp only [pick, List.drop_succ_cons, List.drop_zero, List.head?_cons, Option.toList_some, List.append_nil]
          go_wp2_with fail
          refine (procedure_any V).mono ?_
          rintro e X ⟨y, rfl, hp, bx⟩
          replace hb0 := hb0.trans (bx.mono hb0.size)
          clear bx
          go_wp2_with fail
          refine ⟨hb0, ?_⟩
          clear V
          obtain ⟨V, rfl⟩ : ∃ q, q = X := ⟨X, rfl⟩
          refine ats_two 2 6 (by kernel_rfl) ?_ ?_
          · simp only [pick, List.drop_succ_cons, List.drop_zero, List.head?_cons, Option.toList_some, List.append_nil]
            have hc := hmv3 (w := V) (y := y) ((HM.out.below hb0).wide hb0.size) hp
            have HC := Lib.hid hc
            clear hc
            go_wp2_with fail
            refine HC.out.mono ?_
            rintro e X ⟨b1, b5, b2, b6, b3, b7, b4, b8, b9, rfl, hA, bx⟩
            replace hb0 := hb0.trans (bx.mono hb0.size)
            clear bx HC hp
            go_wp2_with fail
            refine ⟨hb0, ?_⟩
            clear V
            obtain ⟨V, rfl⟩ : ∃ q, q = X := ⟨X, rfl⟩
            refine ats_take [3, 4, 5] 3 rfl (by kernel_rfl) hb0 ?_
            simp only [pick, List.drop_succ_cons, List.drop_zero, List.head?_cons, Option.toList_some, List.cons_append, List.nil_append, List.append_nil]
            repeat (refine wpHeld_step ?_ rfl ?_ ?_; rotate_left; · (intro V hV; go_simp; with_reducible rfl))
            refine wpHeld_nil ?_
            refine ats_one 6 (by kernel_rfl) ?_
            simp only [pick, List.drop_succ_cons, List.drop_zero, List.head?_cons, Option.toList_some, List.append_nil]
            go_wp2_with fail
            have kz := Blk.new V 27 #[.string ⟨#[]⟩, .int .i64 0, .slice none 0 0, .string ⟨#[]⟩, .int .i64 0, .slice none 0 0, .slice none 0 0, .slice none 0 0]
            have bx := below_self_alloc V (.cells #[.string ⟨#[]⟩, .int .i64 0, .slice none 0 0, .string ⟨#[]⟩, .int .i64 0, .slice none 0 0, .slice none 0 0, .slice none 0 0] 27)
            have GN := hb0.size
            replace hb0 := hb0.trans (bx.mono hb0.size)
            replace hA := (hA.below bx).wide bx.size
            clear bx
            refine ⟨hb0, ?_⟩
            generalize V.heap.size = gn at *
            generalize V.alloc (.cells #[.string ⟨#[]⟩, .int .i64 0, .slice none 0 0, .string ⟨#[]⟩, .int .i64 0, .slice none 0 0, .slice none 0 0, .slice none 0 0] 27) = V at *
            refine ats_one 7 (by kernel_rfl) ?_
            simp only [pick, List.drop_succ_cons, List.drop_zero, List.head?_cons, Option.toList_some, List.append_nil]
            have KZ := Lib.hid kz
            have HA := Lib.hid hA
            have HB1 : Hid (Below W2.heap.size W2 (V.setRow gn #[.string ⟨#[]⟩, .int .i64 0, .slice b1 0 b5, .string ⟨#[]⟩, .int .i64 0, .slice b2 0 b6, .slice b3 0 b7, .slice b4 0 b8])) := Lib.hid (below_row hb0 GN #[.string ⟨#[]⟩, .int .i64 0, .slice b1 0 b5, .string ⟨#[]⟩, .int .i64 0, .slice b2 0 b6, .slice b3 0 b7, .slice b4 0 b8])
            clear kz hA hb0
            go_wp2_with (refine wp_row rfl (.tmp 6) (.tmp 37) rfl gn #[.string ⟨#[]⟩, .int .i64 0, .slice b1 0 b5, .string ⟨#[]⟩, .int .i64 0, .slice b2 0 b6, .slice b3 0 b7, .slice b4 0 b8] rfl rfl rfl one8 rfl KZ.out ?_)
            refine ⟨HB1.out, ?_⟩
            refine ats_one 8 (by kernel_rfl) ?_
            simp only [pick, List.drop_succ_cons, List.drop_zero, List.head?_cons, Option.toList_some, List.append_nil]
            go_wp2_with fail
            refine ⟨HB1.out, ?_⟩
            refine ats_end (by kernel_rfl) ?_
            go_wp2_with fail
            go_meet
            exact ⟨gn, rfl, rfl, HB1⟩
          · simp only [pick, List.drop_succ_cons, List.drop_zero, List.head?_cons, Option.toList_some, List.append_nil]
            go_wp2_with fail
            have kz := Blk.new V 27 #[.string ⟨#[]⟩, .int .i64 0, .slice none 0 0, .string ⟨#[]⟩, .int .i64 0, .slice none 0 0, .slice none 0 0, .slice none 0 0]
            have bx := below_self_alloc V (.cells #[.string ⟨#[]⟩, .int .i64 0, .slice none 0 0, .string ⟨#[]⟩, .int .i64 0, .slice none 0 0, .slice none 0 0, .slice none 0 0] 27)
            have GN := hb0.size
            replace hb0 := hb0.trans (bx.mono hb0.size)
            replace hp := (hp.below bx).wide bx.size
            clear bx
            refine ⟨hb0, ?_⟩
            generalize V.heap.size = gn at *
            generalize V.alloc (.cells #[.string ⟨#[]⟩, .int .i64 0, .slice none 0 0, .string ⟨#[]⟩, .int .i64 0, .slice none 0 0, .slice none 0 0, .slice none 0 0] 27) = V at *
            refine ats_one 2 (by kernel_rfl) ?_
            simp only [pick, List.drop_succ_cons, List.drop_zero, List.head?_cons, Option.toList_some, List.append_nil]
            have hc := hmv3 (w := V) (y := y) ((HM.out.below hb0).wide hb0.size) hp
            have HC := Lib.hid hc
            clear hc
            go_wp2_with fail
            refine HC.out.mono ?_
            rintro e X ⟨b1, b5, b2, b6, b3, b7, b4, b8, b9, rfl, hA, bx⟩
            replace hb0 := hb0.trans (bx.mono hb0.size)
            replace kz := kz.below bx kz.lt
            clear bx HC hp
            go_wp2_with fail
            refine ⟨hb0, ?_⟩
            clear V
            obtain ⟨V, rfl⟩ : ∃ q, q = X := ⟨X, rfl⟩
            refine ats_take [3, 4, 5] 2 rfl (by kernel_rfl) hb0 ?_
            simp only [pick, List.drop_succ_cons, List.drop_zero, List.head?_cons, Option.toList_some, List.cons_append, List.nil_append, List.append_nil]
            repeat (refine wpHeld_step ?_ rfl ?_ ?_; rotate_left; · (intro V hV; go_simp; with_reducible rfl))
            refine wpHeld_nil ?_
            refine ats_one 7 (by kernel_rfl) ?_
            simp only [pick, List.drop_succ_cons, List.drop_zero, List.head?_cons, Option.toList_some, List.append_nil]
            have KZ := Lib.hid kz
            have HA := Lib.hid hA
            have HB1 : Hid (Below W2.heap.size W2 (V.setRow gn #[.string ⟨#[]⟩, .int .i64 0, .slice b1 0 b5, .string ⟨#[]⟩, .int .i64 0, .slice b2 0 b6, .slice b3 0 b7, .slice b4 0 b8])) := Lib.hid (below_row hb0 GN #[.string ⟨#[]⟩, .int .i64 0, .slice b1 0 b5, .string ⟨#[]⟩, .int .i64 0, .slice b2 0 b6, .slice b3 0 b7, .slice b4 0 b8])
            clear kz hA hb0
            go_wp2_with (refine wp_row rfl (.tmp 6) (.tmp 37) rfl gn #[.string ⟨#[]⟩, .int .i64 0, .slice b1 0 b5, .string ⟨#[]⟩, .int .i64 0, .slice b2 0 b6, .slice b3 0 b7, .slice b4 0 b8] rfl rfl rfl one8 rfl KZ.out ?_)
            refine ⟨HB1.out, ?_⟩
            refine ats_one 8 (by kernel_rfl) ?_
            simp only [pick, List.drop_succ_cons, List.drop_zero, List.head?_cons, Option.toList_some, List.append_nil]
            go_wp2_with fail
            refine ⟨HB1.out, ?_⟩
            refine ats_end (by kernel_rfl) ?_
            go_wp2_with fail
            go_meet
            exact ⟨gn, rfl, rfl, HB1⟩
        · simp only [pick, List.drop_succ_cons, List.drop_zero, List.head?_cons, Option.toList_some, List.append_nil]
          go_wp2_with fail
          have kz := Blk.new V 27 #[.string ⟨#[]⟩, .int .i64 0, .slice none 0 0, .string ⟨#[]⟩, .int .i64 0, .slice none 0 0, .slice none 0 0, .slice none 0 0]
          have bx := below_self_alloc V (.cells #[.string ⟨#[]⟩, .int .i64 0, .slice none 0 0, .string ⟨#[]⟩, .int .i64 0, .slice none 0 0, .slice none 0 0, .slice none 0 0] 27)
          have GN := hb0.size
          replace hb0 := hb0.trans (bx.mono hb0.size)
          clear bx
          refine ⟨hb0, ?_⟩
          generalize V.heap.size = gn at *
          generalize V.alloc (.cells #[.string ⟨#[]⟩, .int .i64 0, .slice none 0 0, .string ⟨#[]⟩, .int .i64 0, .slice none 0 0, .slice none 0 0, .slice none 0 0] 27) = V at *
          refine ats_one 1 (by kernel_rfl) ?_
          simp only [pick, List.drop_succ_cons, List.drop_zero, List.head?_cons, Option.toList_some, List.append_nil]
          go_wp2_with fail
          refine (procedure_any V).mono ?_
          rintro e X ⟨y, rfl, hp, bx⟩
          replace hb0 := hb0.trans (bx.mono hb0.size)
          replace kz := kz.below bx kz.lt
          clear bx
          go_wp2_with fail
          refine ⟨hb0, ?_⟩
          clear V
          obtain ⟨V, rfl⟩ : ∃ q, q = X := ⟨X, rfl⟩
          refine ats_one 2 (by kernel_rfl) ?_
          simp only [pick, List.drop_succ_cons, List.drop_zero, List.head?_cons, Option.toList_some, List.append_nil]
          have hc := hmv3 (w := V) (y := y) ((HM.out.below hb0).wide hb0.size) hp
          have HC := Lib.hid hc
          clear hc
          go_wp2_with fail
          refine HC.out.mono ?_
          rintro e X ⟨b1, b5, b2, b6, b3, b7, b4, b8, b9, rfl, hA, bx⟩
          replace hb0 := hb0.trans (bx.mono hb0.size)
          replace kz := kz.below bx kz.lt
          clear bx HC hp
          go_wp2_with fail
          refine ⟨hb0, ?_⟩
          clear V
          obtain ⟨V, rfl⟩ : ∃ q, q = X := ⟨X, rfl⟩
          refine ats_take [3, 4, 5] 2 rfl (by kernel_rfl) hb0 ?_
          simp only [pick, List.drop_succ_cons, List.drop_zero, List.head?_cons, Option.toList_some, List.cons_append, List.nil_append, List.append_nil]
          repeat (refine wpHeld_step ?_ rfl ?_ ?_; rotate_left; · (intro V hV; go_simp; with_reducible rfl))
          refine wpHeld_nil ?_
          refine ats_one 7 (by kernel_rfl) ?_
          simp only [pick, List.drop_succ_cons, List.drop_zero, List.head?_cons, Option.toList_some, List.append_nil]
          have KZ := Lib.hid kz
          have HA := Lib.hid hA
          have HB1 : Hid (Below W2.heap.size W2 (V.setRow gn #[.string ⟨#[]⟩, .int .i64 0, .slice b1 0 b5, .string ⟨#[]⟩, .int .i64 0, .slice b2 0 b6, .slice b3 0 b7, .slice b4 0 b8])) := Lib.hid (below_row hb0 GN #[.string ⟨#[]⟩, .int .i64 0, .slice b1 0 b5, .string ⟨#[]⟩, .int .i64 0, .slice b2 0 b6, .slice b3 0 b7, .slice b4 0 b8])
          clear kz hA hb0
          go_wp2_with (refine wp_row rfl (.tmp 6) (.tmp 37) rfl gn #[.string ⟨#[]⟩, .int .i64 0, .slice b1 0 b5, .string ⟨#[]⟩, .int .i64 0, .slice b2 0 b6, .slice b3 0 b7, .slice b4 0 b8] rfl rfl rfl one8 rfl KZ.out ?_)
          refine ⟨HB1.out, ?_⟩
          refine ats_one 8 (by kernel_rfl) ?_
          simp only [pick, List.drop_succ_cons, List.drop_zero, List.head?_cons, Option.toList_some, List.append_nil]
          go_wp2_with fail
          refine ⟨HB1.out, ?_⟩
          refine ats_end (by kernel_rfl) ?_
          go_wp2_with fail
          go_meet
          exact ⟨gn, rfl, rfl, HB1⟩
      case rest =>
        obtain ⟨ga, rfl, rfl, HBC⟩ := hcut
        have hbc := HBC.out
        have K1x := Lib.hid (K1.out.below hbc K1.out.lt)
        clear K1
        have K1 := K1x
        clear K1x
        have KAx := Lib.hid (KA.out.below hbc KA.out.lt)
        clear KA
        have KA := KAx
        clear KAx
        have HMx := Lib.hid ((HM.out.below hbc).wide hbc.size)
        clear HM
        have HM := HMx
        clear HMx
        have HAx := Lib.hid ((HA.out.below hbc).wide hbc.size)
        clear HA
        have HA := HAx
        clear HAx
        have HBx := Lib.hid (HB.out.trans (hbc.mono HB.out.size))
        clear HB
        have HB := HBx
        clear HBx
        clear hbc HBC
        obtain ⟨W3, rfl⟩ : ∃ q, q = wc := ⟨wc, rfl⟩
        go_upto_region 5 with fail
        go_cut [8, 9] (fun v u wx => ∃ (ga : Nat), v = .pointer (some ⟨ga, 0, none⟩) ∧ u = .int .i64 11 ∧ Hid (Below W3.heap.size W3 wx))
        case first =>
          have hb0 := below_drew0 W3
          refine wp_region_ats (fun V => Below W3.heap.size W3 V) (by kernel_rfl) (by kernel_rfl) (fun _ d _ _ _ h => by cases d <;> exact h) rfl ?_
          generalize W3.drew = V at *
          refine ats_take [0] 8 rfl (by kernel_rfl) hb0 ?_
          simp only [pick, List.drop_zero, List.head?_cons, Option.toList_some, List.append_nil]
          repeat (refine wpHeld_step ?_ rfl ?_ ?_; rotate_left; · (intro V hV; obtain ⟨v0, v1, v2⟩ := (K1.out.below hV K1.out.lt).all; go_simp; with_reducible rfl))
          refine wpHeld_nil ?_
          refine ats_two 1 6 (by kernel_rfl) ?_ ?_
          · simp only [pick, List.drop_succ_cons, List.drop_zero, List.head?_cons, Option.toList_some, List.append_nil]
            go_wp2_with fail
            refine (procedure_any V).mono ?_
            rintro e X ⟨y, rfl, hp, bx⟩
            replace hb0 := hb0.trans (bx.mono hb0.size)
            clear bx
            go_wp2_with fail
            refine ⟨hb0, ?_⟩
            clear V
            obtain ⟨V, rfl⟩ : ∃ q, q = X := ⟨X, rfl⟩
            refine ats_two 2 6 (by kernel_rfl) ?_ ?_
            · simp only [pick, List.drop_succ_cons, List.drop_zero, List.head?_cons, Option.toList_some, List.append_nil]
              have hc := hmv4 (w := V) (y := y) ((HM.out.below hb0).wide hb0.size) hp
              have HC := Lib.hid hc
              clear hc
              go_wp2_with fail
              refine HC.out.mono ?_
              rintro e X ⟨b1, b5, b2, b6, b3, b7, b4, b8, b9, rfl, hA, bx⟩
              replace hb0 := hb0.trans (bx.mono hb0.size)
              clear bx HC hp
              go_wp2_with fail
              refine ⟨hb0, ?_⟩
              clear V
              obtain ⟨V, rfl⟩ : ∃ q, q = X := ⟨X, rfl⟩
              refine ats_take [3, 4, 5] 3 rfl (by kernel_rfl) hb0 ?_
              simp only [pick, List.drop_succ_cons, List.drop_zero, List.head?_cons, Option.toList_some, List.cons_append, List.nil_append, List.append_nil]
              repeat (refine wpHeld_step ?_ rfl ?_ ?_; rotate_left; · (intro V hV; go_simp; with_reducible rfl))
              refine wpHeld_nil ?_
              refine ats_one 6 (by kernel_rfl) ?_
              simp only [pick, List.drop_succ_cons, List.drop_zero, List.head?_cons, Option.toList_some, List.append_nil]
              go_wp2_with fail
              have kz := Blk.new V 27 #[.string ⟨#[]⟩, .int .i64 0, .slice none 0 0, .string ⟨#[]⟩, .int .i64 0, .slice none 0 0, .slice none 0 0, .slice none 0 0]
              have bx := below_self_alloc V (.cells #[.string ⟨#[]⟩, .int .i64 0, .slice none 0 0, .string ⟨#[]⟩, .int .i64 0, .slice none 0 0, .slice none 0 0, .slice none 0 0] 27)
              have GN := hb0.size
              replace hb0 := hb0.trans (bx.mono hb0.size)
              replace hA := (hA.below bx).wide bx.size
              clear bx
              refine ⟨hb0, ?_⟩
              generalize V.heap.size = gn at *
              generalize V.alloc (.cells #[.string ⟨#[]⟩, .int .i64 0, .slice none 0 0, .string ⟨#[]⟩, .int .i64 0, .slice none 0 0, .slice none 0 0, .slice none 0 0] 27) = V at *
              refine ats_one 7 (by kernel_rfl) ?_
              simp only [pick, List.drop_succ_cons, List.drop_zero, List.head?_cons, Option.toList_some, List.append_nil]
              have KZ := Lib.hid kz
              have HA := Lib.hid hA
              have HB1 : Hid (Below W3.heap.size W3 (V.setRow gn #[.string ⟨#[]⟩, .int .i64 0, .slice b1 0 b5, .string ⟨#[]⟩, .int .i64 0, .slice b2 0 b6, .slice b3 0 b7, .slice b4 0 b8])) := Lib.hid (below_row hb0 GN #[.string ⟨#[]⟩, .int .i64 0, .slice b1 0 b5, .string ⟨#[]⟩, .int .i64 0, .slice b2 0 b6, .slice b3 0 b7, .slice b4 0 b8])
              clear kz hA hb0
              go_wp2_with (refine wp_row rfl (.tmp 8) (.tmp 43) rfl gn #[.string ⟨#[]⟩, .int .i64 0, .slice b1 0 b5, .string ⟨#[]⟩, .int .i64 0, .slice b2 0 b6, .slice b3 0 b7, .slice b4 0 b8] rfl rfl rfl one8 rfl KZ.out ?_)
              refine ⟨HB1.out, ?_⟩
              refine ats_one 8 (by kernel_rfl) ?_
              simp only [pick, List.drop_succ_cons, List.drop_zero, List.head?_cons, Option.toList_some, List.append_nil]
              go_wp2_with fail
              refine ⟨HB1.out, ?_⟩
              refine ats_end (by kernel_rfl) ?_
              go_wp2_with fail
              go_meet
              exact ⟨gn, rfl, rfl, HB1⟩
            · simp only [pick, List.drop_succ_cons, List.drop_zero, List.head?_cons, Option.toList_some, List.append_nil]
              go_wp2_with fail
              have kz := Blk.new V 27 #[.string ⟨#[]⟩, .int .i64 0, .slice none 0 0, .string ⟨#[]⟩, .int .i64 0, .slice none 0 0, .slice none 0 0, .slice none 0 0]
              have bx := below_self_alloc V (.cells #[.string ⟨#[]⟩, .int .i64 0, .slice none 0 0, .string ⟨#[]⟩, .int .i64 0, .slice none 0 0, .slice none 0 0, .slice none 0 0] 27)
              have GN := hb0.size
              replace hb0 := hb0.trans (bx.mono hb0.size)
              replace hp := (hp.below bx).wide bx.size
              clear bx
              refine ⟨hb0, ?_⟩
              generalize V.heap.size = gn at *
              generalize V.alloc (.cells #[.string ⟨#[]⟩, .int .i64 0, .slice none 0 0, .string ⟨#[]⟩, .int .i64 0, .slice none 0 0, .slice none 0 0, .slice none 0 0] 27) = V at *
              refine ats_one 2 (by kernel_rfl) ?_
              simp only [pick, List.drop_succ_cons, List.drop_zero, List.head?_cons, Option.toList_some, List.append_nil]
              have hc := hmv4 (w := V) (y := y) ((HM.out.below hb0).wide hb0.size) hp
              have HC := Lib.hid hc
              clear hc
              go_wp2_with fail
              refine HC.out.mono ?_
              rintro e X ⟨b1, b5, b2, b6, b3, b7, b4, b8, b9, rfl, hA, bx⟩
              replace hb0 := hb0.trans (bx.mono hb0.size)
              replace kz := kz.below bx kz.lt
              clear bx HC hp
              go_wp2_with fail
              refine ⟨hb0, ?_⟩
              clear V
              obtain ⟨V, rfl⟩ : ∃ q, q = X := ⟨X, rfl⟩
              refine ats_take [3, 4, 5] 2 rfl (by kernel_rfl) hb0 ?_
              simp only [pick, List.drop_succ_cons, List.drop_zero, List.head?_cons, Option.toList_some, List.cons_append, List.nil_append, List.append_nil]
              repeat (refine wpHeld_step ?_ rfl ?_ ?_; rotate_left; · (intro V hV; go_simp; with_reducible rfl))
              refine wpHeld_nil ?_
              refine ats_one 7 (by kernel_rfl) ?_
              simp only [pick, List.drop_succ_cons, List.drop_zero, List.head?_cons, Option.toList_some, List.append_nil]
              have KZ := Lib.hid kz
              have HA := Lib.hid hA
              have HB1 : Hid (Below W3.heap.size W3 (V.setRow gn #[.string ⟨#[]⟩, .int .i64 0, .slice b1 0 b5, .string ⟨#[]⟩, .int .i64 0, .slice b2 0 b6, .slice b3 0 b7, .slice b4 0 b8])) := Lib.hid (below_row hb0 GN #[.string ⟨#[]⟩, .int .i64 0, .slice b1 0 b5, .string ⟨#[]⟩, .int .i64 0, .slice b2 0 b6, .slice b3 0 b7, .slice b4 0 b8])
              clear kz hA hb0
              go_wp2_with (refine wp_row rfl (.tmp 8) (.tmp 43) rfl gn #[.string ⟨#[]⟩, .int .i64 0, .slice b1 0 b5, .string ⟨#[]⟩, .int .i64 0, .slice b2 0 b6, .slice b3 0 b7, .slice b4 0 b8] rfl rfl rfl one8 rfl KZ.out ?_)
              refine ⟨HB1.out, ?_⟩
              refine ats_one 8 (by kernel_rfl) ?_
              simp only [pick, List.drop_succ_cons, List.drop_zero, List.head?_cons, Option.toList_some, List.append_nil]
              go_wp2_with fail
              refine ⟨HB1.out, ?_⟩
              refine ats_end (by kernel_rfl) ?_
              go_wp2_with fail
              go_meet
              exact ⟨gn, rfl, rfl, HB1⟩
          · simp only [pick, List.drop_succ_cons, List.drop_zero, List.head?_cons, Option.toList_some, List.append_nil]
            go_wp2_with fail
            have kz := Blk.new V 27 #[.string ⟨#[]⟩, .int .i64 0, .slice none 0 0, .string ⟨#[]⟩, .int .i64 0, .slice none 0 0, .slice none 0 0, .slice none 0 0]
            have bx := below_self_alloc V (.cells #[.string ⟨#[]⟩, .int .i64 0, .slice none 0 0, .string ⟨#[]⟩, .int .i64 0, .slice none 0 0, .slice none 0 0, .slice none 0 0] 27)
            have GN := hb0.size
            replace hb0 := hb0.trans (bx.mono hb0.size)
            clear bx
            refine ⟨hb0, ?_⟩
            generalize V.heap.size = gn at *
            generalize V.alloc (.cells #[.string ⟨#[]⟩, .int .i64 0, .slice none 0 0, .string ⟨#[]⟩, .int .i64 0, .slice none 0 0, .slice none 0 0, .slice none 0 0] 27) = V at *
            refine ats_one 1 (by kernel_rfl) ?_
            simp only [pick, List.drop_succ_cons, List.drop_zero, List.head?_cons, Option.toList_some, List.append_nil]
            go_wp2_with fail
            refine (procedure_any V).mono ?_
            rintro e X ⟨y, rfl, hp, bx⟩
            replace hb0 := hb0.trans (bx.mono hb0.size)
            replace kz := kz.below bx kz.lt
            clear bx
            go_wp2_with fail
            refine ⟨hb0, ?_⟩
            clear V
            obtain ⟨V, rfl⟩ : ∃ q, q = X := ⟨X, rfl⟩
            refine ats_one 2 (by kernel_rfl) ?_
            simp only [pick, List.drop_succ_cons, List.drop_zero, List.head?_cons, Option.toList_some, List.append_nil]
            have hc := hmv4 (w := V) (y := y) ((HM.out.below hb0).wide hb0.size) hp
            have HC := Lib.hid hc
            clear hc
            go_wp2_with fail
            refine HC.out.mono ?_
            rintro e X ⟨b1, b5, b2, b6, b3, b7, b4, b8, b9, rfl, hA, bx⟩
            replace hb0 := hb0.trans (bx.mono hb0.size)
            replace kz := kz.below bx kz.lt
            clear bx HC hp
            go_wp2_with fail
            refine ⟨hb0, ?_⟩
            clear V
            obtain ⟨V, rfl⟩ : ∃ q, q = X := ⟨X, rfl⟩
            refine ats_take [3, 4, 5] 2 rfl (by kernel_rfl) hb0 ?_
            simp only [pick, List.drop_succ_cons, List.drop_zero, List.head?_cons, Option.toList_some, List.cons_append, List.nil_append, List.append_nil]
            repeat (refine wpHeld_step ?_ rfl ?_ ?_; rotate_left; · (intro V hV; go_simp; with_reducible rfl))
            refine wpHeld_nil ?_
            refine ats_one 7 (by kernel_rfl) ?_
            simp only [pick, List.drop_succ_cons, List.drop_zero, List.head?_cons, Option.toList_some, List.append_nil]
            have KZ := Lib.hid kz
            have HA := Lib.hid hA
            have HB1 : Hid (Below W3.heap.size W3 (V.setRow gn #[.string ⟨#[]⟩, .int .i64 0, .slice b1 0 b5, .string ⟨#[]⟩, .int .i64 0, .slice b2 0 b6, .slice b3 0 b7, .slice b4 0 b8])) := Lib.hid (below_row hb0 GN #[.string ⟨#[]⟩, .int .i64 0, .slice b1 0 b5, .string ⟨#[]⟩, .int .i64 0, .slice b2 0 b6, .slice b3 0 b7, .slice b4 0 b8])
            clear kz hA hb0
            go_wp2_with (refine wp_row rfl (.tmp 8) (.tmp 43) rfl gn #[.string ⟨#[]⟩, .int .i64 0, .slice b1 0 b5, .string ⟨#[]⟩, .int .i64 0, .slice b2 0 b6, .slice b3 0 b7, .slice b4 0 b8] rfl rfl rfl one8 rfl KZ.out ?_)
            refine ⟨HB1.out, ?_⟩
            refine ats_one 8 (by kernel_rfl) ?_
            simp only [pick, List.drop_succ_cons, List.drop_zero, List.head?_cons, Option.toList_some, List.append_nil]
            go_wp2_with fail
            refine ⟨HB1.out, ?_⟩
            refine ats_end (by kernel_rfl) ?_
            go_wp2_with fail
            go_meet
            exact ⟨gn, rfl, rfl, HB1⟩
        case rest =>
          obtain ⟨ga, rfl, rfl, HBC⟩ := hcut
          have hbc := HBC.out
          have K1x := Lib.hid (K1.out.below hbc K1.out.lt)
          clear K1
          have K1 := K1x
          clear K1x
          have KAx := Lib.hid (KA.out.below hbc KA.out.lt)
          clear KA
          have KA := KAx
          clear KAx
          have HMx := Lib.hid ((HM.out.below hbc).wide hbc.size)
          clear HM
          have HM := HMx
          clear HMx
          have HAx := Lib.hid ((HA.out.below hbc).wide hbc.size)
          clear HA
          have HA := HAx
          clear HAx
          have HBx := Lib.hid (HB.out.trans (hbc.mono HB.out.size))
          clear HB
          have HB := HBx
          clear HBx
          clear hbc HBC
          obtain ⟨W4, rfl⟩ : ∃ q, q = wc := ⟨wc, rfl⟩
          clear K1 HM
          obtain ⟨t0, t1, t2⟩ := KA.out.all
          have hc := hgr1 HA.out
          have HC := Lib.hid hc
          clear hc
          go_wp2_with fail
          refine HC.out.mono ?_
          rintro e X5 ⟨c1, c5, c2, c6, c3, c7, c4, c8, c9, rfl, hr, bx⟩
          clear t0 t1 t2
          have by_ := below_self_alloc X5 (.cells #[.string ⟨#[109, 49]⟩, .int .i64 5, .slice c1 2 c5, .string ⟨#[111, 108, 100]⟩, .int .i64 1, .slice c2 1 c6, .slice c3 1 c7, .slice c4 0 c8] 27)
          have bz := bx.trans (by_.mono bx.size)
          have kn := Blk.new X5 27 #[.string ⟨#[109, 49]⟩, .int .i64 5, .slice c1 2 c5, .string ⟨#[111, 108, 100]⟩, .int .i64 1, .slice c2 1 c6, .slice c3 1 c7, .slice c4 0 c8]
          have KAx := Lib.hid (KA.out.below bz KA.out.lt)
          clear KA
          have KA := KAx
          clear KAx
          have HAx := Lib.hid ((HA.out.below bz).wide bz.size)
          clear HA
          have HA := HAx
          clear HAx
          have HBx := Lib.hid (HB.out.trans (bz.mono HB.out.size))
          clear HB
          have HB := HBx
          clear HBx
          have KN := Lib.hid kn
          have HN := Lib.hid ((hr.below by_).wide by_.size)
          clear bx by_ bz kn hr HC
          go_upto_region 7 with fail
          generalize X5.alloc (.cells #[.string ⟨#[109, 49]⟩, .int .i64 5, .slice c1 2 c5, .string ⟨#[111, 108, 100]⟩, .int .i64 1, .slice c2 1 c6, .slice c3 1 c7, .slice c4 0 c8] 27) = W5 at *
          generalize X5.heap.size = gW5 at *
          have KB := KN
          have HBB := HN
          clear KN HN
          obtain ⟨t0, t1, t2⟩ := KB.out.all
          have hc := hgr2 HBB.out
          have HC := Lib.hid hc
          clear hc
          go_wp2_with fail
          refine HC.out.mono ?_
          rintro e X6 ⟨d1, d5, d2, d6, d3, d7, d4, d8, d9, rfl, hr, bx⟩
          clear t0 t1 t2
          have by_ := below_self_alloc X6 (.cells #[.string ⟨#[]⟩, .int .i64 0, .slice d1 0 d5, .string ⟨#[]⟩, .int .i64 0, .slice d2 0 d6, .slice d3 0 d7, .slice d4 0 d8] 27)
          have bz := bx.trans (by_.mono bx.size)
          have kn := Blk.new X6 27 #[.string ⟨#[]⟩, .int .i64 0, .slice d1 0 d5, .string ⟨#[]⟩, .int .i64 0, .slice d2 0 d6, .slice d3 0 d7, .slice d4 0 d8]
          have KAx := Lib.hid (KA.out.below bz KA.out.lt)
          clear KA
          have KA := KAx
          clear KAx
          have KBx := Lib.hid (KB.out.below bz KB.out.lt)
          clear KB
          have KB := KBx
          clear KBx
          have HAx := Lib.hid ((HA.out.below bz).wide bz.size)
          clear HA
          have HA := HAx
          clear HAx
          have HBBx := Lib.hid ((HBB.out.below bz).wide bz.size)
          clear HBB
          have HBB := HBBx
          clear HBBx
          have HBx := Lib.hid (HB.out.trans (bz.mono HB.out.size))
          clear HB
          have HB := HBx
          clear HBx
          have KN := Lib.hid kn
          have HN := Lib.hid ((hr.below by_).wide by_.size)
          clear bx by_ bz kn hr HC
          go_upto_region 8 with fail
          generalize X6.alloc (.cells #[.string ⟨#[]⟩, .int .i64 0, .slice d1 0 d5, .string ⟨#[]⟩, .int .i64 0, .slice d2 0 d6, .slice d3 0 d7, .slice d4 0 d8] 27) = W6 at *
          generalize X6.heap.size = gW6 at *
          clear KN HN
          obtain ⟨t0, t1, t2⟩ := KB.out.all
          have hc := htx1 (HT.out.below HB.out) HBB.out
          have et : bs exT = ⟨#[109, 97, 116, 116, 101, 114, 32, 109, 49, 32, 53, 32, 111, 108, 100, 32, 49, 10, 99, 97, 115, 101, 32, 50, 48, 32, 48, 10, 109, 111, 118, 101, 100, 32, 55, 10, 114, 105, 103, 104, 116, 32, 97, 112, 112, 101, 97, 108, 32, 55, 10]⟩ := rfl
          rw [et] at hc
          have HC := Lib.hid hc
          clear hc et
          go_wp2_with fail
          refine HC.out.mono ?_
          rintro e W7 ⟨rfl, bz⟩
          clear t0 t1 t2
          have KAx := Lib.hid (KA.out.below bz KA.out.lt)
          clear KA
          have KA := KAx
          clear KAx
          have KBx := Lib.hid (KB.out.below bz KB.out.lt)
          clear KB
          have KB := KBx
          clear KBx
          have HAx := Lib.hid ((HA.out.below bz).wide bz.size)
          clear HA
          have HA := HAx
          clear HAx
          have HBBx := Lib.hid ((HBB.out.below bz).wide bz.size)
          clear HBB
          have HBB := HBBx
          clear HBBx
          have HBx := Lib.hid (HB.out.trans (bz.mono HB.out.size))
          clear HB
          have HB := HBx
          clear HBx
          clear bz HC
          go_upto_region 9 with fail
          have hp := hpa1 (HT.out.below HB.out)
          have et : bs exT = ⟨#[109, 97, 116, 116, 101, 114, 32, 109, 49, 32, 53, 32, 111, 108, 100, 32, 49, 10, 99, 97, 115, 101, 32, 50, 48, 32, 48, 10, 109, 111, 118, 101, 100, 32, 55, 10, 114, 105, 103, 104, 116, 32, 97, 112, 112, 101, 97, 108, 32, 55, 10]⟩ := rfl
          rw [et] at hp
          have HP := Lib.hid hp
          clear hp et
          have hc := HP.out
          have HC := Lib.hid hc
          clear hc
          go_wp2_with fail
          refine HC.out.mono ?_
          rintro e X8 ⟨f1, f5, f2, f6, f3, f7, f4, f8, f9, rfl, hr, bx⟩
          have by_ := below_self_alloc X8 (.cells #[.string ⟨#[109, 49]⟩, .int .i64 5, .slice f1 2 f5, .string ⟨#[111, 108, 100]⟩, .int .i64 1, .slice f2 1 f6, .slice f3 1 f7, .slice f4 0 f8] 27)
          have bz := bx.trans (by_.mono bx.size)
          have kn := Blk.new X8 27 #[.string ⟨#[109, 49]⟩, .int .i64 5, .slice f1 2 f5, .string ⟨#[111, 108, 100]⟩, .int .i64 1, .slice f2 1 f6, .slice f3 1 f7, .slice f4 0 f8]
          have KAx := Lib.hid (KA.out.below bz KA.out.lt)
          clear KA
          have KA := KAx
          clear KAx
          have KBx := Lib.hid (KB.out.below bz KB.out.lt)
          clear KB
          have KB := KBx
          clear KBx
          have HAx := Lib.hid ((HA.out.below bz).wide bz.size)
          clear HA
          have HA := HAx
          clear HAx
          have HBBx := Lib.hid ((HBB.out.below bz).wide bz.size)
          clear HBB
          have HBB := HBBx
          clear HBBx
          have HBx := Lib.hid (HB.out.trans (bz.mono HB.out.size))
          clear HB
          have HB := HBx
          clear HBx
          have KN := Lib.hid kn
          have HN := Lib.hid ((hr.below by_).wide by_.size)
          clear bx by_ bz kn hr HC
          go_upto_region 10 with fail
          generalize X8.alloc (.cells #[.string ⟨#[109, 49]⟩, .int .i64 5, .slice f1 2 f5, .string ⟨#[111, 108, 100]⟩, .int .i64 1, .slice f2 1 f6, .slice f3 1 f7, .slice f4 0 f8] 27) = W8 at *
          generalize X8.heap.size = gW8 at *
          have KP := KN
          have HPP := HN
          clear KN HN
          go_upto_region 11 with fail
          obtain ⟨t0, t1, t2⟩ := KB.out.all
          obtain ⟨s0, s1, s2⟩ := KP.out.all
          have hc : Calls Tryz.prog 15 #[.agg #[.string ⟨#[109, 49]⟩, .int .i64 5, .slice f1 2 f5, .string ⟨#[111, 108, 100]⟩, .int .i64 1, .slice f2 1 f6, .slice f3 1 f7, .slice f4 0 f8], .agg #[.string ⟨#[109, 49]⟩, .int .i64 5, .slice c1 2 c5, .string ⟨#[111, 108, 100]⟩, .int .i64 1, .slice c2 1 c6, .slice c3 1 c7, .slice c4 0 c8]] W8 fun e w' => e = .returned (.bool true) ∧ Below W8.heap.size W8 w' := rsame_any W8 W8.heap.size exB exB ⟨f1, f5, f2, f6, f3, f7, f4, f8, f9⟩ ⟨c1, c5, c2, c6, c3, c7, c4, c8, c9⟩ HPP.out HBB.out (Nat.le_refl _) sml_ex.2.2 sml_ex.2.2 true (by simp)
          have HC := Lib.hid hc
          clear hc
          go_wp2_with fail
          refine HC.out.mono ?_
          rintro e W9 ⟨rfl, bz⟩
          clear t0 t1 t2 s0 s1 s2
          have KAx := Lib.hid (KA.out.below bz KA.out.lt)
          clear KA
          have KA := KAx
          clear KAx
          have KBx := Lib.hid (KB.out.below bz KB.out.lt)
          clear KB
          have KB := KBx
          clear KBx
          have KPx := Lib.hid (KP.out.below bz KP.out.lt)
          clear KP
          have KP := KPx
          clear KPx
          have HAx := Lib.hid ((HA.out.below bz).wide bz.size)
          clear HA
          have HA := HAx
          clear HAx
          have HBBx := Lib.hid ((HBB.out.below bz).wide bz.size)
          clear HBB
          have HBB := HBBx
          clear HBBx
          have HPPx := Lib.hid ((HPP.out.below bz).wide bz.size)
          clear HPP
          have HPP := HPPx
          clear HPPx
          have HBx := Lib.hid (HB.out.trans (bz.mono HB.out.size))
          clear HB
          have HB := HBx
          clear HBx
          clear bz HC
          obtain ⟨t0, t1, t2⟩ := KB.out.all
          have hc := hha 7 true ex_has7 HBB.out
          have HC := Lib.hid hc
          clear hc
          go_wp2_with fail
          refine HC.out.mono ?_
          rintro e W10 ⟨rfl, bz⟩
          clear t0 t1 t2
          have KAx := Lib.hid (KA.out.below bz KA.out.lt)
          clear KA
          have KA := KAx
          clear KAx
          have KBx := Lib.hid (KB.out.below bz KB.out.lt)
          clear KB
          have KB := KBx
          clear KBx
          have KPx := Lib.hid (KP.out.below bz KP.out.lt)
          clear KP
          have KP := KPx
          clear KPx
          have HAx := Lib.hid ((HA.out.below bz).wide bz.size)
          clear HA
          have HA := HAx
          clear HAx
          have HBBx := Lib.hid ((HBB.out.below bz).wide bz.size)
          clear HBB
          have HBB := HBBx
          clear HBBx
          have HPPx := Lib.hid ((HPP.out.below bz).wide bz.size)
          clear HPP
          have HPP := HPPx
          clear HPPx
          have HBx := Lib.hid (HB.out.trans (bz.mono HB.out.size))
          clear HB
          have HB := HBx
          clear HBx
          clear bz HC
          obtain ⟨t0, t1, t2⟩ := KB.out.all
          have hc := hha 6 false ex_has6 HBB.out
          have HC := Lib.hid hc
          clear hc
          go_wp2_with fail
          refine HC.out.mono ?_
          rintro e W11 ⟨rfl, bz⟩
          clear t0 t1 t2
          have KAx := Lib.hid (KA.out.below bz KA.out.lt)
          clear KA
          have KA := KAx
          clear KAx
          have KBx := Lib.hid (KB.out.below bz KB.out.lt)
          clear KB
          have KB := KBx
          clear KBx
          have KPx := Lib.hid (KP.out.below bz KP.out.lt)
          clear KP
          have KP := KPx
          clear KPx
          have HAx := Lib.hid ((HA.out.below bz).wide bz.size)
          clear HA
          have HA := HAx
          clear HAx
          have HBBx := Lib.hid ((HBB.out.below bz).wide bz.size)
          clear HBB
          have HBB := HBBx
          clear HBBx
          have HPPx := Lib.hid ((HPP.out.below bz).wide bz.size)
          clear HPP
          have HPP := HPPx
          clear HPPx
          have HBx := Lib.hid (HB.out.trans (bz.mono HB.out.size))
          clear HB
          have HB := HBx
          clear HBx
          clear bz HC
          go_wp2_with fail
          refine (procedure_any W11).mono ?_
          rintro e W12 ⟨y, rfl, hp, bz⟩
          have hb12 := HB.out.trans (bz.mono HB.out.size)
          have hc := hpr1 hp
          have HC := Lib.hid hc
          clear hc bz
          go_wp2_with fail
          refine HC.out.mono ?_
          rintro e W13 ⟨rfl, bz⟩
          have hb13 := hb12.trans (bz.mono hb12.size)
          clear bz HC hb12
          go_wp2_with fail
          refine (hpr0 (w := W13)).mono ?_
          rintro e W14 ⟨rfl, bz⟩
          have hb14 := hb13.trans (bz.mono hb13.size)
          clear bz hb13
          go_wp2
          go_ret
          exact ⟨rfl, hb14⟩
end Go.Proofs.YtgfahifdmacmhaaGreatDoor
