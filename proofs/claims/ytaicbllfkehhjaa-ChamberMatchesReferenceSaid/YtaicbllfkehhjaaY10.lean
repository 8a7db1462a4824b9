/- Part 10 of what the laws of this seat stand on: Ih, Ii, Ik. -/
import Derived.Test.YtaicbllfkehhjaaY9
import Derived.Great.BuildSlice

/- The laws' head: the fixed examples. -/
namespace Go.Proofs.Ytaicbllfkehhjaa
open Go.RowKit

def patS (s : ByteArray) : Pt := (5, s, ⟨#[]⟩, ⟨#[]⟩, ⟨#[]⟩, (0, ⟨#[]⟩, ⟨#[]⟩, ⟨#[]⟩, ⟨#[]⟩, ⟨#[]⟩, false), 0, ⟨#[]⟩, ⟨#[]⟩)
def x0 : Ch := newS 2
def x1 : Ch := (proposeI 2 x0 0 (0, 0) (patS ⟨#[112, 49]⟩)).1
def x2 : Ch := (proposeI 2 x1 1 (0, 0) (patS ⟨#[112, 50]⟩)).1
def x3 : Ch := (deliverI 2 x2 0 1 false).1
def x4 : Ch := (deliverI 2 x3 1 0 false).1
def x5 : Ch := (deliverI 2 x4 1 0 false).1
def x6 : Ch := (withdrawI 2 x5 1 (1, 1)).1
def x7 : Ch := (withdrawI 2 x6 1 (0, 1)).1
def x8 : Ch := (deliverI 2 x7 1 0 true).1
def x9 : Ch := (againI 2 x8 1 0).1
def x10 : Ch := (deliverI 2 x9 1 0 false).1
def cA : Cl := ⟨(1, 1), (0, 0), patS ⟨#[112, 50]⟩, false⟩
def cB : Cl := ⟨(0, 1), (0, 0), patS ⟨#[112, 49]⟩, false⟩
set_option maxRecDepth 100000 in
theorem hd_all : (proposeI 2 x0 0 (0, 0) (patS ⟨#[112, 49]⟩)).2 = ((0, 1), 0) ∧ (proposeI 2 x1 1 (0, 0) (patS ⟨#[112, 50]⟩)).2 = ((1, 1), 0) ∧ settledS x2 = false ∧ (deliverI 2 x2 0 1 false).2 = true ∧ (deliverI 2 x3 1 0 false).2 = true ∧ (deliverI 2 x4 1 0 false).2 = false ∧
    viewS 2 x5 0 = [cA, cB] ∧ settledS x5 = true ∧ (withdrawI 2 x5 1 (1, 1)).2 = 0 ∧ (withdrawI 2 x6 1 (0, 1)).2 = 12 ∧ (againI 2 x8 1 0).2 = 0 ∧ viewS 2 x10 0 = [goneC cA, cB] ∧ settledS x10 = true := by
  refine ⟨?_, ?_, ?_, ?_, ?_, ?_, ?_, ?_, ?_, ?_, ?_, ?_, ?_⟩ <;> kernel_rfl
theorem ok_all : Ok 2 10 x0 ∧ Ok 2 10 x1 ∧ Ok 2 10 x2 ∧ Ok 2 10 x3 ∧ Ok 2 10 x4 ∧ Ok 2 10 x5 ∧ Ok 2 10 x6 ∧ Ok 2 10 x7 ∧ Ok 2 10 x8 ∧ Ok 2 10 x9 ∧ Ok 2 10 x10 := by
  have h0 := Ok.new 2
  have h1 := h0.proposeI (by decide) 0 (0, 0) (patS ⟨#[112, 49]⟩)
  have h2 := h1.proposeI (by decide) 1 (0, 0) (patS ⟨#[112, 50]⟩)
  have h3 := h2.deliverI 0 1 false
  have h4 := h3.deliverI 1 0 false
  have h5 := h4.deliverI 1 0 false
  have h6 := h5.withdrawI 1 (1, 1)
  have h7 := h6.withdrawI 1 (0, 1)
  have h8 := h7.deliverI 1 0 true
  have h9 := h8.againI 1 0
  have h10 := h9.deliverI 1 0 false
  exact ⟨h0.mono (by decide), h1.mono (by decide), h2.mono (by decide), h3.mono (by decide), h4.mono (by decide), h5.mono (by decide), h6.mono (by decide), h7.mono (by decide), h8.mono (by decide), h9.mono (by decide), h10.mono (by decide)⟩
theorem fit_all : Fit 2 x0 ∧ Fit 2 x1 ∧ Fit 2 x2 ∧ Fit 2 x3 ∧ Fit 2 x4 ∧ Fit 2 x5 ∧ Fit 2 x6 ∧ Fit 2 x7 ∧ Fit 2 x8 ∧ Fit 2 x9 ∧ Fit 2 x10 := by
  obtain ⟨h0, h1, h2, h3, h4, h5, h6, h7, h8, h9, h10⟩ := ok_all
  exact ⟨h0.fit (by decide), h1.fit (by decide), h2.fit (by decide), h3.fit (by decide), h4.fit (by decide), h5.fit (by decide), h6.fit (by decide), h7.fit (by decide), h8.fit (by decide), h9.fit (by decide), h10.fit (by decide)⟩

set_option maxRecDepth 100000 in
theorem patch_any (w : World) (s : ByteArray) :
    Calls Try.prog 30 #[.string s] w fun e w' => e = .returned (.agg (ptA (patS s))) ∧ Below w.heap.size w w' := by
  obtain ⟨CX, hCX⟩ : ∃ X, ptA (patS s) = X := ⟨_, rfl⟩
  have HCX := Lib.hid hCX
  go_enter Try.func30, Try.ntmps30
  go_upto_region 1 with fail
  refine wp_region_lit ?_
  refine wpList_val rfl rfl (.string s) rfl ?_
  simp only [Act.put, List.setIfInBounds_toArray, List.set_cons_succ, List.set_cons_zero]
  refine wpList_buildTo rfl 37 _ rfl (some 4) rfl CX (by rw [← HCX.out]; kernel_rfl) ?_
  simp only [Act.put, List.setIfInBounds_toArray, List.set_cons_succ, List.set_cons_zero]
  refine wpList_store_row rfl 37 (.tmp 2) (.tmp 4) rfl w.heap.size CX rfl rfl _ _ (Blk.new w 37 #[.int .i64 0, .string ⟨#[]⟩, .string ⟨#[]⟩, .string ⟨#[]⟩, .string ⟨#[]⟩, .int .i64 0, .string ⟨#[]⟩, .string ⟨#[]⟩, .string ⟨#[]⟩, .string ⟨#[]⟩, .string ⟨#[]⟩, .bool false, .int .i64 0, .string ⟨#[]⟩, .string ⟨#[]⟩]) (by rw [← HCX.out]; kernel_rfl) (by rw [← HCX.out]; rfl) (by rw [← HCX.out]; simp [ptA, Value.oneCell']) ?_
  have kf := blk_setRow (C := CX) (Blk.new w 37 #[.int .i64 0, .string ⟨#[]⟩, .string ⟨#[]⟩, .string ⟨#[]⟩, .string ⟨#[]⟩, .int .i64 0, .string ⟨#[]⟩, .string ⟨#[]⟩, .string ⟨#[]⟩, .string ⟨#[]⟩, .string ⟨#[]⟩, .bool false, .int .i64 0, .string ⟨#[]⟩, .string ⟨#[]⟩])
  have hf := below_setRow (g := w.heap.size) CX (below_self_alloc w (.cells #[.int .i64 0, .string ⟨#[]⟩, .string ⟨#[]⟩, .string ⟨#[]⟩, .string ⟨#[]⟩, .int .i64 0, .string ⟨#[]⟩, .string ⟨#[]⟩, .string ⟨#[]⟩, .string ⟨#[]⟩, .string ⟨#[]⟩, .bool false, .int .i64 0, .string ⟨#[]⟩, .string ⟨#[]⟩] 37)) (Nat.le_refl _)
  have hlv := run_loadVar_row (P := Try.prog) _ _ 37 37 _ (0, 0) _ kf Try.underlying37 rfl (by rw [← HCX.out]; kernel_rfl)
  go_wp2_with fail
  exact bodyPost_ret (v := .agg CX) (by simp [results, Try.results30, asAddr, hlv, Act.put]) rfl ⟨by rw [HCX.out], hf⟩

theorem own_drew0 {w : World} {B : Nat} {v : Value} {l : List Cl} (h : OwnCls w B v l) : OwnCls w.drew 0 v l := ⟨h.1, h.2.imp id fun ⟨g, cap, cur, a, _, c⟩ => ⟨g, cap, cur, a, Nat.zero_le _, c⟩⟩
set_option maxRecDepth 100000 in
set_option maxHeartbeats 8000000 in
theorem head_any (w : World) :
    Calls Try.prog 8 #[] w fun e w' => e = .returned (.bool true) ∧ Below w.heap.size w w' := by
  obtain ⟨e1, e2, e3, e4, e5, e6, e7, e8, e9, e10, e11, e12, e13⟩ := hd_all
  obtain ⟨f0, f1, f2, f3, f4, f5, f6, f7, f8, f9, f10⟩ := fit_all
  have HN := Lib.hid (show Calls Try.prog 10 #[.int .i64 2] w _ from Live.new w w (Below.refl _ _) 2 (by decide) (by decide))
  have HP1 := Lib.hid (show ∀ W y V, Live w W y V 2 x0 → Calls Try.prog 29 #[.pointer (some ⟨y.p, 0, none⟩), .int .i64 0, .agg #[.int .i64 0, .int .i64 0], .agg (ptA (patS ⟨#[112, 49]⟩))] W fun e w' =>
      e = .returned (.tuple #[.agg #[.int .i64 0, .int .i64 1], .int .i64 0]) ∧ ∃ V', Live w w' y V' 2 x1 ∧ Turn W w' y V V' 2 from fun W y V h => by
    have := h.propose f0 0 0 0 (patS ⟨#[112, 49]⟩)
    rw [e1] at this
    exact this)
  have HP2 := Lib.hid (show ∀ W y V, Live w W y V 2 x1 → Calls Try.prog 29 #[.pointer (some ⟨y.p, 0, none⟩), .int .i64 1, .agg #[.int .i64 0, .int .i64 0], .agg (ptA (patS ⟨#[112, 50]⟩))] W fun e w' =>
      e = .returned (.tuple #[.agg #[.int .i64 1, .int .i64 1], .int .i64 0]) ∧ ∃ V', Live w w' y V' 2 x2 ∧ Turn W w' y V V' 2 from fun W y V h => by
    have := h.propose f1 1 0 0 (patS ⟨#[112, 50]⟩)
    rw [e2] at this
    exact this)
  have HS2 := Lib.hid (show ∀ W y V, Live w W y V 2 x2 → Calls Try.prog 21 #[.pointer (some ⟨y.p, 0, none⟩)] W fun e w' => e = .returned (.bool false) ∧ Below W.heap.size W w' from fun W y V h => by
    have := h.settled f2
    rw [e3] at this
    exact this)
  have HD3 := Lib.hid (show ∀ W y V, Live w W y V 2 x2 → Calls Try.prog 28 #[.pointer (some ⟨y.p, 0, none⟩), .int .i64 0, .int .i64 1, .bool false] W fun e w' => e = .returned (.bool true) ∧ ∃ V', Live w w' y V' 2 x3 ∧ Turn W w' y V V' 2 from fun W y V h => by
    have := h.deliver f2 0 1 false
    rw [e4] at this
    exact this)
  have HD4 := Lib.hid (show ∀ W y V, Live w W y V 2 x3 → Calls Try.prog 28 #[.pointer (some ⟨y.p, 0, none⟩), .int .i64 1, .int .i64 0, .bool false] W fun e w' => e = .returned (.bool true) ∧ ∃ V', Live w w' y V' 2 x4 ∧ Turn W w' y V V' 2 from fun W y V h => by
    have := h.deliver f3 1 0 false
    rw [e5] at this
    exact this)
  have HD5 := Lib.hid (show ∀ W y V, Live w W y V 2 x4 → Calls Try.prog 28 #[.pointer (some ⟨y.p, 0, none⟩), .int .i64 1, .int .i64 0, .bool false] W fun e w' => e = .returned (.bool false) ∧ ∃ V', Live w w' y V' 2 x5 ∧ Turn W w' y V V' 2 from fun W y V h => by
    have := h.deliver f4 1 0 false
    rw [e6] at this
    exact this)
  have HV5 := Lib.hid (show ∀ W y V, Live w W y V 2 x5 → Calls Try.prog 20 #[.pointer (some ⟨y.p, 0, none⟩), .int .i64 0] W fun e w' => ∃ v, e = .returned v ∧ OwnCls w' W.heap.size v [cA, cB] ∧ Below W.heap.size W w' from fun W y V h => by
    have := h.view f5 0
    rw [e7] at this
    exact this)
  have HS5 := Lib.hid (show ∀ W y V, Live w W y V 2 x5 → Calls Try.prog 21 #[.pointer (some ⟨y.p, 0, none⟩)] W fun e w' => e = .returned (.bool true) ∧ Below W.heap.size W w' from fun W y V h => by
    have := h.settled f5
    rw [e8] at this
    exact this)
  have HW6 := Lib.hid (show ∀ W y V, Live w W y V 2 x5 → Calls Try.prog 31 #[.pointer (some ⟨y.p, 0, none⟩), .int .i64 1, .agg #[.int .i64 1, .int .i64 1]] W fun e w' => e = .returned (.int .i64 0) ∧ ∃ V', Live w w' y V' 2 x6 ∧ Turn W w' y V V' 2 from fun W y V h => by
    have := h.withdraw f5 1 1 1
    rw [e9] at this
    exact this)
  have HW7 := Lib.hid (show ∀ W y V, Live w W y V 2 x6 → Calls Try.prog 31 #[.pointer (some ⟨y.p, 0, none⟩), .int .i64 1, .agg #[.int .i64 0, .int .i64 1]] W fun e w' => e = .returned (.int .i64 12) ∧ ∃ V', Live w w' y V' 2 x7 ∧ Turn W w' y V V' 2 from fun W y V h => by
    have := h.withdraw f6 1 0 1
    rw [e10] at this
    exact this)
  have HD8 := Lib.hid (show ∀ W y V, Live w W y V 2 x7 → Calls Try.prog 28 #[.pointer (some ⟨y.p, 0, none⟩), .int .i64 1, .int .i64 0, .bool true] W fun e w' => (∃ b, e = .returned (.bool b)) ∧ ∃ V', Live w w' y V' 2 x8 ∧ Turn W w' y V V' 2 from fun W y V h => by
    exact (h.deliver f7 1 0 true).mono fun _ _ ⟨k1, k2⟩ => ⟨⟨_, k1⟩, k2⟩)
  have HA9 := Lib.hid (show ∀ W y V, Live w W y V 2 x8 → Calls Try.prog 27 #[.pointer (some ⟨y.p, 0, none⟩), .int .i64 1, .int .i64 0] W fun e w' => e = .returned (.int .i64 0) ∧ ∃ V', Live w w' y V' 2 x9 ∧ Turn W w' y V V' 2 from fun W y V h => by
    have := h.again f8 1 0
    rw [e11] at this
    exact this)
  have HD10 := Lib.hid (show ∀ W y V, Live w W y V 2 x9 → Calls Try.prog 28 #[.pointer (some ⟨y.p, 0, none⟩), .int .i64 1, .int .i64 0, .bool false] W fun e w' => (∃ b, e = .returned (.bool b)) ∧ ∃ V', Live w w' y V' 2 x10 ∧ Turn W w' y V V' 2 from fun W y V h => by
    exact (h.deliver f9 1 0 false).mono fun _ _ ⟨k1, k2⟩ => ⟨⟨_, k1⟩, k2⟩)
  have HV10 := Lib.hid (show ∀ W y V, Live w W y V 2 x10 → Calls Try.prog 20 #[.pointer (some ⟨y.p, 0, none⟩), .int .i64 0] W fun e w' => ∃ v, e = .returned v ∧ OwnCls w' W.heap.size v [goneC cA, cB] ∧ Below W.heap.size W w' from fun W y V h => by
    have := h.view f10 0
    rw [e12] at this
    exact this)
  have HS10 := Lib.hid (show ∀ W y V, Live w W y V 2 x10 → Calls Try.prog 21 #[.pointer (some ⟨y.p, 0, none⟩)] W fun e w' => e = .returned (.bool true) ∧ Below W.heap.size W w' from fun W y V h => by
    have := h.settled f10
    rw [e13] at this
    exact this)
  clear e1 e2 e3 e4 e5 e6 e7 e8 e9 e10 e11 e12 e13 f0 f1 f2 f3 f4 f5 f6 f7 f8 f9 f10
  obtain ⟨P1, hP1⟩ : ∃ x, ptA (patS ⟨#[112, 49]⟩) = x := ⟨_, rfl⟩
  obtain ⟨P2, hP2⟩ : ∃ x, ptA (patS ⟨#[112, 50]⟩) = x := ⟨_, rfl⟩
  have HT1 := Lib.hid (fun W => patch_any W ⟨#[112, 49]⟩)
  have HT2 := Lib.hid (fun W => patch_any W ⟨#[112, 50]⟩)
  rw [hP1] at HP1 HT1
  rw [hP2] at HP2 HT2
  clear hP1 hP2
  go_enter Try.func8, Try.ntmps8
  go_upto_region 2 with (go_at_call 10; refine HN.out.mono ?_; rintro e w1 ⟨y, V1, rfl, h1, -⟩)
  have H1 := Lib.hid h1
  clear h1 HN
  go_upto_region 3 with (first | (go_at_call 30; refine (HT1.out _).mono ?_; rintro e w2 ⟨rfl, b2⟩; have H2 := Lib.hid (H1.out.same b2); clear b2 H1) | (go_at_call 29; refine (HP1.out _ _ _ H2.out).mono ?_; rintro e w3 ⟨rfl, V3, h3, -⟩; have H3 := Lib.hid h3; clear h3 H2))
  have kA := Blk.new w3 33 #[.int .i64 0, .int .i64 1]
  have H4 := Lib.hid (H3.out.alloc (.cells #[.int .i64 0, .int .i64 1] 33))
  generalize w3.alloc (.cells #[.int .i64 0, .int .i64 1] 33) = w4 at *
  have KA4 := Lib.hid kA
  generalize w3.heap.size = gA at *
  clear kA H3
  go_upto_region 4 with (first | (go_at_call 30; refine (HT2.out _).mono ?_; rintro e w5 ⟨rfl, b5⟩; have H5 := Lib.hid (H4.out.same b5); have KA5 := Lib.hid (KA4.out.below b5 KA4.out.lt); clear b5 H4 KA4) | (go_at_call 29; refine (HP2.out _ _ _ H5.out).mono ?_; rintro e w6 ⟨rfl, V6, h6, t6⟩; have H6 := Lib.hid h6; have KA6 := Lib.hid (H5.out.kblk t6 KA5.out (by decide) (by decide)); clear h6 t6 H5 KA5))
  have kB := Blk.new w6 33 #[.int .i64 1, .int .i64 1]
  have H7 := Lib.hid (H6.out.alloc (.cells #[.int .i64 1, .int .i64 1] 33))
  have KA7 := Lib.hid (KA6.out.alloc (.cells #[.int .i64 1, .int .i64 1] 33))
  generalize w6.alloc (.cells #[.int .i64 1, .int .i64 1] 33) = w7 at *
  have KB7 := Lib.hid kB
  generalize w6.heap.size = gB at *
  clear kB H6 KA6
  go_upto_region 5 with (go_at_call 21; refine (HS2.out _ _ _ H7.out).mono ?_; rintro e w8 ⟨rfl, b⟩; have H8 := Lib.hid (H7.out.same b); have KA8 := Lib.hid (KA7.out.below b KA7.out.lt); have KB8 := Lib.hid (KB7.out.below b KB7.out.lt); clear H7 KA7 KB7 ; clear b)
  go_upto_region 6 with (go_at_call 28; refine (HD3.out _ _ _ H8.out).mono ?_; rintro e w9 ⟨rfl, V9, h, t⟩; have H9 := Lib.hid h; have KA9 := Lib.hid (H8.out.kblk t KA8.out (by decide) (by decide)); have KB9 := Lib.hid (H8.out.kblk t KB8.out (by decide) (by decide)); clear H8 KA8 KB8 ; clear h t)
  go_upto_region 7 with (go_at_call 28; refine (HD4.out _ _ _ H9.out).mono ?_; rintro e w10 ⟨rfl, V10, h, t⟩; have H10 := Lib.hid h; have KA10 := Lib.hid (H9.out.kblk t KA9.out (by decide) (by decide)); have KB10 := Lib.hid (H9.out.kblk t KB9.out (by decide) (by decide)); clear H9 KA9 KB9 ; clear h t)
  go_upto_region 8 with (go_at_call 28; refine (HD5.out _ _ _ H10.out).mono ?_; rintro e w11 ⟨rfl, V11, h, t⟩; have H11 := Lib.hid h; have KA11 := Lib.hid (H10.out.kblk t KA10.out (by decide) (by decide)); have KB11 := Lib.hid (H10.out.kblk t KB10.out (by decide) (by decide)); clear H10 KA10 KB10 ; clear h t)
  go_upto_region 9 with (go_at_call 20; refine (HV5.out _ _ _ H11.out).mono ?_; rintro e w12 ⟨v, rfl, own, b⟩; obtain ⟨gl, cgl, rfl, -⟩ := own_some own (by decide); have H12 := Lib.hid (H11.out.same b); have KA12 := Lib.hid (KA11.out.below b KA11.out.lt); have KB12 := Lib.hid (KB11.out.below b KB11.out.lt); have LO12 := Lib.hid own; clear H11 KA11 KB11 ; clear b own)
  go_upto_region 10 with (go_at_call 21; refine (HS5.out _ _ _ H12.out).mono ?_; rintro e w13 ⟨rfl, b⟩; have H13 := Lib.hid (H12.out.same b); have KA13 := Lib.hid (KA12.out.below b KA12.out.lt); have KB13 := Lib.hid (KB12.out.below b KB12.out.lt); have LO13 := Lib.hid (LO12.out.below b); clear H12 KA12 KB12 LO12; clear b)
  have sb0 : w13.cell? ⟨gB, 0, none⟩ = some (.int .i64 1) := KB13.out.cell 0
  have sb1 : w13.cell? ⟨gB, 1, none⟩ = some (.int .i64 1) := KB13.out.cell 1
  go_upto_region 11 with (go_at_call 31; refine (HW6.out _ _ _ H13.out).mono ?_; rintro e w14 ⟨rfl, V14, h, t⟩; have H14 := Lib.hid h; have KA14 := Lib.hid (H13.out.kblk t KA13.out (by decide) (by decide)); have KB14 := Lib.hid (H13.out.kblk t KB13.out (by decide) (by decide)); have LO14 := Lib.hid (H13.out.kcls t LO13.out); clear H13 KA13 KB13 LO13; clear h t)
  clear sb0 sb1
  have sb0 : w14.cell? ⟨gA, 0, none⟩ = some (.int .i64 0) := KA14.out.cell 0
  have sb1 : w14.cell? ⟨gA, 1, none⟩ = some (.int .i64 1) := KA14.out.cell 1
  go_upto_region 12 with (go_at_call 31; refine (HW7.out _ _ _ H14.out).mono ?_; rintro e w15 ⟨rfl, V15, h, t⟩; have H15 := Lib.hid h; have KA15 := Lib.hid (H14.out.kblk t KA14.out (by decide) (by decide)); have KB15 := Lib.hid (H14.out.kblk t KB14.out (by decide) (by decide)); have LO15 := Lib.hid (H14.out.kcls t LO14.out); clear H14 KA14 KB14 LO14; clear h t)
  clear sb0 sb1
  go_upto_region 13 with (go_at_call 28; refine (HD8.out _ _ _ H15.out).mono ?_; rintro e w16 ⟨⟨bb, rfl⟩, V16, h, t⟩; have H16 := Lib.hid h; have KA16 := Lib.hid (H15.out.kblk t KA15.out (by decide) (by decide)); have KB16 := Lib.hid (H15.out.kblk t KB15.out (by decide) (by decide)); have LO16 := Lib.hid (H15.out.kcls t LO15.out); clear H15 KA15 KB15 LO15; clear h t)
  go_upto_region 14 with (go_at_call 27; refine (HA9.out _ _ _ H16.out).mono ?_; rintro e w17 ⟨rfl, V17, h, t⟩; have H17 := Lib.hid h; have KA17 := Lib.hid (H16.out.kblk t KA16.out (by decide) (by decide)); have KB17 := Lib.hid (H16.out.kblk t KB16.out (by decide) (by decide)); have LO17 := Lib.hid (H16.out.kcls t LO16.out); clear H16 KA16 KB16 LO16; clear h t)
  go_upto_region 15 with (go_at_call 28; refine (HD10.out _ _ _ H17.out).mono ?_; rintro e w18 ⟨⟨bc, rfl⟩, V18, h, t⟩; have H18 := Lib.hid h; have KA18 := Lib.hid (H17.out.kblk t KA17.out (by decide) (by decide)); have KB18 := Lib.hid (H17.out.kblk t KB17.out (by decide) (by decide)); have LO18 := Lib.hid (H17.out.kcls t LO17.out); clear H17 KA17 KB17 LO17; clear h t)
  go_upto_region 16 with (go_at_call 10; refine (cnew_bad _ 61 (.inr (by decide))).mono ?_; rintro e w19 ⟨rfl, hw⟩; subst hw)
  go_upto_region 17 with (go_at_call 20; refine (HV10.out _ _ _ H18.out).mono ?_; rintro e w19 ⟨v, rfl, own, b⟩; obtain ⟨gm, cgm, rfl, -⟩ := own_some own (by decide); have H19 := Lib.hid (H18.out.same b); have KA19 := Lib.hid (KA18.out.below b KA18.out.lt); have KB19 := Lib.hid (KB18.out.below b KB18.out.lt); have LO19 := Lib.hid (LO18.out.below b); have MO19 := Lib.hid own; clear H18 KA18 KB18 LO18; clear b own)
  have ka0 : w19.cell? ⟨gA, 0, none⟩ = some (.int .i64 0) := KA19.out.cell 0
  have ka1 : w19.cell? ⟨gA, 1, none⟩ = some (.int .i64 1) := KA19.out.cell 1
  have kb0 : w19.cell? ⟨gB, 0, none⟩ = some (.int .i64 1) := KB19.out.cell 0
  have kb1 : w19.cell? ⟨gB, 1, none⟩ = some (.int .i64 1) := KB19.out.cell 1
  have hq1 : ∀ W : World, (Op.equalIn 10000 33 (.agg #[.int .i64 0, .int .i64 1]) (.agg #[.int .i64 0, .int .i64 1])).run Try.prog W = .ok true W := fun W => eq_st (0, 1) (0, 1) W
  have hq2 : ∀ W : World, (Op.equalIn 10000 33 (.agg #[.int .i64 1, .int .i64 1]) (.agg #[.int .i64 1, .int .i64 1])).run Try.prog W = .ok true W := fun W => eq_st (1, 1) (1, 1) W
  have hla : 2 ≤ cgl := own_cap LO19.out
  have hlb : 2 ≤ cgm := own_cap MO19.out
  go_upto_region 20 with fail
  clear ka0 ka1 kb0 kb1
  refine wp_region_at (N := 54) (by kernel_rfl) (by kernel_rfl) (fun _ d _ _ _ h => by cases d <;> exact h) rfl #[false, false, false, false, false, false, false, false, false, false, false, false, false, false, false, false, false, false, false, false, false, false, false, false, false, false, false, false, false, false, false, false, false, false, false, false, false, false, false, false, false, false, false, false, false, false, false, false, false, false, false, false, false, false] (by kernel_rfl) ?_
  refine at_hold (fun W => Live w W y V18 2 x10 ∧ Blk W gA 33 #[.int .i64 0, .int .i64 1] ∧ Blk W gB 33 #[.int .i64 1, .int .i64 1] ∧ OwnCls W 0 (.slice (some ⟨gl, 0, none⟩) 2 cgl) [cA, cB] ∧ OwnCls W 0 (.slice (some ⟨gm, 0, none⟩) 2 cgm) [goneC cA, cB]) [0, 1, 2, 3, 4, 5, 6, 7, 8, 9, 10, 11, 12, 13, 14, 15, 16, 17, 18, 19, 20, 21, 22, 23, 24, 25, 26, 27, 28, 29, 30, 31, 32, 33] [34] [[1, 2, 3, 4, 5, 6, 7, 8, 9, 10, 11, 12, 13, 14, 15, 16, 17, 18, 19, 20, 21, 22, 23, 24, 25, 26, 27, 28, 29, 30, 31, 32, 33, 34, 35, 36, 37, 38, 39, 40, 41, 42, 43, 44, 45, 46, 47, 48, 49, 50, 51, 52, 53], [2, 3, 4, 5, 6, 7, 8, 9, 10, 11, 12, 13, 14, 15, 16, 17, 18, 19, 20, 21, 22, 23, 24, 25, 26, 27, 28, 29, 30, 31, 32, 33, 34, 35, 36, 37, 38, 39, 40, 41, 42, 43, 44, 45, 46, 47, 48, 49, 50, 51, 52, 53], [3, 4, 5, 6, 7, 8, 9, 10, 11, 12, 13, 14, 15, 16, 17, 18, 19, 20, 21, 22, 23, 24, 25, 26, 27, 28, 29, 30, 31, 32, 33, 34, 35, 36, 37, 38, 39, 40, 41, 42, 43, 44, 45, 46, 47, 48, 49, 50, 51, 52, 53], [4, 5, 6, 7, 8, 9, 10, 11, 12, 13, 14, 15, 16, 17, 18, 19, 20, 21, 22, 23, 24, 25, 26, 27, 28, 29, 30, 31, 32, 33, 34, 35, 36, 37, 38, 39, 40, 41, 42, 43, 44, 45, 46, 47, 48, 49, 50, 51, 52, 53], [5, 6, 7, 8, 9, 10, 11, 12, 13, 14, 15, 16, 17, 18, 19, 20, 21, 22, 23, 24, 25, 26, 27, 28, 29, 30, 31, 32, 33, 34, 35, 36, 37, 38, 39, 40, 41, 42, 43, 44, 45, 46, 47, 48, 49, 50, 51, 52, 53], [6, 7, 8, 10, 11, 12, 13, 14, 15, 16, 17, 18, 19, 20, 21, 22, 23, 24, 25, 26, 27, 28, 29, 30, 31, 32, 33, 34, 35, 36, 37, 38, 39, 40, 41, 42, 43, 44, 45, 46, 47, 48, 49, 50, 51, 52, 53], [7, 8, 10, 11, 12, 13, 14, 15, 16, 17, 18, 19, 20, 21, 22, 23, 24, 25, 26, 27, 28, 29, 30, 31, 32, 33, 34, 35, 36, 37, 38, 39, 40, 41, 42, 43, 44, 45, 46, 47, 48, 49, 50, 51, 52, 53], [8, 10, 11, 12, 13, 14, 15, 16, 17, 18, 19, 20, 21, 22, 23, 24, 25, 26, 27, 28, 29, 30, 31, 32, 33, 34, 35, 36, 37, 38, 39, 40, 41, 42, 43, 44, 45, 46, 47, 48, 49, 50, 51, 52, 53], [10, 11, 12, 13, 14, 15, 16, 17, 18, 19, 20, 21, 22, 23, 24, 25, 26, 27, 28, 29, 30, 31, 32, 33, 34, 35, 36, 37, 38, 39, 40, 41, 42, 43, 44, 45, 46, 47, 48, 49, 50, 51, 52, 53], [10, 11, 12, 13, 14, 15, 16, 17, 18, 19, 20, 21, 22, 23, 24, 25, 26, 27, 28, 29, 30, 31, 32, 33, 34, 35, 36, 37, 38, 39, 40, 41, 42, 43, 44, 45, 46, 47, 48, 49, 50, 51, 52, 53], [11, 12, 13, 14, 15, 16, 17, 18, 19, 20, 21, 22, 23, 24, 25, 26, 27, 28, 29, 30, 31, 32, 33, 34, 35, 36, 37, 38, 39, 40, 41, 42, 43, 44, 45, 46, 47, 48, 49, 50, 51, 52, 53], [12, 13, 14, 15, 16, 17, 18, 19, 20, 21, 22, 23, 24, 25, 26, 27, 28, 29, 30, 31, 32, 33, 34, 35, 36, 37, 38, 39, 40, 41, 42, 43, 44, 45, 46, 47, 48, 49, 50, 51, 52, 53], [13, 14, 15, 16, 17, 18, 19, 20, 21, 22, 23, 24, 25, 26, 27, 28, 29, 30, 31, 32, 33, 34, 35, 36, 37, 38, 39, 40, 41, 42, 43, 44, 45, 46, 47, 48, 49, 50, 51, 52, 53], [14, 15, 16, 18, 19, 20, 21, 22, 23, 24, 25, 26, 27, 28, 29, 30, 31, 32, 33, 34, 35, 36, 37, 38, 39, 40, 41, 42, 43, 44, 45, 46, 47, 48, 49, 50, 51, 52, 53], [15, 16, 18, 19, 20, 21, 22, 23, 24, 25, 26, 27, 28, 29, 30, 31, 32, 33, 34, 35, 36, 37, 38, 39, 40, 41, 42, 43, 44, 45, 46, 47, 48, 49, 50, 51, 52, 53], [16, 18, 19, 20, 21, 22, 23, 24, 25, 26, 27, 28, 29, 30, 31, 32, 33, 34, 35, 36, 37, 38, 39, 40, 41, 42, 43, 44, 45, 46, 47, 48, 49, 50, 51, 52, 53], [18, 19, 20, 21, 22, 23, 24, 25, 26, 27, 28, 29, 30, 31, 32, 33, 34, 35, 36, 37, 38, 39, 40, 41, 42, 43, 44, 45, 46, 47, 48, 49, 50, 51, 52, 53], [18, 19, 20, 21, 22, 23, 24, 25, 26, 27, 28, 29, 30, 31, 32, 33, 34, 35, 36, 37, 38, 39, 40, 41, 42, 43, 44, 45, 46, 47, 48, 49, 50, 51, 52, 53], [19, 20, 21, 22, 23, 24, 25, 26, 27, 28, 29, 30, 31, 32, 33, 34, 35, 36, 37, 38, 39, 40, 41, 42, 43, 44, 45, 46, 47, 48, 49, 50, 51, 52, 53], [20, 21, 22, 23, 24, 25, 26, 27, 28, 29, 30, 31, 32, 33, 34, 35, 36, 37, 38, 39, 40, 41, 42, 43, 44, 45, 46, 47, 48, 49, 50, 51, 52, 53], [21, 22, 23, 24, 25, 26, 27, 28, 29, 30, 31, 32, 33, 34, 35, 36, 37, 38, 39, 40, 41, 42, 43, 44, 45, 46, 47, 48, 49, 50, 51, 52, 53], [22, 23, 24, 25, 26, 27, 28, 29, 30, 31, 32, 33, 34, 35, 36, 37, 38, 39, 40, 41, 42, 43, 44, 45, 46, 47, 48, 49, 50, 51, 52, 53], [23, 24, 25, 26, 27, 28, 29, 30, 31, 32, 33, 34, 35, 36, 37, 38, 39, 40, 41, 42, 43, 44, 45, 46, 47, 48, 49, 50, 51, 52, 53], [24, 25, 26, 27, 28, 29, 30, 31, 32, 33, 34, 35, 36, 37, 38, 39, 40, 41, 42, 43, 44, 45, 46, 47, 48, 49, 50, 51, 52, 53], [25, 26, 27, 28, 29, 30, 31, 32, 33, 34, 35, 36, 37, 38, 39, 40, 41, 42, 43, 44, 45, 46, 47, 48, 49, 50, 51, 52, 53], [26, 27, 28, 29, 30, 31, 32, 33, 34, 35, 36, 37, 38, 39, 40, 41, 42, 43, 44, 45, 46, 47, 48, 49, 50, 51, 52, 53], [27, 28, 29, 30, 31, 32, 33, 34, 35, 36, 37, 38, 39, 40, 41, 42, 43, 44, 45, 46, 47, 48, 49, 50, 51, 52, 53], [28, 29, 30, 31, 32, 33, 34, 35, 36, 37, 38, 39, 40, 41, 42, 43, 44, 45, 46, 47, 48, 49, 50, 51, 52, 53], [29, 30, 31, 32, 33, 34, 35, 36, 37, 38, 39, 40, 41, 42, 43, 44, 45, 46, 47, 48, 49, 50, 51, 52, 53], [30, 31, 32, 33, 34, 35, 36, 37, 38, 39, 40, 41, 42, 43, 44, 45, 46, 47, 48, 49, 50, 51, 52, 53], [31, 32, 33, 34, 35, 36, 37, 38, 39, 40, 41, 42, 43, 44, 45, 46, 47, 48, 49, 50, 51, 52, 53], [32, 33, 34, 35, 36, 37, 38, 39, 40, 41, 42, 43, 44, 45, 46, 47, 48, 49, 50, 51, 52, 53], [33, 34, 35, 36, 37, 38, 39, 40, 41, 42, 43, 44, 45, 46, 47, 48, 49, 50, 51, 52, 53], [34, 35, 36, 37, 38, 39, 40, 41, 42, 43, 44, 45, 46, 47, 48, 49, 50, 51, 52, 53]] #[true, true, true, true, true, true, true, true, true, true, true, true, true, true, true, true, true, true, true, true, true, true, true, true, true, true, true, true, true, true, true, true, true, true, false, false, false, false, false, false, false, false, false, false, false, false, false, false, false, false, false, false, false, false] #[true, true, true, true, true, true, true, true, true, true, true, true, true, true, true, true, true, true, true, true, true, true, true, true, true, true, true, true, true, true, true, true, true, true, true, false, false, false, false, false, false, false, false, false, false, false, false, false, false, false, false, false, false, false] 19 rfl (by kernel_rfl) (by kernel_rfl) (by kernel_rfl) rfl (by kernel_rfl) ⟨H19.out.drew, KA19.out.drew, KB19.out.drew, own_drew0 LO19.out, own_drew0 MO19.out⟩ ?_
  simp only [wpEarly, pick, List.drop_succ_cons, List.drop_zero, List.head?_cons, Option.toList_some, List.cons_append, List.nil_append, List.append_nil]
  (refine wpHeld_step ?_ rfl ?_ ?_; rotate_left; · (intro W hW; (go_simp; try with_reducible rfl))); simp only [Act.put, List.setIfInBounds_toArray, List.set_cons_succ, List.set_cons_zero]
  (refine wpHeld_step ?_ rfl ?_ ?_; rotate_left; · (intro W hW; (go_simp; try with_reducible rfl))); simp only [Act.put, List.setIfInBounds_toArray, List.set_cons_succ, List.set_cons_zero]
  (refine wpHeld_want ?_ (by kernel_rfl) ?_ ?_; rotate_left; · (intro W hW; (go_simp; try with_reducible rfl))); simp only [Act.put, List.setIfInBounds_toArray, List.set_cons_succ, List.set_cons_zero]
  (refine wpHeld_step ?_ rfl ?_ ?_; rotate_left; · (intro W hW; (go_simp; try with_reducible rfl))); simp only [Act.put, List.setIfInBounds_toArray, List.set_cons_succ, List.set_cons_zero]
  (refine wpHeld_step ?_ rfl ?_ ?_; rotate_left; · (intro W hW; (go_simp; try with_reducible rfl))); simp only [Act.put, List.setIfInBounds_toArray, List.set_cons_succ, List.set_cons_zero]
  (refine wpHeld_want ?_ (by kernel_rfl) ?_ ?_; rotate_left; · (intro W hW; (go_simp; try with_reducible rfl))); simp only [Act.put, List.setIfInBounds_toArray, List.set_cons_succ, List.set_cons_zero]
  (refine wpHeld_want ?_ (by kernel_rfl) ?_ ?_; rotate_left; · (intro W hW; (go_simp; try with_reducible rfl))); simp only [Act.put, List.setIfInBounds_toArray, List.set_cons_succ, List.set_cons_zero]
  (refine wpHeld_want ?_ (by kernel_rfl) ?_ ?_; rotate_left; · (intro W hW; (go_simp; try with_reducible rfl))); simp only [Act.put, List.setIfInBounds_toArray, List.set_cons_succ, List.set_cons_zero]
  (refine wpHeld_want ?_ (by kernel_rfl) ?_ ?_; rotate_left; · (intro W hW; obtain ⟨-, ha, hb, hlo, hmo⟩ := hW; have a0 : W.cell? ⟨gA, 0, none⟩ = some (.int .i64 0) := ha.cell 0; have a1 : W.cell? ⟨gA, 1, none⟩ = some (.int .i64 1) := ha.cell 1; have b0 : W.cell? ⟨gB, 0, none⟩ = some (.int .i64 1) := hb.cell 0; have b1 : W.cell? ⟨gB, 1, none⟩ = some (.int .i64 1) := hb.cell 1; have l0_0 : W.cell? ⟨gl, 0, none⟩ = some (.int .i64 1) := (own_cell hlo rfl (k := 0) rfl (j := 0) rfl).1; have l0_1 : W.cell? ⟨gl, 1, none⟩ = some (.int .i64 1) := (own_cell hlo rfl (k := 0) rfl (j := 1) rfl).1; have l1_0 : W.cell? ⟨gl, 20, none⟩ = some (.int .i64 0) := (own_cell hlo rfl (k := 1) rfl (j := 0) rfl).1; have l1_1 : W.cell? ⟨gl, 21, none⟩ = some (.int .i64 1) := (own_cell hlo rfl (k := 1) rfl (j := 1) rfl).1; have l0_19 : W.cell? ⟨gl, 19, none⟩ = some (.bool false) := (own_cell hlo rfl (k := 0) rfl (j := 19) rfl).1; have l1_19 : W.cell? ⟨gl, 39, none⟩ = some (.bool false) := (own_cell hlo rfl (k := 1) rfl (j := 19) rfl).1; have m0_0 : W.cell? ⟨gm, 0, none⟩ = some (.int .i64 1) := (own_cell hmo rfl (k := 0) rfl (j := 0) rfl).1; have m0_1 : W.cell? ⟨gm, 1, none⟩ = some (.int .i64 1) := (own_cell hmo rfl (k := 0) rfl (j := 1) rfl).1; have m1_0 : W.cell? ⟨gm, 20, none⟩ = some (.int .i64 0) := (own_cell hmo rfl (k := 1) rfl (j := 0) rfl).1; have m1_1 : W.cell? ⟨gm, 21, none⟩ = some (.int .i64 1) := (own_cell hmo rfl (k := 1) rfl (j := 1) rfl).1; have m0_19 : W.cell? ⟨gm, 19, none⟩ = some (.bool true) := (own_cell hmo rfl (k := 0) rfl (j := 19) rfl).1; have m1_19 : W.cell? ⟨gm, 39, none⟩ = some (.bool false) := (own_cell hmo rfl (k := 1) rfl (j := 19) rfl).1; (go_simp; try with_reducible rfl))); simp only [Act.put, List.setIfInBounds_toArray, List.set_cons_succ, List.set_cons_zero]
  (refine wpHeld_want ?_ (by kernel_rfl) ?_ ?_; rotate_left; · (intro W hW; obtain ⟨-, ha, hb, hlo, hmo⟩ := hW; have a0 : W.cell? ⟨gA, 0, none⟩ = some (.int .i64 0) := ha.cell 0; have a1 : W.cell? ⟨gA, 1, none⟩ = some (.int .i64 1) := ha.cell 1; have b0 : W.cell? ⟨gB, 0, none⟩ = some (.int .i64 1) := hb.cell 0; have b1 : W.cell? ⟨gB, 1, none⟩ = some (.int .i64 1) := hb.cell 1; have l0_0 : W.cell? ⟨gl, 0, none⟩ = some (.int .i64 1) := (own_cell hlo rfl (k := 0) rfl (j := 0) rfl).1; have l0_1 : W.cell? ⟨gl, 1, none⟩ = some (.int .i64 1) := (own_cell hlo rfl (k := 0) rfl (j := 1) rfl).1; have l1_0 : W.cell? ⟨gl, 20, none⟩ = some (.int .i64 0) := (own_cell hlo rfl (k := 1) rfl (j := 0) rfl).1; have l1_1 : W.cell? ⟨gl, 21, none⟩ = some (.int .i64 1) := (own_cell hlo rfl (k := 1) rfl (j := 1) rfl).1; have l0_19 : W.cell? ⟨gl, 19, none⟩ = some (.bool false) := (own_cell hlo rfl (k := 0) rfl (j := 19) rfl).1; have l1_19 : W.cell? ⟨gl, 39, none⟩ = some (.bool false) := (own_cell hlo rfl (k := 1) rfl (j := 19) rfl).1; have m0_0 : W.cell? ⟨gm, 0, none⟩ = some (.int .i64 1) := (own_cell hmo rfl (k := 0) rfl (j := 0) rfl).1; have m0_1 : W.cell? ⟨gm, 1, none⟩ = some (.int .i64 1) := (own_cell hmo rfl (k := 0) rfl (j := 1) rfl).1; have m1_0 : W.cell? ⟨gm, 20, none⟩ = some (.int .i64 0) := (own_cell hmo rfl (k := 1) rfl (j := 0) rfl).1; have m1_1 : W.cell? ⟨gm, 21, none⟩ = some (.int .i64 1) := (own_cell hmo rfl (k := 1) rfl (j := 1) rfl).1; have m0_19 : W.cell? ⟨gm, 19, none⟩ = some (.bool true) := (own_cell hmo rfl (k := 0) rfl (j := 19) rfl).1; have m1_19 : W.cell? ⟨gm, 39, none⟩ = some (.bool false) := (own_cell hmo rfl (k := 1) rfl (j := 19) rfl).1; (go_simp; try with_reducible rfl))); simp only [Act.put, List.setIfInBounds_toArray, List.set_cons_succ, List.set_cons_zero]
  (refine wpHeld_want ?_ (by kernel_rfl) ?_ ?_; rotate_left; · (intro W hW; (go_simp; try with_reducible rfl))); simp only [Act.put, List.setIfInBounds_toArray, List.set_cons_succ, List.set_cons_zero]
  (refine wpHeld_step ?_ rfl ?_ ?_; rotate_left; · (intro W hW; (go_simp; try with_reducible rfl))); simp only [Act.put, List.setIfInBounds_toArray, List.set_cons_succ, List.set_cons_zero]
  (refine wpHeld_step ?_ rfl ?_ ?_; rotate_left; · (intro W hW; (go_simp; try with_reducible rfl))); simp only [Act.put, List.setIfInBounds_toArray, List.set_cons_succ, List.set_cons_zero]
  (refine wpHeld_want ?_ (by kernel_rfl) ?_ ?_; rotate_left; · (intro W hW; (go_simp; try with_reducible rfl))); simp only [Act.put, List.setIfInBounds_toArray, List.set_cons_succ, List.set_cons_zero]
  (refine wpHeld_want ?_ (by kernel_rfl) ?_ ?_; rotate_left; · (intro W hW; (go_simp; try with_reducible rfl))); simp only [Act.put, List.setIfInBounds_toArray, List.set_cons_succ, List.set_cons_zero]
  (refine wpHeld_want ?_ (by kernel_rfl) ?_ ?_; rotate_left; · (intro W hW; (go_simp; try with_reducible rfl))); simp only [Act.put, List.setIfInBounds_toArray, List.set_cons_succ, List.set_cons_zero]
  (refine wpHeld_want ?_ (by kernel_rfl) ?_ ?_; rotate_left; · (intro W hW; obtain ⟨-, ha, hb, hlo, hmo⟩ := hW; have a0 : W.cell? ⟨gA, 0, none⟩ = some (.int .i64 0) := ha.cell 0; have a1 : W.cell? ⟨gA, 1, none⟩ = some (.int .i64 1) := ha.cell 1; have b0 : W.cell? ⟨gB, 0, none⟩ = some (.int .i64 1) := hb.cell 0; have b1 : W.cell? ⟨gB, 1, none⟩ = some (.int .i64 1) := hb.cell 1; have l0_0 : W.cell? ⟨gl, 0, none⟩ = some (.int .i64 1) := (own_cell hlo rfl (k := 0) rfl (j := 0) rfl).1; have l0_1 : W.cell? ⟨gl, 1, none⟩ = some (.int .i64 1) := (own_cell hlo rfl (k := 0) rfl (j := 1) rfl).1; have l1_0 : W.cell? ⟨gl, 20, none⟩ = some (.int .i64 0) := (own_cell hlo rfl (k := 1) rfl (j := 0) rfl).1; have l1_1 : W.cell? ⟨gl, 21, none⟩ = some (.int .i64 1) := (own_cell hlo rfl (k := 1) rfl (j := 1) rfl).1; have l0_19 : W.cell? ⟨gl, 19, none⟩ = some (.bool false) := (own_cell hlo rfl (k := 0) rfl (j := 19) rfl).1; have l1_19 : W.cell? ⟨gl, 39, none⟩ = some (.bool false) := (own_cell hlo rfl (k := 1) rfl (j := 19) rfl).1; have m0_0 : W.cell? ⟨gm, 0, none⟩ = some (.int .i64 1) := (own_cell hmo rfl (k := 0) rfl (j := 0) rfl).1; have m0_1 : W.cell? ⟨gm, 1, none⟩ = some (.int .i64 1) := (own_cell hmo rfl (k := 0) rfl (j := 1) rfl).1; have m1_0 : W.cell? ⟨gm, 20, none⟩ = some (.int .i64 0) := (own_cell hmo rfl (k := 1) rfl (j := 0) rfl).1; have m1_1 : W.cell? ⟨gm, 21, none⟩ = some (.int .i64 1) := (own_cell hmo rfl (k := 1) rfl (j := 1) rfl).1; have m0_19 : W.cell? ⟨gm, 19, none⟩ = some (.bool true) := (own_cell hmo rfl (k := 0) rfl (j := 19) rfl).1; have m1_19 : W.cell? ⟨gm, 39, none⟩ = some (.bool false) := (own_cell hmo rfl (k := 1) rfl (j := 19) rfl).1; (go_simp; try with_reducible rfl))); simp only [Act.put, List.setIfInBounds_toArray, List.set_cons_succ, List.set_cons_zero]
  (refine wpHeld_want ?_ (by kernel_rfl) ?_ ?_; rotate_left; · (intro W hW; obtain ⟨-, ha, hb, hlo, hmo⟩ := hW; have a0 : W.cell? ⟨gA, 0, none⟩ = some (.int .i64 0) := ha.cell 0; have a1 : W.cell? ⟨gA, 1, none⟩ = some (.int .i64 1) := ha.cell 1; have b0 : W.cell? ⟨gB, 0, none⟩ = some (.int .i64 1) := hb.cell 0; have b1 : W.cell? ⟨gB, 1, none⟩ = some (.int .i64 1) := hb.cell 1; have l0_0 : W.cell? ⟨gl, 0, none⟩ = some (.int .i64 1) := (own_cell hlo rfl (k := 0) rfl (j := 0) rfl).1; have l0_1 : W.cell? ⟨gl, 1, none⟩ = some (.int .i64 1) := (own_cell hlo rfl (k := 0) rfl (j := 1) rfl).1; have l1_0 : W.cell? ⟨gl, 20, none⟩ = some (.int .i64 0) := (own_cell hlo rfl (k := 1) rfl (j := 0) rfl).1; have l1_1 : W.cell? ⟨gl, 21, none⟩ = some (.int .i64 1) := (own_cell hlo rfl (k := 1) rfl (j := 1) rfl).1; have l0_19 : W.cell? ⟨gl, 19, none⟩ = some (.bool false) := (own_cell hlo rfl (k := 0) rfl (j := 19) rfl).1; have l1_19 : W.cell? ⟨gl, 39, none⟩ = some (.bool false) := (own_cell hlo rfl (k := 1) rfl (j := 19) rfl).1; have m0_0 : W.cell? ⟨gm, 0, none⟩ = some (.int .i64 1) := (own_cell hmo rfl (k := 0) rfl (j := 0) rfl).1; have m0_1 : W.cell? ⟨gm, 1, none⟩ = some (.int .i64 1) := (own_cell hmo rfl (k := 0) rfl (j := 1) rfl).1; have m1_0 : W.cell? ⟨gm, 20, none⟩ = some (.int .i64 0) := (own_cell hmo rfl (k := 1) rfl (j := 0) rfl).1; have m1_1 : W.cell? ⟨gm, 21, none⟩ = some (.int .i64 1) := (own_cell hmo rfl (k := 1) rfl (j := 1) rfl).1; have m0_19 : W.cell? ⟨gm, 19, none⟩ = some (.bool true) := (own_cell hmo rfl (k := 0) rfl (j := 19) rfl).1; have m1_19 : W.cell? ⟨gm, 39, none⟩ = some (.bool false) := (own_cell hmo rfl (k := 1) rfl (j := 19) rfl).1; (go_simp; try with_reducible rfl))); simp only [Act.put, List.setIfInBounds_toArray, List.set_cons_succ, List.set_cons_zero]
  (refine wpHeld_want ?_ (by kernel_rfl) ?_ ?_; rotate_left; · (intro W hW; (go_simp; try with_reducible rfl))); simp only [Act.put, List.setIfInBounds_toArray, List.set_cons_succ, List.set_cons_zero]
  (refine wpHeld_step ?_ rfl ?_ ?_; rotate_left; · (intro W hW; (go_simp; try with_reducible rfl))); simp only [Act.put, List.setIfInBounds_toArray, List.set_cons_succ, List.set_cons_zero]
  (refine wpHeld_step ?_ rfl ?_ ?_; rotate_left; · (intro W hW; (go_simp; try with_reducible rfl))); simp only [Act.put, List.setIfInBounds_toArray, List.set_cons_succ, List.set_cons_zero]
  (refine wpHeld_want ?_ (by kernel_rfl) ?_ ?_; rotate_left; · (intro W hW; (go_simp; try with_reducible rfl))); simp only [Act.put, List.setIfInBounds_toArray, List.set_cons_succ, List.set_cons_zero]
  (refine wpHeld_want ?_ (by kernel_rfl) ?_ ?_; rotate_left; · (intro W hW; (go_simp; try with_reducible rfl))); simp only [Act.put, List.setIfInBounds_toArray, List.set_cons_succ, List.set_cons_zero]
  (refine wpHeld_step ?_ rfl ?_ ?_; rotate_left; · (intro W hW; (go_simp; try with_reducible rfl))); simp only [Act.put, List.setIfInBounds_toArray, List.set_cons_succ, List.set_cons_zero]
  (refine wpHeld_step ?_ rfl ?_ ?_; rotate_left; · (intro W hW; (go_simp; try with_reducible rfl))); simp only [Act.put, List.setIfInBounds_toArray, List.set_cons_succ, List.set_cons_zero]
  (refine wpHeld_want ?_ (by kernel_rfl) ?_ ?_; rotate_left; · (intro W hW; (go_simp; try with_reducible rfl))); simp only [Act.put, List.setIfInBounds_toArray, List.set_cons_succ, List.set_cons_zero]
  (refine wpHeld_want ?_ (by kernel_rfl) ?_ ?_; rotate_left; · (intro W hW; (go_simp; try with_reducible rfl))); simp only [Act.put, List.setIfInBounds_toArray, List.set_cons_succ, List.set_cons_zero]
  (refine wpHeld_step ?_ rfl ?_ ?_; rotate_left; · (intro W hW; (go_simp; try with_reducible rfl))); simp only [Act.put, List.setIfInBounds_toArray, List.set_cons_succ, List.set_cons_zero]
  (refine wpHeld_step ?_ rfl ?_ ?_; rotate_left; · (intro W hW; (go_simp; try with_reducible rfl))); simp only [Act.put, List.setIfInBounds_toArray, List.set_cons_succ, List.set_cons_zero]
  (refine wpHeld_want ?_ (by kernel_rfl) ?_ ?_; rotate_left; · (intro W hW; (go_simp; try with_reducible rfl))); simp only [Act.put, List.setIfInBounds_toArray, List.set_cons_succ, List.set_cons_zero]
  (refine wpHeld_want ?_ (by kernel_rfl) ?_ ?_; rotate_left; · (intro W hW; (go_simp; try with_reducible rfl))); simp only [Act.put, List.setIfInBounds_toArray, List.set_cons_succ, List.set_cons_zero]
  (refine wpHeld_step ?_ rfl ?_ ?_; rotate_left; · (intro W hW; (go_simp; try with_reducible rfl))); simp only [Act.put, List.setIfInBounds_toArray, List.set_cons_succ, List.set_cons_zero]
  (refine wpHeld_step ?_ rfl ?_ ?_; rotate_left; · (intro W hW; (go_simp; try with_reducible rfl))); simp only [Act.put, List.setIfInBounds_toArray, List.set_cons_succ, List.set_cons_zero]
  (refine wpHeld_want ?_ (by kernel_rfl) ?_ ?_; rotate_left; · (intro W hW; (go_simp; try with_reducible rfl))); simp only [Act.put, List.setIfInBounds_toArray, List.set_cons_succ, List.set_cons_zero]
  refine wpHeld_nil ?_
  go_wp2_with (go_at_call 21; refine (HS10.out _ _ _ H19.out.drew).mono ?_; rintro e wz ⟨rfl, bz⟩)
  have HZ := Lib.hid (H19.out.drew.same bz)
  have KAZ := Lib.hid (KA19.out.drew.below bz KA19.out.lt)
  have KBZ := Lib.hid (KB19.out.drew.below bz KB19.out.lt)
  have LOZ := Lib.hid ((own_drew0 LO19.out).below bz)
  have MOZ := Lib.hid ((own_drew0 MO19.out).below bz)
  clear bz
  go_wp2_with fail
  refine ⟨⟨HZ.out, KAZ.out, KBZ.out, LOZ.out, MOZ.out⟩, ?_⟩
  refine at_hold (fun W => Live w W y V18 2 x10 ∧ Blk W gA 33 #[.int .i64 0, .int .i64 1] ∧ Blk W gB 33 #[.int .i64 1, .int .i64 1] ∧ OwnCls W 0 (.slice (some ⟨gl, 0, none⟩) 2 cgl) [cA, cB] ∧ OwnCls W 0 (.slice (some ⟨gm, 0, none⟩) 2 cgm) [goneC cA, cB]) [35, 36, 37, 38, 39, 40, 41, 42, 43, 44, 45, 46, 47, 48, 49, 50, 51, 52, 53] [] [[36, 37, 38, 39, 40, 41, 42, 43, 44, 45, 46, 47, 48, 49, 50, 51, 52, 53], [37, 38, 39, 40, 41, 42, 43, 44, 45, 46, 47, 48, 49, 50, 51, 52, 53], [38, 39, 40, 41, 42, 43, 44, 45, 46, 47, 48, 49, 50, 51, 52, 53], [39, 40, 41, 42, 43, 44, 45, 46, 47, 48, 49, 50, 51, 52, 53], [40, 41, 42, 43, 44, 45, 46, 47, 48, 49, 50, 51, 52, 53], [41, 42, 43, 44, 45, 46, 47, 48, 49, 50, 51, 52, 53], [42, 43, 44, 45, 46, 47, 48, 49, 50, 51, 52, 53], [43, 44, 45, 46, 47, 48, 49, 50, 51, 52, 53], [44, 45, 46, 47, 48, 49, 50, 51, 52, 53], [45, 46, 47, 48, 49, 50, 51, 52, 53], [46, 47, 48, 49, 50, 51, 52, 53], [47, 48, 49, 50, 51, 52, 53], [48, 49, 50, 51, 52, 53], [49, 50, 51, 52, 53], [50, 51, 52, 53], [51, 52, 53], [52, 53], [53], []] #[true, true, true, true, true, true, true, true, true, true, true, true, true, true, true, true, true, true, true, true, true, true, true, true, true, true, true, true, true, true, true, true, true, true, true, true, true, true, true, true, true, true, true, true, true, true, true, true, true, true, true, true, true, true] #[true, true, true, true, true, true, true, true, true, true, true, true, true, true, true, true, true, true, true, true, true, true, true, true, true, true, true, true, true, true, true, true, true, true, true, true, true, true, true, true, true, true, true, true, true, true, true, true, true, true, true, true, true, true] 0 rfl (by kernel_rfl) (by kernel_rfl) (by kernel_rfl) rfl (by kernel_rfl) ⟨HZ.out, KAZ.out, KBZ.out, LOZ.out, MOZ.out⟩ ?_
  simp only [pick, List.drop_succ_cons, List.drop_zero, List.head?_cons, Option.toList_some, List.cons_append, List.nil_append, List.append_nil]
  (refine wpHeld_step ?_ rfl ?_ ?_; rotate_left; · (intro W hW; (go_simp; try with_reducible rfl))); simp only [Act.put, List.setIfInBounds_toArray, List.set_cons_succ, List.set_cons_zero]
  (refine wpHeld_step ?_ rfl ?_ ?_; rotate_left; · (intro W hW; (go_simp; try with_reducible rfl))); simp only [Act.put, List.setIfInBounds_toArray, List.set_cons_succ, List.set_cons_zero]
  (refine wpHeld_want ?_ (by kernel_rfl) ?_ ?_; rotate_left; · (intro W hW; (go_simp; try with_reducible rfl))); simp only [Act.put, List.setIfInBounds_toArray, List.set_cons_succ, List.set_cons_zero]
  (refine wpHeld_want ?_ (by kernel_rfl) ?_ ?_; rotate_left; · (intro W hW; (go_simp; try with_reducible rfl))); simp only [Act.put, List.setIfInBounds_toArray, List.set_cons_succ, List.set_cons_zero]
  (refine wpHeld_want ?_ (by kernel_rfl) ?_ ?_; rotate_left; · (intro W hW; (go_simp; try with_reducible rfl))); simp only [Act.put, List.setIfInBounds_toArray, List.set_cons_succ, List.set_cons_zero]
  (refine wpHeld_want ?_ (by kernel_rfl) ?_ ?_; rotate_left; · (intro W hW; obtain ⟨-, ha, hb, hlo, hmo⟩ := hW; have a0 : W.cell? ⟨gA, 0, none⟩ = some (.int .i64 0) := ha.cell 0; have a1 : W.cell? ⟨gA, 1, none⟩ = some (.int .i64 1) := ha.cell 1; have b0 : W.cell? ⟨gB, 0, none⟩ = some (.int .i64 1) := hb.cell 0; have b1 : W.cell? ⟨gB, 1, none⟩ = some (.int .i64 1) := hb.cell 1; have l0_0 : W.cell? ⟨gl, 0, none⟩ = some (.int .i64 1) := (own_cell hlo rfl (k := 0) rfl (j := 0) rfl).1; have l0_1 : W.cell? ⟨gl, 1, none⟩ = some (.int .i64 1) := (own_cell hlo rfl (k := 0) rfl (j := 1) rfl).1; have l1_0 : W.cell? ⟨gl, 20, none⟩ = some (.int .i64 0) := (own_cell hlo rfl (k := 1) rfl (j := 0) rfl).1; have l1_1 : W.cell? ⟨gl, 21, none⟩ = some (.int .i64 1) := (own_cell hlo rfl (k := 1) rfl (j := 1) rfl).1; have l0_19 : W.cell? ⟨gl, 19, none⟩ = some (.bool false) := (own_cell hlo rfl (k := 0) rfl (j := 19) rfl).1; have l1_19 : W.cell? ⟨gl, 39, none⟩ = some (.bool false) := (own_cell hlo rfl (k := 1) rfl (j := 19) rfl).1; have m0_0 : W.cell? ⟨gm, 0, none⟩ = some (.int .i64 1) := (own_cell hmo rfl (k := 0) rfl (j := 0) rfl).1; have m0_1 : W.cell? ⟨gm, 1, none⟩ = some (.int .i64 1) := (own_cell hmo rfl (k := 0) rfl (j := 1) rfl).1; have m1_0 : W.cell? ⟨gm, 20, none⟩ = some (.int .i64 0) := (own_cell hmo rfl (k := 1) rfl (j := 0) rfl).1; have m1_1 : W.cell? ⟨gm, 21, none⟩ = some (.int .i64 1) := (own_cell hmo rfl (k := 1) rfl (j := 1) rfl).1; have m0_19 : W.cell? ⟨gm, 19, none⟩ = some (.bool true) := (own_cell hmo rfl (k := 0) rfl (j := 19) rfl).1; have m1_19 : W.cell? ⟨gm, 39, none⟩ = some (.bool false) := (own_cell hmo rfl (k := 1) rfl (j := 19) rfl).1; (go_simp; try with_reducible rfl))); simp only [Act.put, List.setIfInBounds_toArray, List.set_cons_succ, List.set_cons_zero]
  (refine wpHeld_step ?_ rfl ?_ ?_; rotate_left; · (intro W hW; (go_simp; try with_reducible rfl))); simp only [Act.put, List.setIfInBounds_toArray, List.set_cons_succ, List.set_cons_zero]
  (refine wpHeld_step ?_ rfl ?_ ?_; rotate_left; · (intro W hW; (go_simp; try with_reducible rfl))); simp only [Act.put, List.setIfInBounds_toArray, List.set_cons_succ, List.set_cons_zero]
  (refine wpHeld_want ?_ (by kernel_rfl) ?_ ?_; rotate_left; · (intro W hW; (go_simp; try with_reducible rfl))); simp only [Act.put, List.setIfInBounds_toArray, List.set_cons_succ, List.set_cons_zero]
  (refine wpHeld_want ?_ (by kernel_rfl) ?_ ?_; rotate_left; · (intro W hW; (go_simp; try with_reducible rfl))); simp only [Act.put, List.setIfInBounds_toArray, List.set_cons_succ, List.set_cons_zero]
  (refine wpHeld_want ?_ (by kernel_rfl) ?_ ?_; rotate_left; · (intro W hW; (go_simp; try with_reducible rfl))); simp only [Act.put, List.setIfInBounds_toArray, List.set_cons_succ, List.set_cons_zero]
  (refine wpHeld_want ?_ (by kernel_rfl) ?_ ?_; rotate_left; · (intro W hW; obtain ⟨-, ha, hb, hlo, hmo⟩ := hW; have a0 : W.cell? ⟨gA, 0, none⟩ = some (.int .i64 0) := ha.cell 0; have a1 : W.cell? ⟨gA, 1, none⟩ = some (.int .i64 1) := ha.cell 1; have b0 : W.cell? ⟨gB, 0, none⟩ = some (.int .i64 1) := hb.cell 0; have b1 : W.cell? ⟨gB, 1, none⟩ = some (.int .i64 1) := hb.cell 1; have l0_0 : W.cell? ⟨gl, 0, none⟩ = some (.int .i64 1) := (own_cell hlo rfl (k := 0) rfl (j := 0) rfl).1; have l0_1 : W.cell? ⟨gl, 1, none⟩ = some (.int .i64 1) := (own_cell hlo rfl (k := 0) rfl (j := 1) rfl).1; have l1_0 : W.cell? ⟨gl, 20, none⟩ = some (.int .i64 0) := (own_cell hlo rfl (k := 1) rfl (j := 0) rfl).1; have l1_1 : W.cell? ⟨gl, 21, none⟩ = some (.int .i64 1) := (own_cell hlo rfl (k := 1) rfl (j := 1) rfl).1; have l0_19 : W.cell? ⟨gl, 19, none⟩ = some (.bool false) := (own_cell hlo rfl (k := 0) rfl (j := 19) rfl).1; have l1_19 : W.cell? ⟨gl, 39, none⟩ = some (.bool false) := (own_cell hlo rfl (k := 1) rfl (j := 19) rfl).1; have m0_0 : W.cell? ⟨gm, 0, none⟩ = some (.int .i64 1) := (own_cell hmo rfl (k := 0) rfl (j := 0) rfl).1; have m0_1 : W.cell? ⟨gm, 1, none⟩ = some (.int .i64 1) := (own_cell hmo rfl (k := 0) rfl (j := 1) rfl).1; have m1_0 : W.cell? ⟨gm, 20, none⟩ = some (.int .i64 0) := (own_cell hmo rfl (k := 1) rfl (j := 0) rfl).1; have m1_1 : W.cell? ⟨gm, 21, none⟩ = some (.int .i64 1) := (own_cell hmo rfl (k := 1) rfl (j := 1) rfl).1; have m0_19 : W.cell? ⟨gm, 19, none⟩ = some (.bool true) := (own_cell hmo rfl (k := 0) rfl (j := 19) rfl).1; have m1_19 : W.cell? ⟨gm, 39, none⟩ = some (.bool false) := (own_cell hmo rfl (k := 1) rfl (j := 19) rfl).1; (go_simp; try with_reducible rfl))); simp only [Act.put, List.setIfInBounds_toArray, List.set_cons_succ, List.set_cons_zero]
  (refine wpHeld_want ?_ (by kernel_rfl) ?_ ?_; rotate_left; · (intro W hW; (go_simp; try with_reducible rfl))); simp only [Act.put, List.setIfInBounds_toArray, List.set_cons_succ, List.set_cons_zero]
  (refine wpHeld_step ?_ rfl ?_ ?_; rotate_left; · (intro W hW; (go_simp; try with_reducible rfl))); simp only [Act.put, List.setIfInBounds_toArray, List.set_cons_succ, List.set_cons_zero]
  (refine wpHeld_step ?_ rfl ?_ ?_; rotate_left; · (intro W hW; (go_simp; try with_reducible rfl))); simp only [Act.put, List.setIfInBounds_toArray, List.set_cons_succ, List.set_cons_zero]
  (refine wpHeld_want ?_ (by kernel_rfl) ?_ ?_; rotate_left; · (intro W hW; (go_simp; try with_reducible rfl))); simp only [Act.put, List.setIfInBounds_toArray, List.set_cons_succ, List.set_cons_zero]
  (refine wpHeld_want ?_ (by kernel_rfl) ?_ ?_; rotate_left; · (intro W hW; (go_simp; try with_reducible rfl))); simp only [Act.put, List.setIfInBounds_toArray, List.set_cons_succ, List.set_cons_zero]
  (refine wpHeld_step ?_ rfl ?_ ?_; rotate_left; · (intro W hW; (go_simp; try with_reducible rfl))); simp only [Act.put, List.setIfInBounds_toArray, List.set_cons_succ, List.set_cons_zero]
  (refine wpHeld_step ?_ rfl ?_ ?_; rotate_left; · (intro W hW; (go_simp; try with_reducible rfl))); simp only [Act.put, List.setIfInBounds_toArray, List.set_cons_zero]
  refine wpHeld_nil ?_
  simp only [wpEarly]
  refine at_end (by kernel_rfl) ?_
  go_wp2_with fail
  go_ret
  exact ⟨rfl, HZ.out.bel⟩

end Go.Proofs.Ytaicbllfkehhjaa

/- Two chambers of a law's own; the operations as the laws read them; many operations, in plain words. -/
namespace Go.Proofs.Ytaicbllfkehhjaa
open Go.RowKit

/-- A slice of operations, as the laws know it. -/
def OpsIn (w : World) (B : Nat) (A : Option Addr) (l : List OpC) : Prop := OpsAt w B A l ∧ (∀ o ∈ l, OpOk o) ∧ l.length ≤ 9223372036854775807
section
open Go.ChangeShapes Go.WideShapes Go.Deep
variable {H : Type} {enc : TypeId × Value → H} {w : World} {base : Nat} {spare : Nat → Bool} {held : Bool}
theorem ops_in {len cap : Nat} {A : Option Addr} {d : DataW H} {p : List MemPlace} (h : DataW.Trod enc Try.prog w base spare held 22 (.slice A len cap) d p) : ∃ l : List OpC, l.length = len ∧ OpsIn w w.heap.size A l := by
  obtain ⟨l, h1, h2, h3, h4⟩ := ops_at h
  exact ⟨l, h1, h2, h3, by rw [h1]; exact h4⟩
end
theorem Fo.lt' {w : World} {y : Lay} {V : Nat → Nat → Value} {n : Nat} {C : Ch} (h : ChAt w y V n C) {g : Nat} (hg : Fo y V n g) : g < w.heap.size := h.lt hg
/-- Two chambers apart. -/
structure Two (w0 w : World) (y1 : Lay) (V1 : Nat → Nat → Value) (y2 : Lay) (V2 : Nat → Nat → Value) (n : Nat) (A B : Ch) : Prop where
  a : Live w0 w y1 V1 n A
  b : Live w0 w y2 V2 n B
  dj : ∀ g, Fo y1 V1 n g → ¬ Fo y2 V2 n g
section
variable {w0 w w' : World} {y1 y2 : Lay} {V1 V2 V1' : Nat → Nat → Value} {n : Nat} {A B A' : Ch}
theorem Two.symm (h : Two w0 w y1 V1 y2 V2 n A B) : Two w0 w y2 V2 y1 V1 n B A := ⟨h.b, h.a, fun g h1 h2 => h.dj g h2 h1⟩
theorem Two.left (h : Two w0 w y1 V1 y2 V2 n A B) (k : Live w0 w' y1 V1' n A') (t : Turn w w' y1 V1 V1' n) : Two w0 w' y1 V1' y2 V2 n A' B where
  a := k
  b := ⟨h.b.at_.only t.1 h.dj fun g hg => h.a.at_.wr g hg, h.b.fo, k.bel⟩
  dj := fun g h1 h2 => by
    rcases t.2 g h1 with e | e
    · exact h.dj g e h2
    · have := h.b.at_.lt h2
      omega
theorem Two.same (h : Two w0 w y1 V1 y2 V2 n A B) (k : Below w.heap.size w w') : Two w0 w' y1 V1 y2 V2 n A B := ⟨h.a.same k, h.b.same k, h.dj⟩
end
/-- An operation carried out about seats that there are. -/
def stepS (n : Nat) (C : Ch) (o : OpC) : Ch := (doI n C (withinS o n)).1
def stepP (n : Nat) (C : Ch) (o : OpC) : Ch := if o.kind = 0 ∨ o.kind = 1 then stepS n C o else C
def stepD (n : Nat) (C : Ch) (o : OpC) : Ch := if o.kind = 2 ∨ o.kind = 3 then stepS n C o else C
theorem fold_take {α β : Type} (f : β → α → β) (b : β) {l : List α} {k : Nat} {x : α} (h : l[k]? = some x) : (l.take (k + 1)).foldl f b = f ((l.take k).foldl f b) x := by
  rw [List.take_add_one, h]
  simp [List.foldl_append]
theorem Ok.stepS {n j : Nat} {C : Ch} (h : Ok n j C) (hj : j < 64) (o : OpC) : Ok n (j + 1) (stepS n C o) := h.doI hj _
theorem Ok.stepP {n j : Nat} {C : Ch} (h : Ok n j C) (hj : j < 64) (o : OpC) : Ok n (j + 1) (stepP n C o) := by
  unfold Go.Proofs.Ytaicbllfkehhjaa.stepP
  split
  · exact h.stepS hj o
  · exact h.mono (Nat.le_succ j)
theorem within_ok {o : OpC} (h : OpOk o) (n : Nat) : OpOk (withinS o n) := h
theorem within_seat (o : OpC) {n : Nat} (hn : 0 < n) : ∃ i k : Nat, i < n ∧ k < n ∧ (withinS o n).seat = (i : Int) ∧ (withinS o n).to_ = (k : Int) := by
  obtain ⟨h1, h2⟩ := modS_in o.seat hn
  obtain ⟨h3, h4⟩ := modS_in o.to_ hn
  exact ⟨(modS o.seat n).toNat, (modS o.to_ n).toNat, by omega, by omega, (Int.toNat_of_nonneg h1).symm, (Int.toNat_of_nonneg h3).symm⟩
theorem Gd.stepD {Z : List Cl} {n K : Nat} {C : Ch} (hn : 0 < n) (h : Gd Z n C) (k : LB K C) (o : OpC) : Gd Z n (stepD n C o) ∧ LB (K + 1) (stepD n C o) := by
  unfold Go.Proofs.Ytaicbllfkehhjaa.stepD Go.Proofs.Ytaicbllfkehhjaa.stepS
  have k1 := k.mono (Nat.le_succ K)
  split
  · rename_i hk
    obtain ⟨i, j, hi, hj, e1, e2⟩ := within_seat o hn
    unfold Go.Proofs.Ytaicbllfkehhjaa.doI
    have ek : (withinS o n).kind = o.kind := rfl
    rw [ek, e1, e2]
    rcases hk with hk | hk
    · rw [hk, if_neg (by decide), if_neg (by decide), if_pos rfl, deliverI_nat hi hj]
      exact ⟨h.deliver hi hj _, k1.deliver _⟩
    · rw [hk, if_neg (by decide), if_neg (by decide), if_neg (by decide), if_pos rfl, againI_nat hi hj]
      exact ⟨h.again hi, k.again⟩
  · exact ⟨h, k1⟩
theorem foldP_ok {n : Nat} : ∀ (l : List OpC) (C : Ch) (j : Nat), Ok n j C → j + l.length ≤ 64 → Ok n (j + l.length) (l.foldl (stepP n) C)
  | [], _, _, h, _ => h
  | o :: l, C, j, h, hj => by
    rw [List.length_cons] at hj ⊢
    exact (foldP_ok l _ (j + 1) (h.stepP (by omega) o) (by omega)).mono (by omega)
theorem foldS_ok {n : Nat} : ∀ (l : List OpC) (C : Ch) (j : Nat), Ok n j C → j + l.length ≤ 64 → Ok n (j + l.length) (l.foldl (stepS n) C)
  | [], _, _, h, _ => h
  | o :: l, C, j, h, hj => by
    rw [List.length_cons] at hj ⊢
    exact (foldS_ok l _ (j + 1) (h.stepS (by omega) o) (by omega)).mono (by omega)
theorem foldD_ok {Z : List Cl} {n : Nat} (hn : 0 < n) : ∀ (l : List OpC) (C : Ch) (K : Nat), Gd Z n C → LB K C → Gd Z n (l.foldl (stepD n) C) ∧ LB (K + l.length) (l.foldl (stepD n) C)
  | [], _, _, h, k => ⟨h, k⟩
  | o :: l, C, K, h, k => by
    obtain ⟨h1, h2⟩ := h.stepD hn k o
    obtain ⟨h3, h4⟩ := foldD_ok hn l _ (K + 1) h1 h2
    exact ⟨h3, h4.mono (by rw [List.length_cons]; omega)⟩
theorem take_len {α : Type} (l : List α) (k : Nat) : (l.take k).length ≤ l.length := by
  rw [List.length_take]
  omega
theorem num_nat (raw : Int) : ∃ n : Nat, numS raw = (n : Int) ∧ 1 ≤ n ∧ n ≤ 5 := by
  obtain ⟨h1, h2⟩ := numS_in raw
  exact ⟨(numS raw).toNat, (Int.toNat_of_nonneg (by omega)).symm, by omega, by omega⟩
theorem op_kind {w : World} {B : Nat} {A : Option Addr} {l : List OpC} (h : OpsAt w B A l) {k : Nat} {o : OpC} (hk : l[k]? = some o) : ∃ g off, A = some ⟨g, off, none⟩ ∧ w.cell? ⟨g, off + k * 22, none⟩ = some (.int .i64 o.kind) := by
  obtain ⟨g, off, h1, _, h3⟩ := h k o hk
  exact ⟨g, off, h1, h3 0 _ rfl⟩
theorem view_zero {n : Nat} (hn : 0 < n) (C : Ch) : viewS n C 0 = walkS (C.pg 0) := by
  unfold viewS
  rw [if_pos (by omega)]
  rfl
theorem finish_settled {Z : List Cl} {n K : Nat} {C : Ch} (hn : 0 < n) (h : Gd Z n C) (k : LB K C) (hK : K ≤ 198) : settledS (finishS n C) = true ∧ walkS ((finishS n C).pg 0) = walkS Z := by
  obtain ⟨h1, h2, _⟩ := finish_spec h.few h.inv k hK
  have key : ∀ i, i < n → walkS ((finishS n C).pg i) = walkS Z := fun i hi => finish_walk h1 (h2 i hi)
  exact ⟨(settled_iff h1.len).2 fun i hi => (key i hi).trans (key 0 hn).symm, key 0 hn⟩
theorem finish_ok {Z : List Cl} {n K : Nat} {C : Ch} (hn5 : n ≤ 5) (h : Gd Z n C) (k : LB K C) : Gd Z n (finishS n C) ∧ LB (K + 50) (finishS n C) := rnd_gd hn5 2 C K h k
end Go.Proofs.Ytaicbllfkehhjaa

/- What one operation does to what the law knows, in plain words. -/
namespace Go.Proofs.Ytaicbllfkehhjaa
open Go.RowKit

theorem setC_ids {L : List Cl} {x c : Cl} (h : c ∈ L) : ∃ d ∈ setC L x, d.id = c.id := ⟨repC x c, List.mem_map_of_mem h, repC_id x c⟩
theorem proposeI_nat {n i : Nat} (hi : i < n) (C : Ch) (t : St2) (p : Pt) : proposeI n C (i : Int) t p = proposeS C i t p := by
  unfold proposeI
  rw [if_pos (by omega), Int.toNat_natCast]
theorem withdrawI_nat {n i : Nat} (hi : i < n) (C : Ch) (t : St2) : withdrawI n C (i : Int) t = withdrawS C i t := by
  unfold withdrawI
  rw [if_pos (by omega), Int.toNat_natCast]
theorem viewS_nat {n i : Nat} (hi : i < n) (C : Ch) : viewS n C (i : Int) = walkS (C.pg i) := by
  unfold viewS
  rw [if_pos (by omega), Int.toNat_natCast]
/-- An operation that is no proposal, or one that was refused: the clauses are the same, but some may be withdrawn. -/
theorem step_other {Z : List Cl} {n : Nat} {C : Ch} {o : OpC} {i k : Nat} (h : Gd Z n C) (hi : i < n) (hk : k < n) (e1 : o.seat = (i : Int)) (e2 : o.to_ = (k : Int)) (hz : Z.length < 64) (hno : ¬ (o.kind = 0 ∧ (doI n C o).2.2.1 = 0)) :
    ∃ Z', Gd Z' n (doI n C o).1 ∧ Z'.length = Z.length ∧ (∀ c ∈ Z, ∃ d ∈ Z', d.id = c.id) ∧ (¬ (o.kind = 1 ∧ (doI n C o).2.2.1 = 0) → Z' = Z) ∧ (o.kind = 1 ∧ (doI n C o).2.2.1 = 0 → ∃ c, getC Z (stampS o (viewS n C o.seat)) = some c ∧ Z' = setC Z (goneC c)) := by
  unfold doI at hno ⊢
  rw [e1, e2] at hno ⊢
  obtain ⟨S, hS⟩ : ∃ S, stampS o (viewS n C (i : Int)) = S := ⟨_, rfl⟩
  rw [hS] at hno ⊢
  have same : ∀ {D : Ch} {x : Int}, Gd Z n D → ¬ (o.kind = 1 ∧ x = 0) → ∃ Z', Gd Z' n D ∧ Z'.length = Z.length ∧ (∀ c ∈ Z, ∃ d ∈ Z', d.id = c.id) ∧ (¬ (o.kind = 1 ∧ x = 0) → Z' = Z) ∧ (o.kind = 1 ∧ x = 0 → ∃ c, getC Z S = some c ∧ Z' = setC Z (goneC c)) :=
    fun hD hx => ⟨Z, hD, rfl, fun c hc => ⟨c, hc, rfl⟩, fun _ => rfl, fun e => absurd e hx⟩
  by_cases h0 : o.kind = 0
  · rw [if_pos h0] at hno ⊢
    rw [proposeI_nat hi] at hno ⊢
    have hne : (proposeS C i S o.pt).2.2 ≠ 0 := fun e => hno ⟨h0, e⟩
    have := (h.propose hi hz S o.pt).1 hne
    rw [this]
    exact same h fun e => by omega
  · rw [if_neg h0]
    by_cases h1 : o.kind = 1
    · rw [if_pos h1, withdrawI_nat hi]
      obtain ⟨a, b⟩ := h.withdraw hi S
      by_cases e : (withdrawS C i S).2 = 0
      · obtain ⟨_, c, h2, h3⟩ := b e
        exact ⟨_, h3, by unfold setC; rw [List.length_map], fun c hc => setC_ids hc, fun hn => absurd ⟨h1, e⟩ hn, fun _ => ⟨c, h2, rfl⟩⟩
      · rw [a e]
        exact same h fun x => e x.2
    · rw [if_neg h1]
      by_cases h2 : o.kind = 2
      · rw [if_pos h2, deliverI_nat hi hk]
        exact same (h.deliver hi hk _) fun e => h1 e.1
      · rw [if_neg h2]
        by_cases h3 : o.kind = 3
        · rw [if_pos h3, againI_nat hi hk]
          exact same (h.again hi) fun e => h1 e.1
        · rw [if_neg h3]
          exact same h fun e => h1 e.1
/-- A proposal that was taken. -/
theorem step_new {Z : List Cl} {n : Nat} {C : Ch} {o : OpC} {i : Nat} (h : Gd Z n C) (hi : i < n) (e1 : o.seat = (i : Int)) (hz : Z.length < 64) (h0 : o.kind = 0) (hc : (doI n C o).2.2.1 = 0) :
    (doI n C o).2.1 = (newC i (C.pg i) (stampS o (viewS n C o.seat)) o.pt).id ∧ Gd (Z ++ [newC i (C.pg i) (stampS o (viewS n C o.seat)) o.pt]) n (doI n C o).1 ∧
      getC ((doI n C o).1.pg i) (newC i (C.pg i) (stampS o (viewS n C o.seat)) o.pt).id = some (newC i (C.pg i) (stampS o (viewS n C o.seat)) o.pt) ∧ getC Z (newC i (C.pg i) (stampS o (viewS n C o.seat)) o.pt).id = none := by
  unfold doI at hc ⊢
  rw [e1] at hc ⊢
  obtain ⟨S, hS⟩ : ∃ S, stampS o (viewS n C (i : Int)) = S := ⟨_, rfl⟩
  rw [hS] at hc ⊢
  rw [if_pos h0, proposeI_nat hi] at hc
  rw [if_pos h0, proposeI_nat hi]
  obtain ⟨a, b, c⟩ := (h.propose hi hz S o.pt).2 hc
  exact ⟨a, b, c, (newC_fresh h.inv hi S o.pt).2⟩
theorem LB.doI {n K : Nat} {C : Ch} (h : LB K C) (o : OpC) : LB (K + 1) (doI n C o).1 := by
  have h1 := h.mono (Nat.le_succ K)
  unfold Go.Proofs.Ytaicbllfkehhjaa.doI Go.Proofs.Ytaicbllfkehhjaa.proposeI Go.Proofs.Ytaicbllfkehhjaa.withdrawI Go.Proofs.Ytaicbllfkehhjaa.deliverI Go.Proofs.Ytaicbllfkehhjaa.againI
  split
  · split
    · exact h.propose _ _ _
    · exact h1
  · split
    · split
      · exact h.withdraw _ _
      · exact h1
    · split
      · split
        · exact h1.deliver _
        · exact h1
      · split
        · split
          · exact h.again
          · exact h1
        · exact h1
theorem doI_other {n : Nat} {C : Ch} {o : OpC} {i : Nat} (hi : i < n) (e1 : o.seat = (i : Int)) (h1 : o.kind = 1) (hs : (stampS o (viewS n C o.seat)).1 ≠ (i : Int)) : (doI n C o).2.2.1 = 12 := by
  unfold doI
  rw [if_neg (by omega), if_pos h1, e1, withdrawI_nat hi]
  rw [e1] at hs
  unfold withdrawS
  rw [if_pos hs]
end Go.Proofs.Ytaicbllfkehhjaa
