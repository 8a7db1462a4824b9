/- The chapter's examples; head of the laws of layer 30. -/
import Derived.Test.YtogjcejiojmmbaaTq
namespace Go.Proofs.Ytogjcejiojmmbaa
open Go.RowKit Go.Shelf

theorem nextU_free {p : Int → Bool} {x : Int} (h : p (x + 1) = false) : nextU p x = x + 1 := by
  unfold nextU
  cases (1000001 - x).toNat with
  | zero => rfl
  | succ k => show (if p (x + 1) = true then nxU p k (x + 1) else x + 1) = x + 1; rw [if_neg (by rw [h]; simp)]
theorem nextU_busy {p : Int → Bool} {x : Int} (hx : x ≤ 1000000) (h : p (x + 1) = true) : nextU p x = nextU p (x + 1) := by
  unfold nextU
  rw [show (1000001 - x).toNat = (1000001 - (x + 1)).toNat + 1 by omega]
  show (if p (x + 1) = true then nxU p _ (x + 1) else x + 1) = _
  rw [if_pos h]
theorem openS_here {p : Int → Bool} {l : List Int} {x : Int} (hx : x ≤ 1000000) (h1 : p x = false) (h2 : opB l x = true) : openS p l x = (x, 0) := by
  rw [openS_in hx, h1, h2]; rfl
theorem openS_skip {p : Int → Bool} {l : List Int} {x : Int} (hx : x ≤ 1000000) (h : p x = true ∨ opB l x = false) : openS p l x = openS p l (x + 1) := by
  rw [openS_in hx]
  rcases h with h | h
  · rw [h]; rfl
  · rw [h, Bool.and_false]; rfl
theorem addS_days {l : List Int} {d n : Int} (hd : isB d = true) (hn : 0 ≤ n) (hn1 : n ≤ 1000000) (hl : l.length ≤ 1000) (hb : isB (d + n) = true) (ho : opB l (d + n) = true) : addS l d n 1 = (d + n, 0) := by
  unfold addS
  rw [if_neg (by rw [hd]; simp; omega), if_neg (by omega)]
  show endS l (d + n, 0) = _
  unfold endS
  rw [if_pos ⟨rfl, hb⟩, fromS_here ho, if_pos hb]

def exB : ByteArray := ⟨#[108]⟩
def lm (n f : Int) (S : List Stp2) : Lm := ⟨exB, n, 1, f, S⟩
theorem lm_pr {n f : Int} {S : List Stp2} (h : (isB f && ptB n 1 && decide (S.length ≤ 60) && S.all psB) = true) : prB (lm n f S) = true := by
  have : nmB exB.data.toList = true := by decide
  show (nmB exB.data.toList && isB f && ptB n 1 && decide (S.length ≤ 60) && S.all psB) = true
  rw [this, Bool.true_and]
  exact h
theorem due_lm {n f e : Int} {S : List Stp2} (h : (isB f && ptB n 1 && decide (S.length ≤ 60) && S.all psB) = true) (ha : addS [] f n 1 = (e, 0)) : dueS (lm n f S) [] = openS (pzB f S) [] (nthU (pzB f S) f (e - f).toNat) := by
  unfold dueS
  rw [lm_pr h, if_pos rfl]
  show (if (addS [] f n 1).2 = 0 then openS (pzB f S) [] (nthU (pzB f S) f ((addS [] f n 1).1 - f).toNat) else (0, (addS [] f n 1).2)) = _
  rw [ha, if_pos rfl]
theorem ad2 (n : Int) (h : (n = 1 ∨ n = 3)) : addS [] 2 n 1 = (2 + n, 0) := by
  rcases h with rfl | rfl <;> exact addS_days (by decide) (by decide) (by decide) (by decide) (by decide) (by decide)
theorem ad25 : addS [] 2 5 1 = (9, 0) := by
  unfold addS
  rw [if_neg (by decide), if_neg (by decide)]
  show endS [] (7, 0) = _
  have f7 : fromS [] 7 = 9 := by rw [fromS_on (by decide) (by decide), fromS_on (by decide) (by decide)]; exact fromS_here (by decide)
  unfold endS
  rw [if_pos (by decide), f7]
  rfl
theorem op79 (p : Int → Bool) (_h7 : p 7 = false) (_h8 : p 8 = false) (h9 : p 9 = false) : openS p [] 7 = (9, 0) := by
  rw [openS_skip (by decide) (.inr (by decide))]
  show openS p [] 8 = _
  rw [openS_skip (by decide) (.inr (by decide))]
  exact openS_here (by decide) h9 (by decide)
theorem ex1 : dueS (lm 3 2 []) [] = (5, 0) := by
  rw [due_lm (e := 5) (by decide) (ad2 3 (.inr rfl))]
  have e1 : nextU (pzB 2 []) 2 = 3 := nextU_free (by decide)
  have e2 : nextU (pzB 2 []) 3 = 4 := nextU_free (by decide)
  have e3 : nextU (pzB 2 []) 4 = 5 := nextU_free (by decide)
  have e : nthU (pzB 2 []) 2 ((5 : Int) - 2).toNat = 5 := by
    show nextU _ (nextU _ (nextU _ 2)) = 5
    rw [e1, e2, e3]
  rw [e]
  exact openS_here (by decide) (by decide) (by decide)
theorem ex2 : dueS (lm 5 2 []) [] = (9, 0) := by
  rw [due_lm (e := 9) (by decide) ad25]
  have e1 : nextU (pzB 2 []) 2 = 3 := nextU_free (by decide)
  have e2 : nextU (pzB 2 []) 3 = 4 := nextU_free (by decide)
  have e3 : nextU (pzB 2 []) 4 = 5 := nextU_free (by decide)
  have e4 : nextU (pzB 2 []) 5 = 6 := nextU_free (by decide)
  have e5 : nextU (pzB 2 []) 6 = 7 := nextU_free (by decide)
  have e6 : nextU (pzB 2 []) 7 = 8 := nextU_free (by decide)
  have e7 : nextU (pzB 2 []) 8 = 9 := nextU_free (by decide)
  have e : nthU (pzB 2 []) 2 ((9 : Int) - 2).toNat = 9 := by
    show nextU _ (nextU _ (nextU _ (nextU _ (nextU _ (nextU _ (nextU _ 2)))))) = 9
    rw [e1, e2, e3, e4, e5, e6, e7]
  rw [e]
  exact openS_here (by decide) (by decide) (by decide)
theorem ex3 : dueS (lm 3 2 [(4, 6)]) [] = (9, 0) := by
  rw [due_lm (e := 5) (by decide) (ad2 3 (.inr rfl))]
  have e1 : nextU (pzB 2 [(4, 6)]) 2 = 3 := nextU_free (by decide)
  have e2 : nextU (pzB 2 [(4, 6)]) 3 = 6 := by rw [nextU_busy (by decide) (by decide), nextU_busy (by decide) (by decide)]; exact nextU_free (by decide)
  have e3 : nextU (pzB 2 [(4, 6)]) 6 = 7 := nextU_free (by decide)
  have e : nthU (pzB 2 [(4, 6)]) 2 ((5 : Int) - 2).toNat = 7 := by
    show nextU _ (nextU _ (nextU _ 2)) = 7
    rw [e1, e2, e3]
  rw [e]
  exact op79 _ (by decide) (by decide) (by decide)
theorem ex4 : dueS (lm 1 2 [(4, 6)]) [] = (3, 0) := by
  rw [due_lm (e := 3) (by decide) (ad2 1 (.inl rfl))]
  have e1 : nextU (pzB 2 [(4, 6)]) 2 = 3 := nextU_free (by decide)
  have e : nthU (pzB 2 [(4, 6)]) 2 ((3 : Int) - 2).toNat = 3 := e1
  rw [e]
  exact openS_here (by decide) (by decide) (by decide)
theorem ex5 : dueS (lm 2 4 [(4, 6)]) [] = (9, 0) := by
  rw [due_lm (e := 6) (by decide) (addS_days (d := 4) (n := 2) (by decide) (by decide) (by decide) (by decide) (by decide) (by decide))]
  have e1 : nextU (pzB 4 [(4, 6)]) 4 = 6 := by rw [nextU_busy (by decide) (by decide)]; exact nextU_free (by decide)
  have e2 : nextU (pzB 4 [(4, 6)]) 6 = 7 := nextU_free (by decide)
  have e : nthU (pzB 4 [(4, 6)]) 4 ((6 : Int) - 4).toNat = 7 := by
    show nextU _ (nextU _ 4) = 7
    rw [e1, e2]
  rw [e]
  exact op79 _ (by decide) (by decide) (by decide)
theorem ex6 : changeS (lm 3 2 [(4, 6)]) 4 1 1 2 [] = (lm 2 4 [(4, 6)], 0) := by
  have h4 : dueS ⟨(lm 3 2 [(4, 6)]).id, 1, 1, (lm 3 2 [(4, 6)]).f, (lm 3 2 [(4, 6)]).S⟩ [] = (3, 0) := ex4
  have h5 : dueS ⟨(lm 3 2 [(4, 6)]).id, 2, 1, 4, (lm 3 2 [(4, 6)]).S⟩ [] = (9, 0) := ex5
  unfold changeS
  rw [if_neg (by rw [lm_pr (by decide)]; decide), ex3, if_neg (by decide), if_neg (by decide), h4, if_neg (by decide), if_pos (by decide), h5, if_neg (by decide)]
  rfl
theorem ex7 : leftS (lm 3 2 [(4, 6)]) 3 [] = (5, 0) := by
  unfold leftS
  rw [if_pos (by decide), ex3, if_pos rfl]
  have : cntU (pzB 2 [(4, 6)]) 2 7 = 5 := by decide
  show ((cntU (pzB 2 [(4, 6)]) 2 7 : Int), 0) = _
  rw [this]
  rfl
theorem ex8 : pauseS (lm 3 2 []) (4, 6) = (lm 3 2 [(4, 6)], 0) := by
  unfold pauseS
  rw [lm_pr (by decide), if_pos (by decide), if_neg (by decide)]
  rfl

theorem lterm_any (w : World) (n : Int) (A : Option Addr) (k c : Nat) : Calls Try.prog 26 #[.int .i64 n, .slice A k c] w fun e w' => e = .returned (.agg #[.string exB, .int .i64 n, .int .i64 1, .int .i64 2, .slice A k c]) ∧ Below w.heap.size w w' := by
  have k0 := Blk.new w 26 #[.string ⟨#[]⟩, .int .i64 0, .int .i64 0, .int .i64 0, .slice none 0 0]
  have hb := (Below.refl w.heap.size w).alloc (Nat.le_refl _) (.cells #[.string ⟨#[]⟩, .int .i64 0, .int .i64 0, .int .i64 0, .slice none 0 0] 26)
  go_enter Try.func26, Try.ntmps26
  go_wp2
  refine bodyPost_ret (v := .agg #[.string exB, .int .i64 n, .int .i64 1, .int .i64 2, .slice A k c]) ?_ rfl ⟨rfl, ?_⟩
  · exact results_cell_row (p := 4) (ty := 26) rfl _ _ w.heap.size 26 _ (0, 0) _ rfl (heap_alloc_new w _) Try.underlying26 rfl (by kernel_rfl)
  · exact (Below.refl _ _).alloc (Nat.le_refl _) _

theorem lm_at (w : World) (n f : Int) : LmAt w w.heap.size none (lm n f []) := ⟨StopsAt.nil _ _ _, by show exB.size ≤ _; decide, by simp [lm]⟩
theorem hdue (w : World) (n f : Int) (r : Int × Int) (hr : dueS (lm n f []) [] = r) : Calls Try.prog 13 #[.agg #[.string exB, .int .i64 n, .int .i64 1, .int .i64 f, .slice none 0 0], .slice none 0 0] w fun e w' => e = .returned (.tuple #[.int .i64 r.1, .int .i64 r.2]) ∧ Below w.heap.size w w' :=
  hr ▸ due_any w (lm n f []) w.heap.size none 0 (lm_at w n f) (Nat.le_refl _) none [] 0 (IntsAt.nil _ _) (by simp) (by simp)
/-- One stop, in a block. -/
theorem stop1 {w : World} {g : Nat} (h : Blk w g 28 #[.int .i64 4, .int .i64 6]) : StopsAt w w.heap.size (some ⟨g, 0, none⟩) [(4, 6)] := fun i s hi => by
  match i, hi with
  | 0, hi =>
    simp at hi
    subst hi
    exact ⟨g, 0, rfl, h.lt, by rw [h.cell]; rfl, by rw [h.cell]; rfl⟩
theorem hdue1 (w : World) (A : Option Addr) (B c : Nat) (hA : StopsAt w B A [(4, 6)]) (hB : B ≤ w.heap.size) (n f : Int) (r : Int × Int) (hr : dueS (lm n f [(4, 6)]) [] = r) : Calls Try.prog 13 #[.agg #[.string exB, .int .i64 n, .int .i64 1, .int .i64 f, .slice A 1 c], .slice none 0 0] w fun e w' => e = .returned (.tuple #[.int .i64 r.1, .int .i64 r.2]) ∧ Below w.heap.size w w' :=
  hr ▸ due_any w (lm n f [(4, 6)]) B A c ⟨hA, by show exB.size ≤ _; decide, by simp [lm]⟩ hB none [] 0 (IntsAt.nil _ _) (by simp) (by simp)

theorem hleft (w : World) (A : Option Addr) (B c : Nat) (hA : StopsAt w B A [(4, 6)]) (hB : B ≤ w.heap.size) : Calls Try.prog 15 #[.agg #[.string exB, .int .i64 3, .int .i64 1, .int .i64 2, .slice A 1 c], .int .i64 3, .slice none 0 0] w fun e w' => e = .returned (.tuple #[.int .i64 5, .int .i64 0]) ∧ Below w.heap.size w w' := by
  have h := left_any w (lm 3 2 [(4, 6)]) 3 B A c ⟨hA, by show exB.size ≤ _; decide, by simp [lm]⟩ hB none [] 0 (IntsAt.nil _ _) (by simp) (by simp)
  rw [ex7] at h
  exact h
theorem hchange (w : World) (A : Option Addr) (B c : Nat) (hA : StopsAt w B A [(4, 6)]) (hB : B ≤ w.heap.size) : Calls Try.prog 19 #[.agg #[.string exB, .int .i64 3, .int .i64 1, .int .i64 2, .slice A 1 c], .int .i64 4, .agg #[.int .i64 1, .int .i64 1], .int .i64 2, .slice none 0 0] w fun e w' =>
    ∃ A' c', e = .returned (.tuple #[.agg #[.string exB, .int .i64 2, .int .i64 1, .int .i64 4, .slice A' 1 c'], .int .i64 0]) ∧ StopsAt w' w'.heap.size A' [(4, 6)] ∧ Below w.heap.size w w' := by
  have h := change_any w (lm 3 2 [(4, 6)]) 4 1 1 2 B A c ⟨hA, by show exB.size ≤ _; decide, by simp [lm]⟩ hB none [] 0 (IntsAt.nil _ _) (by simp) (by simp)
  rw [ex6] at h
  exact h
theorem hpause (w : World) : Calls Try.prog 17 #[.agg #[.string exB, .int .i64 3, .int .i64 1, .int .i64 2, .slice none 0 0], .agg #[.int .i64 4, .int .i64 6]] w fun e w' =>
    ∃ A' c', e = .returned (.tuple #[.agg #[.string exB, .int .i64 3, .int .i64 1, .int .i64 2, .slice A' 1 c'], .int .i64 0]) ∧ StopsAt w' w'.heap.size A' [(4, 6)] ∧ Below w.heap.size w w' := by
  have h := pause_any w (lm 3 2 []) (4, 6) w.heap.size none 0 (lm_at w 3 2) (Nat.le_refl _)
  rw [ex8] at h
  exact h
theorem hsame (w : World) (B : Nat) (A A' : Option Addr) (c c' : Nat) (h : StopsAt w B A [(4, 6)]) (h' : StopsAt w B A' [(4, 6)]) (hB : B ≤ w.heap.size) : Calls Try.prog 21 #[.agg #[.string exB, .int .i64 3, .int .i64 1, .int .i64 2, .slice A 1 c], .agg #[.string exB, .int .i64 3, .int .i64 1, .int .i64 2, .slice A' 1 c']] w fun e w' => e = .returned (.bool true) ∧ Below w.heap.size w w' :=
  same_yes w (lm 3 2 [(4, 6)]) B A A' c c' ⟨h, by show exB.size ≤ _; decide, by simp [lm]⟩ ⟨h', by show exB.size ≤ _; decide, by simp [lm]⟩ hB

set_option maxRecDepth 100000 in
set_option maxHeartbeats 4000000 in
theorem head_any (w : World) : Calls Try.prog 10 #[] w fun e w' => e = .returned (.bool true) ∧ Below w.heap.size w w' := by
  go_enter Try.func10, Try.ntmps10
  go_wp2_with fail
  refine (lterm_any _ _ _ _ _).mono ?_
  rintro e w1 ⟨rfl, b⟩
  go_wp2_with fail
  refine (hdue _ 3 2 _ ex1).mono ?_
  rintro e w2 ⟨rfl, b2⟩
  replace b := Below.then b b2; clear b2
  go_wp2_with fail
  refine (lterm_any _ _ _ _ _).mono ?_
  rintro e w1 ⟨rfl, b2⟩
  replace b := Below.then b b2; clear b2
  go_wp2_with fail
  refine (hdue _ 5 2 _ ex2).mono ?_
  rintro e w2 ⟨rfl, b2⟩
  replace b := Below.then b b2; clear b2
  go_wp2_with fail
  have ks := Blk.new w2 28 #[.int .i64 4, .int .i64 6]
  have hs := (stop1 ks)
  have hsb : (w2.alloc (.cells #[.int .i64 4, .int .i64 6] 28)).heap.size ≤ (w2.alloc (.cells #[.int .i64 4, .int .i64 6] 28)).heap.size := Nat.le_refl _
  replace b := b.alloc b.size (.cells #[.int .i64 4, .int .i64 6] 28)
  generalize w2.heap.size = gs at *
  generalize w2.alloc (.cells #[.int .i64 4, .int .i64 6] 28) = w3 at *
  refine (lterm_any _ _ _ _ _).mono ?_
  rintro e w4 ⟨rfl, b2⟩
  have hs4 := hs.below b2
  have hB4 := b2.size
  replace b := Below.then b b2
  clear b2 ks hs hsb
  generalize w3.heap.size = B at *
  have HS := Lib.hid hs4
  clear hs4
  have k5 := Blk.new w4 26 #[.string exB, .int .i64 3, .int .i64 1, .int .i64 2, .slice (some ⟨gs, 0, none⟩) 1 1]
  have b5 := (Below.refl w4.heap.size w4).alloc (Nat.le_refl _) (.cells #[.string exB, .int .i64 3, .int .i64 1, .int .i64 2, .slice (some ⟨gs, 0, none⟩) 1 1] 26)
  have hs5 := HS.out.below (b5.mono hB4)
  replace b := Below.then b b5
  have hB5 := Nat.le_trans hB4 b5.size
  clear b5 HS hB4
  go_wp2_with fail
  generalize w4.heap.size = gl at *
  generalize w4.alloc (.cells #[.string exB, .int .i64 3, .int .i64 1, .int .i64 2, .slice (some ⟨gs, 0, none⟩) 1 1] 26) = w5 at *
  refine (hdue1 w5 (some ⟨gs, 0, none⟩) B 1 hs5 hB5 3 2 _ ex3).mono ?_
  rintro e w6 ⟨rfl, b2⟩
  have k6 := k5.below b2 k5.lt
  have hs6 := hs5.below (b2.mono hB5)
  have hB6 := Nat.le_trans hB5 b2.size
  replace b := Below.then b b2
  clear b2 k5 hs5 hB5
  obtain ⟨x0, x1, x2⟩ := k6.all
  go_wp2_with fail
  refine (hchange w6 (some ⟨gs, 0, none⟩) B 1 hs6 hB6).mono ?_
  rintro e w7 ⟨A7, c7, rfl, hx7, b2⟩
  have k7 := k6.below b2 k6.lt
  have hs7 := hs6.below (b2.mono hB6)
  have hB7 := Nat.le_trans hB6 b2.size
  replace b := Below.then b b2
  clear b2 k6 hs6 hB6 x0 x1 x2
  have m8 := Blk.new w7 26 #[.string exB, .int .i64 2, .int .i64 1, .int .i64 4, .slice A7 1 c7]
  have b8 := (Below.refl w7.heap.size w7).alloc (Nat.le_refl _) (.cells #[.string exB, .int .i64 2, .int .i64 1, .int .i64 4, .slice A7 1 c7] 26)
  have k8 := k7.below b8 k7.lt
  have hs8 := hs7.below (b8.mono hB7)
  have hx8 := hx7.below b8
  have hB8 := Nat.le_trans hB7 b8.size
  have hC8 := b8.size
  replace b := Below.then b b8
  clear b8 k7 hs7 hx7 hB7
  obtain ⟨x0, x1, x2⟩ := k8.all
  obtain ⟨y0, y1, y2⟩ := m8.all
  go_wp2_with fail
  generalize w7.heap.size = gm at *
  generalize w7.alloc (.cells #[.string exB, .int .i64 2, .int .i64 1, .int .i64 4, .slice A7 1 c7] 26) = w8 at *
  refine (hdue1 w8 A7 gm c7 hx8 hC8 2 4 _ ex5).mono ?_
  rintro e w9 ⟨rfl, b2⟩
  have k9 := k8.below b2 k8.lt
  have m9 := m8.below b2 m8.lt
  have hs9 := hs8.below (b2.mono hB8)
  have hB9 := Nat.le_trans hB8 b2.size
  replace b := Below.then b b2
  clear b2 k8 m8 hs8 hx8 hC8 hB8 x0 x1 x2 y0 y1 y2
  obtain ⟨x0, x1, x2⟩ := k9.all
  obtain ⟨y0, y1, y2⟩ := m9.all
  go_wp2_with fail
  refine (hleft w9 (some ⟨gs, 0, none⟩) B 1 hs9 hB9).mono ?_
  rintro e w10 ⟨rfl, b2⟩
  have k10 := k9.below b2 k9.lt
  have m10 := m9.below b2 m9.lt
  have hs10 := hs9.below (b2.mono hB9)
  have hB10 := Nat.le_trans hB9 b2.size
  replace b := Below.then b b2
  clear b2 k9 m9 hs9 hB9 x0 x1 x2 y0 y1 y2
  go_wp2_with fail
  refine (lterm_any _ _ _ _ _).mono ?_
  rintro e w11 ⟨rfl, b2⟩
  have k11 := k10.below b2 k10.lt
  have m11 := m10.below b2 m10.lt
  have hs11 := hs10.below (b2.mono hB10)
  have hB11 := Nat.le_trans hB10 b2.size
  replace b := Below.then b b2
  clear b2 k10 m10 hs10 hB10
  go_wp2_with fail
  refine (hpause w11).mono ?_
  rintro e w12 ⟨A12, c12, rfl, hx12, b2⟩
  have k12 := k11.below b2 k11.lt
  have m12 := m11.below b2 m11.lt
  have hs12 := hs11.below (b2.mono hB11)
  have hB12 := Nat.le_trans hB11 b2.size
  replace b := Below.then b b2
  clear b2 k11 m11 hs11 hB11
  have n13 := Blk.new w12 26 #[.string exB, .int .i64 3, .int .i64 1, .int .i64 2, .slice A12 1 c12]
  have b13 := (Below.refl w12.heap.size w12).alloc (Nat.le_refl _) (.cells #[.string exB, .int .i64 3, .int .i64 1, .int .i64 2, .slice A12 1 c12] 26)
  have k13 := k12.below b13 k12.lt
  have m13 := m12.below b13 m12.lt
  have hs13 := (hs12.below (b13.mono hB12)).wide hB12
  have hx13 := hx12.below b13
  have hC13 := b13.size
  replace b := Below.then b b13
  clear b13 k12 m12 hs12 hx12 hB12
  obtain ⟨x0, x1, x2⟩ := k13.all
  obtain ⟨y0, y1, y2⟩ := m13.all
  obtain ⟨z0, z1, z2⟩ := n13.all
  go_wp2_with fail
  generalize w12.heap.size = gn at *
  generalize w12.alloc (.cells #[.string exB, .int .i64 3, .int .i64 1, .int .i64 2, .slice A12 1 c12] 26) = w13 at *
  refine (hsame w13 gn A12 (some ⟨gs, 0, none⟩) c12 1 hx13 hs13 hC13).mono ?_
  rintro e w14 ⟨rfl, b2⟩
  replace b := Below.then b b2
  clear b2 k13 m13 n13 x0 x1 x2 y0 y1 y2 z0 z1 z2
  go_wp2
  go_ret
  exact ⟨rfl, b⟩
end Go.Proofs.Ytogjcejiojmmbaa
