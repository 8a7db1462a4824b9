/- The walk of LimitOrder. -/
import Derived.Test.YtogjcejiojmmbaaTu
namespace Go.Proofs.Ytogjcejiojmmbaa
open Go.RowKit Go.Shelf

/-- The stops in reverse order, the first one twice. -/
def revS (S : List Stp2) : List Stp2 := S.reverse ++ S.take 1
theorem revS_mem {S : List Stp2} {s : Stp2} : s ∈ revS S ↔ s ∈ S := by
  unfold revS
  rw [List.mem_append, List.mem_reverse]
  exact ⟨fun h => h.elim id (fun h => List.mem_of_mem_take h), .inl⟩
theorem revS_len (S : List Stp2) : (revS S).length ≤ S.length + 1 := by
  unfold revS
  simp
  omega
theorem revS_pz (f : Int) (S : List Stp2) : pzB f (revS S) = pzB f S := funext fun x => by
  have h : pzB f (revS S) x = true ↔ pzB f S x = true := by
    rw [pzB_iff, pzB_iff]
    simp only [revS_mem]
  cases h1 : pzB f (revS S) x <;> cases h2 : pzB f S x <;> simp_all
theorem revS_pr {id : ByteArray} {n u f : Int} {S : List Stp2} (h : S.length ≤ 9) : prB ⟨id, n, u, f, revS S⟩ = prB ⟨id, n, u, f, S⟩ := by
  have hl := revS_len S
  have e : prB ⟨id, n, u, f, revS S⟩ = true ↔ prB ⟨id, n, u, f, S⟩ = true := by
    rw [prB_iff, prB_iff]
    simp only [revS_mem]
    constructor <;> intro ⟨a, b, c, d, g⟩ <;> exact ⟨a, b, c, by omega, g⟩
  cases h1 : prB ⟨id, n, u, f, revS S⟩ <;> cases h2 : prB ⟨id, n, u, f, S⟩ <;> simp_all
theorem revS_due {id : ByteArray} {n u f : Int} {S : List Stp2} (h : S.length ≤ 9) (l : List Int) : dueS ⟨id, n, u, f, revS S⟩ l = dueS ⟨id, n, u, f, S⟩ l := by
  unfold dueS
  rw [revS_pr h]
  simp only [revS_pz]
theorem revS_left {id : ByteArray} {n u f : Int} {S : List Stp2} (h : S.length ≤ 9) (day : Int) (l : List Int) : leftS ⟨id, n, u, f, revS S⟩ day l = leftS ⟨id, n, u, f, S⟩ day l := by
  unfold leftS
  rw [revS_due h]
  simp only [revS_pz]
theorem rev_at {S : List Stp2} {k n : Nat} (h : n + 1 + k = S.length) : ∃ s, S[n]? = some s ∧ S.reverse.take (k + 1) = S.reverse.take k ++ [s] := by
  have hn : n < S.length := by omega
  refine ⟨S[n], List.getElem?_eq_getElem hn, ?_⟩
  have hk : k < S.reverse.length := by rw [List.length_reverse]; omega
  rw [List.take_succ_eq_append_getElem hk]
  congr 2
  rw [List.getElem_reverse]
  congr 1
  omega

set_option maxRecDepth 100000 in
set_option maxHeartbeats 4000000 in
theorem order_walk (w : World) (x : Lm × Option Addr × Nat) (hx : LmAt w w.heap.size x.2.1 x.1) (day : Int) (_wd : (Lit.int .i64 day).wf = true) (C : Option Addr) (cl : Nat) (l : List Int) (h : Ints w w.heap.size C l) :
    Calls Try.prog 8 #[.agg (x.1.cells x.2.1 x.2.2), .int .i64 day, .slice C l.length cl] w fun e w' => e = .returned (.bool true) ∧ Below w.heap.size w w' := by
  obtain ⟨i0, hi0, hz0, hz1, hz2⟩ := info_parts Try.infoStop
  obtain ⟨hA, hw, hl⟩ := h
  obtain ⟨⟨id, n, u, f, S⟩, A, c⟩ := x
  simp only at hx
  have hid := hx.2.1
  have hS := hx.1
  simp only at hid hS
  have HA := Lib.hid hA
  have HW := Lib.hid hw
  have HX := Lib.hid hx
  have HS := Lib.hid hS
  clear hA hw hx hS
  show Calls Try.prog 8 #[.agg #[.string id, .int .i64 n, .int .i64 u, .int .i64 f, .slice A S.length c], .int .i64 day, .slice C l.length cl] w _
  have hb := (Below.refl w.heap.size w).alloc (Nat.le_refl _) (.cells #[.string id, .int .i64 n, .int .i64 u, .int .i64 f, .slice A S.length c] 26)
  have k0 := Blk.new w 26 #[.string id, .int .i64 n, .int .i64 u, .int .i64 f, .slice A S.length c]
  go_enter Try.func8, Try.ntmps8
  go_wp2_with fail
  refine (head_any _).mono ?_
  rintro e w1 ⟨rfl, b⟩
  have k1 := k0.below b k0.lt
  replace hb := hb.trans (b.mono hb.size)
  clear b k0
  obtain ⟨t0, t1, -⟩ := k1.all
  obtain ⟨r, hr⟩ : ∃ r, frB ⟨id, n, u, f, S⟩ l.length = r := ⟨_, rfl⟩
  have hfew := few_any w1 ⟨id, n, u, f, S⟩ w.heap.size A c (HX.out.below hb) hb.size C l.length cl hl
  rw [hr] at hfew
  have HF := Lib.hid hfew
  clear hfew
  go_wp2_with fail
  refine HF.out.mono ?_
  rintro e w2 ⟨rfl, b⟩
  have k2 := k1.below b k1.lt
  replace hb := hb.trans (b.mono hb.size)
  clear b HF k1 t0 t1
  obtain ⟨t0, t1, -⟩ := k2.all
  cases r with
  | false =>
    clear hr
    go_wp2
    go_ret
    exact ⟨rfl, hb⟩
  | true =>
    obtain ⟨-, -, -, -, hm⟩ := frB_iff.1 hr
    clear hr
    by_cases h9 : 9 < S.length
    · have t2 : decide ((9 : Int) < (S.length : Int)) = true := decide_eq_true (by omega)
      go_wp2
      go_ret
      exact ⟨rfl, hb⟩
    · have t2 : decide ((9 : Int) < (S.length : Int)) = false := decide_eq_false (by omega)
      obtain ⟨q1, q2, hq⟩ : ∃ q1 q2, dueS ⟨id, n, u, f, S⟩ l = (q1, q2) := ⟨_, _, rfl⟩
      obtain ⟨a1, a2, ha⟩ : ∃ a1 a2, leftS ⟨id, n, u, f, S⟩ day l = (a1, a2) := ⟨_, _, rfl⟩
      have hq' := (revS_due (id := id) (n := n) (u := u) (f := f) (S := S) (by omega) l).trans hq
      have ha' := (revS_left (id := id) (n := n) (u := u) (f := f) (S := S) (by omega) day l).trans ha
      have HQ := Lib.hid hq
      have HAD := Lib.hid ha
      have HQ' := Lib.hid hq'
      have HAD' := Lib.hid ha'
      clear hq ha hq' ha'
      have m3 := Blk.new w2 26 #[.string id, .int .i64 n, .int .i64 u, .int .i64 f, .slice A S.length c]
      have hb3 := hb.alloc hb.size (.cells #[.string id, .int .i64 n, .int .i64 u, .int .i64 f, .slice A S.length c] 26)
      have k3 := k2.alloc (.cells #[.string id, .int .i64 n, .int .i64 u, .int .i64 f, .slice A S.length c] 26)
      have hne : w.heap.size ≠ w2.heap.size := Nat.ne_of_lt k2.lt
      have hge := hb.size
      go_upto_region 5 with fail
      clear t0 t1 k2 hb
      generalize w2.heap.size = gm at *
      generalize w2.alloc (.cells #[.string id, .int .i64 n, .int .i64 u, .int .i64 f, .slice A S.length c] 26) = w3 at *
      have m4 : Blk (w3.setCell ⟨gm, 4, none⟩ (.slice none 0 0)) gm 26 #[.string id, .int .i64 n, .int .i64 u, .int .i64 f, .slice none 0 0] := m3.set_ 4 (.slice none 0 0)
      have hb4 := hb3.setCell (p := ⟨gm, 4, none⟩) hge (.slice none 0 0)
      have k4 := k3.far (p := ⟨gm, 4, none⟩) hne (.slice none 0 0)
      obtain ⟨y0, y1, -⟩ := m3.all
      obtain ⟨x0, x1, -⟩ := k4.all
      go_wp2_with fail
      clear x0 x1 y0 y1 m3 hb3 k3
      generalize w3.setCell ⟨gm, 4, none⟩ (.slice none 0 0) = w4 at *
      have ow0 : w4.ownsRow w.heap.size 28 2 (.slice none 0 0) 0 (stopCells (S.reverse.take 0)) := World.ownsRow_nil _ _ _ _
      go_loopw [9] (fun v wr => ∃ (k : Nat) (x : Int) (A4 : Option Addr) (c4 : Nat), x + 1 + (k : Int) = (S.length : Int) ∧ -1 ≤ x ∧ v = .int .i64 x ∧ wr.ownsRow w.heap.size 28 2 (.slice A4 k c4) k (stopCells (S.reverse.take k)) ∧
        Blk wr w.heap.size 26 #[.string id, .int .i64 n, .int .i64 u, .int .i64 f, .slice A S.length c] ∧ Blk wr gm 26 #[.string id, .int .i64 n, .int .i64 u, .int .i64 f, .slice A4 k c4] ∧ Below w.heap.size w wr) (fun v _ => (intOf v + 1).toNat)
      case atStart => exact ⟨0, (S.length : Int) - 1, none, 0, by omega, by omega, rfl, ow0, k4, m4, hb4⟩
      case round =>
        clear ow0 k4 m4 hb4
        obtain ⟨k, x, A4, c4, hxk, hx1, rfl, own, k0, m0, hb⟩ := hrel
        by_cases hlt : 0 ≤ x
        · obtain ⟨j, rfl⟩ : ∃ j : Nat, x = j := ⟨x.toNat, by omega⟩
          obtain ⟨⟨p, q⟩, hs, hrt⟩ := rev_at (S := S) (k := k) (n := j) (by omega)
          have HRT := Lib.hid hrt
          clear hrt
          have hjl : j < S.length := by omega
          have hst := (HS.out.below hb) j (p, q) hs
          obtain ⟨gb, off, hA', hg, e0, e1⟩ := hst
          subst hA'
          simp only at e0 e1
          obtain ⟨x0, x1, x2⟩ := k0.all
          obtain ⟨y0, y1, y2⟩ := m0.all
          go_wp2_with fail
          clear x0 x1 x2 y0 y1 y2
          refine wp_region_bush (fun V => Blk V w.heap.size 26 #[.string id, .int .i64 n, .int .i64 u, .int .i64 f, .slice (some ⟨gb, off, none⟩) S.length c] ∧ Blk V gm 26 #[.string id, .int .i64 n, .int .i64 u, .int .i64 f, .slice A4 k c4] ∧ V.cell? ⟨gb, off + j * 2, none⟩ = some (.int .i64 p) ∧ V.cell? ⟨gb, off + j * 2 + 1, none⟩ = some (.int .i64 q)) [0, 1, 2, 3, 4, 5, 6] 1 [] [8, 9, 10] (by kernel_rfl) (by kernel_rfl) (fun _ d _ _ _ h => by cases d <;> exact h) ⟨k0, m0, e0, e1⟩ ?_
          simp only [pick, List.drop_succ_cons, List.drop_zero, List.head?_cons, Option.toList_some, List.cons_append, List.nil_append, List.append_nil]
          repeat (refine wpHeld_step ?_ rfl ?_ ?_; rotate_left; · (intro V hV; obtain ⟨v0, v1, v2⟩ := hV.1.all; obtain ⟨x0, x1, x2⟩ := hV.2.1.all; obtain ⟨z0, z1⟩ := hV.2.2; go_simp; with_reducible rfl))
          refine wpHeld_nil ?_
          have kD := k0.drew
          have mD := m0.drew
          have bD := hb.drew
          have oD := own.drew
          have f0 : wr.drew.cell? ⟨gb, off + j * 2, none⟩ = some (.int .i64 p) := e0
          have f1 : wr.drew.cell? ⟨gb, off + j * 2 + 1, none⟩ = some (.int .i64 q) := e1
          clear k0 m0 hb own e0 e1
          generalize wr.drew = V at *
          refine wpBush_one 7 (by kernel_rfl) ?_
          simp only [pick, List.drop_succ_cons, List.drop_zero, List.head?_cons, Option.toList_some, List.cons_append, List.nil_append, List.append_nil]
          go_wp2_with fail
          have kn := Blk.new V 28 #[.int .i64 p, .int .i64 q]
          replace bD := bD.alloc bD.size (.cells #[.int .i64 p, .int .i64 q] 28)
          replace kD := kD.alloc (.cells #[.int .i64 p, .int .i64 q] 28)
          replace mD := mD.alloc (.cells #[.int .i64 p, .int .i64 q] 28)
          replace oD := oD.alloc (.cells #[.int .i64 p, .int .i64 q] 28)
          obtain ⟨gb', off', hA2, hg2, f2, f3⟩ := (HS.out.below bD) j (p, q) hs
          injection hA2 with hA2
          injection hA2 with hgg hoo
          subst hgg hoo
          refine ⟨⟨kD, mD, f2, f3⟩, ?_⟩
          clear f0 f1 f2 f3 hg2
          generalize V.heap.size = gn at *
          generalize V.alloc (.cells #[.int .i64 p, .int .i64 q] 28) = V2 at *
          refine wpBush_end (by kernel_rfl) (by kernel_rfl) (by kernel_rfl) ?_
          simp only [pick, List.drop_succ_cons, List.drop_zero, List.head?_cons, Option.toList_some, List.cons_append, List.nil_append, List.append_nil]
          refine wpHeld_nil ?_
          have hszl := bD.size
          go_wp2_with (at_builtin; refine wpList_append_lies _ rfl _ _ 24 rfl w.heap.size 28 i0 _ 2 16 Try.underlying24 hi0 hz0 hz1 hz2 rfl (by omega) (.slice A4 k c4) k _ rfl oD ⟨gn, 0, none⟩ 1 1 [.int .i64 p, .int .i64 q] rfl rfl (World.news_of_block kn) (stopCells_one [(p, q)]) (by omega) (by unfold maxLen; omega) (by omega) hszl V2.heap.size rfl ?_; intro gz cz Y own9 gr9 l9 z9; obtain ⟨x0, x1, x2⟩ := (mD.grown gr9 (fun he => own_blk_ne oD mD (by decide) he.symm)).all; obtain ⟨z0, z1, z2⟩ := (kD.grown gr9 (fun he => own_blk_ne oD kD (by decide) he.symm)).all)
          have mY := mD.grown gr9 (fun he => own_blk_ne oD mD (by decide) he.symm)
          have kY := kD.grown gr9 (fun he => own_blk_ne oD kD (by decide) he.symm)
          have bY := bD.grown gr9 hszl (fun x hx => (oD.lt x hx).1)
          clear gr9 l9 kn oD kD mD bD hszl
          clear x0 x1 x2 z0 z1 z2
          have kZ := kY.far (p := ⟨gm, 4, none⟩) hne (.slice (some ⟨gz, 0, none⟩) (k + 1) cz)
          have mZ : Blk (Y.setCell ⟨gm, 4, none⟩ (.slice (some ⟨gz, 0, none⟩) (k + 1) cz)) gm 26 #[.string id, .int .i64 n, .int .i64 u, .int .i64 f, .slice (some ⟨gz, 0, none⟩) (k + 1) cz] := mY.set_ 4 (.slice (some ⟨gz, 0, none⟩) (k + 1) cz)
          have bZ := bY.setCell (p := ⟨gm, 4, none⟩) hge (.slice (some ⟨gz, 0, none⟩) (k + 1) cz)
          have ownZ := Only.owns (F := fun i => i = gm) ((Only.refl (fun i => i = gm) Y).setCell (p := ⟨gm, 4, none⟩) (.inl rfl) (.slice (some ⟨gz, 0, none⟩) (k + 1) cz)) own9 (fun g hg he => own_blk_ne own9 mY (by decide) (he ▸ hg))
          have hzl : gz < (Y.setCell ⟨gm, 4, none⟩ (.slice (some ⟨gz, 0, none⟩) (k + 1) cz)).heap.size := by simpa [World.setCell] using z9
          clear kY mY bY own9 z9
          rw [show stopCells (S.reverse.take k) ++ [.int .i64 p, .int .i64 q] = stopCells (S.reverse.take (k + 1)) from by rw [HRT.out, stopCells_app]; rfl] at ownZ
          go_roundw
          case rel => exact ⟨k + 1, (j : Int) - 1, some ⟨gz, 0, none⟩, cz, by omega, by omega, by go_num, ownZ, kZ, mZ, bZ⟩
          case measure => simp [intOf]
        · obtain rfl : x = -1 := by omega
          obtain rfl : k = S.length := by omega
          obtain ⟨x0, x1, x2⟩ := k0.all
          go_upto_if 53 with fail
          go_cut [] from 18 (fun wx => ∃ (A5 : Option Addr) (c5 : Nat), StopsAt wx wx.heap.size A5 (revS S) ∧ Blk wx w.heap.size 26 #[.string id, .int .i64 n, .int .i64 u, .int .i64 f, .slice A S.length c] ∧ Blk wx gm 26 #[.string id, .int .i64 n, .int .i64 u, .int .i64 f, .slice A5 (revS S).length c5] ∧ Below w.heap.size w wx)
          case first =>
            by_cases h0 : S.length = 0
            · have hS0 : S = [] := List.length_eq_zero_iff.1 h0
              have s4 : decide ((0 : Int) < (S.length : Int)) = false := decide_eq_false (by omega)
              have s5 : decide (0 < S.length) = false := decide_eq_false (by omega)
              have s6 : ¬ 0 < S.length := by omega
              have HS0 := Lib.hid hS0
              clear h0 hS0
              go_wp2
              go_meet
              case rel =>
                obtain rfl := HS0.out
                exact ⟨A4, c4, StopsAt.nil _ _ _, k0, m0, hb⟩
            · have s4 : decide ((0 : Int) < (S.length : Int)) = true := decide_eq_true (by omega)
              obtain ⟨⟨p, q⟩, hs⟩ : ∃ s, S[0]? = some s := ⟨_, List.getElem?_eq_getElem (by omega)⟩
              obtain ⟨gb, off, hA', hg, e0, e1⟩ := (HS.out.below hb) 0 (p, q) hs
              subst hA'
              simp only [Nat.zero_mul, Nat.add_zero] at e0 e1
              have hrt : stopCells (S.reverse.take S.length) ++ [.int .i64 p, .int .i64 q] = stopCells (revS S) := by
                have h1 : S.take 1 = [(p, q)] := by
                  cases S with
                  | nil => cases hs
                  | cons t S => injection hs with hs; rw [hs]; rfl
                unfold revS
                rw [h1, stopCells_app, List.take_of_length_le (by simp)]
                rfl
              have hrl : (revS S).length = S.length + 1 := by
                unfold revS
                rw [List.length_append, List.length_reverse, List.length_take]
                omega
              have HRT := Lib.hid hrt
              have HRL := Lib.hid hrl
              clear hrt hrl
              go_wp2_with fail
              clear x0 x1 x2
              refine wp_region_bush (fun V => Blk V w.heap.size 26 #[.string id, .int .i64 n, .int .i64 u, .int .i64 f, .slice (some ⟨gb, off, none⟩) S.length c] ∧ Blk V gm 26 #[.string id, .int .i64 n, .int .i64 u, .int .i64 f, .slice A4 S.length c4] ∧ V.cell? ⟨gb, off, none⟩ = some (.int .i64 p) ∧ V.cell? ⟨gb, off + 1, none⟩ = some (.int .i64 q)) [0, 1, 2, 3, 4, 5] 1 [] [7, 8, 9] (by kernel_rfl) (by kernel_rfl) (fun _ d _ _ _ h => by cases d <;> exact h) ⟨k0, m0, e0, e1⟩ ?_
              simp only [pick, List.drop_succ_cons, List.drop_zero, List.head?_cons, Option.toList_some, List.cons_append, List.nil_append, List.append_nil]
              repeat (refine wpHeld_step ?_ rfl ?_ ?_; rotate_left; · (intro V hV; obtain ⟨v0, v1, v2⟩ := hV.1.all; obtain ⟨x0, x1, x2⟩ := hV.2.1.all; obtain ⟨z0, z1⟩ := hV.2.2; go_simp; with_reducible rfl))
              refine wpHeld_nil ?_
              have kD := k0.drew
              have mD := m0.drew
              have bD := hb.drew
              have oD := own.drew
              have f0 : wr.drew.cell? ⟨gb, off, none⟩ = some (.int .i64 p) := e0
              have f1 : wr.drew.cell? ⟨gb, off + 1, none⟩ = some (.int .i64 q) := e1
              clear k0 m0 hb own e0 e1
              generalize wr.drew = V at *
              refine wpBush_one 6 (by kernel_rfl) ?_
              simp only [pick, List.drop_succ_cons, List.drop_zero, List.head?_cons, Option.toList_some, List.cons_append, List.nil_append, List.append_nil]
              go_wp2_with fail
              have kn := Blk.new V 28 #[.int .i64 p, .int .i64 q]
              replace bD := bD.alloc bD.size (.cells #[.int .i64 p, .int .i64 q] 28)
              replace kD := kD.alloc (.cells #[.int .i64 p, .int .i64 q] 28)
              replace mD := mD.alloc (.cells #[.int .i64 p, .int .i64 q] 28)
              replace oD := oD.alloc (.cells #[.int .i64 p, .int .i64 q] 28)
              obtain ⟨gb', off', hA2, hg2, f2, f3⟩ := (HS.out.below bD) 0 (p, q) hs
              injection hA2 with hA2
              injection hA2 with hgg hoo
              subst hgg hoo
              refine ⟨⟨kD, mD, f2, f3⟩, ?_⟩
              clear f0 f1 f2 f3 hg2
              generalize V.heap.size = gn at *
              generalize V.alloc (.cells #[.int .i64 p, .int .i64 q] 28) = V2 at *
              refine wpBush_end (by kernel_rfl) (by kernel_rfl) (by kernel_rfl) ?_
              simp only [pick, List.drop_succ_cons, List.drop_zero, List.head?_cons, Option.toList_some, List.cons_append, List.nil_append, List.append_nil]
              refine wpHeld_nil ?_
              have hszl := bD.size
              go_wp2_with (at_builtin; refine wpList_append_lies _ rfl _ _ 24 rfl w.heap.size 28 i0 _ 2 16 Try.underlying24 hi0 hz0 hz1 hz2 rfl (by omega) (.slice A4 S.length c4) S.length _ rfl oD ⟨gn, 0, none⟩ 1 1 [.int .i64 p, .int .i64 q] rfl rfl (World.news_of_block kn) (stopCells_one [(p, q)]) (by omega) (by unfold maxLen; omega) (by omega) hszl V2.heap.size rfl ?_; intro gz cz Y own9 gr9 l9 z9; obtain ⟨x0, x1, x2⟩ := (mD.grown gr9 (fun he => own_blk_ne oD mD (by decide) he.symm)).all; obtain ⟨z0, z1, z2⟩ := (kD.grown gr9 (fun he => own_blk_ne oD kD (by decide) he.symm)).all)
              have mY := mD.grown gr9 (fun he => own_blk_ne oD mD (by decide) he.symm)
              have kY := kD.grown gr9 (fun he => own_blk_ne oD kD (by decide) he.symm)
              have bY := bD.grown gr9 hszl (fun x hx => (oD.lt x hx).1)
              clear gr9 l9 kn oD kD mD bD hszl
              clear x0 x1 x2 z0 z1 z2
              have kZ := kY.far (p := ⟨gm, 4, none⟩) hne (.slice (some ⟨gz, 0, none⟩) (S.length + 1) cz)
              have mZ : Blk (Y.setCell ⟨gm, 4, none⟩ (.slice (some ⟨gz, 0, none⟩) (S.length + 1) cz)) gm 26 #[.string id, .int .i64 n, .int .i64 u, .int .i64 f, .slice (some ⟨gz, 0, none⟩) (S.length + 1) cz] := mY.set_ 4 (.slice (some ⟨gz, 0, none⟩) (S.length + 1) cz)
              have bZ := bY.setCell (p := ⟨gm, 4, none⟩) hge (.slice (some ⟨gz, 0, none⟩) (S.length + 1) cz)
              have ownZ := Only.owns (F := fun i => i = gm) ((Only.refl (fun i => i = gm) Y).setCell (p := ⟨gm, 4, none⟩) (.inl rfl) (.slice (some ⟨gz, 0, none⟩) (S.length + 1) cz)) own9 (fun g hg he => own_blk_ne own9 mY (by decide) (he ▸ hg))
              have hzl : gz < (Y.setCell ⟨gm, 4, none⟩ (.slice (some ⟨gz, 0, none⟩) (S.length + 1) cz)).heap.size := by simpa [World.setCell] using z9
              clear kY mY bY own9 z9
              rw [HRT.out] at ownZ
              go_meet
              case rel => exact ⟨some ⟨gz, 0, none⟩, cz, StopsAt.of_row (n := S.length + 1) (cap := cz) (base := w.heap.size) HRL.out ownZ hzl, kZ, by rw [HRL.out]; exact mZ, bZ⟩
          case rest =>
            clear own k0 m0 hb x0 x1 x2
            obtain ⟨A5, c5, hst, k0, m0, hb⟩ := hcut
            have hrl := revS_len S
            have HM := Lib.hid (show LmAt wc wc.heap.size A5 ⟨id, n, u, f, revS S⟩ from ⟨hst, hid, by show (revS S).length ≤ _; omega⟩)
            have hbc := Below.refl wc.heap.size wc
            have HA2 := Lib.hid ((HA.out.below hb).wide hb.size)
            clear hst
            obtain ⟨t0, t1, -⟩ := k0.all
            go_wp2_with fail
            have hdue := due_any wc ⟨id, n, u, f, S⟩ w.heap.size A c (HX.out.below hb) hb.size C l cl (HA.out.below hb) (by omega) HW.out
            rw [HQ.out] at hdue
            refine hdue.mono ?_
            rintro e w5 ⟨rfl, b⟩
            have k5 := k0.below b k0.lt
            have m5 := m0.below b m0.lt
            replace hb := hb.trans (b.mono hb.size)
            replace hbc := Below.then hbc b
            clear b hdue k0 m0 t0 t1
            obtain ⟨t0, t1, -⟩ := m5.all
            go_wp2_with fail
            have hdue := due_any w5 ⟨id, n, u, f, revS S⟩ wc.heap.size A5 c5 (HM.out.below hbc) hbc.size C l cl (HA2.out.below hbc) (by omega) HW.out
            rw [HQ'.out] at hdue
            refine hdue.mono ?_
            rintro e w6 ⟨rfl, b⟩
            have k6 := k5.below b k5.lt
            have m6 := m5.below b m5.lt
            replace hb := hb.trans (b.mono hb.size)
            replace hbc := Below.then hbc b
            clear b hdue k5 m5 t0 t1
            obtain ⟨t0, t1, -⟩ := k6.all
            go_wp2_with fail
            have hlf := left_any w6 ⟨id, n, u, f, S⟩ day w.heap.size A c (HX.out.below hb) hb.size C l cl (HA.out.below hb) (by omega) HW.out
            rw [HAD.out] at hlf
            refine hlf.mono ?_
            rintro e w7 ⟨rfl, b⟩
            have m7 := m6.below b m6.lt
            replace hb := hb.trans (b.mono hb.size)
            replace hbc := Below.then hbc b
            clear b hlf k6 m6 t0 t1
            obtain ⟨t0, t1, -⟩ := m7.all
            go_wp2_with fail
            have hlf := left_any w7 ⟨id, n, u, f, revS S⟩ day wc.heap.size A5 c5 (HM.out.below hbc) hbc.size C l cl (HA2.out.below hbc) (by omega) HW.out
            rw [HAD'.out] at hlf
            refine hlf.mono ?_
            rintro e w8 ⟨rfl, b⟩
            replace hb := hb.trans (b.mono hb.size)
            clear b hlf m7 t0 t1
            go_wp2
            go_ret
            exact ⟨rfl, hb⟩
end Go.Proofs.Ytogjcejiojmmbaa
