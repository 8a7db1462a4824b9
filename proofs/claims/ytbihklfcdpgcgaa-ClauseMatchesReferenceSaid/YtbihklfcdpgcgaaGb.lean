/- The reference's Put. -/
import Derived.Test.YtbihklfcdpgcgaaGa
namespace Go.Proofs.Ytbihklfcdpgcgaa
open Go.RowKit

theorem enc_setG (c : Cl) (g : Bool) : (encC c).set 19 (.bool g) = encC (setG c g) := rfl
theorem cls_setG {g : Bool} : ∀ {l : List Cl} {k : Nat} {x : Cl}, l[k]? = some x → (cls l).set (k * 20 + 19) (.bool g) = cls (l.set k (setG x g))
  | [], k, x, h => by simp at h
  | c :: l, 0, x, h => by
    simp at h
    subst h
    show (encC c ++ cls l).set _ _ = encC (setG c g) ++ cls l
    rw [List.set_append_left _ _ (by rw [encC_len]; omega), Nat.zero_mul, Nat.zero_add, enc_setG]
  | c :: l, k + 1, x, h => by
    have ih := cls_setG (g := g) (l := l) (k := k) (x := x) (by simpa using h)
    show (encC c ++ cls l).set _ _ = encC c ++ cls (l.set k (setG x g))
    rw [List.set_append_right _ _ (by rw [encC_len]; omega), encC_len, ← ih]
    congr 2
    omega
theorem own_row {w : World} {base n cap : Nat} {A : Option Addr} {l : List Cl} (h : OwnCls w base (.slice A n cap) l) (hn : l.length = n) : w.ownsRow base 35 20 (.slice A n cap) n (cls l) := by
  unfold OwnCls at h
  rw [hn] at h
  exact h
/-- What a Put leaves of a page of the reference. -/
def RPut (w w' : World) (base q : Nat) (v : Value) (n : Nat) (L : List Cl) : Prop :=
  ∃ v', RP w' base q v' n L ∧ (v'.ownBlock = v.ownBlock ∨ ∃ g, v'.ownBlock = some g ∧ w.heap.size ≤ g) ∧ Only (fun i => i = q ∨ v.ownBlock = some i) w w'
set_option maxRecDepth 100000 in
set_option maxHeartbeats 16000000 in
theorem rPut_any (w : World) {base q n : Nat} {v : Value} {L : List Cl} (h : RP w base q v n L) (hn : n ≤ 100000) (hbase : base ≤ w.heap.size) (c : Cl) :
    Calls Try.prog 15 #[.pointer (some ⟨q, 0, none⟩), .agg (clA c)] w fun e w' => e = .returned (.int .i64 (putS L c).2) ∧ RPut w w' base q v (n + 1) (putS L c).1 := by
  obtain ⟨N, hN⟩ : ∃ N, L.length = N := ⟨_, rfl⟩
  obtain ⟨A, cap, hv⟩ := h.own.len
  rw [hN] at hv
  subst hv
  have hNn : N ≤ 100000 := by rw [← hN]; have := h.len; omega
  have HN := Lib.hid hN
  have B0 := Lib.hid (below_self_alloc w (.cells (clA c) 35))
  have K0 := Lib.hid (Blk.new w 35 (clA c))
  have H0 := Lib.hid (h.below B0.out)
  obtain ⟨CX, hCX⟩ : ∃ x, clA c = x := ⟨_, rfl⟩
  have PR := Lib.hid (rProper_any (c := c))
  rw [hCX] at B0 K0 H0 PR ⊢
  have HCX := Lib.hid hCX
  have HPG := Lib.hid h.pg
  have HLN := Lib.hid h.len
  obtain ⟨D, hD⟩ : ∃ D, putS L c = D := ⟨_, rfl⟩
  rw [hD]
  have HD := Lib.hid hD
  have HPD := Lib.hid (show Pg D.1 from by rw [← hD]; exact h.pg.put c)
  have HBASE := Lib.hid hbase
  obtain ⟨i1, hi1, hy0, hy1, hy2⟩ := info_parts Try.infoCl
  have hQ0 := Lib.hid h.ne
  clear h hN hCX hD hn hbase
  go_enter Try.func15, Try.ntmps15
  go_wp2_with (refine load_clg (by kernel_rfl) (x := .tmp 3) rfl rfl (c := c) (by rw [HCX.out]; exact K0.out) ?_; rw [HCX.out])
  generalize w.alloc (.cells CX 35) = w0 at *
  refine (PR.out _).mono ?_
  rintro e w1 ⟨rfl, b1⟩
  have H1 := Lib.hid (H0.out.below b1)
  have K1 := Lib.hid (K0.out.below b1 K0.out.lt)
  have B1 := Lib.hid (B0.out.trans (b1.mono B0.out.size))
  clear H0 K0 B0 b1 PR
  have stay : ∀ W, Below w.heap.size w W → RP W base q (.slice A N cap) n L → RPut w W base q (.slice A N cap) (n + 1) L := fun W hb hr => ⟨_, ⟨hr.blk, hr.own, hr.pg, Nat.le_succ_of_le hr.len⟩, .inl rfl, Only.of_below hb _⟩
  have STAY := Lib.hid stay
  clear stay
  cases hp : properC c with
  | false =>
    obtain rfl : D = (L, 1) := by rw [← HD.out]; unfold putS; rw [if_pos hp]
    clear hp HD
    go_wp2
    go_ret
    exact ⟨rfl, STAY.out _ B1.out H1.out⟩
  | true =>
  have HP := Lib.hid hp
  clear hp
  go_upto_region 3 with fail
  refine wp_region_stages [.free [0, 1, 2, 4], .hold (fun W => Blk W q 67 #[.slice A N cap] ∧ Blk W w.heap.size 35 CX) [3, 5] [], .run [6, 7]] (by kernel_rfl) (by kernel_rfl) (fun _ d _ _ _ h => by cases d <;> exact h) ?_
  simp only [wpStg, wpRun, wpEarly, pick, List.drop_succ_cons, List.drop_zero, List.head?_cons, Option.toList_some, List.cons_append, List.nil_append, List.append_nil]
  iterate 4 ((first | (refine wpHeld_step ?_ rfl ?_ ?_; rotate_left; · (intro W hW; go_simp; with_reducible rfl)) | (refine wpHeld_want ?_ (by kernel_rfl) ?_ ?_; rotate_left; · (intro W hW; go_simp; with_reducible rfl))); simp only [Act.put, List.setIfInBounds_toArray, List.set_cons_succ, List.set_cons_zero])
  refine wpHeld_nil ?_
  refine ⟨⟨H1.out.blk.drew, K1.out.drew⟩, ?_⟩
  iterate 2 ((refine wpHeld_step ?_ rfl ?_ ?_; rotate_left; · (intro W hW; have g0 : W.cell? ⟨q, 0, none⟩ = some (.slice A N cap) := hW.1.cell 0; have g1 : W.cell? ⟨w.heap.size, 0, none⟩ = some (.int .i64 c.id.1) := (hW.2.cell 0).trans (by rw [← HCX.out]; rfl); have g2 : W.cell? ⟨w.heap.size, 1, none⟩ = some (.int .i64 c.id.2) := (hW.2.cell 1).trans (by rw [← HCX.out]; rfl); go_simp; with_reducible rfl)); simp only [Act.put, List.setIfInBounds_toArray, List.set_cons_succ, List.set_cons_zero])
  refine wpHeld_nil ?_
  have H2 := Lib.hid H1.out.drew
  have B2 := Lib.hid (below_drew1 B1.out)
  have K2 := Lib.hid K1.out.drew
  have FD := Lib.hid (own_find w1.drew H2.out.own (by rw [HN.out]; omega) c.id)
  clear H1 B1 K1
  generalize w1.drew = w2 at *
  go_wp2_with fail
  refine FD.out.mono ?_
  rintro e w3 ⟨rfl, b3⟩
  have H3 := Lib.hid (H2.out.below b3)
  have K3 := Lib.hid (K2.out.below b3 K2.out.lt)
  have B3 := Lib.hid (B2.out.trans (b3.mono B2.out.size))
  clear H2 B2 K2 FD b3
  rcases find_cases HPG.out.uq c.id with ⟨h1, h2⟩ | ⟨k, old, h1, h2, h3⟩
  · have hd : putS L c = if c.after ≠ z2 ∧ getC L c.after = none then (L, 11) else if c.gone = false ∧ 64 ≤ openN L then (L, 27) else (L ++ [c], 0) := by
      unfold putS
      rw [if_neg (by rw [HP.out]; simp), h1]
    rw [h2]
    have HDD := Lib.hid (HD.out.symm.trans hd)
    have HNEW := Lib.hid h1
    clear hd h1 h2 HD
    have hez : ∀ W : World, (Op.equalIn 10000 29 (.agg #[.int .i64 c.after.1, .int .i64 c.after.2]) (.agg #[.int .i64 0, .int .i64 0])).run Try.prog W = .ok (decide (c.after = z2)) W := eq_st c.after z2
    obtain ⟨bz, hbz⟩ : ∃ q, decide (c.after = z2) = q := ⟨_, rfl⟩
    rw [hbz] at hez
    have HBZ := Lib.hid hbz
    clear hbz
    go_upto_region 9 with fail
    refine wp_region_stages [.free [0, 2], .hold (fun W => RP W base q (.slice A N cap) n L ∧ Blk W w.heap.size 35 CX) [1] [], .run [3, 4], .free [5, 6, 7, 9], .hold (fun W => RP W base q (.slice A N cap) n L ∧ Blk W w.heap.size 35 CX) [8, 10] [], .run [11, 12, 13]] (by kernel_rfl) (by kernel_rfl) (fun _ d _ _ _ h => by cases d <;> exact h) ?_
    simp only [wpStg, wpRun, wpEarly, pick, List.drop_succ_cons, List.drop_zero, List.head?_cons, Option.toList_some, List.cons_append, List.nil_append, List.append_nil]
    iterate 2 ((first | (refine wpHeld_step ?_ rfl ?_ ?_; rotate_left; · (intro W hW; go_simp; with_reducible rfl)) | (refine wpHeld_want ?_ (by kernel_rfl) ?_ ?_; rotate_left; · (intro W hW; go_simp; with_reducible rfl))); simp only [Act.put, List.setIfInBounds_toArray, List.set_cons_succ, List.set_cons_zero])
    refine wpHeld_nil ?_
    refine ⟨⟨H3.out.drew, K3.out.drew⟩, ?_⟩
    iterate 1 ((refine wpHeld_step ?_ rfl ?_ ?_; rotate_left; · (intro W hW; have g1 : W.cell? ⟨w.heap.size, 2, none⟩ = some (.int .i64 c.after.1) := (hW.2.cell 2).trans (by rw [← HCX.out]; rfl); have g2 : W.cell? ⟨w.heap.size, 3, none⟩ = some (.int .i64 c.after.2) := (hW.2.cell 3).trans (by rw [← HCX.out]; rfl); go_simp; with_reducible rfl)); simp only [Act.put, List.setIfInBounds_toArray, List.set_cons_succ, List.set_cons_zero])
    refine wpHeld_nil ?_
    have H4 := Lib.hid H3.out.drew
    have B4 := Lib.hid (below_drew1 B3.out)
    have K4 := Lib.hid K3.out.drew
    clear H3 B3 K3
    generalize w3.drew = w4 at *
    cases bz
    case' false =>
      have HNZ := Lib.hid (of_decide_eq_false HBZ.out)
      clear HBZ
      go_wp2_with fail
      iterate 4 ((first | (refine wpHeld_step ?_ rfl ?_ ?_; rotate_left; · (intro W hW; go_simp; with_reducible rfl)) | (refine wpHeld_want ?_ (by kernel_rfl) ?_ ?_; rotate_left; · (intro W hW; go_simp; with_reducible rfl))); simp only [Act.put, List.setIfInBounds_toArray, List.set_cons_succ, List.set_cons_zero])
      refine wpHeld_nil ?_
      refine ⟨⟨H4.out, K4.out⟩, ?_⟩
      iterate 2 ((refine wpHeld_want ?_ (by kernel_rfl) ?_ ?_; rotate_left; · (intro W hW; have g0 : W.cell? ⟨q, 0, none⟩ = some (.slice A N cap) := hW.1.blk.cell 0; have g1 : W.cell? ⟨w.heap.size, 2, none⟩ = some (.int .i64 c.after.1) := (hW.2.cell 2).trans (by rw [← HCX.out]; rfl); have g2 : W.cell? ⟨w.heap.size, 3, none⟩ = some (.int .i64 c.after.2) := (hW.2.cell 3).trans (by rw [← HCX.out]; rfl); go_simp; with_reducible rfl)); simp only [Act.put, List.setIfInBounds_toArray, List.set_cons_succ, List.set_cons_zero])
      refine wpHeld_nil ?_
      have FD := Lib.hid (own_find w4 H4.out.own (by rw [HN.out]; omega) c.after)
      go_wp2_with fail
      refine FD.out.mono ?_
      rintro e w5 ⟨rfl, b5⟩
      have H5 := Lib.hid (H4.out.below b5)
      have K5 := Lib.hid (K4.out.below b5 K4.out.lt)
      have B5 := Lib.hid (B4.out.trans (b5.mono B4.out.size))
      clear H4 B4 K4 FD b5
      rcases find_cases HPG.out.uq c.after with ⟨h1, h2⟩ | ⟨k, old, h1, h2, h3⟩
      · obtain rfl : D = (L, 11) := by rw [HDD.out, if_pos ⟨HNZ.out, h1⟩]
        rw [h2]
        clear h1 h2 HDD
        go_wp2
        go_ret
        exact ⟨rfl, STAY.out _ B5.out H5.out⟩
      have hno : ¬ (c.after ≠ z2 ∧ getC L c.after = none) := fun hh => by rw [h1] at hh; cases hh.2
      have HNO := Lib.hid hno
      rw [h3]
      clear h1 h2 h3 hno HNZ hez
      go_upto_region 11 with fail
    case' true =>
      have hno : ¬ (c.after ≠ z2 ∧ getC L c.after = none) := fun hh => hh.1 (of_decide_eq_true HBZ.out)
      have HNO := Lib.hid hno
      clear HBZ hno
      go_wp2_with fail
      iterate 4 (refine wpHeld_skip (by kernel_rfl) ?_; simp only [Act.put, List.setIfInBounds_toArray, List.set_cons_succ, List.set_cons_zero])
      refine wpHeld_nil ?_
      refine ⟨⟨H4.out, K4.out⟩, ?_⟩
      iterate 2 (refine wpHeld_skip (by kernel_rfl) ?_; simp only [Act.put, List.setIfInBounds_toArray, List.set_cons_succ, List.set_cons_zero])
      refine wpHeld_nil ?_
      have H5 := H4
      have B5 := B4
      have K5 := K4
      clear H4 B4 K4 hez
      generalize w4 = w5 at *
      go_upto_region 11 with fail
    all_goals
      have HDE := Lib.hid (HDD.out.trans (if_neg HNO.out))
      have c19 : w5.cell? ⟨w.heap.size, 19, none⟩ = some (.bool c.gone) := (K5.out.cell 19).trans (by rw [← HCX.out]; rfl)
      have g0 : w5.cell? ⟨q, 0, none⟩ = some (.slice A N cap) := H5.out.blk.cell 0
      clear HDD HNO
      cases hgo : c.gone
      case' true =>
        rw [hgo] at c19
        have HE2 := Lib.hid (HDE.out.trans (if_neg (fun hh => by rw [hgo] at hh; exact absurd hh.1 (by simp))))
        clear HDE hgo
        go_upto_region 13 with fail
      case' false =>
        rw [hgo] at c19
        have OP := Lib.hid (own_open w5 H5.out.own (by rw [HN.out]; omega))
        obtain ⟨O, hO⟩ : ∃ O, openN L = O := ⟨_, rfl⟩
        rw [hO] at OP
        rw [hgo] at HDE
        have HO2 := Lib.hid hO
        clear hO
        go_wp2_with fail
        refine OP.out.mono ?_
        rintro e w6 ⟨rfl, h6⟩
        rw [h6]
        clear OP h6 w6
        by_cases ho : 64 ≤ O
        · have e1 : decide ((64 : Int) ≤ (O : Int)) = true := decide_eq_true (by omega)
          obtain rfl : D = (L, 27) := HDE.out.trans (if_pos ⟨by trivial, by rw [HO2.out]; exact ho⟩)
          clear ho HDE HO2 hgo
          go_wp2
          go_ret
          exact ⟨rfl, STAY.out _ B5.out H5.out⟩
        have e1 : decide ((64 : Int) ≤ (O : Int)) = false := decide_eq_false (by omega)
        have HE2 := Lib.hid (HDE.out.trans (if_neg (fun hh => ho (by rw [← HO2.out]; exact hh.2))))
        clear ho HDE HO2 hgo
        go_upto_region 13 with fail
    all_goals
      obtain rfl := HE2.out
      clear HE2
      refine wp_region_stages [.free [0, 1, 2, 3], .hold (fun W => RP W base q (.slice A N cap) n L ∧ Blk W w.heap.size 35 CX) [4, 5] [6], .run [7, 8, 9, 10]] (by kernel_rfl) (by kernel_rfl) (fun _ d _ _ _ h => by cases d <;> exact h) ?_
      simp only [wpStg, wpRun, wpEarly, pick, List.drop_succ_cons, List.drop_zero, List.head?_cons, Option.toList_some, List.cons_append, List.nil_append, List.append_nil]
      iterate 4 ((first | (refine wpHeld_step ?_ rfl ?_ ?_; rotate_left; · (intro W hW; go_simp; with_reducible rfl)) | (refine wpHeld_want ?_ (by kernel_rfl) ?_ ?_; rotate_left; · (intro W hW; go_simp; with_reducible rfl))); simp only [Act.put, List.setIfInBounds_toArray, List.set_cons_succ, List.set_cons_zero])
      refine wpHeld_nil ?_
      refine ⟨⟨H5.out.drew, K5.out.drew⟩, ?_⟩
      refine wpHeld_step (.slice A N cap) rfl ?_ ?_
      · intro W hW
        have g0 : W.cell? ⟨q, 0, none⟩ = some (.slice A N cap) := hW.1.blk.cell 0
        go_simp
      refine wpHeld_step (.agg CX) rfl ?_ ?_
      · intro W hW; rw [← HCX.out]; refine exec_load_cl (x := .tmp 3) ?_ ?_ (by rw [HCX.out]; exact hW.2) <;> rfl
      simp only [Act.put, List.setIfInBounds_toArray, List.set_cons_succ, List.set_cons_zero]
      refine wpHeld_nil ?_
      have H6 := Lib.hid H5.out.drew
      have B6 := Lib.hid (below_drew1 B5.out)
      have K6 := Lib.hid K5.out.drew
      clear H5 B5 K5 STAY g0 c19
      generalize w5.drew = w6 at *
      have HOWN := Lib.hid ((own_row H6.out.own HN.out).alloc (.cells CX 35))
      have HKC := Lib.hid (Blk.new w6 35 CX)
      have HENC := Lib.hid (show encC c = CX.toList by rw [← HCX.out]; rfl)
      have HONE := Lib.hid (encC_one c)
      have HQB := Lib.hid (H6.out.blk.alloc (.cells CX 35))
      have hs6 := B6.out.size
      have hb0 := HBASE.out
      go_wp2_with (refine wpList_new rfl (op := .buildSlice 42 1 #[(0, .tmp 81)]) rfl (.slice (some ⟨w6.heap.size, 0, none⟩) 1 1) (w6.alloc (.cells CX 35)) (by rw [← HCX.out]; kernel_rfl) ?_)
      refine ⟨⟨H6.out.below (below_self_alloc w6 _), K6.out.alloc _⟩, ?_⟩
      go_wp2_with (at_builtin; refine wpList_append_lies _ rfl _ _ 42 rfl base 35 i1 _ 20 248 Try.underlying42 hi1 hy0 hy1 hy2 rfl (by omega) (.slice A N cap) N (cls L) rfl HOWN.out ⟨w6.heap.size, 0, none⟩ 1 1 (encC c) rfl rfl (by rw [HENC.out]; exact World.news_of_block HKC.out) HONE.out (by omega) (by unfold maxLen; omega) (by omega) (by simp; omega) (w6.heap.size + 1) (by simp) ?_; intro g9 cap9 w9 o9 gr9 l9 z9; have HQ9 := Lib.hid (HQB.out.grown gr9 (fun e => hQ0.out e.symm)); have c90 := HQ9.out.cell 0; have f90 := HQ9.out.frozen 0; have HO9 := Lib.hid o9; have HG9 := Lib.hid gr9; have HL9 := Lib.hid l9; clear o9 gr9 l9)
      go_ret
      have hg9q : g9 ≠ q := by
        intro e
        have := (own_snoc HN.out HO9.out).ne_blk (g := q) (t := 67) HQ9.out (by decide)
        exact this (by rw [← e]; rfl)
      have hset := Only.setCell (F := fun i => i = q) (Only.refl _ w9) (p := ⟨q, 0, none⟩) (.inl rfl) (.slice (some ⟨g9, 0, none⟩) (N + 1) cap9)
      have hown : OwnCls (w9.setCell ⟨q, 0, none⟩ (.slice (some ⟨g9, 0, none⟩) (N + 1) cap9)) base (.slice (some ⟨g9, 0, none⟩) (N + 1) cap9) (L ++ [c]) :=
        hset.owns (own_snoc HN.out HO9.out) fun g hg e => by
          injection hg with hg
          exact hg9q (hg.trans e)
      refine ⟨rfl, _, ⟨HQ9.out.set_ 0 _, hown, HPD.out, by rw [List.length_append]; exact Nat.succ_le_succ HLN.out⟩, ?_, ?_⟩
      · rcases HL9.out with h9 | h9
        · exact .inl h9.symm
        · exact .inr ⟨g9, rfl, by omega⟩
      · exact ((((Only.of_below B6.out _).alloc _).trans ((Only.of_grown HG9.out).mono fun i hi => .inr hi) fun i hi => .inl hi).trans (hset.mono fun i hi => .inl hi) fun i hi => .inl hi)
  · have hd : putS L c = if sameC old c then (setC L (mrgC old c), 0) else (L, 9) := by
      unfold putS
      rw [if_neg (by rw [HP.out]; simp), h1]
    have hid := (getC_mem h1).2
    have hset := set_at HPG.out.uq h2 (mrgC old c) rfl
    have hkN : k < N := by rw [← HN.out]; exact (List.getElem?_eq_some_iff.1 h2).1
    rw [h3]
    have HDD := Lib.hid (HD.out.symm.trans hd)
    have HOLD := Lib.hid h2
    have HSET := Lib.hid hset
    obtain ⟨g, cq, hv, -⟩ := own_some H3.out.own (by rw [HN.out]; omega)
    injection hv with hv q1 q2
    subst hv
    clear hd h1 h2 h3 hset q1 q2 HD
    go_upto_region 5 with fail
    refine wp_region_stages [.free [0, 1, 2, 4], .hold (fun W => RP W base q (.slice (some ⟨g, 0, none⟩) N cap) n L ∧ Blk W w.heap.size 35 CX) [3, 5, 6, 7] [], .run [8, 9]] (by kernel_rfl) (by kernel_rfl) (fun _ d _ _ _ h => by cases d <;> exact h) ?_
    simp only [wpStg, wpRun, wpEarly, pick, List.drop_succ_cons, List.drop_zero, List.head?_cons, Option.toList_some, List.cons_append, List.nil_append, List.append_nil]
    iterate 4 ((first | (refine wpHeld_step ?_ rfl ?_ ?_; rotate_left; · (intro W hW; go_simp; with_reducible rfl)) | (refine wpHeld_want ?_ (by kernel_rfl) ?_ ?_; rotate_left; · (intro W hW; go_simp; with_reducible rfl))); simp only [Act.put, List.setIfInBounds_toArray, List.set_cons_succ, List.set_cons_zero])
    refine wpHeld_nil ?_
    refine ⟨⟨H3.out.drew, K3.out.drew⟩, ?_⟩
    iterate 2 ((refine wpHeld_step ?_ rfl ?_ ?_; rotate_left; · (intro W hW; have g0 : W.cell? ⟨q, 0, none⟩ = some (.slice (some ⟨g, 0, none⟩) N cap) := hW.1.blk.cell 0; go_simp; with_reducible rfl)); simp only [Act.put, List.setIfInBounds_toArray, List.set_cons_succ, List.set_cons_zero])
    refine wpHeld_step (.agg (clA old)) rfl ?_ ?_
    · intro W hW; refine exec_load_row (x := .tmp 27) ?_ ?_ hW.1.own HN.out HOLD.out <;> rfl
    refine wpHeld_step (.agg CX) rfl ?_ ?_
    · intro W hW; rw [← HCX.out]; refine exec_load_cl (x := .tmp 3) ?_ ?_ (by rw [HCX.out]; exact hW.2) <;> rfl
    simp only [Act.put, List.setIfInBounds_toArray, List.set_cons_succ, List.set_cons_zero]
    refine wpHeld_nil ?_
    have H4 := Lib.hid H3.out.drew
    have B4 := Lib.hid (below_drew1 B3.out)
    have K4 := Lib.hid K3.out.drew
    have CT := Lib.hid (rContent_any w3.drew old c)
    rw [HCX.out] at CT
    clear H3 B3 K3
    obtain ⟨CO, hCO⟩ : ∃ x, clA old = x := ⟨_, rfl⟩
    rw [hCO] at CT ⊢
    clear hCO
    generalize w3.drew = w4 at *
    go_wp2_with fail
    refine CT.out.mono ?_
    rintro e w5 ⟨rfl, b5⟩
    have H5 := Lib.hid (H4.out.below b5)
    have K5 := Lib.hid (K4.out.below b5 K4.out.lt)
    have B5 := Lib.hid (B4.out.trans (b5.mono B4.out.size))
    clear H4 B4 K4 CT b5
    cases hs : sameC old c with
    | false =>
      obtain rfl : D = (L, 9) := by rw [HDD.out, hs]; rfl
      clear hs HDD
      go_wp2
      go_ret
      exact ⟨rfl, STAY.out _ B5.out H5.out⟩
    | true =>
      obtain rfl : D = (setC L (mrgC old c), 0) := by rw [HDD.out, if_pos hs]
      clear hs HDD
      have rw5 := own_row H5.out.own HN.out
      obtain ⟨G, hG⟩ : ∃ x, (old.gone || c.gone) = x := ⟨_, rfl⟩
      have st := (rw5.stored (k * 20 + 19) (.bool G)).1
      have hmg : mrgC old c = setG old G := by rw [← hG]; rfl
      rw [cls_setG HOLD.out, ← hmg, ← HSET.out] at st
      have hne := H5.out.ne
      have HPG' := Lib.hid (show Pg (setC L (mrgC old c)) from HPG.out.set (c := mrgC old c) (old := old) (by
        obtain ⟨_, q9⟩ := find_cases HPG.out.uq (mrgC old c).id |>.resolve_left (fun hh => by
          have := getC_none.1 hh.1 old (List.mem_of_getElem? HOLD.out)
          exact this rfl)
        obtain ⟨c9, q1, q2, _⟩ := q9
        have : c9 = old := uq_one HPG.out.uq (getC_mem q1).1 (List.mem_of_getElem? HOLD.out) ((getC_mem q1).2.trans rfl)
        rw [this] at q1
        exact q1) rfl (fun hh => by show (old.gone || c.gone) = true; rw [hh]; rfl))
      have HR := Lib.hid (show RP ((w5.drew).setCell ⟨g, k * 20 + 19, none⟩ (.bool G)) base q (.slice (some ⟨g, 0, none⟩) N cap) (n + 1) (setC L (mrgC old c)) from
        ⟨H5.out.blk.drew.far (p := ⟨g, k * 20 + 19, none⟩) (fun e => hne (by rw [e]; rfl)) _, by
          unfold OwnCls
          have hl : (setC L (mrgC old c)).length = N := by unfold setC; rw [List.length_map, HN.out]
          rw [hl]
          exact st, HPG'.out, by unfold setC; rw [List.length_map]; exact Nat.le_succ_of_le HLN.out⟩)
      have HO := Lib.hid (show Only (fun i => i = q ∨ (Value.slice (some ⟨g, 0, none⟩) N cap).ownBlock = some i) w ((w5.drew).setCell ⟨g, k * 20 + 19, none⟩ (.bool G)) from
        Only.setCell (F := fun i => i = q ∨ (Value.slice (some ⟨g, 0, none⟩) N cap).ownBlock = some i) (Only.of_below (below_drew1 B5.out) _) (p := ⟨g, k * 20 + 19, none⟩) (.inl (.inr rfl)) _)
      clear st hmg hne HPG' B5
      cases hgo : old.gone with
      | true =>
        have HGO := Lib.hid hgo
        rw [hgo] at hG
        have HG := Lib.hid hG
        clear hgo hG
        have c19 := (own_cell rw5 HN.out HOLD.out (j := 19) rfl)
        have c19' : w5.drew.cell? ⟨g, k * 20 + 19, none⟩ = some (.bool old.gone) := c19.1
        have f19' : w5.drew.frozen? ⟨g, k * 20 + 19, none⟩ = false := c19.2
        clear c19
        go_upto_region 7 with fail
        refine wp_region_stages [.free [0, 1, 2, 4, 5, 6, 7, 9], .hold (fun W => RP W base q (.slice (some ⟨g, 0, none⟩) N cap) n L ∧ Blk W w.heap.size 35 CX) [3, 8, 10, 11, 12, 13, 14, 15, 16, 17, 18] [], .run [19]] (by kernel_rfl) (by kernel_rfl) (fun _ d _ _ _ h => by cases d <;> exact h) ?_
        simp only [wpStg, wpRun, wpEarly, pick, List.drop_succ_cons, List.drop_zero, List.head?_cons, Option.toList_some, List.cons_append, List.nil_append, List.append_nil]
        iterate 8 ((first | (refine wpHeld_step ?_ rfl ?_ ?_; rotate_left; · (intro W hW; go_simp; with_reducible rfl)) | (refine wpHeld_want ?_ (by kernel_rfl) ?_ ?_; rotate_left; · (intro W hW; go_simp; with_reducible rfl))); simp only [Act.put, List.setIfInBounds_toArray, List.set_cons_succ, List.set_cons_zero])
        refine wpHeld_nil ?_
        refine ⟨⟨H5.out.drew, K5.out.drew⟩, ?_⟩
        iterate 6 ((refine wpHeld_step ?_ rfl ?_ ?_; rotate_left; · (intro W hW; have g0 : W.cell? ⟨q, 0, none⟩ = some (.slice (some ⟨g, 0, none⟩) N cap) := hW.1.blk.cell 0; have g1 := (own_cell (own_row hW.1.own HN.out) HN.out HOLD.out (j := 19) rfl).1; rw [HGO.out] at g1; go_simp; with_reducible rfl)); simp only [Act.put, List.setIfInBounds_toArray, List.set_cons_succ, List.set_cons_zero])
        iterate 2 (refine wpHeld_skip (by kernel_rfl) ?_; simp only [Act.put, List.setIfInBounds_toArray, List.set_cons_succ, List.set_cons_zero])
        iterate 3 ((first | (refine wpHeld_step ?_ rfl ?_ ?_; rotate_left; · (intro W hW; go_simp; with_reducible rfl)) | (refine wpHeld_want ?_ (by kernel_rfl) ?_ ?_; rotate_left; · (intro W hW; go_simp; with_reducible rfl))); simp only [Act.put, List.setIfInBounds_toArray, List.set_cons_succ, List.set_cons_zero])
        refine wpHeld_nil ?_
        have hG2 : G = true := by rw [← HG.out]; rfl
        subst hG2
        clear HG H5 K5 rw5
        go_wp2
        go_ret
        exact ⟨rfl, _, HR.out, .inl rfl, HO.out⟩
      | false =>
        have HGO := Lib.hid hgo
        rw [hgo] at hG
        have HG := Lib.hid hG
        clear hgo hG
        have c19 := (own_cell rw5 HN.out HOLD.out (j := 19) rfl)
        have c19' : w5.drew.cell? ⟨g, k * 20 + 19, none⟩ = some (.bool old.gone) := c19.1
        have f19' : w5.drew.frozen? ⟨g, k * 20 + 19, none⟩ = false := c19.2
        clear c19
        go_upto_region 7 with fail
        refine wp_region_stages [.free [0, 1, 2, 4, 5, 6, 7, 9], .hold (fun W => RP W base q (.slice (some ⟨g, 0, none⟩) N cap) n L ∧ Blk W w.heap.size 35 CX) [3, 8, 10, 11, 12, 13, 14, 15, 16, 17, 18] [], .run [19]] (by kernel_rfl) (by kernel_rfl) (fun _ d _ _ _ h => by cases d <;> exact h) ?_
        simp only [wpStg, wpRun, wpEarly, pick, List.drop_succ_cons, List.drop_zero, List.head?_cons, Option.toList_some, List.cons_append, List.nil_append, List.append_nil]
        iterate 8 ((first | (refine wpHeld_step ?_ rfl ?_ ?_; rotate_left; · (intro W hW; go_simp; with_reducible rfl)) | (refine wpHeld_want ?_ (by kernel_rfl) ?_ ?_; rotate_left; · (intro W hW; go_simp; with_reducible rfl))); simp only [Act.put, List.setIfInBounds_toArray, List.set_cons_succ, List.set_cons_zero])
        refine wpHeld_nil ?_
        refine ⟨⟨H5.out.drew, K5.out.drew⟩, ?_⟩
        iterate 6 ((refine wpHeld_step ?_ rfl ?_ ?_; rotate_left; · (intro W hW; have g0 : W.cell? ⟨q, 0, none⟩ = some (.slice (some ⟨g, 0, none⟩) N cap) := hW.1.blk.cell 0; have g1 := (own_cell (own_row hW.1.own HN.out) HN.out HOLD.out (j := 19) rfl).1; rw [HGO.out] at g1; go_simp; with_reducible rfl)); simp only [Act.put, List.setIfInBounds_toArray, List.set_cons_succ, List.set_cons_zero])
        iterate 2 ((refine wpHeld_want ?_ (by kernel_rfl) ?_ ?_; rotate_left; · (intro W hW; have g2 : W.cell? ⟨w.heap.size, 19, none⟩ = some (.bool c.gone) := (hW.2.cell 19).trans (by rw [← HCX.out]; rfl); go_simp; with_reducible rfl)); simp only [Act.put, List.setIfInBounds_toArray, List.set_cons_succ, List.set_cons_zero])
        iterate 3 ((first | (refine wpHeld_step ?_ rfl ?_ ?_; rotate_left; · (intro W hW; go_simp; with_reducible rfl)) | (refine wpHeld_want ?_ (by kernel_rfl) ?_ ?_; rotate_left; · (intro W hW; go_simp; with_reducible rfl))); simp only [Act.put, List.setIfInBounds_toArray, List.set_cons_succ, List.set_cons_zero])
        refine wpHeld_nil ?_
        have hG2 : G = c.gone := by rw [← HG.out]; rfl
        subst hG2
        clear HG H5 K5 rw5
        go_wp2
        go_ret
        exact ⟨rfl, _, HR.out, .inl rfl, HO.out⟩
end Go.Proofs.Ytbihklfcdpgcgaa
