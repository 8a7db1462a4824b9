/- The reference's page: New, first, Drop. -/
import Derived.Test.YtbihklfcdpgcgaaFh
namespace Go.Proofs.Ytbihklfcdpgcgaa
open Go.RowKit

/-- A page of the reference, at q: its slice v, at most n clauses in the order in which they came. -/
structure RP (w : World) (base q : Nat) (v : Value) (n : Nat) (L : List Cl) : Prop where
  blk : Blk w q 67 #[v]
  own : OwnCls w base v L
  pg : Pg L
  len : L.length ≤ n
section
variable {w w' : World} {base q n : Nat} {v : Value} {L : List Cl}
theorem RP.ne (h : RP w base q v n L) : v.ownBlock ≠ some q := h.own.ne_blk h.blk (by decide)
theorem RP.below (h : RP w base q v n L) (k : Below w.heap.size w w') : RP w' base q v n L := ⟨h.blk.below k h.blk.lt, h.own.below k, h.pg, h.len⟩
theorem RP.only {F : Foot} (h : RP w base q v n L) (k : Only F w w') (h1 : ¬ F q) (h2 : ∀ g, v.ownBlock = some g → ¬ F g) : RP w' base q v n L := ⟨k.blk h.blk h1, k.owns h.own h2, h.pg, h.len⟩
theorem RP.drewN (h : RP w base q v n L) (m : Nat) : RP (w.drewN m) base q v n L := h.below ⟨rfl, rfl, rfl, Nat.le_refl _, fun _ _ => rfl⟩
theorem RP.drew (h : RP w base q v n L) : RP w.drew base q v n L := h.below ⟨rfl, rfl, rfl, Nat.le_refl _, fun _ _ => rfl⟩
/-- A page of the package keeps as one of the reference turns, and the other way round. -/
theorem PP.rp {p b m : Nat} {M : List Cl} {base' : Nat} (h : PP w base p b m M) (k : RP w base' q v n L) (o : Only (fun i => i = q ∨ v.ownBlock = some i) w w') : PP w' base p b m M := h.only o
  (fun e => by
    rcases e with e | e
    · exact (h.at_.blk.ne_ k.blk (by decide)) e
    · exact k.own.ne_blk h.at_.blk (by decide) e)
  (fun e => by
    obtain ⟨L', q1, _⟩ := h.at_.map
    rcases e with e | e
    · exact k.blk.ne_map q1 e.symm
    · exact k.own.ne_map q1 e)
theorem RP.pp {p b m : Nat} {M : List Cl} {base' : Nat} (k : RP w base q v n L) (h : PP w base' p b m M) (o : Only (fun i => i = b) w w') : RP w' base q v n L := by
  obtain ⟨L', q1, _⟩ := h.at_.map
  exact k.only o (fun e => k.blk.ne_map q1 e) fun g hg e => k.own.ne_map q1 (by rw [hg, e])
theorem RP.ppp {p b m : Nat} {M : List Cl} {base' : Nat} (k : RP w base q v n L) (h : PP w base' p b m M) (o : Only (fun i => i = p) w w') : RP w' base q v n L :=
  k.only o (fun e => (h.at_.blk.ne_ k.blk (by decide)) e.symm) fun g hg e => k.own.ne_blk h.at_.blk (by decide) (by rw [hg, e])
end
set_option maxRecDepth 100000 in
theorem rNew_any (w : World) : Calls Try.prog 11 #[] w fun e w' => ∃ q, e = .returned (.pointer (some ⟨q, 0, none⟩)) ∧ RP w' w.heap.size q (.slice none 0 0) 0 [] ∧ w.heap.size ≤ q ∧ Below w.heap.size w w' := by
  have k := Blk.new w 67 #[.slice none 0 0]
  have b := below_self_alloc w (.cells #[.slice none 0 0] 67)
  go_enter Try.func11, Try.ntmps11
  go_wp2
  go_ret
  exact ⟨w.heap.size, rfl, ⟨k, World.ownsRow_nil _ _ _ _, Pg.nil, Nat.le_refl _⟩, Nat.le_refl _, b⟩

def befS (a b : St2) : Bool := decide (b.2 < a.2) || (decide (a.2 = b.2) && decide (b.1 < a.1))
theorem befS_bef (a b : Cl) : befS a.id b.id = bef a b := rfl
set_option maxRecDepth 100000 in
set_option maxHeartbeats 4000000 in
theorem rFirst_any (w : World) (a b : St2) : Calls Try.prog 57 #[.agg (stA a), .agg (stA b)] w fun e w' => e = .returned (.bool (befS a b)) ∧ Below w.heap.size w w' := by
  obtain ⟨a1, a2⟩ := a
  obtain ⟨b1, b2⟩ := b
  have kA : Blk ((w.alloc (.cells (stA (a1, a2)) 29)).alloc (.cells (stA (b1, b2)) 29)) w.heap.size 29 (stA (a1, a2)) := (Blk.new w _ _).alloc _
  have kB := Blk.new1 w (.cells (stA (a1, a2)) 29) 29 (stA (b1, b2))
  have hb : Below w.heap.size w ((w.alloc (.cells (stA (a1, a2)) 29)).alloc (.cells (stA (b1, b2)) 29)) := ((Below.refl w.heap.size w).alloc (Nat.le_refl _) _).alloc (by simp) _
  have c0 := kA.cell 0
  have c1 := kA.cell 1
  have d0 := kB.cell 0
  have d1 := kB.cell 1
  simp only [stA] at c0 c1 d0 d1
  have c0' : ((w.alloc (.cells (stA (a1, a2)) 29)).alloc (.cells (stA (b1, b2)) 29)).cell? ⟨w.heap.size, 0, none⟩ = some (.int .i64 a1) := kA.cell 0
  have c1' : ((w.alloc (.cells (stA (a1, a2)) 29)).alloc (.cells (stA (b1, b2)) 29)).cell? ⟨w.heap.size, 1, none⟩ = some (.int .i64 a2) := kA.cell 1
  have d0' : ((w.alloc (.cells (stA (a1, a2)) 29)).alloc (.cells (stA (b1, b2)) 29)).cell? ⟨w.heap.size + 1, 0, none⟩ = some (.int .i64 b1) := kB.cell 0
  have d1' : ((w.alloc (.cells (stA (a1, a2)) 29)).alloc (.cells (stA (b1, b2)) 29)).cell? ⟨w.heap.size + 1, 1, none⟩ = some (.int .i64 b2) := kB.cell 1
  clear kA kB c0 c1 d0 d1
  unfold befS
  obtain ⟨x1, h1⟩ : ∃ x, decide (b2 < a2) = x := ⟨_, rfl⟩
  obtain ⟨x2, h2⟩ : ∃ x, decide (a2 = b2) = x := ⟨_, rfl⟩
  obtain ⟨x3, h3⟩ : ∃ x, decide (b1 < a1) = x := ⟨_, rfl⟩
  have h2' : (a2 == b2) = x2 := by rw [← h2]; rfl
  simp only
  rw [h1, h2, h3]
  clear h2
  obtain ⟨SA, hSA⟩ : ∃ x, stA (a1, a2) = x := ⟨_, rfl⟩
  obtain ⟨SB, hSB⟩ : ∃ x, stA (b1, b2) = x := ⟨_, rfl⟩
  rw [hSA, hSB] at c0' c1' d0' d1' hb ⊢
  clear hSA hSB
  go_enter Try.func57, Try.ntmps57
  go_upto_region 1 with fail
  generalize (w.alloc (.cells SA 29)).alloc (.cells SB 29) = W at *
  cases x1 with
  | true =>
    go_wp2
    go_ret
    exact ⟨rfl, hb⟩
  | false =>
    cases x2 with
    | false =>
      go_wp2
      go_ret
      exact ⟨rfl, hb⟩
    | true =>
      go_wp2
      go_ret
      exact ⟨by cases x3 <;> rfl, hb⟩

theorem set_at {L : List Cl} (hu : Uq L) {k : Nat} {c : Cl} (hk : L[k]? = some c) (d : Cl) (hd : d.id = c.id) : setC L d = L.set k d := by
  unfold setC
  apply List.ext_getElem?
  intro i
  rw [List.getElem?_map, List.getElem?_set]
  by_cases hi : k = i
  · subst hi
    rw [if_pos rfl, if_pos (List.getElem?_eq_some_iff.1 hk).1, hk]
    show some (repC d c) = _
    unfold repC
    rw [if_pos hd.symm]
  · rw [if_neg hi]
    cases hy : L[i]? with
    | none => rfl
    | some y =>
      show some (repC d y) = some y
      unfold repC
      rw [if_neg]
      intro e
      have hyc : y = c := uq_one hu (List.mem_of_getElem? hy) (List.mem_of_getElem? hk) (e.trans hd)
      obtain ⟨h1, h2⟩ := List.getElem?_eq_some_iff.1 hk
      obtain ⟨h3, h4⟩ := List.getElem?_eq_some_iff.1 hy
      have h5 := List.pairwise_iff_getElem.1 (uq_nodup hu)
      rcases Nat.lt_or_gt_of_ne hi with hlt | hgt
      · exact h5 k i h1 h3 hlt (by rw [h2, h4, hyc])
      · exact h5 i k h3 h1 hgt (by rw [h2, h4, hyc])
set_option maxRecDepth 100000 in
set_option maxHeartbeats 8000000 in
theorem rDrop_any (w : World) {base q n : Nat} {v : Value} {L : List Cl} (h : RP w base q v n L) (hn : n ≤ 100000) (t : St2) :
    Calls Try.prog 13 #[.pointer (some ⟨q, 0, none⟩), .agg (stA t)] w fun e w' => e = .returned (.int .i64 (dropS L t).2) ∧ RP w' base q v n (dropS L t).1 ∧ Only (fun i => v.ownBlock = some i) w w' := by
  obtain ⟨N, hN⟩ : ∃ N, L.length = N := ⟨_, rfl⟩
  obtain ⟨A, cap, hv⟩ := h.own.len
  rw [hN] at hv
  subst hv
  have hNn : N ≤ 100000 := by rw [← hN]; have := h.len; omega
  have HN := Lib.hid hN
  have B0 := Lib.hid (below_self_alloc w (.cells (stA t) 29))
  have K0 := Lib.hid (Blk.new w 29 (stA t))
  have H0 := Lib.hid (h.below B0.out)
  obtain ⟨ST, hST⟩ : ∃ x, stA t = x := ⟨_, rfl⟩
  rw [hST] at B0 K0 H0 ⊢
  have HST := Lib.hid hST
  have HPG := Lib.hid h.pg
  obtain ⟨D, hD⟩ : ∃ D, dropS L t = D := ⟨_, rfl⟩
  rw [hD]
  have HD := Lib.hid hD
  clear h hN hST hD
  go_enter Try.func13, Try.ntmps13
  go_upto_region 3 with fail
  generalize w.alloc (.cells ST 29) = w0 at *
  refine wp_region_stages [.free [0, 1, 2], .hold (fun W => Blk W q 67 #[.slice A N cap] ∧ Blk W w.heap.size 29 ST) [3, 4] [], .run [5, 6]] (by kernel_rfl) (by kernel_rfl) (fun _ d _ _ _ h => by cases d <;> exact h) ?_
  simp only [wpStg, wpRun, wpEarly, pick, List.drop_succ_cons, List.drop_zero, List.head?_cons, Option.toList_some, List.cons_append, List.nil_append, List.append_nil]
  iterate 3 ((first | (refine wpHeld_step ?_ rfl ?_ ?_; rotate_left; · (intro W hW; go_simp; with_reducible rfl)) | (refine wpHeld_want ?_ (by kernel_rfl) ?_ ?_; rotate_left; · (intro W hW; go_simp; with_reducible rfl))); simp only [Act.put, List.setIfInBounds_toArray, List.set_cons_succ, List.set_cons_zero])
  refine wpHeld_nil ?_
  refine ⟨⟨H0.out.blk.drew, K0.out.drew⟩, ?_⟩
  iterate 2 ((refine wpHeld_step ?_ rfl ?_ ?_; rotate_left; · (intro W hW; have g0 : W.cell? ⟨q, 0, none⟩ = some (.slice A N cap) := hW.1.cell 0; have g1 : W.cell? ⟨w.heap.size, 0, none⟩ = some (.int .i64 t.1) := (hW.2.cell 0).trans (by rw [← HST.out]; rfl); have g2 : W.cell? ⟨w.heap.size, 1, none⟩ = some (.int .i64 t.2) := (hW.2.cell 1).trans (by rw [← HST.out]; rfl); go_simp; with_reducible rfl)); simp only [Act.put, List.setIfInBounds_toArray, List.set_cons_succ, List.set_cons_zero])
  refine wpHeld_nil ?_
  have H1 := Lib.hid H0.out.drew
  have B1 := Lib.hid (below_drew1 B0.out)
  have FD := Lib.hid (own_find w0.drew H1.out.own (by rw [HN.out]; omega) t)
  clear H0 B0 K0
  generalize w0.drew = w1 at *
  go_wp2_with fail
  refine FD.out.mono ?_
  rintro e w2 ⟨rfl, b2⟩
  have H2 := Lib.hid (H1.out.below b2)
  have B2 := Lib.hid (B1.out.trans (b2.mono B1.out.size))
  clear H1 B1 FD b2
  rcases find_cases HPG.out.uq t with ⟨h1, h2⟩ | ⟨k, c, h1, h2, h3⟩
  · have hd : dropS L t = (L, 11) := by unfold dropS; rw [h1]
    obtain rfl : D = (L, 11) := HD.out.symm.trans hd
    rw [h2]
    clear hd h1 h2 HD
    go_wp2
    go_ret
    exact ⟨rfl, H2.out, Only.of_below (B2.out) _⟩
  · have hd : dropS L t = (setC L (goneC c), 0) := by unfold dropS; rw [h1]; rfl
    have hcid := (getC_mem h1).2
    have hset := set_at HPG.out.uq h2 (goneC c) rfl
    have hkN : k < N := by rw [← HN.out]; exact (List.getElem?_eq_some_iff.1 h2).1
    obtain rfl : D = (setC L (goneC c), 0) := HD.out.symm.trans hd
    rw [h3]
    clear HD
    have HPG' := Lib.hid (show Pg (setC L (goneC c)) from by have := HPG.out.drop t; rw [hd] at this; exact this)
    obtain ⟨g, cq, hv, -⟩ := own_some H2.out.own (by rw [HN.out]; omega)
    injection hv with hv q1 q2
    subst hv
    clear q1 q2
    have hrow : w2.ownsRow base 35 20 (.slice (some ⟨g, 0, none⟩) N cap) N (cls L) := by
      have := H2.out.own
      unfold OwnCls at this
      rw [HN.out] at this
      exact this
    obtain ⟨c19, f19⟩ := own_cell hrow HN.out h2 (j := 19) rfl
    have g0 : w2.cell? ⟨q, 0, none⟩ = some (.slice (some ⟨g, 0, none⟩) N cap) := H2.out.blk.cell 0
    have st := (hrow.stored (k * 20 + 19) (.bool true)).1
    rw [cls_set h2, ← hset] at st
    have hne := H2.out.ne
    have HR := Lib.hid (show RP (w2.setCell ⟨g, k * 20 + 19, none⟩ (.bool true)) base q (.slice (some ⟨g, 0, none⟩) N cap) n (setC L (goneC c)) from
      ⟨H2.out.blk.far (p := ⟨g, k * 20 + 19, none⟩) (fun e => hne (by rw [e]; rfl)) _, by
        unfold OwnCls
        have hl : (setC L (goneC c)).length = N := by unfold setC; rw [List.length_map, HN.out]
        rw [hl]
        exact st, HPG'.out, by unfold setC; rw [List.length_map]; exact H2.out.len⟩)
    have HO := Lib.hid (show Only (fun i => (Value.slice (some ⟨g, 0, none⟩) N cap).ownBlock = some i) w (w2.setCell ⟨g, k * 20 + 19, none⟩ (.bool true)) from Only.setCell (F := fun i => (Value.slice (some ⟨g, 0, none⟩) N cap).ownBlock = some i) (Only.of_below B2.out _) (p := ⟨g, k * 20 + 19, none⟩) (.inl rfl) _)
    clear hd h1 h2 h3 hset hrow st hne B2 H2 HPG HPG'
    go_wp2
    go_ret
    exact ⟨rfl, HR.out, HO.out⟩
end Go.Proofs.Ytbihklfcdpgcgaa
