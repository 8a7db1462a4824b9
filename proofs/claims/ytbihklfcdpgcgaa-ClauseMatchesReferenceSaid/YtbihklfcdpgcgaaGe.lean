/- The reference's Patches and Join. -/
import Derived.Test.YtbihklfcdpgcgaaGd
namespace Go.Proofs.Ytbihklfcdpgcgaa
open Go.RowKit

theorem own_g {w : World} {base n cap k : Nat} {A : Option Addr} {l : List Cl} {c : Cl} (h : OwnCls w base (.slice A n cap) l) (hk : l[k]? = some c) : ∃ g, A = some ⟨g, 0, none⟩ := by
  rcases (own_A h).1 with h0 | h0
  · exfalso
    obtain ⟨g', o', h1, _⟩ := own_at h k c hk
    rw [h0] at h1
    cases h1
  · exact h0
set_option maxRecDepth 100000 in
set_option maxHeartbeats 16000000 in
theorem rPats_any (w : World) {base q n : Nat} {v : Value} {L : List Cl} (h : RP w base q v n L) (hn : n ≤ 100000) :
    Calls Try.prog 23 #[.pointer (some ⟨q, 0, none⟩)] w fun e w' => ∃ u, e = .returned u ∧ OwnPts w' w.heap.size u (live (walkS L)) ∧ Below w.heap.size w w' := by
  have HLS := Lib.hid (rList_any w h hn)
  have hTl : (walkS L).length ≤ 100000 := by rw [walk_len h.pg]; have := h.len; omega
  obtain ⟨T, hT⟩ : ∃ T, walkS L = T := ⟨_, rfl⟩
  rw [hT] at HLS hTl ⊢
  obtain ⟨N, hN⟩ : ∃ N, T.length = N := ⟨_, rfl⟩
  rw [hN] at hTl
  have HTN := Lib.hid hN
  obtain ⟨i0, hi0, hz0, hz1, hz2⟩ := info_parts Try.infoPt
  clear h hn hT hN
  go_enter Try.func23, Try.ntmps23
  go_wp2_with fail
  refine HLS.out.mono ?_
  rintro e w1 ⟨v1, rfl, o1, b1⟩
  have HO1 := Lib.hid o1
  have HB1 := Lib.hid b1
  obtain ⟨A, cap, hv⟩ := o1.len
  rw [HTN.out] at hv
  subst hv
  clear o1 b1 HLS
  go_wp2_with fail
  go_loopw [5, 4] (fun i u wr => ∃ j : Nat, j ≤ N ∧ i = .int .i64 (j : Int) ∧ Hid (Below w1.heap.size w1 wr) ∧ Hid (OwnPts wr w1.heap.size u (live (T.take j)))) (fun i _ _ => N - (intOf i).toNat)
  case atStart => exact ⟨0, Nat.zero_le _, rfl, Lib.hid (Below.refl _ _), Lib.hid (World.ownsRow_nil _ _ _ _)⟩
  case round =>
    obtain ⟨j, hj, rfl, HBj, HUj⟩ := hrel
    by_cases hjn : j < N
    · obtain ⟨c, hc⟩ : ∃ c, T[j]? = some c := ⟨_, List.getElem?_eq_getElem (by rw [HTN.out]; exact hjn)⟩
      have HOj := Lib.hid (HO1.out.below HBj.out)
      obtain ⟨g, rfl⟩ := own_g HOj.out hc
      have HWr := Lib.hid (own_row HOj.out HTN.out)
      have e1 : decide ((j : Int) < (N : Int)) = true := decide_eq_true (by omega)
      obtain ⟨q19, -⟩ := own_cell HWr.out HTN.out hc (j := 19) rfl
      have hlt := live_take hc
      have HC := Lib.hid hc
      have HKN := Lib.hid hjn
      cases hgo : c.gone with
      | true =>
        rw [hgo] at q19 hlt
        have HU2 := Lib.hid (show OwnPts wr w1.heap.size u4 (live (T.take (j + 1))) from by rw [hlt, if_pos rfl]; exact HUj.out)
        clear hlt hc hjn hgo HUj
        go_wp2_with fail
        refine ⟨⟨j + 1, HKN.out, by go_num, HBj, HU2⟩, ?_⟩
        have := HKN.out
        simp [intOf]
        omega
      | false =>
        rw [hgo] at q19 hlt
        obtain ⟨PL, hPL⟩ : ∃ PL, live (T.take j) = PL := ⟨_, rfl⟩
        have hU2 := HUj.out
        rw [hPL] at hU2 hlt
        obtain ⟨M, hM⟩ : ∃ M, PL.length = M := ⟨_, rfl⟩
        have hMl : M ≤ 1000000 := by
          rw [← hM, ← hPL]
          unfold live
          rw [List.length_map]
          exact Nat.le_trans (List.length_filter_le _ _) (by rw [List.length_take]; omega)
        obtain ⟨B1, c1, rfl⟩ : ∃ B1 c1, u4 = .slice B1 M c1 := by
          rcases Joins.ownsRow_forms hU2 with ⟨h1, h2⟩ | ⟨g, cap, hv⟩
          · exact ⟨none, 0, by rw [h1]; congr 1; omega⟩
          · exact ⟨some ⟨g, 0, none⟩, cap, by rw [hv, hM]⟩
        have hU3 : (wr.alloc (.cells (ptA c.pt) 33)).ownsRow w1.heap.size 33 15 (.slice B1 M c1) M (pts PL) := by
          have := World.ownsRow.alloc hU2 (.cells (ptA c.pt) 33)
          rw [hM] at this
          exact this
        have HU3 := Lib.hid hU3
        have HB3 := Lib.hid (HBj.out.alloc HBj.out.size (.cells (ptA c.pt) 33))
        have HK6 := Lib.hid (Blk.new wr 33 (ptA c.pt))
        have hfo := fold_pt c.pt
        have HONE2 := Lib.hid (encP_one c.pt)
        have HENC := Lib.hid (show encP c.pt = (ptA c.pt).toList from rfl)
        have HM := Lib.hid hM
        have HLT := Lib.hid hlt
        have hpz := ptA_size c.pt
        have hsz := HBj.out.size
        clear hU2 hU3 hlt hc hjn hgo hPL hM HUj
        generalize hPP : ptA c.pt = PP at *
        have HPP := Lib.hid hPP
        clear hPP
        go_wp2_with (first | (refine load_pt_row (c := c) rfl (x := .tmp 24) rfl rfl HWr.out HTN.out HC.out ?_; rw [HPP.out]) | (at_builtin; refine wpList_append_lies _ rfl _ _ 47 rfl w1.heap.size 33 i0 _ 15 208 Try.underlying47 hi0 hz0 hz1 hz2 rfl (by omega) (.slice B1 M c1) M _ rfl HU3.out ⟨wr.heap.size, 0, none⟩ 1 1 (encP c.pt) rfl rfl (by rw [HENC.out]; exact World.news_of_block HK6.out) HONE2.out (by omega) (by unfold maxLen; omega) (by omega) (by simp; omega) (wr.heap.size + 1) (by simp) ?_; intro g9' cap9 w13 o9 gr9 l9 z9; have HO9 := Lib.hid o9; have HG9 := Lib.hid gr9; clear o9 gr9 l9))
        have hb9 := HB3.out.grown HG9.out (by simp; omega) (fun y hy => (HU3.out.lt y hy).1)
        refine ⟨⟨j + 1, HKN.out, by go_num, Lib.hid hb9, Lib.hid (by rw [HLT.out]; exact pts_own HM.out HO9.out)⟩, ?_⟩
        have := HKN.out
        simp [intOf]
        omega
    · obtain rfl : j = N := by omega
      have HR := Lib.hid (show OwnPts wr w1.heap.size u4 (live T) from by
        have := HUj.out
        rw [← HTN.out, List.take_length] at this
        exact this)
      have HBZ := Lib.hid (HB1.out.trans (HBj.out.mono HB1.out.size))
      have HS := Lib.hid HB1.out.size
      clear HUj
      go_wp2
      go_ret
      exact ⟨_, rfl, ⟨HR.out.1, HR.out.2.imp (fun h => h) fun ⟨g, cap, cur, a, b, c⟩ => ⟨g, cap, cur, a, Nat.le_trans HS.out b, c⟩⟩, HBZ.out⟩

/-! ### Join -/
/-- A clause is put to what has been joined. -/
theorem add_none {l : List Cl} {c : Cl} (h : getC l c.id = none) : addS l c = some (l ++ [c]) := by unfold addS; rw [h]
theorem add_old {l : List Cl} {c old : Cl} (h : getC l c.id = some old) : addS l c = if sameC old c then some (setC l (mrgC old c)) else none := by unfold addS; rw [h]
theorem addAll_take {M L A : List Cl} {j : Nat} {c : Cl} (hj : M[j]? = some c) (h : addAll L (M.take j) = some A) : addAll L (M.take (j + 1)) = addS A c := by
  rw [List.take_add_one, hj, Option.toList_some, addAll_app, h]
  simp only [Option.bind_some]
  unfold addAll
  cases addS A c with
  | none => rfl
  | some B => rfl
theorem addAll_stop {M L A : List Cl} {j : Nat} {c : Cl} (hj : M[j]? = some c) (h : addAll L (M.take j) = some A) (hs : addS A c = none) : joinS L M = (L, 9) := by
  have h1 := addAll_take hj h
  rw [hs] at h1
  have h2 : addAll L M = none := by
    rw [← List.take_append_drop (j + 1) M, addAll_app, h1]
    rfl
  unfold joinS
  rw [h2]
def RJoin (w w' : World) (base q : Nat) (v : Value) (n : Nat) (L : List Cl) : Prop :=
  ∃ u, RP w' base q u n L ∧ (∀ g, u.ownBlock = some g → v.ownBlock = some g ∨ w.heap.size ≤ g) ∧ Only (fun i => i = q) w w'
set_option maxRecDepth 100000 in
set_option maxHeartbeats 16000000 in
theorem rJoin_any (w : World) {base q n base' q' m : Nat} {v v' : Value} {L M : List Cl} (h : RP w base q v n L) (h' : RP w base' q' v' m M) (hn : n ≤ 50000) (hm : m ≤ 50000) (hbase : base ≤ w.heap.size) :
    Calls Try.prog 20 #[.pointer (some ⟨q, 0, none⟩), .pointer (some ⟨q', 0, none⟩)] w fun e w' => e = .returned (.int .i64 (joinS L M).2) ∧ RJoin w w' base q v (n + m) (joinS L M).1 := by
  obtain ⟨N, hN⟩ : ∃ N, L.length = N := ⟨_, rfl⟩
  obtain ⟨NM, hNM⟩ : ∃ N, M.length = N := ⟨_, rfl⟩
  obtain ⟨A, cap, hv⟩ := h.own.len
  rw [hN] at hv
  subst hv
  obtain ⟨A', cap', hv'⟩ := h'.own.len
  rw [hNM] at hv'
  subst hv'
  have hNn : N ≤ n := by rw [← hN]; exact h.len
  have hMn : NM ≤ m := by rw [← hNM]; exact h'.len
  have H := Lib.hid h
  have H' := Lib.hid h'
  have HN := Lib.hid hN
  have HNM := Lib.hid hNM
  have HBASE := Lib.hid hbase
  obtain ⟨i1, hi1, hy0, hy1, hy2⟩ := info_parts Try.infoCl
  obtain ⟨D, hD⟩ : ∃ D, joinS L M = D := ⟨_, rfl⟩
  rw [hD]
  have HD := Lib.hid hD
  have c0 : w.cell? ⟨q, 0, none⟩ = some (.slice A N cap) := h.blk.cell 0
  have c0a : (w.alloc (.cells #[] 35)).cell? ⟨q, 0, none⟩ = some (.slice A N cap) := (h.blk.alloc _).cell 0
  have HOWN0 := Lib.hid (show (w.alloc (.cells #[] 35)).ownsRow w.heap.size 35 20 (.slice (some ⟨w.heap.size, 0, none⟩) 0 0) 0 [] from World.ownsRow_lit w #[] 0 (Nat.le_refl _) (by unfold maxLen; omega) rfl)
  have B0 := Lib.hid (below_self_alloc w (.cells #[] 35))
  have HNW := Lib.hid (cls_news ((own_at h.own).below B0.out))
  have HLN := Lib.hid (show (cls L).length = N * 20 by rw [cls_len, hN])
  have HONE := Lib.hid (cls_one L)
  clear h h' hN hNM hbase hD
  go_enter Try.func20, Try.ntmps20
  go_upto_region 4 with (at_builtin; refine wpList_append_any rfl _ _ 42 rfl w.heap.size 35 i1 _ 20 248 Try.underlying42 hi1 hy0 hy1 hy2 rfl (by omega) (.slice (some ⟨w.heap.size, 0, none⟩) 0 0) 0 [] rfl HOWN0.out A N cap (cls L) rfl HLN.out HNW.out HONE.out (by unfold maxLen; omega) (by omega) (by simp) ?_; intro v1 w1 own1 gr1 l1)
  rw [Nat.zero_add, List.nil_append] at own1
  have o1 : OwnCls w1 w.heap.size v1 L := by
    unfold OwnCls
    rw [HN.out]
    exact own1
  have HO1 := Lib.hid o1
  have HB1 := Lib.hid (B0.out.grown gr1 B0.out.size (fun y hy => (HOWN0.out.lt y hy).1))
  clear own1 gr1 l1 o1 HOWN0 B0 HNW HLN HONE c0 c0a
  have stay : ∀ W, Below w.heap.size w W → RJoin w W base q (.slice A N cap) (n + m) L := fun W hb => ⟨_, ⟨(H.out.below hb).blk, (H.out.below hb).own, H.out.pg, Nat.le_trans H.out.len (Nat.le_add_right _ _)⟩, fun _ hg => .inl hg, Only.of_below hb _⟩
  have STAY := Lib.hid stay
  clear stay
  go_wp2_with fail
  go_loopw [5, 6] (fun o i wr => ∃ (j : Nat) (X : List Cl), j ≤ NM ∧ i = .int .i64 (j : Int) ∧ Hid (Below w.heap.size w wr) ∧ Hid (OwnCls wr w.heap.size o X) ∧ Hid (addAll L (M.take j) = some X) ∧ Hid (Uq X) ∧ Hid (X.length ≤ n + j)) (fun _ i _ => NM - (intOf i).toNat)
  case atStart => exact ⟨0, L, Nat.zero_le _, rfl, HB1, HO1, Lib.hid rfl, Lib.hid H.out.pg.uq, Lib.hid H.out.len⟩
  case round =>
    clear HB1 HO1
    obtain ⟨j, X, hj, rfl, HBj, HOj, HXj, HUj, HLj⟩ := hrel
    have HMj := Lib.hid (H'.out.below HBj.out)
    have c0 : wr.cell? ⟨q', 0, none⟩ = some (.slice A' NM cap') := HMj.out.blk.cell 0
    obtain ⟨x, hx⟩ : ∃ x, X.length = x := ⟨_, rfl⟩
    have hxl : x ≤ 100000 := by have := HLj.out; rw [hx] at this; omega
    obtain ⟨Ax, cx, hv⟩ := HOj.out.len
    rw [hx] at hv
    subst hv
    have HXL := Lib.hid hx
    clear hx
    by_cases hjM : j < NM
    · obtain ⟨c, hc⟩ : ∃ c, M[j]? = some c := ⟨_, List.getElem?_eq_getElem (by rw [HNM.out]; exact hjM)⟩
      obtain ⟨g', rfl⟩ := own_g HMj.out.own hc
      have e1 : decide ((j : Int) < (NM : Int)) = true := decide_eq_true (by omega)
      have HRW := Lib.hid (own_row HMj.out.own HNM.out)
      have HC := Lib.hid hc
      have HKN := Lib.hid hjM
      have HTK := Lib.hid (addAll_take hc HXj.out)
      have HSP := Lib.hid (fun hs => addAll_stop hc HXj.out hs)
      have p7 := put_cl wr c
      have hcz := clA_size c
      have K7 := Lib.hid (Blk.new wr 35 (clA c))
      have B7 := Lib.hid (HBj.out.alloc HBj.out.size (.cells (clA c) 35))
      have O7 := Lib.hid (HOj.out.below (below_self_alloc wr (.cells (clA c) 35)))
      obtain ⟨CC, hCC⟩ : ∃ y, clA c = y := ⟨_, rfl⟩
      rw [hCC] at p7 hcz K7 B7 O7
      have HCC := Lib.hid hCC
      have hsr := HBj.out.size
      clear hc hCC HBj HOj HMj HXj
      go_upto_region 8 with (refine load_row rfl (x := .tmp 35) rfl rfl HRW.out HNM.out HC.out ?_; rw [HCC.out])
      clear p7 HRW c0
      obtain ⟨g7, hg7⟩ : ∃ y, wr.heap.size = y := ⟨_, rfl⟩
      rw [hg7] at K7 ⊢
      have HG7 := Lib.hid (show w.heap.size ≤ g7 from by rw [← hg7]; exact hsr)
      clear hg7 hsr
      generalize wr.alloc (.cells CC 35) = w2 at *
      have s0 : w2.cell? ⟨g7, 0, none⟩ = some (.int .i64 c.id.1) := (K7.out.cell 0).trans (by rw [← HCC.out]; rfl)
      have s1 : w2.cell? ⟨g7, 1, none⟩ = some (.int .i64 c.id.2) := (K7.out.cell 1).trans (by rw [← HCC.out]; rfl)
      go_wp2_with fail
      refine (own_find _ O7.out (by rw [HXL.out]; omega) c.id).mono ?_
      rintro e w3 ⟨rfl, b3⟩
      have K8 := Lib.hid (K7.out.below b3 K7.out.lt)
      have B8 := Lib.hid (B7.out.trans (b3.mono B7.out.size))
      have O8 := Lib.hid (O7.out.below b3)
      clear s0 s1 K7 B7 O7 b3
      rcases find_cases HUj.out c.id with ⟨h1, h2⟩ | ⟨k, old, h1, h2, h3⟩
      · have HA := Lib.hid (HTK.out.trans (add_none h1))
        have HUX := Lib.hid (uq_snoc HUj.out h1)
        rw [h2]
        have HOWN := Lib.hid ((own_row O8.out HXL.out).alloc (.cells CC 35))
        have HKC := Lib.hid (Blk.new w3 35 CC)
        have HENC := Lib.hid (show encC c = CC.toList by rw [← HCC.out]; rfl)
        have HONE := Lib.hid (encC_one c)
        have B9 := Lib.hid (B8.out.alloc B8.out.size (.cells CC 35))
        have hs8 := B8.out.size
        clear h1 h2 HTK HSP HUj
        go_wp2_with (first
          | (refine load_cl (c := c) rfl (x := .tmp 7) rfl rfl (by rw [HCC.out]; exact K8.out) ?_; rw [HCC.out])
          | (refine wpList_new rfl (op := .buildSlice 42 1 #[(0, .tmp 44)]) rfl (.slice (some ⟨w3.heap.size, 0, none⟩) 1 1) (w3.alloc (.cells CC 35)) (by rw [← HCC.out]; kernel_rfl) ?_)
          | (at_builtin; refine wpList_append_lies _ rfl _ _ 42 rfl w.heap.size 35 i1 _ 20 248 Try.underlying42 hi1 hy0 hy1 hy2 rfl (by omega) (.slice Ax x cx) x (cls X) rfl HOWN.out ⟨w3.heap.size, 0, none⟩ 1 1 (encC c) rfl rfl (by rw [HENC.out]; exact World.news_of_block HKC.out) HONE.out (by omega) (by unfold maxLen; omega) (by omega) (by simp; omega) (w3.heap.size + 1) (by simp) ?_; intro g9 cap9 w9 o9 gr9 l9 z9; have HO9 := Lib.hid (own_snoc HXL.out o9); have HB9 := Lib.hid (B9.out.grown gr9 B9.out.size (fun y hy => (HOWN.out.lt y hy).1)); clear o9 gr9 l9))
        have HLX := Lib.hid (show (X ++ [c]).length ≤ n + (j + 1) from by rw [List.length_append]; have := HLj.out; simp; omega)
        first
          | (go_roundw
             case rel => exact ⟨j + 1, X ++ [c], HKN.out, by go_num, HB9, HO9, HA, HUX, HLX⟩
             case measure =>
               have := HKN.out
               simp [intOf]
               omega)
          | (refine ⟨⟨j + 1, X ++ [c], HKN.out, by go_num, HB9, HO9, HA, HUX, HLX⟩, ?_⟩
             have := HKN.out
             simp [intOf]
             omega)
      · have hset := set_at HUj.out h2 (mrgC old c) rfl
        have HSET := Lib.hid hset
        have HADD := Lib.hid (add_old h1)
        have HOLD := Lib.hid h2
        have hkx : k < x := by rw [← HXL.out]; exact (List.getElem?_eq_some_iff.1 h2).1
        rw [h3]
        obtain ⟨gl, rfl⟩ := own_g O8.out h2
        have HGL := Lib.hid (show w.heap.size ≤ gl from by
          obtain ⟨g, cq, hv, hq⟩ := own_some O8.out (by rw [HXL.out]; omega)
          injection hv with hv _ _
          injection hv with hv
          injection hv with hv _ _
          omega)
        clear h1 h2 h3 hset
        go_upto_region 11 with fail
        refine wp_region_stages [.free [0, 1, 2], .hold (fun W => OwnCls W w.heap.size (.slice (some ⟨gl, 0, none⟩) x cx) X ∧ Blk W g7 35 CC) [3, 4] [], .run [5, 6]] (by kernel_rfl) (by kernel_rfl) (fun _ d _ _ _ h => by cases d <;> exact h) ?_
        simp only [wpStg, wpRun, wpEarly, pick, List.drop_succ_cons, List.drop_zero, List.head?_cons, Option.toList_some, List.cons_append, List.nil_append, List.append_nil]
        iterate 3 ((first | (refine wpHeld_step ?_ rfl ?_ ?_; rotate_left; · (intro W hW; go_simp; with_reducible rfl)) | (refine wpHeld_want ?_ (by kernel_rfl) ?_ ?_; rotate_left; · (intro W hW; go_simp; with_reducible rfl))); simp only [Act.put, List.setIfInBounds_toArray, List.set_cons_succ, List.set_cons_zero])
        refine wpHeld_nil ?_
        refine ⟨⟨O8.out.drw, K8.out.drew⟩, ?_⟩
        refine wpHeld_step (.agg (clA old)) rfl ?_ ?_
        · intro W hW; refine exec_load_row (x := .tmp 49) ?_ ?_ hW.1 HXL.out HOLD.out <;> rfl
        refine wpHeld_step (.agg CC) rfl ?_ ?_
        · intro W hW; rw [← HCC.out]; refine exec_load_cl (x := .tmp 7) ?_ ?_ (by rw [HCC.out]; exact hW.2) <;> rfl
        simp only [Act.put, List.setIfInBounds_toArray, List.set_cons_succ, List.set_cons_zero]
        refine wpHeld_nil ?_
        have K9 := Lib.hid K8.out.drew
        have B9 := Lib.hid (below_drew1 B8.out)
        have O9 := Lib.hid O8.out.drw
        have CT := Lib.hid (rContent_any w3.drew old c)
        rw [HCC.out] at CT
        clear K8 B8 O8
        obtain ⟨CO, hCO⟩ : ∃ y, clA old = y := ⟨_, rfl⟩
        rw [hCO] at CT ⊢
        clear hCO
        generalize w3.drew = w4 at *
        go_wp2_with fail
        refine CT.out.mono ?_
        rintro e w5 ⟨rfl, b5⟩
        have K10 := Lib.hid (K9.out.below b5 K9.out.lt)
        have B10 := Lib.hid (B9.out.trans (b5.mono B9.out.size))
        have O10 := Lib.hid (O9.out.below b5)
        clear K9 B9 O9 CT b5
        cases hs : sameC old c with
        | false =>
          obtain rfl : D = (L, 9) := by
            rw [← HD.out]
            exact HSP.out (by rw [HADD.out, hs]; rfl)
          clear hs
          go_wp2
          go_ret
          exact ⟨rfl, STAY.out _ B10.out⟩
        | true =>
          have HA := Lib.hid (HTK.out.trans (HADD.out.trans (if_pos hs)))
          have HUX := Lib.hid (setC_uq HUj.out (mrgC old c))
          clear hs HTK HSP HADD HUj
          have rw5 := own_row O10.out HXL.out
          obtain ⟨c19, f19⟩ := own_cell rw5 HXL.out HOLD.out (j := 19) rfl
          have d19 : w5.cell? ⟨g7, 19, none⟩ = some (.bool c.gone) := (K10.out.cell 19).trans (by rw [← HCC.out]; rfl)
          obtain ⟨G, hG⟩ : ∃ y, (old.gone || c.gone) = y := ⟨_, rfl⟩
          have st := (rw5.stored (k * 20 + 19) (.bool G)).1
          have hmg : mrgC old c = setG old G := by rw [← hG]; rfl
          rw [cls_setG HOLD.out, ← hmg, ← HSET.out] at st
          have HST := Lib.hid st
          have HBS := Lib.hid (B10.out.setCell (p := ⟨gl, k * 20 + 19, none⟩) HGL.out (.bool G))
          have HLX := Lib.hid (show (setC X (mrgC old c)).length = x from by unfold setC; rw [List.length_map, HXL.out])
          clear st hmg rw5 O10 B10 K10
          cases hgo : old.gone
          all_goals
            rw [hgo] at c19 hG
            simp only [Bool.false_or, Bool.true_or] at hG
            subst hG
            clear hgo
            go_wp2_with fail
            have HOZ := Lib.hid (show OwnCls (w5.setCell ⟨gl, k * 20 + 19, none⟩ _) w.heap.size (.slice (some ⟨gl, 0, none⟩) x cx) (setC X (mrgC old c)) from by
              unfold OwnCls
              rw [HLX.out]
              exact HST.out)
            have HLZ := Lib.hid (show (setC X (mrgC old c)).length ≤ n + (j + 1) from by rw [HLX.out, ← HXL.out]; have := HLj.out; omega)
            first
              | (go_roundw
                 case rel => exact ⟨j + 1, _, HKN.out, by go_num, HBS, HOZ, HA, HUX, HLZ⟩
                 case measure =>
                   have := HKN.out
                   simp [intOf]
                   omega)
              | (refine ⟨⟨j + 1, _, HKN.out, by go_num, HBS, HOZ, HA, HUX, HLZ⟩, ?_⟩
                 have := HKN.out
                 simp [intOf]
                 omega)
    · obtain rfl : j = NM := by omega
      have hall : addAll L M = some X := by
        have := HXj.out
        rwa [← HNM.out, List.take_length] at this
      have hjo : joinS L M = if 64 < openN X then (L, 27) else (X, 0) := by unfold joinS; rw [hall]
      have HJO := Lib.hid (HD.out.symm.trans hjo)
      have HALL := Lib.hid hall
      obtain ⟨O, hO⟩ : ∃ O, openN X = O := ⟨_, rfl⟩
      have OP := Lib.hid (own_open wr HOj.out (by rw [HXL.out]; omega))
      rw [hO] at OP HJO
      have HO := Lib.hid hO
      clear hall hjo hO
      go_wp2_with fail
      refine OP.out.mono ?_
      rintro e w6 ⟨rfl, h6⟩
      rw [h6]
      clear h6 w6 OP
      by_cases ho : 64 < O
      · have e2 : decide ((64 : Int) < (O : Int)) = true := decide_eq_true (by omega)
        obtain rfl : D = (L, 27) := HJO.out.trans (if_pos ho)
        clear ho HJO
        go_wp2
        go_ret
        exact ⟨rfl, STAY.out _ HBj.out⟩
      · have e2 : decide ((64 : Int) < (O : Int)) = false := decide_eq_false (by omega)
        obtain rfl : D = (X, 0) := HJO.out.trans (if_neg ho)
        have HPX := Lib.hid (show Pg X from H.out.pg.all H'.out.pg HALL.out (by rw [HO.out]; omega))
        have HQ := Lib.hid (H.out.below HBj.out)
        have c90 := HQ.out.blk.cell 0
        have f90 := HQ.out.blk.frozen 0
        clear ho HJO c0
        go_wp2
        go_ret
        have hset := Only.setCell (F := fun i => i = q) (Only.of_below HBj.out _) (p := ⟨q, 0, none⟩) (.inl rfl) (.slice Ax x cx)
        have hset1 := Only.setCell (F := fun i => i = q) (Only.refl _ wr) (p := ⟨q, 0, none⟩) (.inl rfl) (.slice Ax x cx)
        have hown := hset1.owns HOj.out fun g hg e => (HOj.out.ne_blk HQ.out.blk (by decide)) (by rw [hg, e])
        refine ⟨rfl, _, ⟨HQ.out.blk.set_ 0 _, OwnCls.low hown HBASE.out, HPX.out, Nat.le_trans HLj.out (by omega)⟩, fun g hg => .inr (HOj.out.lt g hg).1, hset⟩
end Go.Proofs.Ytbihklfcdpgcgaa
