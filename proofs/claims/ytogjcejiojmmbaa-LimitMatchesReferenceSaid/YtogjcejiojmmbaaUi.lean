/- The reference's Pause (the code's walk, turned to it). -/
import Derived.Test.YtogjcejiojmmbaaUh
namespace Go.Proofs.Ytogjcejiojmmbaa
open Go.RowKit Go.Shelf

set_option maxHeartbeats 2000000 in
set_option maxRecDepth 100000 in
theorem rPause_any (w : World) (L : Lm) (s : Stp2) (B : Nat) (A : Option Addr) (c : Nat) (h : LmAt w B A L) (hB : B ≤ w.heap.size) :
    Calls Try.prog 18 #[.agg (L.cells A c), .agg (encStop s).toArray] w (LmPost w (pauseS L s)) := by
  obtain ⟨i0, hi0, hz0, hz1, hz2⟩ := info_parts Try.infoStop
  obtain ⟨r, hr⟩ : ∃ r, pauseS L s = r := ⟨_, rfl⟩
  rw [hr]
  obtain ⟨p, q⟩ := s
  have hpr := fun W (b : Below w.heap.size w W) => rProper_any W L B A c (h.below (b.mono hB)) (Nat.le_trans hB b.size)
  have hst := fun W => rStop_any W p q
  have hcl := h.1
  show Calls Try.prog 18 #[.agg #[.string L.id, .int .i64 L.n, .int .i64 L.u, .int .i64 L.f, .slice A L.S.length c], .agg #[.int .i64 p, .int .i64 q]] w _
  have hb := (((Below.refl w.heap.size w).alloc (Nat.le_refl _) (.cells #[.string L.id, .int .i64 L.n, .int .i64 L.u, .int .i64 L.f, .slice A L.S.length c] 26)).alloc (by simp) (.cells #[.int .i64 p, .int .i64 q] 28)).alloc (by simp; omega) (.cells #[.string ⟨#[]⟩, .int .i64 0, .int .i64 0, .int .i64 0, .slice none 0 0] 26)
  have k0 := ((Blk.new w 26 #[.string L.id, .int .i64 L.n, .int .i64 L.u, .int .i64 L.f, .slice A L.S.length c]).alloc (.cells #[.int .i64 p, .int .i64 q] 28)).alloc (.cells #[.string ⟨#[]⟩, .int .i64 0, .int .i64 0, .int .i64 0, .slice none 0 0] 26)
  have k1 := (Blk.new1 w (.cells #[.string L.id, .int .i64 L.n, .int .i64 L.u, .int .i64 L.f, .slice A L.S.length c] 26) 28 #[.int .i64 p, .int .i64 q]).alloc (.cells #[.string ⟨#[]⟩, .int .i64 0, .int .i64 0, .int .i64 0, .slice none 0 0] 26)
  have k2 := Blk.new2 w (.cells #[.string L.id, .int .i64 L.n, .int .i64 L.u, .int .i64 L.f, .slice A L.S.length c] 26) (.cells #[.int .i64 p, .int .i64 q] 28) 26 #[.string ⟨#[]⟩, .int .i64 0, .int .i64 0, .int .i64 0, .slice none 0 0]
  have HPR := Lib.hid hpr
  have HST := Lib.hid hst
  have HCL := Lib.hid hcl
  have HR := Lib.hid hr
  clear hpr hst hcl hr h
  obtain ⟨x0, x1, x2⟩ := k0.all
  obtain ⟨y0, y1, y2⟩ := k1.all
  obtain ⟨z0, z1, z2⟩ := k2.all
  unfold pauseS at HR
  cases hp : prB L with
  | false =>
    have h2 := HPR.out
    have hr := HR.out
    rw [hp] at h2 hr
    rw [Bool.false_and, if_neg (by simp)] at hr
    have H2 := Lib.hid h2
    subst hr
    clear h2 hp HPR HR
    go_enter Try.func18, Try.ntmps18
    go_wp2_with fail
    refine (H2.out _ hb).mono ?_
    rintro e w2 ⟨rfl, b⟩
    have hb2 := hb.trans (b.mono hb.size)
    have m2 := k2.below b k2.lt
    clear b hb k0 k1 k2 x0 x1 x2 y0 y1 y2 z0 z1 z2
    obtain ⟨z0, z1, z2⟩ := m2.all
    go_wp2
    have m3 := m2.set5 (b0 := .string ⟨#[]⟩) (b1 := .int .i64 0) (b2 := .int .i64 0) (b3 := .int .i64 0) (b4 := .slice none 0 0)
    have hb3 := below_set5 (b0 := .string ⟨#[]⟩) (b1 := .int .i64 0) (b2 := .int .i64 0) (b3 := .int .i64 0) (b4 := .slice none 0 0) hb2 (show w.heap.size ≤ w.heap.size + 1 + 1 by omega)
    unfold set5 at m3 hb3
    generalize ((((w2.setCell ⟨w.heap.size + 1 + 1, 0, none⟩ (.string ⟨#[]⟩)).setCell ⟨w.heap.size + 1 + 1, 1, none⟩ (.int .i64 0)).setCell ⟨w.heap.size + 1 + 1, 2, none⟩ (.int .i64 0)).setCell ⟨w.heap.size + 1 + 1, 3, none⟩ (.int .i64 0)).setCell ⟨w.heap.size + 1 + 1, 4, none⟩ (.slice none 0 0) = W3 at *
    obtain ⟨c0, c1, c2⟩ := m3.all
    refine bodyPost_ret (v := .tuple #[.agg (Lm.zero.cells none 0), .int .i64 1]) (by simp [results, Try.results18, go_sem, c0, Lm.cells, Lm.zero]) rfl ⟨none, 0, rfl, StopsAt.nil _ _ _, hb3⟩
  | true =>
    have h2 := HPR.out
    have hr := HR.out
    have h3 := HST.out
    rw [hp] at h2 hr
    cases hq : psB (p, q) with
    | false =>
      rw [hq] at hr h3
      rw [Bool.and_false, if_neg (by simp)] at hr
      have H2 := Lib.hid h2
      have H3 := Lib.hid h3
      subst hr
      clear h2 h3 hp hq HPR HR HST
      go_enter Try.func18, Try.ntmps18
      go_wp2_with fail
      refine (H2.out _ hb).mono ?_
      rintro e w2 ⟨rfl, b⟩
      have hb1 := hb.trans (b.mono hb.size)
      have n0 := k0.below b k0.lt
      have n1 := k1.below b k1.lt
      have n2 := k2.below b k2.lt
      clear b hb k0 k1 k2 x0 x1 x2 y0 y1 y2 z0 z1 z2 H2
      obtain ⟨y0, y1, y2⟩ := n1.all
      go_wp2_with fail
      refine (H3.out _).mono ?_
      rintro e w3 ⟨rfl, b⟩
      have hb2 := hb1.trans (b.mono hb1.size)
      have m0 := n0.below b n0.lt
      have m1 := n1.below b n1.lt
      have m2 := n2.below b n2.lt
      clear b hb1 n0 n1 n2 y0 y1 y2 H3
      obtain ⟨x0, x1, x2⟩ := m0.all
      obtain ⟨y0, y1, y2⟩ := m1.all
      obtain ⟨z0, z1, z2⟩ := m2.all
      go_wp2
      have m3 := m2.set5 (b0 := .string ⟨#[]⟩) (b1 := .int .i64 0) (b2 := .int .i64 0) (b3 := .int .i64 0) (b4 := .slice none 0 0)
      have hb3 := below_set5 (b0 := .string ⟨#[]⟩) (b1 := .int .i64 0) (b2 := .int .i64 0) (b3 := .int .i64 0) (b4 := .slice none 0 0) hb2 (show w.heap.size ≤ w.heap.size + 1 + 1 by omega)
      unfold set5 at m3 hb3
      generalize ((((w3.setCell ⟨w.heap.size + 1 + 1, 0, none⟩ (.string ⟨#[]⟩)).setCell ⟨w.heap.size + 1 + 1, 1, none⟩ (.int .i64 0)).setCell ⟨w.heap.size + 1 + 1, 2, none⟩ (.int .i64 0)).setCell ⟨w.heap.size + 1 + 1, 3, none⟩ (.int .i64 0)).setCell ⟨w.heap.size + 1 + 1, 4, none⟩ (.slice none 0 0) = W3 at *
      obtain ⟨c0, c1, c2⟩ := m3.all
      refine bodyPost_ret (v := .tuple #[.agg (Lm.zero.cells none 0), .int .i64 1]) (by simp [results, Try.results18, go_sem, c0, Lm.cells, Lm.zero]) rfl ⟨none, 0, rfl, StopsAt.nil _ _ _, hb3⟩
    | true =>
      rw [hq] at hr h3
      rw [if_pos (by rfl)] at hr
      have H2 := Lib.hid h2
      have H3 := Lib.hid h3
      have hl60 := (prB_iff.1 hp).2.2.2.1
      clear h2 h3 hp hq HPR HR HST
      by_cases h60 : L.S.length = 60
      · rw [if_pos h60] at hr
        subst hr
        have e60 : ((L.S.length : Int) == 60) = true := by simp [h60]
        have H60 := Lib.hid h60
        clear h60
        go_enter Try.func18, Try.ntmps18
        go_wp2_with fail
        refine (H2.out _ hb).mono ?_
        rintro e w2 ⟨rfl, b⟩
        have hb1 := hb.trans (b.mono hb.size)
        have n0 := k0.below b k0.lt
        have n1 := k1.below b k1.lt
        have n2 := k2.below b k2.lt
        clear b hb k0 k1 k2 x0 x1 x2 y0 y1 y2 z0 z1 z2 H2
        obtain ⟨y0, y1, y2⟩ := n1.all
        go_wp2_with fail
        refine (H3.out _).mono ?_
        rintro e w3 ⟨rfl, b⟩
        have hb2 := hb1.trans (b.mono hb1.size)
        have m0 := n0.below b n0.lt
        have m1 := n1.below b n1.lt
        have m2 := n2.below b n2.lt
        clear b hb1 n0 n1 n2 y0 y1 y2 H3
        obtain ⟨x0, x1, x2⟩ := m0.all
        obtain ⟨y0, y1, y2⟩ := m1.all
        obtain ⟨z0, z1, z2⟩ := m2.all
        go_wp2
        have m3 := m2.set5 (b0 := .string ⟨#[]⟩) (b1 := .int .i64 0) (b2 := .int .i64 0) (b3 := .int .i64 0) (b4 := .slice none 0 0)
        have hb3 := below_set5 (b0 := .string ⟨#[]⟩) (b1 := .int .i64 0) (b2 := .int .i64 0) (b3 := .int .i64 0) (b4 := .slice none 0 0) hb2 (show w.heap.size ≤ w.heap.size + 1 + 1 by omega)
        unfold set5 at m3 hb3
        generalize ((((w3.setCell ⟨w.heap.size + 1 + 1, 0, none⟩ (.string ⟨#[]⟩)).setCell ⟨w.heap.size + 1 + 1, 1, none⟩ (.int .i64 0)).setCell ⟨w.heap.size + 1 + 1, 2, none⟩ (.int .i64 0)).setCell ⟨w.heap.size + 1 + 1, 3, none⟩ (.int .i64 0)).setCell ⟨w.heap.size + 1 + 1, 4, none⟩ (.slice none 0 0) = W3 at *
        obtain ⟨c0, c1, c2⟩ := m3.all
        refine bodyPost_ret (v := .tuple #[.agg (Lm.zero.cells none 0), .int .i64 2]) (by simp [results, Try.results18, go_sem, c0, Lm.cells, Lm.zero]) rfl ⟨none, 0, rfl, StopsAt.nil _ _ _, hb3⟩
      · rw [if_neg h60] at hr
        subst hr
        have e60 : ((L.S.length : Int) == 60) = false := by simp; omega
        clear h60
        go_enter Try.func18, Try.ntmps18
        go_wp2_with fail
        refine (H2.out _ hb).mono ?_
        rintro e w2 ⟨rfl, b⟩
        have hb1 := hb.trans (b.mono hb.size)
        have n0 := k0.below b k0.lt
        have n1 := k1.below b k1.lt
        have n2 := k2.below b k2.lt
        clear b hb k0 k1 k2 x0 x1 x2 y0 y1 y2 z0 z1 z2 H2
        obtain ⟨y0, y1, y2⟩ := n1.all
        go_wp2_with fail
        refine (H3.out _).mono ?_
        rintro e w3 ⟨rfl, b⟩
        have hb2 := hb1.trans (b.mono hb1.size)
        have m0 := n0.below b n0.lt
        have m1 := n1.below b n1.lt
        have m2 := n2.below b n2.lt
        clear b hb1 n0 n1 n2 y0 y1 y2 H3
        obtain ⟨x0, x1, x2⟩ := m0.all
        obtain ⟨y0, y1, y2⟩ := m1.all
        obtain ⟨z0, z1, z2⟩ := m2.all
        go_wp2_with fail
        clear x0 x1 x2 y0 y1 y2 z0 z1 z2
        have hbD := hb2.drew
        have m0D := m0.drew
        have m1D := m1.drew
        have m2D := m2.drew
        refine wp_region_bush (fun V => Blk V w.heap.size 26 #[.string L.id, .int .i64 L.n, .int .i64 L.u, .int .i64 L.f, .slice A L.S.length c] ∧ Blk V (w.heap.size + 1) 28 #[.int .i64 p, .int .i64 q]) [1, 2, 4] 3 [] [6, 7, 8] (by kernel_rfl) (by kernel_rfl) (fun _ d _ _ _ h => by cases d <;> exact h) ⟨m0, m1⟩ ?_
        simp only [pick, List.drop_succ_cons, List.drop_zero, List.head?_cons, Option.toList_some, List.cons_append, List.nil_append, List.append_nil]
        repeat (refine wpHeld_step ?_ rfl ?_ ?_; rotate_left; · (intro V hV; obtain ⟨v0, v1, v2⟩ := hV.1.all; obtain ⟨x0, x1, x2⟩ := hV.2.all; go_simp; with_reducible rfl))
        refine wpHeld_nil ?_
        clear hb2 m0 m1 m2
        generalize w3.drew = V at *
        refine wpBush_two 0 5 (by kernel_rfl) ?_ ?_
        · simp only [pick, List.drop_zero, List.head?_cons, Option.toList_some, List.append_nil]
          go_wp2_with fail
          have hw1 := m1D.lt
          have hw2 := m2D.lt
          have own0 := World.ownsRow_lit (base := w.heap.size) (e := 28) (size := 2) V #[] 0 (by have := hbD.size; omega) (by unfold maxLen; omega) rfl
          replace hbD := hbD.alloc hbD.size (.cells #[] 28)
          replace m0D := m0D.alloc (.cells #[] 28)
          replace m1D := m1D.alloc (.cells #[] 28)
          replace m2D := m2D.alloc (.cells #[] 28)
          have hg0 : V.heap.size < (V.alloc (.cells #[] 28)).heap.size := by simp
          refine ⟨⟨m0D, m1D⟩, ?_⟩
          generalize V.heap.size = g0 at *
          generalize V.alloc (.cells #[] 28) = V at *
          refine wpBush_two 3 5 (by kernel_rfl) ?_ ?_
          · skip
            simp only [pick, List.drop_succ_cons, List.drop_zero, List.head?_cons, Option.toList_some, List.append_nil]
            have hst := HCL.out.below (hbD.mono hB)
            have hszl := hbD.size
            go_wp2_with (at_builtin; refine wpList_append_any rfl _ _ 24 rfl w.heap.size 28 i0 _ 2 16 Try.underlying24 hi0 hz0 hz1 hz2 rfl (by omega) (.slice (some ⟨g0, 0, none⟩) 0 0) 0 [] rfl own0 A L.S.length c (stopCells L.S) rfl (stopCells_len L.S) (stops_news hst) (stopCells_one L.S) (by unfold maxLen; omega) (by omega) hszl ?_; intro v4 X own gr4 l4)
            simp only [Nat.zero_add, List.nil_append] at own
            have hob : Value.ownBlock (.slice (some ⟨g0, 0, none⟩) 0 0) = some g0 := rfl
            rw [hob] at gr4
            have m0X := m0D.grown gr4 (by intro he; injection he with he; omega)
            have m1X := m1D.grown gr4 (by intro he; injection he with he; omega)
            have m2X := m2D.grown gr4 (by intro he; injection he with he; omega)
            have hbX := hbD.grown gr4 hszl (fun x hx => by injection hx with hx; omega)
            have hv : ∃ A' c', v4 = .slice A' L.S.length c' := by
              rcases own.2 with ⟨hv, h0⟩ | ⟨g, cap, cur, hv, _⟩
              · exact ⟨none, 0, by rw [hv, h0]⟩
              · exact ⟨_, _, hv⟩
            obtain ⟨A4, c4, rfl⟩ := hv
            clear hst hszl hob gr4 l4 own0 m0D m1D m2D hbD
            refine ⟨⟨m0X, m1X⟩, ?_⟩
            refine wpBush_one 5 (by kernel_rfl) ?_
            simp only [pick, List.drop_succ_cons, List.drop_zero, List.head?_cons, Option.toList_some, List.append_nil]
            go_wp2_with fail
            have kn := Blk.new X 28 #[.int .i64 p, .int .i64 q]
            replace hbX := hbX.alloc hbX.size (.cells #[.int .i64 p, .int .i64 q] 28)
            replace m0X := m0X.alloc (.cells #[.int .i64 p, .int .i64 q] 28)
            replace m1X := m1X.alloc (.cells #[.int .i64 p, .int .i64 q] 28)
            replace m2X := m2X.alloc (.cells #[.int .i64 p, .int .i64 q] 28)
            replace own := own.alloc (.cells #[.int .i64 p, .int .i64 q] 28)
            refine ⟨⟨m0X, m1X⟩, ?_⟩
            generalize X.heap.size = gn at *
            generalize X.alloc (.cells #[.int .i64 p, .int .i64 q] 28) = V2 at *
            refine wpBush_end (by kernel_rfl) (by kernel_rfl) (by kernel_rfl) ?_
            simp only [pick, List.drop_succ_cons, List.drop_zero, List.head?_cons, Option.toList_some, List.cons_append, List.nil_append, List.append_nil]
            refine wpHeld_nil ?_
            have hszl := hbX.size
            go_wp2_with (at_builtin; refine wpList_append_lies _ rfl _ _ 24 rfl w.heap.size 28 i0 _ 2 16 Try.underlying24 hi0 hz0 hz1 hz2 rfl (by omega) (.slice A4 L.S.length c4) L.S.length _ rfl own ⟨gn, 0, none⟩ 1 1 [.int .i64 p, .int .i64 q] rfl rfl (World.news_of_block kn) (stopCells_one [(p, q)]) (by omega) (by unfold maxLen; omega) (by omega) hszl V2.heap.size rfl ?_; intro gz cz Y own9 gr9 l9 z9; obtain ⟨x0, x1, x2⟩ := (m0X.grown gr9 (fun he => own_blk_ne own m0X (by decide) he.symm)).all; obtain ⟨z0, z1, z2⟩ := (m2X.grown gr9 (fun he => own_blk_ne own m2X (by decide) he.symm)).all)
            have m0Y := m0X.grown gr9 (fun he => own_blk_ne own m0X (by decide) he.symm)
            have m2Y := m2X.grown gr9 (fun he => own_blk_ne own m2X (by decide) he.symm)
            have hbY := hbX.grown gr9 hszl (fun x hx => (own.lt x hx).1)
            clear gr9 l9 kn own m0X m1X m2X hbX hszl
            clear x0 x1 x2 z0 z1 z2
            have m0Z := m0Y.set_ 4 (.slice (some ⟨gz, 0, none⟩) (L.S.length + 1) cz)
            have m2Z := m2Y.far (p := ⟨w.heap.size, 4, none⟩) (show w.heap.size + 1 + 1 ≠ w.heap.size by omega) (.slice (some ⟨gz, 0, none⟩) (L.S.length + 1) cz)
            have hbZ := hbY.setCell (p := ⟨w.heap.size, 4, none⟩) (Nat.le_refl w.heap.size) (.slice (some ⟨gz, 0, none⟩) (L.S.length + 1) cz)
            have ownZ := Only.owns (F := fun i => i = w.heap.size) ((Only.refl (fun i => i = w.heap.size) Y).setCell (p := ⟨w.heap.size, 4, none⟩) (.inl rfl) (.slice (some ⟨gz, 0, none⟩) (L.S.length + 1) cz)) own9 (fun g hg he => own_blk_ne own9 m0Y (by decide) (he ▸ hg))
            clear m0Y m2Y hbY own9
            have hzl : gz < (Y.setCell ⟨w.heap.size, 4, none⟩ (.slice (some ⟨gz, 0, none⟩) (L.S.length + 1) cz)).heap.size := by simpa [World.setCell] using z9
            generalize Y.setCell ⟨w.heap.size, 4, none⟩ (.slice (some ⟨gz, 0, none⟩) (L.S.length + 1) cz) = Z at *
            have m3 := m2Z.set5 (b0 := .string L.id) (b1 := .int .i64 L.n) (b2 := .int .i64 L.u) (b3 := .int .i64 L.f) (b4 := .slice (some ⟨gz, 0, none⟩) (L.S.length + 1) cz)
            have hb3 := below_set5 (b0 := .string L.id) (b1 := .int .i64 L.n) (b2 := .int .i64 L.u) (b3 := .int .i64 L.f) (b4 := .slice (some ⟨gz, 0, none⟩) (L.S.length + 1) cz) hbZ (show w.heap.size ≤ w.heap.size + 1 + 1 by omega)
            have own3 := Only.owns (only_set5 (g := w.heap.size + 1 + 1) (b0 := .string L.id) (b1 := .int .i64 L.n) (b2 := .int .i64 L.u) (b3 := .int .i64 L.f) (b4 := .slice (some ⟨gz, 0, none⟩) (L.S.length + 1) cz) (Only.refl (fun i => i = w.heap.size + 1 + 1) Z)) ownZ (fun g hg he => own_blk_ne ownZ m2Z (by decide) (he ▸ hg))
            have hsz3 : gz < (set5 Z (w.heap.size + 1 + 1) (.string L.id) (.int .i64 L.n) (.int .i64 L.u) (.int .i64 L.f) (.slice (some ⟨gz, 0, none⟩) (L.S.length + 1) cz)).heap.size := by simpa [set5, World.setCell] using hzl
            unfold set5 at m3 hb3 own3 hsz3
            generalize ((((Z.setCell ⟨w.heap.size + 1 + 1, 0, none⟩ (.string L.id)).setCell ⟨w.heap.size + 1 + 1, 1, none⟩ (.int .i64 L.n)).setCell ⟨w.heap.size + 1 + 1, 2, none⟩ (.int .i64 L.u)).setCell ⟨w.heap.size + 1 + 1, 3, none⟩ (.int .i64 L.f)).setCell ⟨w.heap.size + 1 + 1, 4, none⟩ (.slice (some ⟨gz, 0, none⟩) (L.S.length + 1) cz) = W3 at *
            obtain ⟨c0, c1, c2⟩ := m3.all
            have hll : (L.S ++ [(p, q)]).length = L.S.length + 1 := by simp
            refine bodyPost_ret (v := .tuple #[.agg ((⟨L.id, L.n, L.u, L.f, L.S ++ [(p, q)]⟩ : Lm).cells (some ⟨gz, 0, none⟩) cz), .int .i64 0]) (by simp [results, Try.results18, go_sem, c0, Lm.cells]) rfl ⟨some ⟨gz, 0, none⟩, cz, rfl, StopsAt.of_row (n := L.S.length + 1) (cap := cz) (base := w.heap.size) hll (by rw [stopCells_app]; exact own3) hsz3, hb3⟩
          · skip
            simp only [pick, List.drop_succ_cons, List.drop_zero, List.head?_cons, Option.toList_some, List.append_nil]
            go_wp2_with fail
            have kn := Blk.new V 28 #[.int .i64 p, .int .i64 q]
            replace hbD := hbD.alloc hbD.size (.cells #[.int .i64 p, .int .i64 q] 28)
            replace m0D := m0D.alloc (.cells #[.int .i64 p, .int .i64 q] 28)
            replace m1D := m1D.alloc (.cells #[.int .i64 p, .int .i64 q] 28)
            replace m2D := m2D.alloc (.cells #[.int .i64 p, .int .i64 q] 28)
            replace own0 := own0.alloc (.cells #[.int .i64 p, .int .i64 q] 28)
            refine ⟨⟨m0D, m1D⟩, ?_⟩
            have hgn : g0 < V.heap.size := hg0
            generalize V.heap.size = gn at *
            generalize V.alloc (.cells #[.int .i64 p, .int .i64 q] 28) = V at *
            refine wpBush_one 3 (by kernel_rfl) ?_
            simp only [pick, List.drop_succ_cons, List.drop_zero, List.head?_cons, Option.toList_some, List.append_nil]
            have hst := HCL.out.below (hbD.mono hB)
            have hszl := hbD.size
            go_wp2_with (at_builtin; refine wpList_append_any rfl _ _ 24 rfl w.heap.size 28 i0 _ 2 16 Try.underlying24 hi0 hz0 hz1 hz2 rfl (by omega) (.slice (some ⟨g0, 0, none⟩) 0 0) 0 [] rfl own0 A L.S.length c (stopCells L.S) rfl (stopCells_len L.S) (stops_news hst) (stopCells_one L.S) (by unfold maxLen; omega) (by omega) hszl ?_; intro v4 X own gr4 l4)
            simp only [Nat.zero_add, List.nil_append] at own
            have hob : Value.ownBlock (.slice (some ⟨g0, 0, none⟩) 0 0) = some g0 := rfl
            rw [hob] at gr4
            have m0X := m0D.grown gr4 (by intro he; injection he with he; omega)
            have m1X := m1D.grown gr4 (by intro he; injection he with he; omega)
            have m2X := m2D.grown gr4 (by intro he; injection he with he; omega)
            have knX := kn.grown gr4 (by intro he; injection he with he; omega)
            have hbX := hbD.grown gr4 hszl (fun x hx => by injection hx with hx; omega)
            have hv : ∃ A' c', v4 = .slice A' L.S.length c' := by
              rcases own.2 with ⟨hv, h0⟩ | ⟨g, cap, cur, hv, _⟩
              · exact ⟨none, 0, by rw [hv, h0]⟩
              · exact ⟨_, _, hv⟩
            obtain ⟨A4, c4, rfl⟩ := hv
            clear hst hszl hob gr4 l4 own0 m0D m1D m2D hbD kn
            refine ⟨⟨m0X, m1X⟩, ?_⟩
            have kn := knX
            clear knX
            refine wpBush_end (by kernel_rfl) (by kernel_rfl) (by kernel_rfl) ?_
            simp only [pick, List.drop_succ_cons, List.drop_zero, List.head?_cons, Option.toList_some, List.cons_append, List.nil_append, List.append_nil]
            refine wpHeld_nil ?_
            have hszl := hbX.size
            go_wp2_with (at_builtin; refine wpList_append_lies _ rfl _ _ 24 rfl w.heap.size 28 i0 _ 2 16 Try.underlying24 hi0 hz0 hz1 hz2 rfl (by omega) (.slice A4 L.S.length c4) L.S.length _ rfl own ⟨gn, 0, none⟩ 1 1 [.int .i64 p, .int .i64 q] rfl rfl (World.news_of_block kn) (stopCells_one [(p, q)]) (by omega) (by unfold maxLen; omega) (by omega) hszl X.heap.size rfl ?_; intro gz cz Y own9 gr9 l9 z9; obtain ⟨x0, x1, x2⟩ := (m0X.grown gr9 (fun he => own_blk_ne own m0X (by decide) he.symm)).all; obtain ⟨z0, z1, z2⟩ := (m2X.grown gr9 (fun he => own_blk_ne own m2X (by decide) he.symm)).all)
            have m0Y := m0X.grown gr9 (fun he => own_blk_ne own m0X (by decide) he.symm)
            have m2Y := m2X.grown gr9 (fun he => own_blk_ne own m2X (by decide) he.symm)
            have hbY := hbX.grown gr9 hszl (fun x hx => (own.lt x hx).1)
            clear gr9 l9 kn own m0X m1X m2X hbX hszl
            clear x0 x1 x2 z0 z1 z2
            have m0Z := m0Y.set_ 4 (.slice (some ⟨gz, 0, none⟩) (L.S.length + 1) cz)
            have m2Z := m2Y.far (p := ⟨w.heap.size, 4, none⟩) (show w.heap.size + 1 + 1 ≠ w.heap.size by omega) (.slice (some ⟨gz, 0, none⟩) (L.S.length + 1) cz)
            have hbZ := hbY.setCell (p := ⟨w.heap.size, 4, none⟩) (Nat.le_refl w.heap.size) (.slice (some ⟨gz, 0, none⟩) (L.S.length + 1) cz)
            have ownZ := Only.owns (F := fun i => i = w.heap.size) ((Only.refl (fun i => i = w.heap.size) Y).setCell (p := ⟨w.heap.size, 4, none⟩) (.inl rfl) (.slice (some ⟨gz, 0, none⟩) (L.S.length + 1) cz)) own9 (fun g hg he => own_blk_ne own9 m0Y (by decide) (he ▸ hg))
            clear m0Y m2Y hbY own9
            have hzl : gz < (Y.setCell ⟨w.heap.size, 4, none⟩ (.slice (some ⟨gz, 0, none⟩) (L.S.length + 1) cz)).heap.size := by simpa [World.setCell] using z9
            generalize Y.setCell ⟨w.heap.size, 4, none⟩ (.slice (some ⟨gz, 0, none⟩) (L.S.length + 1) cz) = Z at *
            have m3 := m2Z.set5 (b0 := .string L.id) (b1 := .int .i64 L.n) (b2 := .int .i64 L.u) (b3 := .int .i64 L.f) (b4 := .slice (some ⟨gz, 0, none⟩) (L.S.length + 1) cz)
            have hb3 := below_set5 (b0 := .string L.id) (b1 := .int .i64 L.n) (b2 := .int .i64 L.u) (b3 := .int .i64 L.f) (b4 := .slice (some ⟨gz, 0, none⟩) (L.S.length + 1) cz) hbZ (show w.heap.size ≤ w.heap.size + 1 + 1 by omega)
            have own3 := Only.owns (only_set5 (g := w.heap.size + 1 + 1) (b0 := .string L.id) (b1 := .int .i64 L.n) (b2 := .int .i64 L.u) (b3 := .int .i64 L.f) (b4 := .slice (some ⟨gz, 0, none⟩) (L.S.length + 1) cz) (Only.refl (fun i => i = w.heap.size + 1 + 1) Z)) ownZ (fun g hg he => own_blk_ne ownZ m2Z (by decide) (he ▸ hg))
            have hsz3 : gz < (set5 Z (w.heap.size + 1 + 1) (.string L.id) (.int .i64 L.n) (.int .i64 L.u) (.int .i64 L.f) (.slice (some ⟨gz, 0, none⟩) (L.S.length + 1) cz)).heap.size := by simpa [set5, World.setCell] using hzl
            unfold set5 at m3 hb3 own3 hsz3
            generalize ((((Z.setCell ⟨w.heap.size + 1 + 1, 0, none⟩ (.string L.id)).setCell ⟨w.heap.size + 1 + 1, 1, none⟩ (.int .i64 L.n)).setCell ⟨w.heap.size + 1 + 1, 2, none⟩ (.int .i64 L.u)).setCell ⟨w.heap.size + 1 + 1, 3, none⟩ (.int .i64 L.f)).setCell ⟨w.heap.size + 1 + 1, 4, none⟩ (.slice (some ⟨gz, 0, none⟩) (L.S.length + 1) cz) = W3 at *
            obtain ⟨c0, c1, c2⟩ := m3.all
            have hll : (L.S ++ [(p, q)]).length = L.S.length + 1 := by simp
            refine bodyPost_ret (v := .tuple #[.agg ((⟨L.id, L.n, L.u, L.f, L.S ++ [(p, q)]⟩ : Lm).cells (some ⟨gz, 0, none⟩) cz), .int .i64 0]) (by simp [results, Try.results18, go_sem, c0, Lm.cells]) rfl ⟨some ⟨gz, 0, none⟩, cz, rfl, StopsAt.of_row (n := L.S.length + 1) (cap := cz) (base := w.heap.size) hll (by rw [stopCells_app]; exact own3) hsz3, hb3⟩
        · skip
          simp only [pick, List.drop_succ_cons, List.drop_zero, List.head?_cons, Option.toList_some, List.append_nil]
          go_wp2_with fail
          have kn := Blk.new V 28 #[.int .i64 p, .int .i64 q]
          replace hbD := hbD.alloc hbD.size (.cells #[.int .i64 p, .int .i64 q] 28)
          replace m0D := m0D.alloc (.cells #[.int .i64 p, .int .i64 q] 28)
          replace m1D := m1D.alloc (.cells #[.int .i64 p, .int .i64 q] 28)
          replace m2D := m2D.alloc (.cells #[.int .i64 p, .int .i64 q] 28)
          refine ⟨⟨m0D, m1D⟩, ?_⟩
          generalize V.heap.size = gn at *
          generalize V.alloc (.cells #[.int .i64 p, .int .i64 q] 28) = V at *
          refine wpBush_one 0 (by kernel_rfl) ?_
          have hgn := kn.lt
          simp only [pick, List.drop_zero, List.head?_cons, Option.toList_some, List.append_nil]
          go_wp2_with fail
          have hw1 := m1D.lt
          have hw2 := m2D.lt
          have own0 := World.ownsRow_lit (base := w.heap.size) (e := 28) (size := 2) V #[] 0 (by have := hbD.size; omega) (by unfold maxLen; omega) rfl
          replace hbD := hbD.alloc hbD.size (.cells #[] 28)
          replace m0D := m0D.alloc (.cells #[] 28)
          replace m1D := m1D.alloc (.cells #[] 28)
          replace m2D := m2D.alloc (.cells #[] 28)
          have hg0 : V.heap.size < (V.alloc (.cells #[] 28)).heap.size := by simp
          replace kn := kn.alloc (.cells #[] 28)
          refine ⟨⟨m0D, m1D⟩, ?_⟩
          generalize V.heap.size = g0 at *
          generalize V.alloc (.cells #[] 28) = V at *
          refine wpBush_one 3 (by kernel_rfl) ?_
          simp only [pick, List.drop_succ_cons, List.drop_zero, List.head?_cons, Option.toList_some, List.append_nil]
          have hst := HCL.out.below (hbD.mono hB)
          have hszl := hbD.size
          go_wp2_with (at_builtin; refine wpList_append_any rfl _ _ 24 rfl w.heap.size 28 i0 _ 2 16 Try.underlying24 hi0 hz0 hz1 hz2 rfl (by omega) (.slice (some ⟨g0, 0, none⟩) 0 0) 0 [] rfl own0 A L.S.length c (stopCells L.S) rfl (stopCells_len L.S) (stops_news hst) (stopCells_one L.S) (by unfold maxLen; omega) (by omega) hszl ?_; intro v4 X own gr4 l4)
          simp only [Nat.zero_add, List.nil_append] at own
          have hob : Value.ownBlock (.slice (some ⟨g0, 0, none⟩) 0 0) = some g0 := rfl
          rw [hob] at gr4
          have m0X := m0D.grown gr4 (by intro he; injection he with he; omega)
          have m1X := m1D.grown gr4 (by intro he; injection he with he; omega)
          have m2X := m2D.grown gr4 (by intro he; injection he with he; omega)
          have knX := kn.grown gr4 (by intro he; injection he with he; omega)
          have hbX := hbD.grown gr4 hszl (fun x hx => by injection hx with hx; omega)
          have hv : ∃ A' c', v4 = .slice A' L.S.length c' := by
            rcases own.2 with ⟨hv, h0⟩ | ⟨g, cap, cur, hv, _⟩
            · exact ⟨none, 0, by rw [hv, h0]⟩
            · exact ⟨_, _, hv⟩
          obtain ⟨A4, c4, rfl⟩ := hv
          clear hst hszl hob gr4 l4 own0 m0D m1D m2D hbD kn
          refine ⟨⟨m0X, m1X⟩, ?_⟩
          have kn := knX
          clear knX
          refine wpBush_end (by kernel_rfl) (by kernel_rfl) (by kernel_rfl) ?_
          simp only [pick, List.drop_succ_cons, List.drop_zero, List.head?_cons, Option.toList_some, List.cons_append, List.nil_append, List.append_nil]
          refine wpHeld_nil ?_
          have hszl := hbX.size
          go_wp2_with (at_builtin; refine wpList_append_lies _ rfl _ _ 24 rfl w.heap.size 28 i0 _ 2 16 Try.underlying24 hi0 hz0 hz1 hz2 rfl (by omega) (.slice A4 L.S.length c4) L.S.length _ rfl own ⟨gn, 0, none⟩ 1 1 [.int .i64 p, .int .i64 q] rfl rfl (World.news_of_block kn) (stopCells_one [(p, q)]) (by omega) (by unfold maxLen; omega) (by omega) hszl X.heap.size rfl ?_; intro gz cz Y own9 gr9 l9 z9; obtain ⟨x0, x1, x2⟩ := (m0X.grown gr9 (fun he => own_blk_ne own m0X (by decide) he.symm)).all; obtain ⟨z0, z1, z2⟩ := (m2X.grown gr9 (fun he => own_blk_ne own m2X (by decide) he.symm)).all)
          have m0Y := m0X.grown gr9 (fun he => own_blk_ne own m0X (by decide) he.symm)
          have m2Y := m2X.grown gr9 (fun he => own_blk_ne own m2X (by decide) he.symm)
          have hbY := hbX.grown gr9 hszl (fun x hx => (own.lt x hx).1)
          clear gr9 l9 kn own m0X m1X m2X hbX hszl
          clear x0 x1 x2 z0 z1 z2
          have m0Z := m0Y.set_ 4 (.slice (some ⟨gz, 0, none⟩) (L.S.length + 1) cz)
          have m2Z := m2Y.far (p := ⟨w.heap.size, 4, none⟩) (show w.heap.size + 1 + 1 ≠ w.heap.size by omega) (.slice (some ⟨gz, 0, none⟩) (L.S.length + 1) cz)
          have hbZ := hbY.setCell (p := ⟨w.heap.size, 4, none⟩) (Nat.le_refl w.heap.size) (.slice (some ⟨gz, 0, none⟩) (L.S.length + 1) cz)
          have ownZ := Only.owns (F := fun i => i = w.heap.size) ((Only.refl (fun i => i = w.heap.size) Y).setCell (p := ⟨w.heap.size, 4, none⟩) (.inl rfl) (.slice (some ⟨gz, 0, none⟩) (L.S.length + 1) cz)) own9 (fun g hg he => own_blk_ne own9 m0Y (by decide) (he ▸ hg))
          clear m0Y m2Y hbY own9
          have hzl : gz < (Y.setCell ⟨w.heap.size, 4, none⟩ (.slice (some ⟨gz, 0, none⟩) (L.S.length + 1) cz)).heap.size := by simpa [World.setCell] using z9
          generalize Y.setCell ⟨w.heap.size, 4, none⟩ (.slice (some ⟨gz, 0, none⟩) (L.S.length + 1) cz) = Z at *
          have m3 := m2Z.set5 (b0 := .string L.id) (b1 := .int .i64 L.n) (b2 := .int .i64 L.u) (b3 := .int .i64 L.f) (b4 := .slice (some ⟨gz, 0, none⟩) (L.S.length + 1) cz)
          have hb3 := below_set5 (b0 := .string L.id) (b1 := .int .i64 L.n) (b2 := .int .i64 L.u) (b3 := .int .i64 L.f) (b4 := .slice (some ⟨gz, 0, none⟩) (L.S.length + 1) cz) hbZ (show w.heap.size ≤ w.heap.size + 1 + 1 by omega)
          have own3 := Only.owns (only_set5 (g := w.heap.size + 1 + 1) (b0 := .string L.id) (b1 := .int .i64 L.n) (b2 := .int .i64 L.u) (b3 := .int .i64 L.f) (b4 := .slice (some ⟨gz, 0, none⟩) (L.S.length + 1) cz) (Only.refl (fun i => i = w.heap.size + 1 + 1) Z)) ownZ (fun g hg he => own_blk_ne ownZ m2Z (by decide) (he ▸ hg))
          have hsz3 : gz < (set5 Z (w.heap.size + 1 + 1) (.string L.id) (.int .i64 L.n) (.int .i64 L.u) (.int .i64 L.f) (.slice (some ⟨gz, 0, none⟩) (L.S.length + 1) cz)).heap.size := by simpa [set5, World.setCell] using hzl
          unfold set5 at m3 hb3 own3 hsz3
          generalize ((((Z.setCell ⟨w.heap.size + 1 + 1, 0, none⟩ (.string L.id)).setCell ⟨w.heap.size + 1 + 1, 1, none⟩ (.int .i64 L.n)).setCell ⟨w.heap.size + 1 + 1, 2, none⟩ (.int .i64 L.u)).setCell ⟨w.heap.size + 1 + 1, 3, none⟩ (.int .i64 L.f)).setCell ⟨w.heap.size + 1 + 1, 4, none⟩ (.slice (some ⟨gz, 0, none⟩) (L.S.length + 1) cz) = W3 at *
          obtain ⟨c0, c1, c2⟩ := m3.all
          have hll : (L.S ++ [(p, q)]).length = L.S.length + 1 := by simp
          refine bodyPost_ret (v := .tuple #[.agg ((⟨L.id, L.n, L.u, L.f, L.S ++ [(p, q)]⟩ : Lm).cells (some ⟨gz, 0, none⟩) cz), .int .i64 0]) (by simp [results, Try.results18, go_sem, c0, Lm.cells]) rfl ⟨some ⟨gz, 0, none⟩, cz, rfl, StopsAt.of_row (n := L.S.length + 1) (cap := cz) (base := w.heap.size) hll (by rw [stopCells_app]; exact own3) hsz3, hb3⟩
end Go.Proofs.Ytogjcejiojmmbaa
