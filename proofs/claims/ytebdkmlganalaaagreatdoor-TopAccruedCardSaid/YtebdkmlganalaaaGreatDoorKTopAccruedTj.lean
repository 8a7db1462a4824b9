/- The walk of Change. -/
import Derived.Test.YtebdkmlganalaaaGreatDoorKTopAccruedGBJ
namespace Go.Proofs.YtebdkmlganalaaaGreatDoor
open Go.RowKit Go.Shelf

/-- .. and the stops are the argument's. -/
def LmPostC (w : World) (B : Nat) (A : Option Addr) (r : Lm × Int) (e : Ending) (w' : World) : Prop :=
  ∃ A' c', e = .returned (.tuple #[.agg (r.1.cells A' c'), .int .i64 r.2]) ∧ (StopsAt w B A' r.1.S ∧ (r.1.S ≠ [] → A' = A)) ∧ Below w.heap.size w w'

/-- What Change returns. -/
noncomputable def changeS (L : Lm) (day n u least : Int) (l : List Int) : Lm × Int :=
  if prB L = false ∨ isB day = false ∨ ptB n u = false ∨ least < 0 ∨ 1000000 < least then (Lm.zero, 1)
  else if (dueS L l).2 ≠ 0 then (Lm.zero, (dueS L l).2)
  else if (dueS L l).1 < day then (L, 0)
  else if (dueS ⟨L.id, n, u, L.f, L.S⟩ l).2 ≠ 0 then (Lm.zero, (dueS ⟨L.id, n, u, L.f, L.S⟩ l).2)
  else if (dueS ⟨L.id, n, u, L.f, L.S⟩ l).1 < day + least then
    (if (dueS ⟨L.id, least, 1, day, L.S⟩ l).2 ≠ 0 then (Lm.zero, (dueS ⟨L.id, least, 1, day, L.S⟩ l).2) else (⟨L.id, least, 1, day, L.S⟩, 0))
  else (⟨L.id, n, u, L.f, L.S⟩, 0)

set_option maxHeartbeats 8000000 in
set_option maxRecDepth 100000 in
theorem change_any (w : World) (L : Lm) (day n u least : Int) (B : Nat) (A : Option Addr) (c : Nat) (h : LmAt w B A L) (hB : B ≤ w.heap.size) (C : Option Addr) (l : List Int) (cl : Nat) (hA : IntsAt w B C l) (hll : l.length ≤ 4611686018427387904) (hw : ∀ x ∈ l, wf64 x) :
    Calls Tryz.prog 30 #[.agg (L.cells A c), .int .i64 day, .agg #[.int .i64 n, .int .i64 u], .int .i64 least, .slice C l.length cl] w (LmPostC w B A (changeS L day n u least l)) := by
  obtain ⟨r, hr⟩ : ∃ r, changeS L day n u least l = r := ⟨_, rfl⟩
  rw [hr]
  have hpr := fun W (b : Below w.heap.size w W) => proper_any W L B A c (h.below (b.mono hB)).1 (Nat.le_trans hB b.size) h.2.1 h.2.2
  have hdu := fun W (n' u' f' : Int) (b : Below w.heap.size w W) => due_any W ⟨L.id, n', u', f', L.S⟩ B A c ⟨(h.below (b.mono hB)).1, h.2⟩ (Nat.le_trans hB b.size) C l cl (hA.below (b.mono hB)) hll hw
  have hid := fun W => isDay_any W day
  have hpt := fun W => properTerm_any W n u
  have hst0 := h.1
  show Calls Tryz.prog 30 #[.agg #[.string L.id, .int .i64 L.n, .int .i64 L.u, .int .i64 L.f, .slice A L.S.length c], .int .i64 day, .agg #[.int .i64 n, .int .i64 u], .int .i64 least, .slice C l.length cl] w _
  have hb := (((Below.refl w.heap.size w).alloc (Nat.le_refl _) (.cells #[.string L.id, .int .i64 L.n, .int .i64 L.u, .int .i64 L.f, .slice A L.S.length c] 66)).alloc (by simp) (.cells #[.int .i64 n, .int .i64 u] 63)).alloc (by simp; omega) (.cells #[.string ⟨#[]⟩, .int .i64 0, .int .i64 0, .int .i64 0, .slice none 0 0] 66)
  have m0 := ((Blk.new w 66 #[.string L.id, .int .i64 L.n, .int .i64 L.u, .int .i64 L.f, .slice A L.S.length c]).alloc (.cells #[.int .i64 n, .int .i64 u] 63)).alloc (.cells #[.string ⟨#[]⟩, .int .i64 0, .int .i64 0, .int .i64 0, .slice none 0 0] 66)
  have m1 := (Blk.new1 w (.cells #[.string L.id, .int .i64 L.n, .int .i64 L.u, .int .i64 L.f, .slice A L.S.length c] 66) 63 #[.int .i64 n, .int .i64 u]).alloc (.cells #[.string ⟨#[]⟩, .int .i64 0, .int .i64 0, .int .i64 0, .slice none 0 0] 66)
  have m2 := Blk.new2 w (.cells #[.string L.id, .int .i64 L.n, .int .i64 L.u, .int .i64 L.f, .slice A L.S.length c] 66) (.cells #[.int .i64 n, .int .i64 u] 63) 66 #[.string ⟨#[]⟩, .int .i64 0, .int .i64 0, .int .i64 0, .slice none 0 0]
  have HPR := Lib.hid hpr
  have HDU := Lib.hid hdu
  have HID := Lib.hid hid
  have HPT := Lib.hid hpt
  have HR := Lib.hid hr
  have HST := Lib.hid hst0
  clear hpr hdu hid hpt hr h hA hw hst0
  obtain ⟨x0, x1, x2⟩ := m0.all
  obtain ⟨y0, y1, y2⟩ := m1.all
  obtain ⟨z0, z1, z2⟩ := m2.all
  unfold changeS at HR
  cases hp : prB L with
  | false =>
    have hr := HR.out
    rw [if_pos (.inl hp)] at hr
    subst hr
    have h2 := HPR.out
    rw [hp] at h2
    have H2 := Lib.hid h2
    clear h2 hp HPR HR
    go_enter Tryz.func30, Tryz.ntmps30
    go_wp2_with fail
    refine (H2.out _ hb).mono ?_
    rintro e w1 ⟨rfl, b⟩
    replace m0 := m0.below b m0.lt
    replace m1 := m1.below b m1.lt
    replace m2 := m2.below b m2.lt
    replace hb := hb.trans (b.mono hb.size)
    clear b x0 x1 x2 y0 y1 y2 z0 z1 z2
    obtain ⟨x0, x1, x2⟩ := m0.all
    obtain ⟨y0, y1, y2⟩ := m1.all
    obtain ⟨z0, z1, z2⟩ := m2.all
    go_wp2
    have m3 := m2.set5 (b0 := .string ⟨#[]⟩) (b1 := .int .i64 0) (b2 := .int .i64 0) (b3 := .int .i64 0) (b4 := .slice none 0 0)
    have hb3 := below_set5 (b0 := .string ⟨#[]⟩) (b1 := .int .i64 0) (b2 := .int .i64 0) (b3 := .int .i64 0) (b4 := .slice none 0 0) hb (show w.heap.size ≤ w.heap.size + 1 + 1 by omega)
    unfold set5 at m3 hb3
    generalize ((((w1.setCell ⟨w.heap.size + 1 + 1, 0, none⟩ (.string ⟨#[]⟩)).setCell ⟨w.heap.size + 1 + 1, 1, none⟩ (.int .i64 0)).setCell ⟨w.heap.size + 1 + 1, 2, none⟩ (.int .i64 0)).setCell ⟨w.heap.size + 1 + 1, 3, none⟩ (.int .i64 0)).setCell ⟨w.heap.size + 1 + 1, 4, none⟩ (.slice none 0 0) = W3 at *
    obtain ⟨c0, c1, c2⟩ := m3.all
    refine bodyPost_ret (v := .tuple #[.agg (Lm.zero.cells none 0), .int .i64 1]) (by simp [results, Tryz.results30, go_sem, c0, Lm.cells, Lm.zero]) rfl ⟨none, 0, rfl, ⟨StopsAt.nil _ _ _, fun h => absurd rfl h⟩, hb3⟩
  | true =>
  have h2 := HPR.out
  rw [hp] at h2
  have H2 := Lib.hid h2
  clear h2 HPR
  cases hd : isB day with
  | false =>
    have hr := HR.out
    rw [if_pos (.inr (.inl hd))] at hr
    subst hr
    have h3 := HID.out
    rw [hd] at h3
    have H3 := Lib.hid h3
    clear h3 hd HID HR hp
    go_enter Tryz.func30, Tryz.ntmps30
    go_wp2_with fail
    refine (H2.out _ hb).mono ?_
    rintro e w1 ⟨rfl, b⟩
    replace m0 := m0.below b m0.lt
    replace m1 := m1.below b m1.lt
    replace m2 := m2.below b m2.lt
    replace hb := hb.trans (b.mono hb.size)
    clear b x0 x1 x2 y0 y1 y2 z0 z1 z2
    obtain ⟨x0, x1, x2⟩ := m0.all
    obtain ⟨y0, y1, y2⟩ := m1.all
    obtain ⟨z0, z1, z2⟩ := m2.all
    go_wp2_with fail
    refine (H3.out _).mono ?_
    rintro e w2 ⟨rfl, rfl⟩
    go_wp2
    have m3 := m2.set5 (b0 := .string ⟨#[]⟩) (b1 := .int .i64 0) (b2 := .int .i64 0) (b3 := .int .i64 0) (b4 := .slice none 0 0)
    have hb3 := below_set5 (b0 := .string ⟨#[]⟩) (b1 := .int .i64 0) (b2 := .int .i64 0) (b3 := .int .i64 0) (b4 := .slice none 0 0) hb (show w.heap.size ≤ w.heap.size + 1 + 1 by omega)
    unfold set5 at m3 hb3
    generalize ((((w1.setCell ⟨w.heap.size + 1 + 1, 0, none⟩ (.string ⟨#[]⟩)).setCell ⟨w.heap.size + 1 + 1, 1, none⟩ (.int .i64 0)).setCell ⟨w.heap.size + 1 + 1, 2, none⟩ (.int .i64 0)).setCell ⟨w.heap.size + 1 + 1, 3, none⟩ (.int .i64 0)).setCell ⟨w.heap.size + 1 + 1, 4, none⟩ (.slice none 0 0) = W3 at *
    obtain ⟨c0, c1, c2⟩ := m3.all
    refine bodyPost_ret (v := .tuple #[.agg (Lm.zero.cells none 0), .int .i64 1]) (by simp [results, Tryz.results30, go_sem, c0, Lm.cells, Lm.zero]) rfl ⟨none, 0, rfl, ⟨StopsAt.nil _ _ _, fun h => absurd rfl h⟩, hb3⟩
  | true =>
  have h3 := HID.out
  rw [hd] at h3
  have H3 := Lib.hid h3
  clear h3 HID
  cases ht : ptB n u with
  | false =>
    have hr := HR.out
    rw [if_pos (.inr (.inr (.inl ht)))] at hr
    subst hr
    have h4 := HPT.out
    rw [ht] at h4
    have H4 := Lib.hid h4
    clear h4 ht HPT HR hp hd
    go_enter Tryz.func30, Tryz.ntmps30
    go_wp2_with fail
    refine (H2.out _ hb).mono ?_
    rintro e w1 ⟨rfl, b⟩
    replace m0 := m0.below b m0.lt
    replace m1 := m1.below b m1.lt
    replace m2 := m2.below b m2.lt
    replace hb := hb.trans (b.mono hb.size)
    clear b x0 x1 x2 y0 y1 y2 z0 z1 z2
    obtain ⟨x0, x1, x2⟩ := m0.all
    obtain ⟨y0, y1, y2⟩ := m1.all
    obtain ⟨z0, z1, z2⟩ := m2.all
    go_wp2_with fail
    refine (H3.out _).mono ?_
    rintro e w2 ⟨rfl, rfl⟩
    go_wp2_with fail
    refine (H4.out _).mono ?_
    rintro e w2 ⟨rfl, b⟩
    replace m0 := m0.below b m0.lt
    replace m1 := m1.below b m1.lt
    replace m2 := m2.below b m2.lt
    replace hb := hb.trans (b.mono hb.size)
    clear b x0 x1 x2 y0 y1 y2 z0 z1 z2
    obtain ⟨x0, x1, x2⟩ := m0.all
    obtain ⟨y0, y1, y2⟩ := m1.all
    obtain ⟨z0, z1, z2⟩ := m2.all
    go_wp2
    have m3 := m2.set5 (b0 := .string ⟨#[]⟩) (b1 := .int .i64 0) (b2 := .int .i64 0) (b3 := .int .i64 0) (b4 := .slice none 0 0)
    have hb3 := below_set5 (b0 := .string ⟨#[]⟩) (b1 := .int .i64 0) (b2 := .int .i64 0) (b3 := .int .i64 0) (b4 := .slice none 0 0) hb (show w.heap.size ≤ w.heap.size + 1 + 1 by omega)
    unfold set5 at m3 hb3
    generalize ((((w2.setCell ⟨w.heap.size + 1 + 1, 0, none⟩ (.string ⟨#[]⟩)).setCell ⟨w.heap.size + 1 + 1, 1, none⟩ (.int .i64 0)).setCell ⟨w.heap.size + 1 + 1, 2, none⟩ (.int .i64 0)).setCell ⟨w.heap.size + 1 + 1, 3, none⟩ (.int .i64 0)).setCell ⟨w.heap.size + 1 + 1, 4, none⟩ (.slice none 0 0) = W3 at *
    obtain ⟨c0, c1, c2⟩ := m3.all
    refine bodyPost_ret (v := .tuple #[.agg (Lm.zero.cells none 0), .int .i64 1]) (by simp [results, Tryz.results30, go_sem, c0, Lm.cells, Lm.zero]) rfl ⟨none, 0, rfl, ⟨StopsAt.nil _ _ _, fun h => absurd rfl h⟩, hb3⟩
  | true =>
  have h4 := HPT.out
  rw [ht] at h4
  have H4 := Lib.hid h4
  clear h4 HPT
  obtain ⟨d0, d1⟩ := (isB_iff _).1 hd
  by_cases hl : least < 0 ∨ 1000000 < least
  · have hr := HR.out
    rw [if_pos (.inr (.inr (.inr hl)))] at hr
    subst hr
    have hl2 : least < 0 ∨ (0 ≤ least ∧ 1000000 < least) := by omega
    clear ht HR hp hd hl
    rcases hl2 with h5 | ⟨h5, h6⟩
    · go_enter Tryz.func30, Tryz.ntmps30
      go_wp2_with fail
      refine (H2.out _ hb).mono ?_
      rintro e w1 ⟨rfl, b⟩
      replace m0 := m0.below b m0.lt
      replace m1 := m1.below b m1.lt
      replace m2 := m2.below b m2.lt
      replace hb := hb.trans (b.mono hb.size)
      clear b x0 x1 x2 y0 y1 y2 z0 z1 z2
      obtain ⟨x0, x1, x2⟩ := m0.all
      obtain ⟨y0, y1, y2⟩ := m1.all
      obtain ⟨z0, z1, z2⟩ := m2.all
      go_wp2_with fail
      refine (H3.out _).mono ?_
      rintro e w2 ⟨rfl, rfl⟩
      go_wp2_with fail
      refine (H4.out _).mono ?_
      rintro e w2 ⟨rfl, b⟩
      replace m0 := m0.below b m0.lt
      replace m1 := m1.below b m1.lt
      replace m2 := m2.below b m2.lt
      replace hb := hb.trans (b.mono hb.size)
      clear b x0 x1 x2 y0 y1 y2 z0 z1 z2
      obtain ⟨x0, x1, x2⟩ := m0.all
      obtain ⟨y0, y1, y2⟩ := m1.all
      obtain ⟨z0, z1, z2⟩ := m2.all
      go_wp2
      have m3 := m2.set5 (b0 := .string ⟨#[]⟩) (b1 := .int .i64 0) (b2 := .int .i64 0) (b3 := .int .i64 0) (b4 := .slice none 0 0)
      have hb3 := below_set5 (b0 := .string ⟨#[]⟩) (b1 := .int .i64 0) (b2 := .int .i64 0) (b3 := .int .i64 0) (b4 := .slice none 0 0) hb (show w.heap.size ≤ w.heap.size + 1 + 1 by omega)
      unfold set5 at m3 hb3
      generalize ((((w2.setCell ⟨w.heap.size + 1 + 1, 0, none⟩ (.string ⟨#[]⟩)).setCell ⟨w.heap.size + 1 + 1, 1, none⟩ (.int .i64 0)).setCell ⟨w.heap.size + 1 + 1, 2, none⟩ (.int .i64 0)).setCell ⟨w.heap.size + 1 + 1, 3, none⟩ (.int .i64 0)).setCell ⟨w.heap.size + 1 + 1, 4, none⟩ (.slice none 0 0) = W3 at *
      obtain ⟨c0, c1, c2⟩ := m3.all
      refine bodyPost_ret (v := .tuple #[.agg (Lm.zero.cells none 0), .int .i64 1]) (by simp [results, Tryz.results30, go_sem, c0, Lm.cells, Lm.zero]) rfl ⟨none, 0, rfl, ⟨StopsAt.nil _ _ _, fun h => absurd rfl h⟩, hb3⟩
    · have d6 : decide (1000000 < least) = true := decide_eq_true h6
      go_enter Tryz.func30, Tryz.ntmps30
      go_wp2_with fail
      refine (H2.out _ hb).mono ?_
      rintro e w1 ⟨rfl, b⟩
      replace m0 := m0.below b m0.lt
      replace m1 := m1.below b m1.lt
      replace m2 := m2.below b m2.lt
      replace hb := hb.trans (b.mono hb.size)
      clear b x0 x1 x2 y0 y1 y2 z0 z1 z2
      obtain ⟨x0, x1, x2⟩ := m0.all
      obtain ⟨y0, y1, y2⟩ := m1.all
      obtain ⟨z0, z1, z2⟩ := m2.all
      go_wp2_with fail
      refine (H3.out _).mono ?_
      rintro e w2 ⟨rfl, rfl⟩
      go_wp2_with fail
      refine (H4.out _).mono ?_
      rintro e w2 ⟨rfl, b⟩
      replace m0 := m0.below b m0.lt
      replace m1 := m1.below b m1.lt
      replace m2 := m2.below b m2.lt
      replace hb := hb.trans (b.mono hb.size)
      clear b x0 x1 x2 y0 y1 y2 z0 z1 z2
      obtain ⟨x0, x1, x2⟩ := m0.all
      obtain ⟨y0, y1, y2⟩ := m1.all
      obtain ⟨z0, z1, z2⟩ := m2.all
      go_wp2
      have m3 := m2.set5 (b0 := .string ⟨#[]⟩) (b1 := .int .i64 0) (b2 := .int .i64 0) (b3 := .int .i64 0) (b4 := .slice none 0 0)
      have hb3 := below_set5 (b0 := .string ⟨#[]⟩) (b1 := .int .i64 0) (b2 := .int .i64 0) (b3 := .int .i64 0) (b4 := .slice none 0 0) hb (show w.heap.size ≤ w.heap.size + 1 + 1 by omega)
      unfold set5 at m3 hb3
      generalize ((((w2.setCell ⟨w.heap.size + 1 + 1, 0, none⟩ (.string ⟨#[]⟩)).setCell ⟨w.heap.size + 1 + 1, 1, none⟩ (.int .i64 0)).setCell ⟨w.heap.size + 1 + 1, 2, none⟩ (.int .i64 0)).setCell ⟨w.heap.size + 1 + 1, 3, none⟩ (.int .i64 0)).setCell ⟨w.heap.size + 1 + 1, 4, none⟩ (.slice none 0 0) = W3 at *
      obtain ⟨c0, c1, c2⟩ := m3.all
      refine bodyPost_ret (v := .tuple #[.agg (Lm.zero.cells none 0), .int .i64 1]) (by simp [results, Tryz.results30, go_sem, c0, Lm.cells, Lm.zero]) rfl ⟨none, 0, rfl, ⟨StopsAt.nil _ _ _, fun h => absurd rfl h⟩, hb3⟩
  · have l0 : 0 ≤ least := by omega
    have l1 : least ≤ 1000000 := by omega
    have hr := HR.out
    rw [if_neg (by rw [hp, hd, ht]; simp; omega)] at hr
    clear ht HR hd hl
    obtain ⟨p1, p2, hq⟩ : ∃ p1 p2, dueS L l = (p1, p2) := ⟨_, _, rfl⟩
    have hd1 := fun W b => HDU.out W L.n L.u L.f b
    have e1 : (⟨L.id, L.n, L.u, L.f, L.S⟩ : Lm) = L := rfl
    rw [e1, hq] at hd1
    rw [hq] at hr
    have HD1 := Lib.hid hd1
    have hpb : p2 = 0 → p1 ≤ 1000000 ∧ 0 ≤ p1 := fun h0 => by
      have h1 := due_day (L := L) (l := l) (by rw [hq]; exact h0)
      rw [hq] at h1
      obtain ⟨_, h2, h3, h4⟩ := h1
      have := (isB_iff _).1 h2
      simp only at h3 h4
      omega
    have HPB := Lib.hid hpb
    clear hd1 hq e1 hpb hp
    by_cases hz : p2 = 0
    · subst hz
      rw [if_neg (by simp)] at hr
      obtain ⟨q1, q2⟩ := HPB.out rfl
      clear HPB
      by_cases hlt : p1 < day
      · rw [if_pos hlt] at hr
        subst hr
        go_enter Tryz.func30, Tryz.ntmps30
        go_wp2_with fail
        refine (H2.out _ hb).mono ?_
        rintro e w1 ⟨rfl, b⟩
        replace m0 := m0.below b m0.lt
        replace m1 := m1.below b m1.lt
        replace m2 := m2.below b m2.lt
        replace hb := hb.trans (b.mono hb.size)
        clear b x0 x1 x2 y0 y1 y2 z0 z1 z2
        obtain ⟨x0, x1, x2⟩ := m0.all
        obtain ⟨y0, y1, y2⟩ := m1.all
        obtain ⟨z0, z1, z2⟩ := m2.all
        go_wp2_with fail
        refine (H3.out _).mono ?_
        rintro e w2 ⟨rfl, rfl⟩
        go_wp2_with fail
        refine (H4.out _).mono ?_
        rintro e w2 ⟨rfl, b⟩
        replace m0 := m0.below b m0.lt
        replace m1 := m1.below b m1.lt
        replace m2 := m2.below b m2.lt
        replace hb := hb.trans (b.mono hb.size)
        clear b x0 x1 x2 y0 y1 y2 z0 z1 z2
        obtain ⟨x0, x1, x2⟩ := m0.all
        obtain ⟨y0, y1, y2⟩ := m1.all
        obtain ⟨z0, z1, z2⟩ := m2.all
        go_wp2_with fail
        refine (HD1.out _ hb).mono ?_
        rintro e w3 ⟨rfl, b⟩
        replace m0 := m0.below b m0.lt
        replace m1 := m1.below b m1.lt
        replace m2 := m2.below b m2.lt
        replace hb := hb.trans (b.mono hb.size)
        clear b x0 x1 x2 y0 y1 y2 z0 z1 z2
        obtain ⟨x0, x1, x2⟩ := m0.all
        obtain ⟨y0, y1, y2⟩ := m1.all
        obtain ⟨z0, z1, z2⟩ := m2.all
        go_wp2
        have m3 := m2.set5 (b0 := .string L.id) (b1 := .int .i64 L.n) (b2 := .int .i64 L.u) (b3 := .int .i64 L.f) (b4 := .slice A L.S.length c)
        have hb3 := below_set5 (b0 := .string L.id) (b1 := .int .i64 L.n) (b2 := .int .i64 L.u) (b3 := .int .i64 L.f) (b4 := .slice A L.S.length c) hb (show w.heap.size ≤ w.heap.size + 1 + 1 by omega)
        unfold set5 at m3 hb3
        generalize ((((w3.setCell ⟨w.heap.size + 1 + 1, 0, none⟩ (.string L.id)).setCell ⟨w.heap.size + 1 + 1, 1, none⟩ (.int .i64 L.n)).setCell ⟨w.heap.size + 1 + 1, 2, none⟩ (.int .i64 L.u)).setCell ⟨w.heap.size + 1 + 1, 3, none⟩ (.int .i64 L.f)).setCell ⟨w.heap.size + 1 + 1, 4, none⟩ (.slice A L.S.length c) = W3 at *
        obtain ⟨c0, c1, c2⟩ := m3.all
        refine bodyPost_ret (v := .tuple #[.agg (L.cells A c), .int .i64 0]) (by simp [results, Tryz.results30, go_sem, c0, Lm.cells]) rfl ⟨A, c, rfl, ⟨HST.out, fun _ => rfl⟩, hb3⟩
      · rw [if_neg hlt] at hr
        obtain ⟨s1, s2, hs⟩ : ∃ s1 s2, dueS ⟨L.id, n, u, L.f, L.S⟩ l = (s1, s2) := ⟨_, _, rfl⟩
        have hd2 := fun W b => HDU.out W n u L.f b
        rw [hs] at hd2 hr
        have HD2 := Lib.hid hd2
        have hsb : s2 = 0 → s1 ≤ 1000000 ∧ 0 ≤ s1 := fun h0 => by
          have h1 := due_day (L := ⟨L.id, n, u, L.f, L.S⟩) (l := l) (by rw [hs]; exact h0)
          rw [hs] at h1
          obtain ⟨_, h2, h3, h4⟩ := h1
          have := (isB_iff _).1 h2
          simp only at h3 h4 this
          omega
        have HSB := Lib.hid hsb
        clear hd2 hs hsb
        by_cases hs0 : s2 = 0
        · subst hs0
          rw [if_neg (by simp)] at hr
          obtain ⟨v1, v2⟩ := HSB.out rfl
          clear HSB
          by_cases hlt2 : s1 < day + least
          · rw [if_pos hlt2] at hr
            obtain ⟨t1, t2, htt⟩ : ∃ t1 t2, dueS ⟨L.id, least, 1, day, L.S⟩ l = (t1, t2) := ⟨_, _, rfl⟩
            have hd3 := fun W b => HDU.out W least 1 day b
            rw [htt] at hd3 hr
            have HD3 := Lib.hid hd3
            clear hd3 htt
            by_cases ht0 : t2 = 0
            · subst ht0
              rw [if_neg (by simp)] at hr
              subst hr
              go_enter Tryz.func30, Tryz.ntmps30
              go_wp2_with fail
              refine (H2.out _ hb).mono ?_
              rintro e w1 ⟨rfl, b⟩
              replace m0 := m0.below b m0.lt
              replace m1 := m1.below b m1.lt
              replace m2 := m2.below b m2.lt
              replace hb := hb.trans (b.mono hb.size)
              clear b x0 x1 x2 y0 y1 y2 z0 z1 z2
              obtain ⟨x0, x1, x2⟩ := m0.all
              obtain ⟨y0, y1, y2⟩ := m1.all
              obtain ⟨z0, z1, z2⟩ := m2.all
              go_wp2_with fail
              refine (H3.out _).mono ?_
              rintro e w2 ⟨rfl, rfl⟩
              go_wp2_with fail
              refine (H4.out _).mono ?_
              rintro e w2 ⟨rfl, b⟩
              replace m0 := m0.below b m0.lt
              replace m1 := m1.below b m1.lt
              replace m2 := m2.below b m2.lt
              replace hb := hb.trans (b.mono hb.size)
              clear b x0 x1 x2 y0 y1 y2 z0 z1 z2
              obtain ⟨x0, x1, x2⟩ := m0.all
              obtain ⟨y0, y1, y2⟩ := m1.all
              obtain ⟨z0, z1, z2⟩ := m2.all
              go_wp2_with fail
              refine (HD1.out _ hb).mono ?_
              rintro e w3 ⟨rfl, b⟩
              replace m0 := m0.below b m0.lt
              replace m1 := m1.below b m1.lt
              replace m2 := m2.below b m2.lt
              replace hb := hb.trans (b.mono hb.size)
              clear b x0 x1 x2 y0 y1 y2 z0 z1 z2
              obtain ⟨x0, x1, x2⟩ := m0.all
              obtain ⟨y0, y1, y2⟩ := m1.all
              obtain ⟨z0, z1, z2⟩ := m2.all
              go_wp2_with fail
              replace m0 := m0.set_ 1 (.int .i64 n)
              replace m1 := m1.far (p := ⟨w.heap.size, 1, none⟩) (show w.heap.size + 1 ≠ w.heap.size by omega) (.int .i64 n)
              replace m2 := m2.far (p := ⟨w.heap.size, 1, none⟩) (show w.heap.size + 1 + 1 ≠ w.heap.size by omega) (.int .i64 n)
              replace hb := hb.setCell (p := ⟨w.heap.size, 1, none⟩) (Nat.le_refl w.heap.size) (.int .i64 n)
              replace m0 := m0.set_ 2 (.int .i64 u)
              replace m1 := m1.far (p := ⟨w.heap.size, 2, none⟩) (show w.heap.size + 1 ≠ w.heap.size by omega) (.int .i64 u)
              replace m2 := m2.far (p := ⟨w.heap.size, 2, none⟩) (show w.heap.size + 1 + 1 ≠ w.heap.size by omega) (.int .i64 u)
              replace hb := hb.setCell (p := ⟨w.heap.size, 2, none⟩) (Nat.le_refl w.heap.size) (.int .i64 u)
              generalize (w3.setCell ⟨w.heap.size, 1, none⟩ (.int .i64 n)).setCell ⟨w.heap.size, 2, none⟩ (.int .i64 u) = V at *
              clear x0 x1 x2 y0 y1 y2 z0 z1 z2
              obtain ⟨x0, x1, x2⟩ := m0.all
              obtain ⟨y0, y1, y2⟩ := m1.all
              obtain ⟨z0, z1, z2⟩ := m2.all
              have m0' : Blk V w.heap.size 66 #[.string L.id, .int .i64 n, .int .i64 u, .int .i64 L.f, .slice A L.S.length c] := m0
              clear m0
              have m0 := m0'
              clear m0' x0
              have x0 := m0.cell
              refine (HD2.out _ hb).mono ?_
              rintro e w4 ⟨rfl, b⟩
              replace m0 := m0.below b m0.lt
              replace m1 := m1.below b m1.lt
              replace m2 := m2.below b m2.lt
              replace hb := hb.trans (b.mono hb.size)
              clear b x0 x1 x2 y0 y1 y2 z0 z1 z2
              obtain ⟨x0, x1, x2⟩ := m0.all
              obtain ⟨y0, y1, y2⟩ := m1.all
              obtain ⟨z0, z1, z2⟩ := m2.all
              go_wp2_with fail
              replace m0 := m0.set_ 3 (.int .i64 day)
              replace m1 := m1.far (p := ⟨w.heap.size, 3, none⟩) (show w.heap.size + 1 ≠ w.heap.size by omega) (.int .i64 day)
              replace m2 := m2.far (p := ⟨w.heap.size, 3, none⟩) (show w.heap.size + 1 + 1 ≠ w.heap.size by omega) (.int .i64 day)
              replace hb := hb.setCell (p := ⟨w.heap.size, 3, none⟩) (Nat.le_refl w.heap.size) (.int .i64 day)
              replace m0 := m0.set_ 1 (.int .i64 least)
              replace m1 := m1.far (p := ⟨w.heap.size, 1, none⟩) (show w.heap.size + 1 ≠ w.heap.size by omega) (.int .i64 least)
              replace m2 := m2.far (p := ⟨w.heap.size, 1, none⟩) (show w.heap.size + 1 + 1 ≠ w.heap.size by omega) (.int .i64 least)
              replace hb := hb.setCell (p := ⟨w.heap.size, 1, none⟩) (Nat.le_refl w.heap.size) (.int .i64 least)
              replace m0 := m0.set_ 2 (.int .i64 1)
              replace m1 := m1.far (p := ⟨w.heap.size, 2, none⟩) (show w.heap.size + 1 ≠ w.heap.size by omega) (.int .i64 1)
              replace m2 := m2.far (p := ⟨w.heap.size, 2, none⟩) (show w.heap.size + 1 + 1 ≠ w.heap.size by omega) (.int .i64 1)
              replace hb := hb.setCell (p := ⟨w.heap.size, 2, none⟩) (Nat.le_refl w.heap.size) (.int .i64 1)
              generalize ((w4.setCell ⟨w.heap.size, 3, none⟩ (.int .i64 day)).setCell ⟨w.heap.size, 1, none⟩ (.int .i64 least)).setCell ⟨w.heap.size, 2, none⟩ (.int .i64 1) = V2 at *
              clear x0 x1 x2 y0 y1 y2 z0 z1 z2
              obtain ⟨x0, x1, x2⟩ := m0.all
              obtain ⟨y0, y1, y2⟩ := m1.all
              obtain ⟨z0, z1, z2⟩ := m2.all
              have m0' : Blk V2 w.heap.size 66 #[.string L.id, .int .i64 least, .int .i64 1, .int .i64 day, .slice A L.S.length c] := m0
              clear m0
              have m0 := m0'
              clear m0' x0
              have x0 := m0.cell
              refine (HD3.out _ hb).mono ?_
              rintro e w5 ⟨rfl, b⟩
              replace m0 := m0.below b m0.lt
              replace m1 := m1.below b m1.lt
              replace m2 := m2.below b m2.lt
              replace hb := hb.trans (b.mono hb.size)
              clear b x0 x1 x2 y0 y1 y2 z0 z1 z2
              obtain ⟨x0, x1, x2⟩ := m0.all
              obtain ⟨y0, y1, y2⟩ := m1.all
              obtain ⟨z0, z1, z2⟩ := m2.all
              go_wp2
              have m3 := m2.set5 (b0 := .string L.id) (b1 := .int .i64 least) (b2 := .int .i64 1) (b3 := .int .i64 day) (b4 := .slice A L.S.length c)
              have hb3 := below_set5 (b0 := .string L.id) (b1 := .int .i64 least) (b2 := .int .i64 1) (b3 := .int .i64 day) (b4 := .slice A L.S.length c) hb (show w.heap.size ≤ w.heap.size + 1 + 1 by omega)
              unfold set5 at m3 hb3
              generalize ((((w5.setCell ⟨w.heap.size + 1 + 1, 0, none⟩ (.string L.id)).setCell ⟨w.heap.size + 1 + 1, 1, none⟩ (.int .i64 least)).setCell ⟨w.heap.size + 1 + 1, 2, none⟩ (.int .i64 1)).setCell ⟨w.heap.size + 1 + 1, 3, none⟩ (.int .i64 day)).setCell ⟨w.heap.size + 1 + 1, 4, none⟩ (.slice A L.S.length c) = W3 at *
              obtain ⟨c0, c1, c2⟩ := m3.all
              refine bodyPost_ret (v := .tuple #[.agg ((⟨L.id, least, 1, day, L.S⟩ : Lm).cells A c), .int .i64 0]) (by simp [results, Tryz.results30, go_sem, c0, Lm.cells]) rfl ⟨A, c, rfl, ⟨HST.out, fun _ => rfl⟩, hb3⟩
            · rw [if_pos ht0] at hr
              have ht2 : (t2 != 0) = true := by simpa using ht0
              subst hr
              clear ht0
              go_enter Tryz.func30, Tryz.ntmps30
              go_wp2_with fail
              refine (H2.out _ hb).mono ?_
              rintro e w1 ⟨rfl, b⟩
              replace m0 := m0.below b m0.lt
              replace m1 := m1.below b m1.lt
              replace m2 := m2.below b m2.lt
              replace hb := hb.trans (b.mono hb.size)
              clear b x0 x1 x2 y0 y1 y2 z0 z1 z2
              obtain ⟨x0, x1, x2⟩ := m0.all
              obtain ⟨y0, y1, y2⟩ := m1.all
              obtain ⟨z0, z1, z2⟩ := m2.all
              go_wp2_with fail
              refine (H3.out _).mono ?_
              rintro e w2 ⟨rfl, rfl⟩
              go_wp2_with fail
              refine (H4.out _).mono ?_
              rintro e w2 ⟨rfl, b⟩
              replace m0 := m0.below b m0.lt
              replace m1 := m1.below b m1.lt
              replace m2 := m2.below b m2.lt
              replace hb := hb.trans (b.mono hb.size)
              clear b x0 x1 x2 y0 y1 y2 z0 z1 z2
              obtain ⟨x0, x1, x2⟩ := m0.all
              obtain ⟨y0, y1, y2⟩ := m1.all
              obtain ⟨z0, z1, z2⟩ := m2.all
              go_wp2_with fail
              refine (HD1.out _ hb).mono ?_
              rintro e w3 ⟨rfl, b⟩
              replace m0 := m0.below b m0.lt
              replace m1 := m1.below b m1.lt
              replace m2 := m2.below b m2.lt
              replace hb := hb.trans (b.mono hb.size)
              clear b x0 x1 x2 y0 y1 y2 z0 z1 z2
              obtain ⟨x0, x1, x2⟩ := m0.all
              obtain ⟨y0, y1, y2⟩ := m1.all
              obtain ⟨z0, z1, z2⟩ := m2.all
              go_wp2_with fail
              replace m0 := m0.set_ 1 (.int .i64 n)
              replace m1 := m1.far (p := ⟨w.heap.size, 1, none⟩) (show w.heap.size + 1 ≠ w.heap.size by omega) (.int .i64 n)
              replace m2 := m2.far (p := ⟨w.heap.size, 1, none⟩) (show w.heap.size + 1 + 1 ≠ w.heap.size by omega) (.int .i64 n)
              replace hb := hb.setCell (p := ⟨w.heap.size, 1, none⟩) (Nat.le_refl w.heap.size) (.int .i64 n)
              replace m0 := m0.set_ 2 (.int .i64 u)
              replace m1 := m1.far (p := ⟨w.heap.size, 2, none⟩) (show w.heap.size + 1 ≠ w.heap.size by omega) (.int .i64 u)
              replace m2 := m2.far (p := ⟨w.heap.size, 2, none⟩) (show w.heap.size + 1 + 1 ≠ w.heap.size by omega) (.int .i64 u)
              replace hb := hb.setCell (p := ⟨w.heap.size, 2, none⟩) (Nat.le_refl w.heap.size) (.int .i64 u)
              generalize (w3.setCell ⟨w.heap.size, 1, none⟩ (.int .i64 n)).setCell ⟨w.heap.size, 2, none⟩ (.int .i64 u) = V at *
              clear x0 x1 x2 y0 y1 y2 z0 z1 z2
              obtain ⟨x0, x1, x2⟩ := m0.all
              obtain ⟨y0, y1, y2⟩ := m1.all
              obtain ⟨z0, z1, z2⟩ := m2.all
              have m0' : Blk V w.heap.size 66 #[.string L.id, .int .i64 n, .int .i64 u, .int .i64 L.f, .slice A L.S.length c] := m0
              clear m0
              have m0 := m0'
              clear m0' x0
              have x0 := m0.cell
              refine (HD2.out _ hb).mono ?_
              rintro e w4 ⟨rfl, b⟩
              replace m0 := m0.below b m0.lt
              replace m1 := m1.below b m1.lt
              replace m2 := m2.below b m2.lt
              replace hb := hb.trans (b.mono hb.size)
              clear b x0 x1 x2 y0 y1 y2 z0 z1 z2
              obtain ⟨x0, x1, x2⟩ := m0.all
              obtain ⟨y0, y1, y2⟩ := m1.all
              obtain ⟨z0, z1, z2⟩ := m2.all
              go_wp2_with fail
              replace m0 := m0.set_ 3 (.int .i64 day)
              replace m1 := m1.far (p := ⟨w.heap.size, 3, none⟩) (show w.heap.size + 1 ≠ w.heap.size by omega) (.int .i64 day)
              replace m2 := m2.far (p := ⟨w.heap.size, 3, none⟩) (show w.heap.size + 1 + 1 ≠ w.heap.size by omega) (.int .i64 day)
              replace hb := hb.setCell (p := ⟨w.heap.size, 3, none⟩) (Nat.le_refl w.heap.size) (.int .i64 day)
              replace m0 := m0.set_ 1 (.int .i64 least)
              replace m1 := m1.far (p := ⟨w.heap.size, 1, none⟩) (show w.heap.size + 1 ≠ w.heap.size by omega) (.int .i64 least)
              replace m2 := m2.far (p := ⟨w.heap.size, 1, none⟩) (show w.heap.size + 1 + 1 ≠ w.heap.size by omega) (.int .i64 least)
              replace hb := hb.setCell (p := ⟨w.heap.size, 1, none⟩) (Nat.le_refl w.heap.size) (.int .i64 least)
              replace m0 := m0.set_ 2 (.int .i64 1)
              replace m1 := m1.far (p := ⟨w.heap.size, 2, none⟩) (show w.heap.size + 1 ≠ w.heap.size by omega) (.int .i64 1)
              replace m2 := m2.far (p := ⟨w.heap.size, 2, none⟩) (show w.heap.size + 1 + 1 ≠ w.heap.size by omega) (.int .i64 1)
              replace hb := hb.setCell (p := ⟨w.heap.size, 2, none⟩) (Nat.le_refl w.heap.size) (.int .i64 1)
              generalize ((w4.setCell ⟨w.heap.size, 3, none⟩ (.int .i64 day)).setCell ⟨w.heap.size, 1, none⟩ (.int .i64 least)).setCell ⟨w.heap.size, 2, none⟩ (.int .i64 1) = V2 at *
              clear x0 x1 x2 y0 y1 y2 z0 z1 z2
              obtain ⟨x0, x1, x2⟩ := m0.all
              obtain ⟨y0, y1, y2⟩ := m1.all
              obtain ⟨z0, z1, z2⟩ := m2.all
              have m0' : Blk V2 w.heap.size 66 #[.string L.id, .int .i64 least, .int .i64 1, .int .i64 day, .slice A L.S.length c] := m0
              clear m0
              have m0 := m0'
              clear m0' x0
              have x0 := m0.cell
              refine (HD3.out _ hb).mono ?_
              rintro e w5 ⟨rfl, b⟩
              replace m0 := m0.below b m0.lt
              replace m1 := m1.below b m1.lt
              replace m2 := m2.below b m2.lt
              replace hb := hb.trans (b.mono hb.size)
              clear b x0 x1 x2 y0 y1 y2 z0 z1 z2
              obtain ⟨x0, x1, x2⟩ := m0.all
              obtain ⟨y0, y1, y2⟩ := m1.all
              obtain ⟨z0, z1, z2⟩ := m2.all
              go_wp2
              have m3 := m2.set5 (b0 := .string ⟨#[]⟩) (b1 := .int .i64 0) (b2 := .int .i64 0) (b3 := .int .i64 0) (b4 := .slice none 0 0)
              have hb3 := below_set5 (b0 := .string ⟨#[]⟩) (b1 := .int .i64 0) (b2 := .int .i64 0) (b3 := .int .i64 0) (b4 := .slice none 0 0) hb (show w.heap.size ≤ w.heap.size + 1 + 1 by omega)
              unfold set5 at m3 hb3
              generalize ((((w5.setCell ⟨w.heap.size + 1 + 1, 0, none⟩ (.string ⟨#[]⟩)).setCell ⟨w.heap.size + 1 + 1, 1, none⟩ (.int .i64 0)).setCell ⟨w.heap.size + 1 + 1, 2, none⟩ (.int .i64 0)).setCell ⟨w.heap.size + 1 + 1, 3, none⟩ (.int .i64 0)).setCell ⟨w.heap.size + 1 + 1, 4, none⟩ (.slice none 0 0) = W3 at *
              obtain ⟨c0, c1, c2⟩ := m3.all
              refine bodyPost_ret (v := .tuple #[.agg (Lm.zero.cells none 0), .int .i64 t2]) (by simp [results, Tryz.results30, go_sem, c0, Lm.cells, Lm.zero]) rfl ⟨none, 0, rfl, ⟨StopsAt.nil _ _ _, fun h => absurd rfl h⟩, hb3⟩
          · rw [if_neg hlt2] at hr
            subst hr
            go_enter Tryz.func30, Tryz.ntmps30
            go_wp2_with fail
            refine (H2.out _ hb).mono ?_
            rintro e w1 ⟨rfl, b⟩
            replace m0 := m0.below b m0.lt
            replace m1 := m1.below b m1.lt
            replace m2 := m2.below b m2.lt
            replace hb := hb.trans (b.mono hb.size)
            clear b x0 x1 x2 y0 y1 y2 z0 z1 z2
            obtain ⟨x0, x1, x2⟩ := m0.all
            obtain ⟨y0, y1, y2⟩ := m1.all
            obtain ⟨z0, z1, z2⟩ := m2.all
            go_wp2_with fail
            refine (H3.out _).mono ?_
            rintro e w2 ⟨rfl, rfl⟩
            go_wp2_with fail
            refine (H4.out _).mono ?_
            rintro e w2 ⟨rfl, b⟩
            replace m0 := m0.below b m0.lt
            replace m1 := m1.below b m1.lt
            replace m2 := m2.below b m2.lt
            replace hb := hb.trans (b.mono hb.size)
            clear b x0 x1 x2 y0 y1 y2 z0 z1 z2
            obtain ⟨x0, x1, x2⟩ := m0.all
            obtain ⟨y0, y1, y2⟩ := m1.all
            obtain ⟨z0, z1, z2⟩ := m2.all
            go_wp2_with fail
            refine (HD1.out _ hb).mono ?_
            rintro e w3 ⟨rfl, b⟩
            replace m0 := m0.below b m0.lt
            replace m1 := m1.below b m1.lt
            replace m2 := m2.below b m2.lt
            replace hb := hb.trans (b.mono hb.size)
            clear b x0 x1 x2 y0 y1 y2 z0 z1 z2
            obtain ⟨x0, x1, x2⟩ := m0.all
            obtain ⟨y0, y1, y2⟩ := m1.all
            obtain ⟨z0, z1, z2⟩ := m2.all
            go_wp2_with fail
            replace m0 := m0.set_ 1 (.int .i64 n)
            replace m1 := m1.far (p := ⟨w.heap.size, 1, none⟩) (show w.heap.size + 1 ≠ w.heap.size by omega) (.int .i64 n)
            replace m2 := m2.far (p := ⟨w.heap.size, 1, none⟩) (show w.heap.size + 1 + 1 ≠ w.heap.size by omega) (.int .i64 n)
            replace hb := hb.setCell (p := ⟨w.heap.size, 1, none⟩) (Nat.le_refl w.heap.size) (.int .i64 n)
            replace m0 := m0.set_ 2 (.int .i64 u)
            replace m1 := m1.far (p := ⟨w.heap.size, 2, none⟩) (show w.heap.size + 1 ≠ w.heap.size by omega) (.int .i64 u)
            replace m2 := m2.far (p := ⟨w.heap.size, 2, none⟩) (show w.heap.size + 1 + 1 ≠ w.heap.size by omega) (.int .i64 u)
            replace hb := hb.setCell (p := ⟨w.heap.size, 2, none⟩) (Nat.le_refl w.heap.size) (.int .i64 u)
            generalize (w3.setCell ⟨w.heap.size, 1, none⟩ (.int .i64 n)).setCell ⟨w.heap.size, 2, none⟩ (.int .i64 u) = V at *
            clear x0 x1 x2 y0 y1 y2 z0 z1 z2
            obtain ⟨x0, x1, x2⟩ := m0.all
            obtain ⟨y0, y1, y2⟩ := m1.all
            obtain ⟨z0, z1, z2⟩ := m2.all
            have m0' : Blk V w.heap.size 66 #[.string L.id, .int .i64 n, .int .i64 u, .int .i64 L.f, .slice A L.S.length c] := m0
            clear m0
            have m0 := m0'
            clear m0' x0
            have x0 := m0.cell
            refine (HD2.out _ hb).mono ?_
            rintro e w4 ⟨rfl, b⟩
            replace m0 := m0.below b m0.lt
            replace m1 := m1.below b m1.lt
            replace m2 := m2.below b m2.lt
            replace hb := hb.trans (b.mono hb.size)
            clear b x0 x1 x2 y0 y1 y2 z0 z1 z2
            obtain ⟨x0, x1, x2⟩ := m0.all
            obtain ⟨y0, y1, y2⟩ := m1.all
            obtain ⟨z0, z1, z2⟩ := m2.all
            go_wp2
            have m3 := m2.set5 (b0 := .string L.id) (b1 := .int .i64 n) (b2 := .int .i64 u) (b3 := .int .i64 L.f) (b4 := .slice A L.S.length c)
            have hb3 := below_set5 (b0 := .string L.id) (b1 := .int .i64 n) (b2 := .int .i64 u) (b3 := .int .i64 L.f) (b4 := .slice A L.S.length c) hb (show w.heap.size ≤ w.heap.size + 1 + 1 by omega)
            unfold set5 at m3 hb3
            generalize ((((w4.setCell ⟨w.heap.size + 1 + 1, 0, none⟩ (.string L.id)).setCell ⟨w.heap.size + 1 + 1, 1, none⟩ (.int .i64 n)).setCell ⟨w.heap.size + 1 + 1, 2, none⟩ (.int .i64 u)).setCell ⟨w.heap.size + 1 + 1, 3, none⟩ (.int .i64 L.f)).setCell ⟨w.heap.size + 1 + 1, 4, none⟩ (.slice A L.S.length c) = W3 at *
            obtain ⟨c0, c1, c2⟩ := m3.all
            refine bodyPost_ret (v := .tuple #[.agg ((⟨L.id, n, u, L.f, L.S⟩ : Lm).cells A c), .int .i64 0]) (by simp [results, Tryz.results30, go_sem, c0, Lm.cells]) rfl ⟨A, c, rfl, ⟨HST.out, fun _ => rfl⟩, hb3⟩
        · rw [if_pos hs0] at hr
          have hs2 : (s2 != 0) = true := by simpa using hs0
          subst hr
          clear hs0 HSB
          go_enter Tryz.func30, Tryz.ntmps30
          go_wp2_with fail
          refine (H2.out _ hb).mono ?_
          rintro e w1 ⟨rfl, b⟩
          replace m0 := m0.below b m0.lt
          replace m1 := m1.below b m1.lt
          replace m2 := m2.below b m2.lt
          replace hb := hb.trans (b.mono hb.size)
          clear b x0 x1 x2 y0 y1 y2 z0 z1 z2
          obtain ⟨x0, x1, x2⟩ := m0.all
          obtain ⟨y0, y1, y2⟩ := m1.all
          obtain ⟨z0, z1, z2⟩ := m2.all
          go_wp2_with fail
          refine (H3.out _).mono ?_
          rintro e w2 ⟨rfl, rfl⟩
          go_wp2_with fail
          refine (H4.out _).mono ?_
          rintro e w2 ⟨rfl, b⟩
          replace m0 := m0.below b m0.lt
          replace m1 := m1.below b m1.lt
          replace m2 := m2.below b m2.lt
          replace hb := hb.trans (b.mono hb.size)
          clear b x0 x1 x2 y0 y1 y2 z0 z1 z2
          obtain ⟨x0, x1, x2⟩ := m0.all
          obtain ⟨y0, y1, y2⟩ := m1.all
          obtain ⟨z0, z1, z2⟩ := m2.all
          go_wp2_with fail
          refine (HD1.out _ hb).mono ?_
          rintro e w3 ⟨rfl, b⟩
          replace m0 := m0.below b m0.lt
          replace m1 := m1.below b m1.lt
          replace m2 := m2.below b m2.lt
          replace hb := hb.trans (b.mono hb.size)
          clear b x0 x1 x2 y0 y1 y2 z0 z1 z2
          obtain ⟨x0, x1, x2⟩ := m0.all
          obtain ⟨y0, y1, y2⟩ := m1.all
          obtain ⟨z0, z1, z2⟩ := m2.all
          go_wp2_with fail
          replace m0 := m0.set_ 1 (.int .i64 n)
          replace m1 := m1.far (p := ⟨w.heap.size, 1, none⟩) (show w.heap.size + 1 ≠ w.heap.size by omega) (.int .i64 n)
          replace m2 := m2.far (p := ⟨w.heap.size, 1, none⟩) (show w.heap.size + 1 + 1 ≠ w.heap.size by omega) (.int .i64 n)
          replace hb := hb.setCell (p := ⟨w.heap.size, 1, none⟩) (Nat.le_refl w.heap.size) (.int .i64 n)
          replace m0 := m0.set_ 2 (.int .i64 u)
          replace m1 := m1.far (p := ⟨w.heap.size, 2, none⟩) (show w.heap.size + 1 ≠ w.heap.size by omega) (.int .i64 u)
          replace m2 := m2.far (p := ⟨w.heap.size, 2, none⟩) (show w.heap.size + 1 + 1 ≠ w.heap.size by omega) (.int .i64 u)
          replace hb := hb.setCell (p := ⟨w.heap.size, 2, none⟩) (Nat.le_refl w.heap.size) (.int .i64 u)
          generalize (w3.setCell ⟨w.heap.size, 1, none⟩ (.int .i64 n)).setCell ⟨w.heap.size, 2, none⟩ (.int .i64 u) = V at *
          clear x0 x1 x2 y0 y1 y2 z0 z1 z2
          obtain ⟨x0, x1, x2⟩ := m0.all
          obtain ⟨y0, y1, y2⟩ := m1.all
          obtain ⟨z0, z1, z2⟩ := m2.all
          have m0' : Blk V w.heap.size 66 #[.string L.id, .int .i64 n, .int .i64 u, .int .i64 L.f, .slice A L.S.length c] := m0
          clear m0
          have m0 := m0'
          clear m0' x0
          have x0 := m0.cell
          refine (HD2.out _ hb).mono ?_
          rintro e w4 ⟨rfl, b⟩
          replace m0 := m0.below b m0.lt
          replace m1 := m1.below b m1.lt
          replace m2 := m2.below b m2.lt
          replace hb := hb.trans (b.mono hb.size)
          clear b x0 x1 x2 y0 y1 y2 z0 z1 z2
          obtain ⟨x0, x1, x2⟩ := m0.all
          obtain ⟨y0, y1, y2⟩ := m1.all
          obtain ⟨z0, z1, z2⟩ := m2.all
          go_wp2
          have m3 := m2.set5 (b0 := .string ⟨#[]⟩) (b1 := .int .i64 0) (b2 := .int .i64 0) (b3 := .int .i64 0) (b4 := .slice none 0 0)
          have hb3 := below_set5 (b0 := .string ⟨#[]⟩) (b1 := .int .i64 0) (b2 := .int .i64 0) (b3 := .int .i64 0) (b4 := .slice none 0 0) hb (show w.heap.size ≤ w.heap.size + 1 + 1 by omega)
          unfold set5 at m3 hb3
          generalize ((((w4.setCell ⟨w.heap.size + 1 + 1, 0, none⟩ (.string ⟨#[]⟩)).setCell ⟨w.heap.size + 1 + 1, 1, none⟩ (.int .i64 0)).setCell ⟨w.heap.size + 1 + 1, 2, none⟩ (.int .i64 0)).setCell ⟨w.heap.size + 1 + 1, 3, none⟩ (.int .i64 0)).setCell ⟨w.heap.size + 1 + 1, 4, none⟩ (.slice none 0 0) = W3 at *
          obtain ⟨c0, c1, c2⟩ := m3.all
          refine bodyPost_ret (v := .tuple #[.agg (Lm.zero.cells none 0), .int .i64 s2]) (by simp [results, Tryz.results30, go_sem, c0, Lm.cells, Lm.zero]) rfl ⟨none, 0, rfl, ⟨StopsAt.nil _ _ _, fun h => absurd rfl h⟩, hb3⟩
    · rw [if_pos hz] at hr
      have hz2 : (p2 != 0) = true := by simpa using hz
      subst hr
      clear hz HPB
      go_enter Tryz.func30, Tryz.ntmps30
      go_wp2_with fail
      refine (H2.out _ hb).mono ?_
      rintro e w1 ⟨rfl, b⟩
      replace m0 := m0.below b m0.lt
      replace m1 := m1.below b m1.lt
      replace m2 := m2.below b m2.lt
      replace hb := hb.trans (b.mono hb.size)
      clear b x0 x1 x2 y0 y1 y2 z0 z1 z2
      obtain ⟨x0, x1, x2⟩ := m0.all
      obtain ⟨y0, y1, y2⟩ := m1.all
      obtain ⟨z0, z1, z2⟩ := m2.all
      go_wp2_with fail
      refine (H3.out _).mono ?_
      rintro e w2 ⟨rfl, rfl⟩
      go_wp2_with fail
      refine (H4.out _).mono ?_
      rintro e w2 ⟨rfl, b⟩
      replace m0 := m0.below b m0.lt
      replace m1 := m1.below b m1.lt
      replace m2 := m2.below b m2.lt
      replace hb := hb.trans (b.mono hb.size)
      clear b x0 x1 x2 y0 y1 y2 z0 z1 z2
      obtain ⟨x0, x1, x2⟩ := m0.all
      obtain ⟨y0, y1, y2⟩ := m1.all
      obtain ⟨z0, z1, z2⟩ := m2.all
      go_wp2_with fail
      refine (HD1.out _ hb).mono ?_
      rintro e w3 ⟨rfl, b⟩
      replace m0 := m0.below b m0.lt
      replace m1 := m1.below b m1.lt
      replace m2 := m2.below b m2.lt
      replace hb := hb.trans (b.mono hb.size)
      clear b x0 x1 x2 y0 y1 y2 z0 z1 z2
      obtain ⟨x0, x1, x2⟩ := m0.all
      obtain ⟨y0, y1, y2⟩ := m1.all
      obtain ⟨z0, z1, z2⟩ := m2.all
      go_wp2
      have m3 := m2.set5 (b0 := .string ⟨#[]⟩) (b1 := .int .i64 0) (b2 := .int .i64 0) (b3 := .int .i64 0) (b4 := .slice none 0 0)
      have hb3 := below_set5 (b0 := .string ⟨#[]⟩) (b1 := .int .i64 0) (b2 := .int .i64 0) (b3 := .int .i64 0) (b4 := .slice none 0 0) hb (show w.heap.size ≤ w.heap.size + 1 + 1 by omega)
      unfold set5 at m3 hb3
      generalize ((((w3.setCell ⟨w.heap.size + 1 + 1, 0, none⟩ (.string ⟨#[]⟩)).setCell ⟨w.heap.size + 1 + 1, 1, none⟩ (.int .i64 0)).setCell ⟨w.heap.size + 1 + 1, 2, none⟩ (.int .i64 0)).setCell ⟨w.heap.size + 1 + 1, 3, none⟩ (.int .i64 0)).setCell ⟨w.heap.size + 1 + 1, 4, none⟩ (.slice none 0 0) = W3 at *
      obtain ⟨c0, c1, c2⟩ := m3.all
      refine bodyPost_ret (v := .tuple #[.agg (Lm.zero.cells none 0), .int .i64 p2]) (by simp [results, Tryz.results30, go_sem, c0, Lm.cells, Lm.zero]) rfl ⟨none, 0, rfl, ⟨StopsAt.nil _ _ _, fun h => absurd rfl h⟩, hb3⟩
end Go.Proofs.YtebdkmlganalaaaGreatDoor
