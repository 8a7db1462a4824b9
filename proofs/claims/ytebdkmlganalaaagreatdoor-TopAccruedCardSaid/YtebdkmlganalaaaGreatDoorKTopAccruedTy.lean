/- Limits in memory; slices.Clone at stops; Pause. -/
import Derived.Test.YtebdkmlganalaaaGreatDoorKTopAccruedGAG
namespace Go.Proofs.YtebdkmlganalaaaGreatDoor
open Go.RowKit Go.Shelf

/-- The cells of stops, one behind the other. -/
def stopCells (S : List Stp2) : List Value := S.flatMap encStop
theorem stopCells_len (S : List Stp2) : (stopCells S).length = S.length * 2 := by
  induction S with
  | nil => rfl
  | cons s S ih => simp only [stopCells, List.flatMap_cons, List.length_append, List.length_cons] at *; rw [ih]; simp [encStop]; omega
theorem stopCells_at : ∀ (S : List Stp2) (i : Nat) (s : Stp2), S[i]? = some s → (stopCells S)[i * 2]? = some (.int .i64 s.1) ∧ (stopCells S)[i * 2 + 1]? = some (.int .i64 s.2)
  | [], i, s, h => by simp at h
  | t :: S, 0, s, h => by simp at h; subst h; exact ⟨rfl, rfl⟩
  | t :: S, i + 1, s, h => by
    have := stopCells_at S i s (by simpa using h)
    have e1 : (i + 1) * 2 = i * 2 + 1 + 1 := by omega
    have e2 : (i + 1) * 2 + 1 = i * 2 + 1 + 1 + 1 := by omega
    rw [e1]
    exact this
theorem stopCells_one (S : List Stp2) : ∀ u ∈ stopCells S, u.oneCell' = true := by
  intro u hu
  simp only [stopCells, List.mem_flatMap, encStop] at hu
  obtain ⟨s, _, h⟩ := hu
  simp at h
  rcases h with rfl | rfl <;> rfl
theorem StopsAt.of_row {w : World} {base g n cap : Nat} {S : List Stp2} (hl : S.length = n) (h : w.ownsRow base 102 2 (.slice (some ⟨g, 0, none⟩) n cap) n (stopCells S)) (hg : g < w.heap.size) : StopsAt w w.heap.size (some ⟨g, 0, none⟩) S := fun i s hi => by
  refine ⟨g, 0, rfl, hg, ?_⟩
  have hlt := (List.getElem?_eq_some_iff.1 hi).1
  obtain ⟨h1, h2⟩ := stopCells_at S i s hi
  have k1 := h.cellAt (i * 2) (by omega)
  have k2 := h.cellAt (i * 2 + 1) (by omega)
  rw [Nat.zero_add]
  exact ⟨k1.trans h1, k2.trans h2⟩
/-- The cells as they are read: for an append. -/
theorem stops_news {w : World} {B : Nat} {A : Option Addr} {S : List Stp2} (h : StopsAt w B A S) : ∀ j u, (stopCells S)[j]? = some u → ∃ ad, A = some ad ∧ w.cell? (ad.add j) = some u := fun j u hj => by
  have hlt := (List.getElem?_eq_some_iff.1 hj).1
  rw [stopCells_len] at hlt
  obtain ⟨s, hs⟩ : ∃ s, S[j / 2]? = some s := ⟨_, List.getElem?_eq_getElem (by omega)⟩
  obtain ⟨g, off, h1, _, h2, h3⟩ := h _ s hs
  obtain ⟨k1, k2⟩ := stopCells_at S _ s hs
  refine ⟨_, h1, ?_⟩
  have ha : (⟨g, off, none⟩ : Addr).add j = ⟨g, off + j, none⟩ := by
    unfold Addr.add
    split
    · rename_i h0; subst h0; rfl
    · rfl
  rw [ha]
  rcases Nat.mod_two_eq_zero_or_one j with hm | hm
  · have e : j = j / 2 * 2 := by omega
    rw [← e] at k1
    rw [k1] at hj
    injection hj with hj
    rw [← hj, e]
    have e2 : j / 2 * 2 / 2 * 2 = j / 2 * 2 := by omega
    exact h2
  · have e : j = j / 2 * 2 + 1 := by omega
    rw [← e] at k2
    rw [k2] at hj
    injection hj with hj
    rw [← hj, e]
    exact h3

theorem Tryz.infoStop : (Tryz.prog.info? 102).map (fun i => (i.zero, i.size, i.bytes)) = some (some (.agg #[.int .i64 0, .int .i64 0]), 2, 16) := by kernel_rfl

theorem stopCells_app (J K : List Stp2) : stopCells (J ++ K) = stopCells J ++ stopCells K := by simp [stopCells]

theorem StopsAt.of_own {w : World} {base cap : Nat} {A : Option Addr} {J : List Stp2} (h : w.ownsRow base 102 2 (.slice A J.length cap) J.length (stopCells J)) : StopsAt w w.heap.size A J := by
  rcases Nat.eq_zero_or_pos J.length with h0 | h0
  · rw [List.eq_nil_of_length_eq_zero h0]
    exact StopsAt.nil _ _ _
  · obtain ⟨g, cap', hv, _, hg⟩ := h.form h0
    injection hv with hA _ hcap
    subst hA hcap
    exact StopsAt.of_row rfl h hg
/-- A limit in memory: its stops can be read; its sizes are those of Go's. -/
def LmAt (w : World) (B : Nat) (A : Option Addr) (L : Lm) : Prop := StopsAt w B A L.S ∧ L.id.size ≤ 9223372036854775807 ∧ L.S.length ≤ 9223372036854775807
theorem LmAt.below {w w' : World} {B : Nat} {A : Option Addr} {L : Lm} (h : LmAt w B A L) (hb : Below B w w') : LmAt w' B A L := ⟨h.1.below hb, h.2⟩


/-- What Clone leaves: the same stops in memory of the call's own. -/
def ClonePost (w : World) (S : List Stp2) (e : Ending) (w' : World) : Prop :=
  ∃ A' c', e = .returned (.slice A' S.length c') ∧ w'.ownsRow w.heap.size 102 2 (.slice A' S.length c') S.length (stopCells S) ∧ Below w.heap.size w w'

set_option maxHeartbeats 1000000 in
set_option maxRecDepth 100000 in
theorem clone_any (w : World) (B : Nat) (A : Option Addr) (S : List Stp2) (c : Nat) (h : StopsAt w B A S) (hB : B ≤ w.heap.size) (hl : S.length ≤ 100) :
    Calls Tryz.prog 114 #[.slice A S.length c] w (ClonePost w S) := by
  obtain ⟨i0, hi0, hz0, hz1, hz2⟩ := info_parts Tryz.infoStop
  have hw0 : w.ownsRow w.heap.size 102 2 (.slice none 0 0) 0 [] := World.ownsRow_nil _ _ _ _
  cases A with
  | none =>
    have hS : S = [] := by
      match S, h with
      | [], _ => rfl
      | s :: S, h => obtain ⟨_, _, hA, _⟩ := h 0 s rfl; cases hA
    subst hS
    clear h hl
    have hnil := fun (W : World) (n c : Nat) => Lib.run_eql_slice_nil (P := Tryz.prog) W 64 102 none n c 0 0 Tryz.underlying64
    go_enter Tryz.func114, Tryz.ntmps114
    go_wp2
    go_ret
    exact ⟨none, 0, rfl, hw0, Below.refl _ _⟩
  | some ad =>
    have own := World.ownsRow_lit (base := w.heap.size) (e := 102) (size := 2) w #[] 0 (Nat.le_refl _) (by unfold maxLen; omega) rfl
    have hst := h.below ((Below.refl B w).alloc hB (.cells #[] 102))
    have hbb := (Below.refl w.heap.size w).alloc (Nat.le_refl _) (.cells #[] 102)
    clear hw0 h
    have hnil := fun (W : World) (n c : Nat) => Lib.run_eql_slice_nil (P := Tryz.prog) W 64 102 (some ad) n c 0 0 Tryz.underlying64
    go_enter Tryz.func114, Tryz.ntmps114
    go_wp2_with (at_builtin; refine wpList_append_any rfl _ _ 64 rfl w.heap.size 102 i0 _ 2 16 Tryz.underlying64 hi0 hz0 hz1 hz2 rfl (by omega) (.slice (some ⟨w.heap.size, 0, none⟩) 0 0) 0 [] rfl own (some ad) S.length c (stopCells S) rfl (stopCells_len S) (stops_news hst) (stopCells_one S) (by unfold maxLen; omega) (by omega) (by simp) ?_; intro v4 w1 own4 gr4 l4)
    simp only [Nat.zero_add, List.nil_append] at own4
    have hb4 := hbb.grown gr4 (by simp) (fun x hx => (own.lt x hx).1)
    have hv : ∃ A' c', v4 = .slice A' S.length c' := by
      rcases own4.2 with ⟨hv, h0⟩ | ⟨g, cap, cur, hv, _⟩
      · exact ⟨none, 0, by rw [hv, h0]⟩
      · exact ⟨_, _, hv⟩
    obtain ⟨A', c', rfl⟩ := hv
    clear own hst hbb gr4 l4
    go_wp2
    go_ret
    exact ⟨A', c', rfl, own4, hb4⟩

theorem owns_mono {w : World} {base base' : Nat} {e : TypeId} {size : Nat} {v : Value} {n : Nat} {xs : List Value} (h : w.ownsRow base e size v n xs) (hb : base' ≤ base) : w.ownsRow base' e size v n xs :=
  ⟨h.1, h.2.imp id fun ⟨g, cap, cur, h1, h2, h3⟩ => ⟨g, cap, cur, h1, Nat.le_trans hb h2, h3⟩⟩

def Lm.zero : Lm := ⟨⟨#[]⟩, 0, 0, 0, []⟩
section
variable {w w0 : World} {g : Nat} {t : TypeId} {a0 a1 a2 a3 a4 b0 b1 b2 b3 b4 : Value} {B : Nat}
/-- A struct of five cells, stored. -/
def set5 (w : World) (g : Nat) (b0 b1 b2 b3 b4 : Value) : World := ((((w.setCell ⟨g, 0, none⟩ b0).setCell ⟨g, 1, none⟩ b1).setCell ⟨g, 2, none⟩ b2).setCell ⟨g, 3, none⟩ b3).setCell ⟨g, 4, none⟩ b4
theorem Blk.set5 (h : Blk w g t #[a0, a1, a2, a3, a4]) : Blk (set5 w g b0 b1 b2 b3 b4) g t #[b0, b1, b2, b3, b4] := ((((h.set_ 0 b0).set_ 1 b1).set_ 2 b2).set_ 3 b3).set_ 4 b4
theorem below_set5 (h : Below B w0 w) (hg : B ≤ g) : Below B w0 (set5 w g b0 b1 b2 b3 b4) := ((((h.setCell (p := ⟨g, 0, none⟩) hg b0).setCell (p := ⟨g, 1, none⟩) hg b1).setCell (p := ⟨g, 2, none⟩) hg b2).setCell (p := ⟨g, 3, none⟩) hg b3).setCell (p := ⟨g, 4, none⟩) hg b4
theorem only_set5 (h : Only (fun i => i = g) w0 w) : Only (fun i => i = g) w0 (set5 w g b0 b1 b2 b3 b4) := ((((h.setCell (p := ⟨g, 0, none⟩) (.inl rfl) b0).setCell (p := ⟨g, 1, none⟩) (.inl rfl) b1).setCell (p := ⟨g, 2, none⟩) (.inl rfl) b2).setCell (p := ⟨g, 3, none⟩) (.inl rfl) b3).setCell (p := ⟨g, 4, none⟩) (.inl rfl) b4
end
/-- What Pause returns. -/
def pauseS (L : Lm) (s : Stp2) : Lm × Int := if (prB L && psB s) = true then (if L.S.length = 60 then (Lm.zero, 2) else (⟨L.id, L.n, L.u, L.f, L.S ++ [s]⟩, 0)) else (Lm.zero, 1)
def LmPost (w : World) (r : Lm × Int) (e : Ending) (w' : World) : Prop :=
  ∃ A' c', e = .returned (.tuple #[.agg (r.1.cells A' c'), .int .i64 r.2]) ∧ StopsAt w' w'.heap.size A' r.1.S ∧ Below w.heap.size w w'
/-- .. where the stops lie below the base of the argument's. -/
def LmPostB (w : World) (B : Nat) (r : Lm × Int) (e : Ending) (w' : World) : Prop :=
  ∃ A' c', e = .returned (.tuple #[.agg (r.1.cells A' c'), .int .i64 r.2]) ∧ StopsAt w B A' r.1.S ∧ Below w.heap.size w w'

set_option maxHeartbeats 2000000 in
set_option maxRecDepth 100000 in
theorem pause_any (w : World) (L : Lm) (s : Stp2) (B : Nat) (A : Option Addr) (c : Nat) (h : LmAt w B A L) (hB : B ≤ w.heap.size) :
    Calls Tryz.prog 90 #[.agg (L.cells A c), .agg (encStop s).toArray] w (LmPost w (pauseS L s)) := by
  obtain ⟨i0, hi0, hz0, hz1, hz2⟩ := info_parts Tryz.infoStop
  obtain ⟨r, hr⟩ : ∃ r, pauseS L s = r := ⟨_, rfl⟩
  rw [hr]
  obtain ⟨p, q⟩ := s
  have hpr := fun W (b : Below w.heap.size w W) => proper_any W L B A c (h.below (b.mono hB)).1 (Nat.le_trans hB b.size) h.2.1 h.2.2
  have hst := fun W => properStop_any W p q
  have hcl := fun W (b : Below w.heap.size w W) => clone_any W B A L.S c (h.below (b.mono hB)).1 (Nat.le_trans hB b.size)
  show Calls Tryz.prog 90 #[.agg #[.string L.id, .int .i64 L.n, .int .i64 L.u, .int .i64 L.f, .slice A L.S.length c], .agg #[.int .i64 p, .int .i64 q]] w _
  have hb := (((Below.refl w.heap.size w).alloc (Nat.le_refl _) (.cells #[.string L.id, .int .i64 L.n, .int .i64 L.u, .int .i64 L.f, .slice A L.S.length c] 66)).alloc (by simp) (.cells #[.int .i64 p, .int .i64 q] 102)).alloc (by simp; omega) (.cells #[.string ⟨#[]⟩, .int .i64 0, .int .i64 0, .int .i64 0, .slice none 0 0] 66)
  have k0 := ((Blk.new w 66 #[.string L.id, .int .i64 L.n, .int .i64 L.u, .int .i64 L.f, .slice A L.S.length c]).alloc (.cells #[.int .i64 p, .int .i64 q] 102)).alloc (.cells #[.string ⟨#[]⟩, .int .i64 0, .int .i64 0, .int .i64 0, .slice none 0 0] 66)
  have k1 := (Blk.new1 w (.cells #[.string L.id, .int .i64 L.n, .int .i64 L.u, .int .i64 L.f, .slice A L.S.length c] 66) 102 #[.int .i64 p, .int .i64 q]).alloc (.cells #[.string ⟨#[]⟩, .int .i64 0, .int .i64 0, .int .i64 0, .slice none 0 0] 66)
  have k2 := Blk.new2 w (.cells #[.string L.id, .int .i64 L.n, .int .i64 L.u, .int .i64 L.f, .slice A L.S.length c] 66) (.cells #[.int .i64 p, .int .i64 q] 102) 66 #[.string ⟨#[]⟩, .int .i64 0, .int .i64 0, .int .i64 0, .slice none 0 0]
  have HPR := Lib.hid hpr
  have HST := Lib.hid hst
  have HCL := Lib.hid hcl
  have HR := Lib.hid hr
  clear hpr hst hcl hr h
  obtain ⟨x0, x1, x2⟩ := k0.all
  obtain ⟨y0, y1, y2⟩ := k1.all
  obtain ⟨z0, z1, z2⟩ := k2.all
  unfold pauseS at HR
  cases hp : prB L with
  | false =>
    have h2 := HPR.out
    have hr := HR.out
    rw [hp] at h2 hr
    rw [Bool.false_and, if_neg (by simp)] at hr
    have H2 := Lib.hid h2
    subst hr
    clear h2 hp HPR HR
    go_enter Tryz.func90, Tryz.ntmps90
    go_wp2_with fail
    refine (H2.out _ hb).mono ?_
    rintro e w2 ⟨rfl, b⟩
    have hb2 := hb.trans (b.mono hb.size)
    have m2 := k2.below b k2.lt
    clear b hb k0 k1 k2 x0 x1 x2 y0 y1 y2 z0 z1 z2
    obtain ⟨z0, z1, z2⟩ := m2.all
    go_wp2
    have m3 := m2.set5 (b0 := .string ⟨#[]⟩) (b1 := .int .i64 0) (b2 := .int .i64 0) (b3 := .int .i64 0) (b4 := .slice none 0 0)
    have hb3 := below_set5 (b0 := .string ⟨#[]⟩) (b1 := .int .i64 0) (b2 := .int .i64 0) (b3 := .int .i64 0) (b4 := .slice none 0 0) hb2 (show w.heap.size ≤ w.heap.size + 1 + 1 by omega)
    unfold set5 at m3 hb3
    generalize ((((w2.setCell ⟨w.heap.size + 1 + 1, 0, none⟩ (.string ⟨#[]⟩)).setCell ⟨w.heap.size + 1 + 1, 1, none⟩ (.int .i64 0)).setCell ⟨w.heap.size + 1 + 1, 2, none⟩ (.int .i64 0)).setCell ⟨w.heap.size + 1 + 1, 3, none⟩ (.int .i64 0)).setCell ⟨w.heap.size + 1 + 1, 4, none⟩ (.slice none 0 0) = W3 at *
    obtain ⟨c0, c1, c2⟩ := m3.all
    refine bodyPost_ret (v := .tuple #[.agg (Lm.zero.cells none 0), .int .i64 1]) (by simp [results, Tryz.results90, go_sem, c0, Lm.cells, Lm.zero]) rfl ⟨none, 0, rfl, StopsAt.nil _ _ _, hb3⟩
  | true =>
    have h2 := HPR.out
    have hr := HR.out
    have h3 := HST.out
    rw [hp] at h2 hr
    cases hq : psB (p, q) with
    | false =>
      rw [hq] at hr h3
      rw [Bool.and_false, if_neg (by simp)] at hr
      have H2 := Lib.hid h2
      have H3 := Lib.hid h3
      subst hr
      clear h2 h3 hp hq HPR HR HST
      go_enter Tryz.func90, Tryz.ntmps90
      go_wp2_with fail
      refine (H2.out _ hb).mono ?_
      rintro e w2 ⟨rfl, b⟩
      have hb1 := hb.trans (b.mono hb.size)
      have n0 := k0.below b k0.lt
      have n1 := k1.below b k1.lt
      have n2 := k2.below b k2.lt
      clear b hb k0 k1 k2 x0 x1 x2 y0 y1 y2 z0 z1 z2 H2
      obtain ⟨y0, y1, y2⟩ := n1.all
      go_wp2_with fail
      refine (H3.out _).mono ?_
      rintro e w3 ⟨rfl, b⟩
      have hb2 := hb1.trans (b.mono hb1.size)
      have m0 := n0.below b n0.lt
      have m1 := n1.below b n1.lt
      have m2 := n2.below b n2.lt
      clear b hb1 n0 n1 n2 y0 y1 y2 H3
      obtain ⟨x0, x1, x2⟩ := m0.all
      obtain ⟨y0, y1, y2⟩ := m1.all
      obtain ⟨z0, z1, z2⟩ := m2.all
      go_wp2
      have m3 := m2.set5 (b0 := .string ⟨#[]⟩) (b1 := .int .i64 0) (b2 := .int .i64 0) (b3 := .int .i64 0) (b4 := .slice none 0 0)
      have hb3 := below_set5 (b0 := .string ⟨#[]⟩) (b1 := .int .i64 0) (b2 := .int .i64 0) (b3 := .int .i64 0) (b4 := .slice none 0 0) hb2 (show w.heap.size ≤ w.heap.size + 1 + 1 by omega)
      unfold set5 at m3 hb3
      generalize ((((w3.setCell ⟨w.heap.size + 1 + 1, 0, none⟩ (.string ⟨#[]⟩)).setCell ⟨w.heap.size + 1 + 1, 1, none⟩ (.int .i64 0)).setCell ⟨w.heap.size + 1 + 1, 2, none⟩ (.int .i64 0)).setCell ⟨w.heap.size + 1 + 1, 3, none⟩ (.int .i64 0)).setCell ⟨w.heap.size + 1 + 1, 4, none⟩ (.slice none 0 0) = W3 at *
      obtain ⟨c0, c1, c2⟩ := m3.all
      refine bodyPost_ret (v := .tuple #[.agg (Lm.zero.cells none 0), .int .i64 1]) (by simp [results, Tryz.results90, go_sem, c0, Lm.cells, Lm.zero]) rfl ⟨none, 0, rfl, StopsAt.nil _ _ _, hb3⟩
    | true =>
      rw [hq] at hr h3
      rw [if_pos (by rfl)] at hr
      have H2 := Lib.hid h2
      have H3 := Lib.hid h3
      have hl60 := (prB_iff.1 hp).2.2.2.1
      clear h2 h3 hp hq HPR HR HST
      by_cases h60 : L.S.length = 60
      · rw [if_pos h60] at hr
        subst hr
        have e60 : ((L.S.length : Int) == 60) = true := by simp [h60]
        have H60 := Lib.hid h60
        clear h60
        go_enter Tryz.func90, Tryz.ntmps90
        go_wp2_with fail
        refine (H2.out _ hb).mono ?_
        rintro e w2 ⟨rfl, b⟩
        have hb1 := hb.trans (b.mono hb.size)
        have n0 := k0.below b k0.lt
        have n1 := k1.below b k1.lt
        have n2 := k2.below b k2.lt
        clear b hb k0 k1 k2 x0 x1 x2 y0 y1 y2 z0 z1 z2 H2
        obtain ⟨y0, y1, y2⟩ := n1.all
        go_wp2_with fail
        refine (H3.out _).mono ?_
        rintro e w3 ⟨rfl, b⟩
        have hb2 := hb1.trans (b.mono hb1.size)
        have m0 := n0.below b n0.lt
        have m1 := n1.below b n1.lt
        have m2 := n2.below b n2.lt
        clear b hb1 n0 n1 n2 y0 y1 y2 H3
        obtain ⟨x0, x1, x2⟩ := m0.all
        obtain ⟨y0, y1, y2⟩ := m1.all
        obtain ⟨z0, z1, z2⟩ := m2.all
        go_wp2
        have m3 := m2.set5 (b0 := .string ⟨#[]⟩) (b1 := .int .i64 0) (b2 := .int .i64 0) (b3 := .int .i64 0) (b4 := .slice none 0 0)
        have hb3 := below_set5 (b0 := .string ⟨#[]⟩) (b1 := .int .i64 0) (b2 := .int .i64 0) (b3 := .int .i64 0) (b4 := .slice none 0 0) hb2 (show w.heap.size ≤ w.heap.size + 1 + 1 by omega)
        unfold set5 at m3 hb3
        generalize ((((w3.setCell ⟨w.heap.size + 1 + 1, 0, none⟩ (.string ⟨#[]⟩)).setCell ⟨w.heap.size + 1 + 1, 1, none⟩ (.int .i64 0)).setCell ⟨w.heap.size + 1 + 1, 2, none⟩ (.int .i64 0)).setCell ⟨w.heap.size + 1 + 1, 3, none⟩ (.int .i64 0)).setCell ⟨w.heap.size + 1 + 1, 4, none⟩ (.slice none 0 0) = W3 at *
        obtain ⟨c0, c1, c2⟩ := m3.all
        refine bodyPost_ret (v := .tuple #[.agg (Lm.zero.cells none 0), .int .i64 2]) (by simp [results, Tryz.results90, go_sem, c0, Lm.cells, Lm.zero]) rfl ⟨none, 0, rfl, StopsAt.nil _ _ _, hb3⟩
      · rw [if_neg h60] at hr
        subst hr
        have e60 : ((L.S.length : Int) == 60) = false := by simp; omega
        clear h60
        go_enter Tryz.func90, Tryz.ntmps90
        go_wp2_with fail
        refine (H2.out _ hb).mono ?_
        rintro e w2 ⟨rfl, b⟩
        have hb1 := hb.trans (b.mono hb.size)
        have n0 := k0.below b k0.lt
        have n1 := k1.below b k1.lt
        have n2 := k2.below b k2.lt
        clear b hb k0 k1 k2 x0 x1 x2 y0 y1 y2 z0 z1 z2 H2
        obtain ⟨y0, y1, y2⟩ := n1.all
        go_wp2_with fail
        refine (H3.out _).mono ?_
        rintro e w3 ⟨rfl, b⟩
        have hb2 := hb1.trans (b.mono hb1.size)
        have m0 := n0.below b n0.lt
        have m1 := n1.below b n1.lt
        have m2 := n2.below b n2.lt
        clear b hb1 n0 n1 n2 y0 y1 y2 H3
        obtain ⟨x0, x1, x2⟩ := m0.all
        obtain ⟨y0, y1, y2⟩ := m1.all
        obtain ⟨z0, z1, z2⟩ := m2.all
        go_wp2_with fail
        clear x0 x1 x2 y0 y1 y2 z0 z1 z2
        have hbD := hb2.drew
        have m0D := m0.drew
        have m1D := m1.drew
        have m2D := m2.drew
        refine wp_region_bush (fun V => Blk V w.heap.size 66 #[.string L.id, .int .i64 L.n, .int .i64 L.u, .int .i64 L.f, .slice A L.S.length c] ∧ Blk V (w.heap.size + 1) 102 #[.int .i64 p, .int .i64 q]) [0, 1, 3] 2 [] [5, 6, 7] (by kernel_rfl) (by kernel_rfl) (fun _ d _ _ _ h => by cases d <;> exact h) ⟨m0, m1⟩ ?_
        simp only [pick, List.drop_succ_cons, List.drop_zero, List.head?_cons, Option.toList_some, List.cons_append, List.nil_append, List.append_nil]
        repeat (refine wpHeld_step ?_ rfl ?_ ?_; rotate_left; · (intro V hV; obtain ⟨v0, v1, v2⟩ := hV.1.all; obtain ⟨x0, x1, x2⟩ := hV.2.all; go_simp; with_reducible rfl))
        refine wpHeld_nil ?_
        clear hb2 m0 m1 m2
        generalize w3.drew = V at *
        refine wpBush_two 2 4 (by kernel_rfl) ?_ ?_
        · simp only [pick, List.drop_succ_cons, List.drop_zero, List.head?_cons, Option.toList_some, List.append_nil]
          go_wp2_with fail
          refine (HCL.out V hbD (by omega)).mono ?_
          rintro e X ⟨A4, c4, rfl, own, b⟩
          have m0X := m0D.below b m0D.lt
          have m1X := m1D.below b m1D.lt
          have m2X := m2D.below b m2D.lt
          replace own := owns_mono own hbD.size
          have hbX := hbD.trans (b.mono hbD.size)
          clear b m0D m1D m2D hbD
          go_wp2_with fail
          refine ⟨⟨m0X, m1X⟩, ?_⟩
          refine wpBush_one 4 (by kernel_rfl) ?_
          simp only [pick, List.drop_succ_cons, List.drop_zero, List.head?_cons, Option.toList_some, List.append_nil]
          go_wp2_with fail
          have kn := Blk.new X 102 #[.int .i64 p, .int .i64 q]
          replace hbX := hbX.alloc hbX.size (.cells #[.int .i64 p, .int .i64 q] 102)
          replace m0X := m0X.alloc (.cells #[.int .i64 p, .int .i64 q] 102)
          replace m1X := m1X.alloc (.cells #[.int .i64 p, .int .i64 q] 102)
          replace m2X := m2X.alloc (.cells #[.int .i64 p, .int .i64 q] 102)
          replace own := own.alloc (.cells #[.int .i64 p, .int .i64 q] 102)
          refine ⟨⟨m0X, m1X⟩, ?_⟩
          generalize X.heap.size = gn at *
          generalize X.alloc (.cells #[.int .i64 p, .int .i64 q] 102) = V2 at *
          refine wpBush_end (by kernel_rfl) (by kernel_rfl) (by kernel_rfl) ?_
          simp only [pick, List.drop_succ_cons, List.drop_zero, List.head?_cons, Option.toList_some, List.cons_append, List.nil_append, List.append_nil]
          refine wpHeld_nil ?_
          have hszl := hbX.size
          go_wp2_with (at_builtin; refine wpList_append_lies _ rfl _ _ 64 rfl w.heap.size 102 i0 _ 2 16 Tryz.underlying64 hi0 hz0 hz1 hz2 rfl (by omega) (.slice A4 L.S.length c4) L.S.length _ rfl own ⟨gn, 0, none⟩ 1 1 [.int .i64 p, .int .i64 q] rfl rfl (World.news_of_block kn) (stopCells_one [(p, q)]) (by omega) (by unfold maxLen; omega) (by omega) hszl V2.heap.size rfl ?_; intro gz cz Y own9 gr9 l9 z9; obtain ⟨x0, x1, x2⟩ := (m0X.grown gr9 (fun he => own_blk_ne own m0X (by decide) he.symm)).all; obtain ⟨z0, z1, z2⟩ := (m2X.grown gr9 (fun he => own_blk_ne own m2X (by decide) he.symm)).all)
          have m0Y := m0X.grown gr9 (fun he => own_blk_ne own m0X (by decide) he.symm)
          have m2Y := m2X.grown gr9 (fun he => own_blk_ne own m2X (by decide) he.symm)
          have hbY := hbX.grown gr9 hszl (fun x hx => (own.lt x hx).1)
          clear gr9 l9 kn own m0X m1X m2X hbX hszl
          clear x0 x1 x2 z0 z1 z2
          have m0Z := m0Y.set_ 4 (.slice (some ⟨gz, 0, none⟩) (L.S.length + 1) cz)
          have m2Z := m2Y.far (p := ⟨w.heap.size, 4, none⟩) (show w.heap.size + 1 + 1 ≠ w.heap.size by omega) (.slice (some ⟨gz, 0, none⟩) (L.S.length + 1) cz)
          have hbZ := hbY.setCell (p := ⟨w.heap.size, 4, none⟩) (Nat.le_refl w.heap.size) (.slice (some ⟨gz, 0, none⟩) (L.S.length + 1) cz)
          have ownZ := Only.owns (F := fun i => i = w.heap.size) ((Only.refl (fun i => i = w.heap.size) Y).setCell (p := ⟨w.heap.size, 4, none⟩) (.inl rfl) (.slice (some ⟨gz, 0, none⟩) (L.S.length + 1) cz)) own9 (fun g hg he => own_blk_ne own9 m0Y (by decide) (he ▸ hg))
          clear m0Y m2Y hbY own9
          have hzl : gz < (Y.setCell ⟨w.heap.size, 4, none⟩ (.slice (some ⟨gz, 0, none⟩) (L.S.length + 1) cz)).heap.size := by simpa [World.setCell] using z9
          generalize Y.setCell ⟨w.heap.size, 4, none⟩ (.slice (some ⟨gz, 0, none⟩) (L.S.length + 1) cz) = Z at *
          have m3 := m2Z.set5 (b0 := .string L.id) (b1 := .int .i64 L.n) (b2 := .int .i64 L.u) (b3 := .int .i64 L.f) (b4 := .slice (some ⟨gz, 0, none⟩) (L.S.length + 1) cz)
          have hb3 := below_set5 (b0 := .string L.id) (b1 := .int .i64 L.n) (b2 := .int .i64 L.u) (b3 := .int .i64 L.f) (b4 := .slice (some ⟨gz, 0, none⟩) (L.S.length + 1) cz) hbZ (show w.heap.size ≤ w.heap.size + 1 + 1 by omega)
          have own3 := Only.owns (only_set5 (g := w.heap.size + 1 + 1) (b0 := .string L.id) (b1 := .int .i64 L.n) (b2 := .int .i64 L.u) (b3 := .int .i64 L.f) (b4 := .slice (some ⟨gz, 0, none⟩) (L.S.length + 1) cz) (Only.refl (fun i => i = w.heap.size + 1 + 1) Z)) ownZ (fun g hg he => own_blk_ne ownZ m2Z (by decide) (he ▸ hg))
          have hsz3 : gz < (set5 Z (w.heap.size + 1 + 1) (.string L.id) (.int .i64 L.n) (.int .i64 L.u) (.int .i64 L.f) (.slice (some ⟨gz, 0, none⟩) (L.S.length + 1) cz)).heap.size := by simpa [set5, World.setCell] using hzl
          unfold set5 at m3 hb3 own3 hsz3
          generalize ((((Z.setCell ⟨w.heap.size + 1 + 1, 0, none⟩ (.string L.id)).setCell ⟨w.heap.size + 1 + 1, 1, none⟩ (.int .i64 L.n)).setCell ⟨w.heap.size + 1 + 1, 2, none⟩ (.int .i64 L.u)).setCell ⟨w.heap.size + 1 + 1, 3, none⟩ (.int .i64 L.f)).setCell ⟨w.heap.size + 1 + 1, 4, none⟩ (.slice (some ⟨gz, 0, none⟩) (L.S.length + 1) cz) = W3 at *
          obtain ⟨c0, c1, c2⟩ := m3.all
          have hll : (L.S ++ [(p, q)]).length = L.S.length + 1 := by simp
          refine bodyPost_ret (v := .tuple #[.agg ((⟨L.id, L.n, L.u, L.f, L.S ++ [(p, q)]⟩ : Lm).cells (some ⟨gz, 0, none⟩) cz), .int .i64 0]) (by simp [results, Tryz.results90, go_sem, c0, Lm.cells]) rfl ⟨some ⟨gz, 0, none⟩, cz, rfl, StopsAt.of_row (n := L.S.length + 1) (cap := cz) (base := w.heap.size) hll (by rw [stopCells_app]; exact own3) hsz3, hb3⟩
        · simp only [pick, List.drop_succ_cons, List.drop_zero, List.head?_cons, Option.toList_some, List.append_nil]
          go_wp2_with fail
          have kn := Blk.new V 102 #[.int .i64 p, .int .i64 q]
          replace hbD := hbD.alloc hbD.size (.cells #[.int .i64 p, .int .i64 q] 102)
          replace m0D := m0D.alloc (.cells #[.int .i64 p, .int .i64 q] 102)
          replace m1D := m1D.alloc (.cells #[.int .i64 p, .int .i64 q] 102)
          replace m2D := m2D.alloc (.cells #[.int .i64 p, .int .i64 q] 102)
          refine ⟨⟨m0D, m1D⟩, ?_⟩
          generalize V.heap.size = gn at *
          generalize V.alloc (.cells #[.int .i64 p, .int .i64 q] 102) = V2 at *
          refine wpBush_one 2 (by kernel_rfl) ?_
          simp only [pick, List.drop_succ_cons, List.drop_zero, List.head?_cons, Option.toList_some, List.append_nil]
          go_wp2_with fail
          refine (HCL.out V2 hbD (by omega)).mono ?_
          rintro e X ⟨A4, c4, rfl, own, b⟩
          have m0X := m0D.below b m0D.lt
          have m1X := m1D.below b m1D.lt
          have m2X := m2D.below b m2D.lt
          have knX := kn.below b kn.lt
          replace own := owns_mono own hbD.size
          have hbX := hbD.trans (b.mono hbD.size)
          clear b m0D m1D m2D hbD
          go_wp2_with fail
          refine ⟨⟨m0X, m1X⟩, ?_⟩
          clear kn
          have kn := knX
          clear knX
          refine wpBush_end (by kernel_rfl) (by kernel_rfl) (by kernel_rfl) ?_
          simp only [pick, List.drop_succ_cons, List.drop_zero, List.head?_cons, Option.toList_some, List.cons_append, List.nil_append, List.append_nil]
          refine wpHeld_nil ?_
          have hszl := hbX.size
          go_wp2_with (at_builtin; refine wpList_append_lies _ rfl _ _ 64 rfl w.heap.size 102 i0 _ 2 16 Tryz.underlying64 hi0 hz0 hz1 hz2 rfl (by omega) (.slice A4 L.S.length c4) L.S.length _ rfl own ⟨gn, 0, none⟩ 1 1 [.int .i64 p, .int .i64 q] rfl rfl (World.news_of_block kn) (stopCells_one [(p, q)]) (by omega) (by unfold maxLen; omega) (by omega) hszl X.heap.size rfl ?_; intro gz cz Y own9 gr9 l9 z9; obtain ⟨x0, x1, x2⟩ := (m0X.grown gr9 (fun he => own_blk_ne own m0X (by decide) he.symm)).all; obtain ⟨z0, z1, z2⟩ := (m2X.grown gr9 (fun he => own_blk_ne own m2X (by decide) he.symm)).all)
          have m0Y := m0X.grown gr9 (fun he => own_blk_ne own m0X (by decide) he.symm)
          have m2Y := m2X.grown gr9 (fun he => own_blk_ne own m2X (by decide) he.symm)
          have hbY := hbX.grown gr9 hszl (fun x hx => (own.lt x hx).1)
          clear gr9 l9 kn own m0X m1X m2X hbX hszl
          clear x0 x1 x2 z0 z1 z2
          have m0Z := m0Y.set_ 4 (.slice (some ⟨gz, 0, none⟩) (L.S.length + 1) cz)
          have m2Z := m2Y.far (p := ⟨w.heap.size, 4, none⟩) (show w.heap.size + 1 + 1 ≠ w.heap.size by omega) (.slice (some ⟨gz, 0, none⟩) (L.S.length + 1) cz)
          have hbZ := hbY.setCell (p := ⟨w.heap.size, 4, none⟩) (Nat.le_refl w.heap.size) (.slice (some ⟨gz, 0, none⟩) (L.S.length + 1) cz)
          have ownZ := Only.owns (F := fun i => i = w.heap.size) ((Only.refl (fun i => i = w.heap.size) Y).setCell (p := ⟨w.heap.size, 4, none⟩) (.inl rfl) (.slice (some ⟨gz, 0, none⟩) (L.S.length + 1) cz)) own9 (fun g hg he => own_blk_ne own9 m0Y (by decide) (he ▸ hg))
          clear m0Y m2Y hbY own9
          have hzl : gz < (Y.setCell ⟨w.heap.size, 4, none⟩ (.slice (some ⟨gz, 0, none⟩) (L.S.length + 1) cz)).heap.size := by simpa [World.setCell] using z9
          generalize Y.setCell ⟨w.heap.size, 4, none⟩ (.slice (some ⟨gz, 0, none⟩) (L.S.length + 1) cz) = Z at *
          have m3 := m2Z.set5 (b0 := .string L.id) (b1 := .int .i64 L.n) (b2 := .int .i64 L.u) (b3 := .int .i64 L.f) (b4 := .slice (some ⟨gz, 0, none⟩) (L.S.length + 1) cz)
          have hb3 := below_set5 (b0 := .string L.id) (b1 := .int .i64 L.n) (b2 := .int .i64 L.u) (b3 := .int .i64 L.f) (b4 := .slice (some ⟨gz, 0, none⟩) (L.S.length + 1) cz) hbZ (show w.heap.size ≤ w.heap.size + 1 + 1 by omega)
          have own3 := Only.owns (only_set5 (g := w.heap.size + 1 + 1) (b0 := .string L.id) (b1 := .int .i64 L.n) (b2 := .int .i64 L.u) (b3 := .int .i64 L.f) (b4 := .slice (some ⟨gz, 0, none⟩) (L.S.length + 1) cz) (Only.refl (fun i => i = w.heap.size + 1 + 1) Z)) ownZ (fun g hg he => own_blk_ne ownZ m2Z (by decide) (he ▸ hg))
          have hsz3 : gz < (set5 Z (w.heap.size + 1 + 1) (.string L.id) (.int .i64 L.n) (.int .i64 L.u) (.int .i64 L.f) (.slice (some ⟨gz, 0, none⟩) (L.S.length + 1) cz)).heap.size := by simpa [set5, World.setCell] using hzl
          unfold set5 at m3 hb3 own3 hsz3
          generalize ((((Z.setCell ⟨w.heap.size + 1 + 1, 0, none⟩ (.string L.id)).setCell ⟨w.heap.size + 1 + 1, 1, none⟩ (.int .i64 L.n)).setCell ⟨w.heap.size + 1 + 1, 2, none⟩ (.int .i64 L.u)).setCell ⟨w.heap.size + 1 + 1, 3, none⟩ (.int .i64 L.f)).setCell ⟨w.heap.size + 1 + 1, 4, none⟩ (.slice (some ⟨gz, 0, none⟩) (L.S.length + 1) cz) = W3 at *
          obtain ⟨c0, c1, c2⟩ := m3.all
          have hll : (L.S ++ [(p, q)]).length = L.S.length + 1 := by simp
          refine bodyPost_ret (v := .tuple #[.agg ((⟨L.id, L.n, L.u, L.f, L.S ++ [(p, q)]⟩ : Lm).cells (some ⟨gz, 0, none⟩) cz), .int .i64 0]) (by simp [results, Tryz.results90, go_sem, c0, Lm.cells]) rfl ⟨some ⟨gz, 0, none⟩, cz, rfl, StopsAt.of_row (n := L.S.length + 1) (cap := cz) (base := w.heap.size) hll (by rw [stopCells_app]; exact own3) hsz3, hb3⟩
end Go.Proofs.YtebdkmlganalaaaGreatDoor
