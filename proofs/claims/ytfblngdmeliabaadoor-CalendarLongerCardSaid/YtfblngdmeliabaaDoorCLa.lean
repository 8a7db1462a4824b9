/- The walk of CalendarLonger. -/
import Derived.Test.YtfblngdmeliabaaDoorCLp
import Derived.Test.YtfblngdmeliabaaDoorCEa
import Derived.Test.YtfblngdmeliabaaDoorCMa
import Derived.Test.YtfblngdmeliabaaDoorBu
namespace Go.Proofs.YtfblngdmeliabaaDoor
open Go.RowKit

theorem add_at' (w : World) (B : Nat) (A : Option Addr) (l : List Int) (k c : Nat) (hk : l.length = k) (hA : IntsAt w B A l) (hB : B ≤ w.heap.size) (hw : ∀ x ∈ l, wf64 x) (day n u : Int) (r : Int × Int) (hr : addS l day n u = r) :
    Calls Tryd.prog 12 #[.int .i64 day, .agg #[.int .i64 n, .int .i64 u], .slice A k c] w fun e w' =>
      e = .returned (.tuple #[.int .i64 r.1, .int .i64 r.2]) ∧ Below w.heap.size w w' := hk ▸ hr ▸ add_any w B A l c hA hB hw day n u

theorem IntsAt.of_row {w : World} {base g n cap : Nat} {l : List Int} (hl : l.length = n) (h : w.ownsRow base 3 1 (.slice (some ⟨g, 0, none⟩) n cap) n (l.map (Value.int .i64))) (hg : g < w.heap.size) : IntsAt w w.heap.size (some ⟨g, 0, none⟩) l := fun i v hi => by
  refine ⟨g, 0, rfl, hg, ?_⟩
  have hlt : i < l.length := by
    rcases Nat.lt_or_ge i l.length with h1 | h1
    · exact h1
    · rw [List.getElem?_eq_none h1] at hi; cases hi
  have := h.cellAt i (by omega)
  rw [Nat.zero_add, this, List.getElem?_map, hi]
  rfl

theorem ints_news {w : World} {B : Nat} {A : Option Addr} {l : List Int} (h : IntsAt w B A l) : ∀ j u, (l.map (Value.int .i64))[j]? = some u → ∃ ad, A = some ad ∧ w.cell? (ad.add j) = some u := fun j u hj => by
  rw [List.getElem?_map] at hj
  cases hx : l[j]? with
  | none => rw [hx] at hj; cases hj
  | some x =>
    rw [hx] at hj
    obtain ⟨g, off, h1, _, h2⟩ := h j x hx
    injection hj with hj
    subst hj
    refine ⟨_, h1, ?_⟩
    unfold Addr.add
    split
    · rename_i h0; subst h0; exact h2
    · exact h2
theorem ints_one (l : List Int) : ∀ u ∈ l.map (Value.int .i64), u.oneCell' = true := by
  intro u hu
  simp at hu
  obtain ⟨x, _, rfl⟩ := hu
  rfl

set_option maxRecDepth 100000 in
set_option maxHeartbeats 4000000 in
theorem longer_walk (w : World) (ht : Tab w) (d n u : Int) (A : Option Addr) (c : Nat) (l : List Int) (h : Ints w w.heap.size A l) (mo la fu : Int) (m0 : 0 ≤ mo) (m1 : mo ≤ 255) (a0 : 0 ≤ la) (a1 : la ≤ 255) (hfu : wf64 fu) :
    Calls Tryd.prog 8 #[.int .i64 d, .agg #[.int .i64 n, .int .i64 u], .slice A l.length c, .int .u8 mo, .int .u8 la, .int .i64 fu] w fun e w' => e = .returned (.bool true) ∧ Below w.heap.size w w' := by
  obtain ⟨i0, hi0, hz0, hz1, hz2⟩ := info_parts Tryd.infoInt
  obtain ⟨hA, hw, hl⟩ := h
  have HA := Lib.hid hA
  have HW := Lib.hid hw
  have HF := Lib.hid hfu
  clear hA hw hfu
  have b0 := (Below.refl w.heap.size w).alloc (Nat.le_refl _) (.cells #[.int .i64 n, .int .i64 u] 29)
  have k0 := Blk.new w 29 #[.int .i64 n, .int .i64 u]
  have tb := ht.below b0
  go_enter Tryd.func8, Tryd.ntmps8
  go_wp2_with fail
  refine (head_any _ tb).mono ?_
  rintro e w1 ⟨rfl, b1⟩
  have b := b0.trans (b1.mono (by simp))
  have k1 := k0.below b1 k0.lt
  generalize hg : w.heap.size = g at *
  have hgl : g < w1.heap.size := k1.lt
  have HG := Lib.hid hg
  clear b0 k0 b1 tb hg
  obtain ⟨t0, t1, -⟩ := k1.all
  unfold Blk at k1
  go_wp2_with fail
  cases hlt : ltB n u l.length with
  | false =>
    refine (light_at _ _ _ _ _ _ hl _ hlt).mono ?_
    rintro e w2 ⟨rfl, b2⟩
    replace b := b.trans (b2.mono (by omega))
    clear b2 k1 t0 t1
    go_wp2
    go_ret
    exact ⟨rfl, by rw [HG.out]; exact b⟩
  | true =>
    refine (light_at _ _ _ _ _ _ hl _ hlt).mono ?_
    rintro e w2 ⟨rfl, b2⟩
    have hl6 := ltB_len hlt
    replace b := b.trans (b2.mono (by omega))
    have k2 := Blk.below (t := 29) (cs := #[.int .i64 n, .int .i64 u]) k1 b2 hgl
    replace hgl : g < w2.heap.size := k2.lt
    clear b2 k1 t0 t1 hl hlt
    obtain ⟨t0, t1, -⟩ := k2.all
    unfold Blk at k2
    by_cases hin : 0 ≤ n ∧ n ≤ 1000000 ∧ 0 ≤ d ∧ d ≤ 1000000
    · obtain ⟨n0, n1, d0, d1⟩ := hin
      go_wp2_with fail
      have hd : isB d = true := (isB_iff _).2 ⟨d0, d1⟩
      obtain ⟨r1, r2, hr⟩ : ∃ r1 r2, addS l d n u = (r1, r2) := ⟨_, _, rfl⟩
      obtain ⟨x1, x2, hx⟩ : ∃ r1 r2, addS l d (n + mo) u = (r1, r2) := ⟨_, _, rfl⟩
      obtain ⟨y1, y2, hy⟩ : ∃ r1 r2, addS l (d + la) n u = (r1, r2) := ⟨_, _, rfl⟩
      obtain ⟨z1, z2, hz⟩ : ∃ r1 r2, addS (l ++ [fu]) d n u = (r1, r2) := ⟨_, _, rfl⟩
      have hX : x2 = 0 → r2 = 0 ∧ r1 ≤ x1 := fun h => by
        have := addS_mono (l := l) (l' := l) (fun _ h => h) (Nat.le_refl _) (n' := n + mo) (u := u) hd (Int.le_refl d) n0 (by omega) (by rw [hx]; exact h)
        rw [hr, hx] at this
        exact this
      have hY : y2 = 0 → r2 = 0 ∧ r1 ≤ y1 := fun h => by
        have := addS_mono (l := l) (l' := l) (fun _ h => h) (Nat.le_refl _) (d' := d + la) (u := u) hd (by omega) n0 (Int.le_refl n) (by rw [hy]; exact h)
        rw [hr, hy] at this
        exact this
      have hZ : z2 = 0 → r2 = 0 ∧ r1 ≤ z1 := fun h => by
        have := addS_mono (l := l) (l' := l ++ [fu]) (fun _ h => List.mem_append.2 (.inl h)) (by simp) (u := u) hd (Int.le_refl d) n0 (Int.le_refl n) (by rw [hz]; exact h)
        rw [hr, hz] at this
        exact this
      have HR := Lib.hid hr
      have HX := Lib.hid hx
      have HY := Lib.hid hy
      have HZ := Lib.hid hz
      have HX2 := Lib.hid hX
      have HY2 := Lib.hid hY
      have HZ2 := Lib.hid hZ
      clear hr hx hy hz hX hY hZ hd
      refine (add_at' _ g A l _ c rfl (HA.out.below b) (by omega) HW.out _ _ _ _ HR.out).mono ?_
      rintro e w3 ⟨rfl, b2⟩
      replace b := b.trans (b2.mono (by omega))
      have k3 := Blk.below (t := 29) (cs := #[.int .i64 n, .int .i64 u]) k2 b2 hgl
      replace hgl : g < w3.heap.size := k3.lt
      clear b2 k2 t0 t1
      obtain ⟨t0, t1, -⟩ := k3.all
      unfold Blk at k3
      go_wp2_with fail
      refine (term_any _ _ _).mono ?_
      rintro e w4 ⟨rfl, b2⟩
      replace b := b.trans (b2.mono (by omega))
      have k4 := Blk.below (t := 29) (cs := #[.int .i64 n, .int .i64 u]) k3 b2 hgl
      replace hgl : g < w4.heap.size := k4.lt
      clear b2 k3 t0 t1
      obtain ⟨t0, t1, -⟩ := k4.all
      unfold Blk at k4
      go_wp2_with fail
      refine (add_at' _ g A l _ c rfl (HA.out.below b) (by omega) HW.out _ _ _ _ HX.out).mono ?_
      rintro e w3 ⟨rfl, b2⟩
      replace b := b.trans (b2.mono (by omega))
      have k3 := Blk.below (t := 29) (cs := #[.int .i64 n, .int .i64 u]) k4 b2 hgl
      replace hgl : g < w3.heap.size := k3.lt
      clear b2 k4 t0 t1
      obtain ⟨t0, t1, -⟩ := k3.all
      unfold Blk at k3
      go_wp2_with fail
      refine (add_at' _ g A l _ c rfl (HA.out.below b) (by omega) HW.out _ _ _ _ HY.out).mono ?_
      rintro e w4 ⟨rfl, b2⟩
      replace b := b.trans (b2.mono (by omega))
      have k4 := Blk.below (t := 29) (cs := #[.int .i64 n, .int .i64 u]) k3 b2 hgl
      replace hgl : g < w4.heap.size := k4.lt
      clear b2 k3 t0 t1
      go_upto_region 8 with fail
      go_cut [20, 21] (fun x y wx => x = .int .i64 z1 ∧ y = .int .i64 z2 ∧ Below g w wx)
      · refine wp_region_bush (fun W => Blk W g 29 #[.int .i64 n, .int .i64 u]) [0, 1, 3, 5] 6 [10, 11] [12, 13] (by kernel_rfl) (by kernel_rfl) (fun _ d _ _ _ h => by cases d <;> exact h) k4 ?_
        simp only [pick, List.drop_succ_cons, List.drop_zero, List.head?_cons, Option.toList_some, List.cons_append, List.nil_append, List.append_nil]
        repeat (refine wpHeld_step ?_ rfl ?_ ?_; rotate_left; · (intro W hW; obtain ⟨y1, y2, y3⟩ := Blk.all hW; go_simp; with_reducible rfl))
        refine wpHeld_nil ?_
        have bd := b.drew
        have kd := k4.drew
        clear b k4 hgl
        generalize w4.drew = w5 at *
        have b := bd
        have k := kd
        clear bd kd
        have hsz : g < w5.heap.size := k.lt
        refine wpBush_two 2 6 (by kernel_rfl) ?_ ?_
        · simp only [pick, List.drop_succ_cons, List.drop_zero, List.head?_cons, Option.toList_some, List.cons_append, List.nil_append, List.append_nil]
          go_wp2_with fail
          have own : (w5.alloc (.cells #[] 3)).ownsRow g 3 1 (.slice (some ⟨w5.heap.size, 0, none⟩) 0 0) 0 [] := World.ownsRow_lit w5 #[] 0 (by omega) (by unfold maxLen; omega) rfl
          replace b := b.alloc (Nat.le_of_lt k.lt) (.cells #[] 3)
          replace k := k.alloc (.cells #[] 3)
          refine ⟨k, ?_⟩
          clear hsz
          generalize w5.heap.size = ge at *
          generalize w5.alloc (.cells #[] 3) = w6 at *
          have hsz : g < w6.heap.size := k.lt
          refine wpBush_two 4 6 (by kernel_rfl) ?_ ?_
          · simp only [pick, List.drop_succ_cons, List.drop_zero, List.head?_cons, Option.toList_some, List.cons_append, List.nil_append, List.append_nil]
            go_wp2_with (at_builtin; refine wpList_append_any rfl _ _ 24 rfl g 3 i0 _ 1 8 Tryd.underlying24 hi0 hz0 hz1 hz2 rfl (by omega) (.slice (some ⟨ge, 0, none⟩) 0 0) 0 [] rfl own A l.length c (l.map (Value.int .i64)) rfl (by simp) (ints_news (HA.out.below b)) (ints_one l) (by unfold maxLen; omega) (by omega) (by omega) ?_; intro v4 w7 own4 gr4 l4)
            simp only [Nat.zero_add, List.nil_append] at own4
            replace k := k.grown gr4 (fun he => own_blk_ne own k (by decide) he.symm)
            replace b := b.grown gr4 (by omega) (fun x hx => (own.lt x hx).1)
            refine ⟨k, ?_⟩
            clear hsz own gr4 l4
            have hsz : g < w7.heap.size := k.lt
            have own := own4
            clear own4
            refine wpBush_one 6 (by kernel_rfl) ?_
            simp only [pick, List.drop_succ_cons, List.drop_zero, List.head?_cons, Option.toList_some, List.cons_append, List.nil_append, List.append_nil]
            go_wp2_with fail
            have kh := Blk.new w7 3 #[.int .i64 fu]
            replace own := own.alloc (.cells #[.int .i64 fu] 3)
            replace b := b.alloc (Nat.le_of_lt k.lt) (.cells #[.int .i64 fu] 3)
            replace k := k.alloc (.cells #[.int .i64 fu] 3)
            refine ⟨k, ?_⟩
            clear hsz
            generalize w7.heap.size = gh at *
            generalize w7.alloc (.cells #[.int .i64 fu] 3) = w8 at *
            have hsz : g < w8.heap.size := k.lt
            refine wpBush_one 7 (by kernel_rfl) ?_
            simp only [pick, List.drop_succ_cons, List.drop_zero, List.head?_cons, Option.toList_some, List.cons_append, List.nil_append, List.append_nil]
            go_wp2_with (at_builtin; refine wpList_append_lies _ rfl _ _ 24 rfl g 3 i0 _ 1 8 Tryd.underlying24 hi0 hz0 hz1 hz2 rfl (by omega) v4 l.length _ rfl own ⟨gh, 0, none⟩ 1 1 [.int .i64 fu] rfl rfl (World.news_of_block kh) (ints_one [fu]) (by omega) (by unfold maxLen; omega) (by omega) (by omega) w8.heap.size rfl ?_; intro g9 cap w9 o9 gr9 l9 z9)
            replace k := k.grown gr9 (fun he => own_blk_ne own k (by decide) he.symm)
            replace b := b.grown gr9 (by omega) (fun x hx => (own.lt x hx).1)
            refine ⟨k, ?_⟩
            have hrow := IntsAt.of_row (l := l ++ [fu]) (n := l.length + 1) (cap := cap) (base := g) (by simp) (by rw [List.map_append]; exact o9) z9
            refine wpBush_one 8 (by kernel_rfl) ?_
            simp only [pick, List.drop_succ_cons, List.drop_zero, List.head?_cons, Option.toList_some, List.cons_append, List.nil_append, List.append_nil]
            clear own gr9 l9 o9 kh hsz
            go_wp2_with fail
            refine (add_at' _ w9.heap.size (some ⟨g9, 0, none⟩) (l ++ [fu]) (l.length + 1) cap (by simp) hrow (Nat.le_refl _) (fun x hx => by rcases List.mem_append.1 hx with h1 | h1; exact HW.out x h1; (simp at h1; subst h1; exact HF.out)) d n u _ HZ.out).mono ?_
            rintro e w10 ⟨rfl, b10⟩
            have hk9 := Nat.le_of_lt k.lt
            replace k := k.below b10 k.lt
            replace b := b.trans (b10.mono hk9)
            clear b10 hrow z9
            go_wp2_with fail
            refine ⟨k, wpBush_one 9 (by kernel_rfl) ?_⟩
            simp only [pick, List.drop_succ_cons, List.drop_zero, List.head?_cons, Option.toList_some, List.cons_append, List.nil_append, List.append_nil]
            go_wp2_with fail
            refine ⟨k, wpBush_end (by kernel_rfl) (by kernel_rfl) (by kernel_rfl) ?_⟩
            simp only [pick, List.drop_succ_cons, List.drop_zero, List.head?_cons, Option.toList_some, List.cons_append, List.nil_append, List.append_nil]
            repeat (refine wpHeld_step ?_ rfl ?_ ?_; rotate_left; · (intro W hW; go_simp; with_reducible rfl))
            refine wpHeld_nil ?_
            go_wp2_with fail
            go_meet
            exact ⟨rfl, rfl, b⟩
          · simp only [pick, List.drop_succ_cons, List.drop_zero, List.head?_cons, Option.toList_some, List.cons_append, List.nil_append, List.append_nil]
            go_wp2_with fail
            have kh := Blk.new w6 3 #[.int .i64 fu]
            have hne : some w6.heap.size ≠ (Value.slice (some ⟨ge, 0, none⟩) 0 0).ownBlock := fun he => by have := (own.lt ge rfl).2; injection he with he; simp only at he; omega
            replace own := own.alloc (.cells #[.int .i64 fu] 3)
            replace b := b.alloc (Nat.le_of_lt k.lt) (.cells #[.int .i64 fu] 3)
            replace k := k.alloc (.cells #[.int .i64 fu] 3)
            refine ⟨k, ?_⟩
            clear hsz
            generalize w6.heap.size = gh at *
            generalize w6.alloc (.cells #[.int .i64 fu] 3) = w7 at *
            have hsz : g < w7.heap.size := k.lt
            refine wpBush_one 4 (by kernel_rfl) ?_
            simp only [pick, List.drop_succ_cons, List.drop_zero, List.head?_cons, Option.toList_some, List.cons_append, List.nil_append, List.append_nil]
            go_wp2_with (at_builtin; refine wpList_append_any rfl _ _ 24 rfl g 3 i0 _ 1 8 Tryd.underlying24 hi0 hz0 hz1 hz2 rfl (by omega) (.slice (some ⟨ge, 0, none⟩) 0 0) 0 [] rfl own A l.length c (l.map (Value.int .i64)) rfl (by simp) (ints_news (HA.out.below b)) (ints_one l) (by unfold maxLen; omega) (by omega) (by omega) ?_; intro v4 w8 own4 gr4 l4)
            simp only [Nat.zero_add, List.nil_append] at own4
            replace kh := kh.grown gr4 hne
            clear hne
            replace k := k.grown gr4 (fun he => own_blk_ne own k (by decide) he.symm)
            replace b := b.grown gr4 (by omega) (fun x hx => (own.lt x hx).1)
            refine ⟨k, ?_⟩
            clear hsz own gr4 l4
            have hsz : g < w8.heap.size := k.lt
            have own := own4
            clear own4
            refine wpBush_one 7 (by kernel_rfl) ?_
            simp only [pick, List.drop_succ_cons, List.drop_zero, List.head?_cons, Option.toList_some, List.cons_append, List.nil_append, List.append_nil]
            go_wp2_with (at_builtin; refine wpList_append_lies _ rfl _ _ 24 rfl g 3 i0 _ 1 8 Tryd.underlying24 hi0 hz0 hz1 hz2 rfl (by omega) v4 l.length _ rfl own ⟨gh, 0, none⟩ 1 1 [.int .i64 fu] rfl rfl (World.news_of_block kh) (ints_one [fu]) (by omega) (by unfold maxLen; omega) (by omega) (by omega) w8.heap.size rfl ?_; intro g9 cap w9 o9 gr9 l9 z9)
            replace k := k.grown gr9 (fun he => own_blk_ne own k (by decide) he.symm)
            replace b := b.grown gr9 (by omega) (fun x hx => (own.lt x hx).1)
            refine ⟨k, ?_⟩
            have hrow := IntsAt.of_row (l := l ++ [fu]) (n := l.length + 1) (cap := cap) (base := g) (by simp) (by rw [List.map_append]; exact o9) z9
            refine wpBush_one 8 (by kernel_rfl) ?_
            simp only [pick, List.drop_succ_cons, List.drop_zero, List.head?_cons, Option.toList_some, List.cons_append, List.nil_append, List.append_nil]
            clear own gr9 l9 o9 kh hsz
            go_wp2_with fail
            refine (add_at' _ w9.heap.size (some ⟨g9, 0, none⟩) (l ++ [fu]) (l.length + 1) cap (by simp) hrow (Nat.le_refl _) (fun x hx => by rcases List.mem_append.1 hx with h1 | h1; exact HW.out x h1; (simp at h1; subst h1; exact HF.out)) d n u _ HZ.out).mono ?_
            rintro e w10 ⟨rfl, b10⟩
            have hk9 := Nat.le_of_lt k.lt
            replace k := k.below b10 k.lt
            replace b := b.trans (b10.mono hk9)
            clear b10 hrow z9
            go_wp2_with fail
            refine ⟨k, wpBush_one 9 (by kernel_rfl) ?_⟩
            simp only [pick, List.drop_succ_cons, List.drop_zero, List.head?_cons, Option.toList_some, List.cons_append, List.nil_append, List.append_nil]
            go_wp2_with fail
            refine ⟨k, wpBush_end (by kernel_rfl) (by kernel_rfl) (by kernel_rfl) ?_⟩
            simp only [pick, List.drop_succ_cons, List.drop_zero, List.head?_cons, Option.toList_some, List.cons_append, List.nil_append, List.append_nil]
            repeat (refine wpHeld_step ?_ rfl ?_ ?_; rotate_left; · (intro W hW; go_simp; with_reducible rfl))
            refine wpHeld_nil ?_
            go_wp2_with fail
            go_meet
            exact ⟨rfl, rfl, b⟩
        · simp only [pick, List.drop_succ_cons, List.drop_zero, List.head?_cons, Option.toList_some, List.cons_append, List.nil_append, List.append_nil]
          go_wp2_with fail
          have kh := Blk.new w5 3 #[.int .i64 fu]
          replace b := b.alloc (Nat.le_of_lt k.lt) (.cells #[.int .i64 fu] 3)
          replace k := k.alloc (.cells #[.int .i64 fu] 3)
          refine ⟨k, ?_⟩
          clear hsz
          generalize w5.heap.size = gh at *
          generalize w5.alloc (.cells #[.int .i64 fu] 3) = w6 at *
          have hsz : g < w6.heap.size := k.lt
          refine wpBush_one 2 (by kernel_rfl) ?_
          simp only [pick, List.drop_succ_cons, List.drop_zero, List.head?_cons, Option.toList_some, List.cons_append, List.nil_append, List.append_nil]
          go_wp2_with fail
          have own : (w6.alloc (.cells #[] 3)).ownsRow g 3 1 (.slice (some ⟨w6.heap.size, 0, none⟩) 0 0) 0 [] := World.ownsRow_lit w6 #[] 0 (by omega) (by unfold maxLen; omega) rfl
          have hne : some gh ≠ (Value.slice (some ⟨w6.heap.size, 0, none⟩) 0 0).ownBlock := fun he => by have := kh.lt; injection he with he; simp only at he; omega
          replace kh := kh.alloc (.cells #[] 3)
          replace b := b.alloc (Nat.le_of_lt k.lt) (.cells #[] 3)
          replace k := k.alloc (.cells #[] 3)
          refine ⟨k, ?_⟩
          clear hsz
          generalize w6.heap.size = ge at *
          generalize w6.alloc (.cells #[] 3) = w7 at *
          have hsz : g < w7.heap.size := k.lt
          refine wpBush_one 4 (by kernel_rfl) ?_
          simp only [pick, List.drop_succ_cons, List.drop_zero, List.head?_cons, Option.toList_some, List.cons_append, List.nil_append, List.append_nil]
          go_wp2_with (at_builtin; refine wpList_append_any rfl _ _ 24 rfl g 3 i0 _ 1 8 Tryd.underlying24 hi0 hz0 hz1 hz2 rfl (by omega) (.slice (some ⟨ge, 0, none⟩) 0 0) 0 [] rfl own A l.length c (l.map (Value.int .i64)) rfl (by simp) (ints_news (HA.out.below b)) (ints_one l) (by unfold maxLen; omega) (by omega) (by omega) ?_; intro v4 w8 own4 gr4 l4)
          simp only [Nat.zero_add, List.nil_append] at own4
          replace kh := kh.grown gr4 hne
          clear hne
          replace k := k.grown gr4 (fun he => own_blk_ne own k (by decide) he.symm)
          replace b := b.grown gr4 (by omega) (fun x hx => (own.lt x hx).1)
          refine ⟨k, ?_⟩
          clear hsz own gr4 l4
          have hsz : g < w8.heap.size := k.lt
          have own := own4
          clear own4
          refine wpBush_one 7 (by kernel_rfl) ?_
          simp only [pick, List.drop_succ_cons, List.drop_zero, List.head?_cons, Option.toList_some, List.cons_append, List.nil_append, List.append_nil]
          go_wp2_with (at_builtin; refine wpList_append_lies _ rfl _ _ 24 rfl g 3 i0 _ 1 8 Tryd.underlying24 hi0 hz0 hz1 hz2 rfl (by omega) v4 l.length _ rfl own ⟨gh, 0, none⟩ 1 1 [.int .i64 fu] rfl rfl (World.news_of_block kh) (ints_one [fu]) (by omega) (by unfold maxLen; omega) (by omega) (by omega) w8.heap.size rfl ?_; intro g9 cap w9 o9 gr9 l9 z9)
          replace k := k.grown gr9 (fun he => own_blk_ne own k (by decide) he.symm)
          replace b := b.grown gr9 (by omega) (fun x hx => (own.lt x hx).1)
          refine ⟨k, ?_⟩
          have hrow := IntsAt.of_row (l := l ++ [fu]) (n := l.length + 1) (cap := cap) (base := g) (by simp) (by rw [List.map_append]; exact o9) z9
          refine wpBush_one 8 (by kernel_rfl) ?_
          simp only [pick, List.drop_succ_cons, List.drop_zero, List.head?_cons, Option.toList_some, List.cons_append, List.nil_append, List.append_nil]
          clear own gr9 l9 o9 kh hsz
          go_wp2_with fail
          refine (add_at' _ w9.heap.size (some ⟨g9, 0, none⟩) (l ++ [fu]) (l.length + 1) cap (by simp) hrow (Nat.le_refl _) (fun x hx => by rcases List.mem_append.1 hx with h1 | h1; exact HW.out x h1; (simp at h1; subst h1; exact HF.out)) d n u _ HZ.out).mono ?_
          rintro e w10 ⟨rfl, b10⟩
          have hk9 := Nat.le_of_lt k.lt
          replace k := k.below b10 k.lt
          replace b := b.trans (b10.mono hk9)
          clear b10 hrow z9
          go_wp2_with fail
          refine ⟨k, wpBush_one 9 (by kernel_rfl) ?_⟩
          simp only [pick, List.drop_succ_cons, List.drop_zero, List.head?_cons, Option.toList_some, List.cons_append, List.nil_append, List.append_nil]
          go_wp2_with fail
          refine ⟨k, wpBush_end (by kernel_rfl) (by kernel_rfl) (by kernel_rfl) ?_⟩
          simp only [pick, List.drop_succ_cons, List.drop_zero, List.head?_cons, Option.toList_some, List.cons_append, List.nil_append, List.append_nil]
          repeat (refine wpHeld_step ?_ rfl ?_ ?_; rotate_left; · (intro W hW; go_simp; with_reducible rfl))
          refine wpHeld_nil ?_
          go_wp2_with fail
          go_meet
          exact ⟨rfl, rfl, b⟩
      obtain ⟨rfl, rfl, b'⟩ := hcut
      clear b k4 hgl
      have hX := HX2.out
      have hY := HY2.out
      have hZ := HZ2.out
      clear HX2 HY2 HZ2 HX HY HZ HR
      cases hr2 : (r2 != 0) with
      | true =>
        have e1 : (x2 != 0) = true := by
          have : r2 ≠ 0 := by simpa using hr2
          simpa using fun h => this (hX h).1
        have e2 : (y2 != 0) = true := by
          have : r2 ≠ 0 := by simpa using hr2
          simpa using fun h => this (hY h).1
        have e3 : (z2 != 0) = true := by
          have : r2 ≠ 0 := by simpa using hr2
          simpa using fun h => this (hZ h).1
        clear hX hY hZ
        go_wp2
        go_ret
        exact ⟨rfl, by rw [HG.out]; exact b'⟩
      | false =>
        have f1 : (x2 != 0) = true ∨ ((x2 != 0) = false ∧ r1 ≤ x1) := by
          by_cases h : x2 = 0
          · exact .inr ⟨by simpa using h, (hX h).2⟩
          · exact .inl (by simpa using h)
        have f2 : (y2 != 0) = true ∨ ((y2 != 0) = false ∧ r1 ≤ y1) := by
          by_cases h : y2 = 0
          · exact .inr ⟨by simpa using h, (hY h).2⟩
          · exact .inl (by simpa using h)
        have f3 : (z2 != 0) = true ∨ ((z2 != 0) = false ∧ r1 ≤ z1) := by
          by_cases h : z2 = 0
          · exact .inr ⟨by simpa using h, (hZ h).2⟩
          · exact .inl (by simpa using h)
        clear hX hY hZ
        rcases f1 with f1 | ⟨f1, g1⟩ <;> rcases f2 with f2 | ⟨f2, g2⟩ <;> rcases f3 with f3 | ⟨f3, g3⟩
        all_goals
          go_wp2
          go_ret
          exact ⟨rfl, by rw [HG.out]; exact b'⟩
    · have hout : n < 0 ∨ (0 ≤ n ∧ 1000000 < n) ∨ (0 ≤ n ∧ n ≤ 1000000 ∧ d < 0) ∨ (0 ≤ n ∧ n ≤ 1000000 ∧ 0 ≤ d ∧ 1000000 < d) := by omega
      clear hin k2
      rcases hout with q1 | ⟨q1, q2⟩ | ⟨q1, q2, q3⟩ | ⟨q1, q2, q3, q4⟩
      all_goals
        go_wp2
        go_ret
        exact ⟨rfl, by rw [HG.out]; exact b⟩
theorem longer_walk' (w : World) (ht : Tab w) (d : Int) (_wd : (Lit.int .i64 d).wf = true) (x : Int × Int) (A : Option Addr) (c : Nat) (l : List Int) (h : Ints w w.heap.size A l) (mo : Int) (wm : (Lit.int .u8 mo).wf = true) (la : Int) (wl : (Lit.int .u8 la).wf = true) (fu : Int) (wf : (Lit.int .i64 fu).wf = true) :
    Calls Tryd.prog 8 #[.int .i64 d, .agg #[.int .i64 x.1, .int .i64 x.2], .slice A l.length c, .int .u8 mo, .int .u8 la, .int .i64 fu] w fun e w' => e = .returned (.bool true) ∧ Below w.heap.size w w' := by
  have k1 : 0 ≤ mo ∧ mo ≤ 255 := by simpa [Lit.wf, IntKind.min, IntKind.max, IntKind.signed, IntKind.bits] using wm
  have k2 : 0 ≤ la ∧ la ≤ 255 := by simpa [Lit.wf, IntKind.min, IntKind.max, IntKind.signed, IntKind.bits] using wl
  exact longer_walk w ht d x.1 x.2 A c l h mo la fu k1.1 k1.2 k2.1 k2.2 (wf64_lit.1 wf)
end Go.Proofs.YtfblngdmeliabaaDoor
