/- slices.SortFunc at stops, by From; slices.Clone. start's closure, which joins one stop to those of the clock. -/
import Derived.Test.YtebdkmlganalaaaGreatDoorKTopAccruedGAG
import Derived.Test.YtebdkmlganalaaaGreatDoorSo
import Derived.Test.YtebdkmlganalaaaGreatDoorKTopAccruedTy
namespace Go.Proofs.YtebdkmlganalaaaGreatDoor
open Go.RowKit Go.Shelf Go.Lib Go.Sort

/-- A stop whose From is of a moderate size. -/
abbrev BStop := {s : Stp2 // -4000000 ≤ s.1 ∧ s.1 ≤ 4000000}
noncomputable instance : Inhabited BStop := ⟨⟨(0, 0), by decide⟩⟩
def encB (x : BStop) : List Value := encStop x.1
def cfB (x y : BStop) : Int := x.1.1 - y.1.1
theorem ltB_ (x y : BStop) : ltOf cfB x y = decide (x.1.1 < y.1.1) := by
  unfold ltOf cfB
  rw [decide_eq_decide]
  omega
theorem swoB : SWO (ltOf cfB) where
  irrefl x := by rw [ltB_]; simp
  trans x y z h1 h2 := by rw [ltB_] at *; simp at *; omega
  ntrans x y z h1 h2 := by rw [ltB_] at *; simp at *; omega

set_option maxHeartbeats 1000000 in
theorem cmp_any (x y : BStop) (W : World) : Calls Tryz.prog 84 #[.agg (encB x).toArray, .agg (encB y).toArray] W fun e w' => e = .returned (.int .i64 (cfB x y)) ∧ ∃ q os', w' = grow (W.drewN q) os' := by
  obtain ⟨⟨a, b⟩, h1, h2⟩ := x
  obtain ⟨⟨c, d⟩, h3, h4⟩ := y
  show Calls Tryz.prog 84 #[.agg #[.int .i64 a, .int .i64 b], .agg #[.int .i64 c, .int .i64 d]] W fun e w' => e = .returned (.int .i64 (a - c)) ∧ ∃ q os', w' = grow (W.drewN q) os'
  simp only at h1 h2 h3 h4
  go_enter Tryz.func84, Tryz.ntmps84
  go_wp2
  go_ret
  exact ⟨rfl, 0, _, by rw [alloc_eq_grow, alloc_eq_grow, grow_grow]; rfl⟩
theorem cmpLays (blk off size : Nat) (w : World) : CmpLays Tryz.prog 84 #[] encB 2 cfB blk off size w := fun _ _ _ _ x y => cmp_any x y _

/-- What the sort leaves. -/
def SortPost (w : World) (A : Option Addr) (S : List Stp2) (e : Ending) (w' : World) : Prop :=
  e = .returned (.tuple #[]) ∧ ∃ S', S'.Perm S ∧ S'.Pairwise (fun a b => a.1 ≤ b.1) ∧ StopsAt w' w'.heap.size A S' ∧ Only (fun i => ∃ a, A = some a ∧ i = a.block) w w'

theorem sort_any (w : World) (base cap : Nat) (A : Option Addr) (S : List Stp2) (hS : ∀ s ∈ S, -4000000 ≤ s.1 ∧ s.1 ≤ 4000000) (hl : S.length ≤ 100) (hown : w.ownsRow base 102 2 (.slice A S.length cap) S.length (stopCells S)) :
    Calls Tryz.prog 83 #[.slice A S.length cap, .func (.func 84) #[] #[]] w (SortPost w A S) := by
  rcases Nat.eq_zero_or_pos S.length with h0 | h0
  · have : S = [] := List.eq_nil_of_length_eq_zero h0
    subst this
    exact (AnyF.slices_SortFunc_none sortL A cap _ w).mono fun e w' ⟨he, hw⟩ => ⟨he, [], List.Perm.refl _, List.Pairwise.nil, StopsAt.nil _ _ _, hw ▸ Only.refl _ _⟩
  · obtain ⟨g, cap', hv, hbg, hg⟩ := hown.form h0
    injection hv with hA _ hcap
    subst hA hcap
    obtain ⟨T, hT⟩ : ∃ T : List BStop, T.map Subtype.val = S := ⟨S.pmap (fun s h => ⟨s, h⟩) hS, by rw [List.map_pmap]; simp⟩
    have hTl : T.length = S.length := by rw [← hT, List.length_map]
    have eg : ∀ args w, (callFunc 84 args).run Tryz.prog w = .ok (.enter 84 args) w := enters_of Tryz.func84 (by kernel_rfl) rfl
    have hH : HoldsK encB 2 w g 0 T.toArray := fun j hj => by
      have hj' : j < T.length * 2 := by simpa using hj
      refine ⟨?_, hown.frozenAt (0 + j)⟩
      have hx : (flatK encB 2 T.toArray)[j]! = (encB T.toArray[j / 2]!)[j % 2]! := get_flatK encB 2 _ j (by simpa using hj')
      show _ = some (id (flatK encB 2 T.toArray)[j]!)
      rw [hx, Nat.zero_add, hown.cellAt j (by omega)]
      obtain ⟨s, hs⟩ : ∃ s, T[j / 2]? = some s := ⟨_, List.getElem?_eq_getElem (by omega)⟩
      have hs2 : S[j / 2]? = some s.1 := by rw [← hT, List.getElem?_map, hs]; rfl
      have hs3 : T.toArray[j / 2]! = s := by simp [hs]
      rw [hs3]
      obtain ⟨k1, k2⟩ := stopCells_at S _ _ hs2
      rcases Nat.mod_two_eq_zero_or_one j with hm | hm
      · rw [hm]
        have e : j = j / 2 * 2 := by omega
        rw [← e] at k1
        rw [k1]
        rfl
      · rw [hm]
        have e : j = j / 2 * 2 + 1 := by omega
        rw [← e] at k2
        rw [k2]
        rfl
    have hsz : T.toArray.size = S.length := by simp [hTl]
    have hcon := AnyQ.slices_SortFunc sortL 2 Tryz.isAgg102 Tryz.sizeOf102 encB (fun _ => rfl) (fun x v hv => by simp [encB, encStop] at hv; rcases hv with rfl | rfl <;> rfl) cfB swoB 84 #[] g 0 cap T.toArray w eg (cmpLays g 0 _ w) hH hg (by omega)
    rw [hsz] at hcon
    refine Calls.mono hcon ?_
    rintro e w' ⟨rfl, d', n, os, hp, hs, rfl⟩
    obtain ⟨hp1, -, hp3⟩ := hp
    rw [hsz] at hp1
    have hperm : d'.toList.Perm T := by
      have e1 : d'.extract 0 S.length = d' := by rw [← hp1]; simp
      have e2 : T.toArray.extract 0 S.length = T.toArray := by rw [← hsz]; simp
      rw [e1, e2] at hp3
      simpa using hp3
    have hH' := holdsK_sortWorldK_c (encB) 2 (w := w) (blk := g) (off := 0) T.toArray d' n os hH hg (by omega)
    refine ⟨rfl, d'.toList.map Subtype.val, ?_, ?_, ?_, ?_⟩
    · rw [← hT]; exact hperm.map _
    · rw [List.pairwise_map, List.pairwise_iff_getElem]
      intro i j hi hj hij
      have hi' : i < d'.size := by simpa using hi
      have hj' : j < d'.size := by simpa using hj
      have h1 := hs i j (Nat.zero_le _) hij (by omega)
      rw [ltB_, getElem!_pos d' i hi', getElem!_pos d' j hj'] at h1
      have h2 : ¬ (d'[j].1.1 < d'[i].1.1) := by simpa using h1
      simp only [Array.getElem_toList]
      omega
    · intro i s hi
      rw [List.getElem?_map] at hi
      obtain ⟨x, hx, rfl⟩ : ∃ x, d'.toList[i]? = some x ∧ x.1 = s := by
        cases hc : d'.toList[i]? with
        | none => rw [hc] at hi; cases hi
        | some x => rw [hc] at hi; injection hi with hi; exact ⟨x, rfl, hi⟩
      have hlt := (List.getElem?_eq_some_iff.1 hx).1
      have hlt' : i < d'.size := by simpa using hlt
      have hx2 : d'[i]! = x := by
        rw [getElem!_pos d' i hlt']
        have := (List.getElem?_eq_some_iff.1 hx).2
        simpa using this
      have c0 := (hH' (i * 2) (by simp; omega)).1
      have c1 := (hH' (i * 2 + 1) (by simp; omega)).1
      have f0 : (flatK encB 2 d')[i * 2]! = (encB d'[i * 2 / 2]!)[i * 2 % 2]! := get_flatK encB 2 _ _ (by omega)
      have f1 : (flatK encB 2 d')[i * 2 + 1]! = (encB d'[(i * 2 + 1) / 2]!)[(i * 2 + 1) % 2]! := get_flatK encB 2 _ _ (by omega)
      have g0 : i * 2 / 2 = i := by omega
      have g1 : (i * 2 + 1) / 2 = i := by omega
      have g2 : i * 2 % 2 = 0 := by omega
      have g3 : (i * 2 + 1) % 2 = 1 := by omega
      rw [g0, g2, hx2] at f0
      rw [g1, g3, hx2] at f1
      refine ⟨g, 0, rfl, lt_sortWorldK encB 2 w g 0 n d' os hg, ?_, ?_⟩
      · rw [c0]
        show some (id (flatK encB 2 d')[i * 2]!) = _
        rw [f0]
        rfl
      · rw [← Nat.add_assoc] at c1
        rw [c1]
        show some (id (flatK encB 2 d')[i * 2 + 1]!) = _
        rw [f1]
        rfl
    · refine ⟨rfl, rfl, rfl, size_sortWorldK_c encB 2 w g 0 n d' os, fun i hi hn => ?_⟩
      have hne : i ≠ g := fun h => hn ⟨_, rfl, h⟩
      show ((putRowK encB 2 (Sort.ahead w n) g 0 d').heap ++ os)[i]? = _
      have hsz2 : (putRowK encB 2 (Sort.ahead w n) g 0 d').heap.size = w.heap.size := size_putRowK encB 2 (Sort.ahead w n) g 0 d'
      rw [Array.getElem?_append_left (by rw [hsz2]; exact hi)]
      show (w.heap.modify g _)[i]? = _
      rw [Array.getElem?_modify, if_neg (fun h => hne h.symm)]
end Go.Proofs.YtebdkmlganalaaaGreatDoor

namespace Go.Proofs.YtebdkmlganalaaaGreatDoor
open Go.RowKit Go.Shelf

theorem joinStep_len (J : List Stp2) (s : Stp2) : (joinStep J s).length ≤ J.length + 1 := by
  unfold joinStep
  split
  · simp
  · split
    · simp
    · simp
/-- What the closure leaves. -/
def JoinPost (w : World) (base gc : Nat) (f : Int) (J : List Stp2) (s : Stp2) (A : Option Addr) (e : Ending) (w' : World) : Prop :=
  e = .returned (.tuple #[]) ∧ ∃ A' c', Blk w' gc 145 #[.int .i64 f, .slice A' (joinStep J s).length c'] ∧
    w'.ownsRow base 102 2 (.slice A' (joinStep J s).length c') (joinStep J s).length (stopCells (joinStep J s)) ∧ Only (fun i => i = gc ∨ ∃ a, A = some a ∧ i = a.block) w w' ∧ (∀ a, A' = some a → base ≤ a.block)

theorem join_case (J : List Stp2) (s : Stp2) : (J.length ≤ 0 ∧ joinStep J s = J ++ [s]) ∨ ∃ m t, J.length = m + 1 ∧ J[m]? = some t ∧ ((t.2 < s.1 ∧ joinStep J s = J ++ [s]) ∨ (s.1 ≤ t.2 ∧ joinStep J s = J.set m (t.1, max t.2 s.2))) := by
  rcases List.eq_nil_or_concat J with rfl | ⟨K, t, rfl⟩
  · exact .inl ⟨by simp, rfl⟩
  · rw [List.concat_eq_append]
    refine .inr ⟨K.length, t, by simp, by simp, ?_⟩
    unfold joinStep
    rw [List.getLast?_concat]
    simp only
    by_cases hc : s.1 ≤ t.2
    · rw [if_pos hc, List.dropLast_concat]
      exact .inr ⟨hc, by rw [List.set_append_right _ _ (Nat.le_refl _), Nat.sub_self]; rfl⟩
    · rw [if_neg hc]
      exact .inl ⟨by omega, rfl⟩

set_option maxHeartbeats 2000000 in
theorem stopCells_set : ∀ {J : List Stp2} {m : Nat} {t : Stp2} {z : Int}, J[m]? = some t → (stopCells J).set (m * 2 + 1) (.int .i64 z) = stopCells (J.set m (t.1, z))
  | [], m, t, z, h => by simp at h
  | s :: J, 0, t, z, h => by simp at h; subst h; rfl
  | s :: J, m + 1, t, z, h => by
    have ih := stopCells_set (J := J) (m := m) (t := t) (z := z) (by simpa using h)
    have e1 : (m + 1) * 2 + 1 = m * 2 + 1 + 1 + 1 := by omega
    show (Value.int .i64 s.1 :: Value.int .i64 s.2 :: stopCells J).set ((m + 1) * 2 + 1) _ = Value.int .i64 s.1 :: Value.int .i64 s.2 :: stopCells (J.set m (t.1, z))
    rw [e1, List.set_cons_succ, List.set_cons_succ, ih]

set_option maxHeartbeats 2000000 in
set_option maxRecDepth 100000 in
theorem join_any (w : World) (base g3 gc c : Nat) (f : Int) (J : List Stp2) (s : Stp2) (A : Option Addr) (h3 : Blk w g3 96 #[.pointer (some ⟨gc, 0, none⟩)]) (hc : Blk w gc 145 #[.int .i64 f, .slice A J.length c])
    (own : w.ownsRow base 102 2 (.slice A J.length c) J.length (stopCells J)) (hl : J.length ≤ 100) (hbase : base ≤ w.heap.size) :
    Calls Tryz.prog 85 #[.agg (encStop s).toArray, .pointer (some ⟨g3, 0, none⟩)] w (JoinPost w base gc f J s A) := by
  obtain ⟨i0, hi0, hz0, hz1, hz2⟩ := info_parts Tryz.infoStop
  obtain ⟨p, q⟩ := s
  show Calls Tryz.prog 85 #[.agg #[.int .i64 p, .int .i64 q], .pointer (some ⟨g3, 0, none⟩)] w _
  have hcase := join_case J (p, q)
  have hb0 := (Only.refl (fun _ => False) w).alloc (.cells #[.int .i64 p, .int .i64 q] 102)
  have ks := Blk.new w 102 #[.int .i64 p, .int .i64 q]
  have k3 := h3.alloc (.cells #[.int .i64 p, .int .i64 q] 102)
  have kc := hc.alloc (.cells #[.int .i64 p, .int .i64 q] 102)
  have own1 := own.alloc (.cells #[.int .i64 p, .int .i64 q] 102)
  have hgA : ∀ a, A = some a → base ≤ a.block ∧ a.block < w.heap.size := fun a ha => by
    subst ha
    exact own.lt a.block rfl
  have HGA := Lib.hid hgA
  clear hgA h3 hc own
  rcases hcase with ⟨hlen, hj⟩ | ⟨m, t, hm, ht, hj⟩
  · have HJ := Lib.hid hj
    clear hj
    obtain ⟨s0, s1, s2⟩ := ks.all
    obtain ⟨a0, a1, a2⟩ := k3.all
    obtain ⟨c0, c1, c2⟩ := kc.all
    have d1 : decide ((1 : Int) ≤ (J.length : Int)) = false := decide_eq_false (by omega)
    go_enter Tryz.func85, Tryz.ntmps85
    go_wp2_with fail
    go_quiet (fail)
    go_wp2_with fail
    have hbW := hb0.drewN nq
    have kcW := kc.drewN nq
    have ksW := ks.drewN nq
    have k3W := k3.drewN nq
    have ownW : ((w.alloc (.cells #[.int .i64 p, .int .i64 q] 102)).drewN nq).ownsRow base 102 2 (.slice A J.length c) J.length (stopCells J) := own1
    have hsW : w.heap.size < ((w.alloc (.cells #[.int .i64 p, .int .i64 q] 102)).drewN nq).heap.size := ksW.lt
    clear hb0 kc ks k3 own1 s0 s1 s2 a0 a1 a2 c0 c1 c2
    generalize (w.alloc (.cells #[.int .i64 p, .int .i64 q] 102)).drewN nq = W at *
    generalize hge : w.heap.size = ge at *
    have HGE := Lib.hid hge
    clear hge
    refine wp_region_bush (fun V => Blk V g3 96 #[.pointer (some ⟨gc, 0, none⟩)] ∧ Blk V gc 145 #[.int .i64 f, .slice A J.length c] ∧ Blk V ge 102 #[.int .i64 p, .int .i64 q]) [0, 1, 2, 3, 4, 5] 4 [] [10] (by kernel_rfl) (by kernel_rfl) (fun _ d _ _ _ h => by cases d <;> exact h) ⟨k3W, kcW, ksW⟩ ?_
    simp only [pick, List.drop_succ_cons, List.drop_zero, List.head?_cons, Option.toList_some, List.cons_append, List.nil_append, List.append_nil]
    repeat (refine wpHeld_step ?_ rfl ?_ ?_; rotate_left; · (intro V hV; obtain ⟨v0, v1, v2⟩ := hV.1.all; obtain ⟨x0, x1, x2⟩ := hV.2.1.all; obtain ⟨y0, y1, y2⟩ := hV.2.2.all; go_simp; with_reducible rfl))
    refine wpHeld_nil ?_
    have hd := hbW.drew
    have k3D := k3W.drew
    have kcD := kcW.drew
    have ksD := ksW.drew
    have ownD : W.drew.ownsRow base 102 2 (.slice A J.length c) J.length (stopCells J) := ownW
    have hsD : ge < W.drew.heap.size := hsW
    clear hbW k3W kcW ksW ownW hsW
    generalize W.drew = V at *
    refine wpBush_one 6 (by kernel_rfl) ?_
    simp only [pick, List.drop_succ_cons, List.drop_zero, List.head?_cons, Option.toList_some, List.append_nil]
    go_wp2_with fail
    have kn := Blk.new V 102 #[.int .i64 p, .int .i64 q]
    replace hd := hd.alloc (.cells #[.int .i64 p, .int .i64 q] 102)
    replace k3D := k3D.alloc (.cells #[.int .i64 p, .int .i64 q] 102)
    replace kcD := kcD.alloc (.cells #[.int .i64 p, .int .i64 q] 102)
    replace ksD := ksD.alloc (.cells #[.int .i64 p, .int .i64 q] 102)
    replace ownD := ownD.alloc (.cells #[.int .i64 p, .int .i64 q] 102)
    refine ⟨⟨k3D, kcD, ksD⟩, ?_⟩
    generalize V.heap.size = gn at *
    generalize V.alloc (.cells #[.int .i64 p, .int .i64 q] 102) = X at *
    clear hsD
    refine wpBush_one 7 (by kernel_rfl) ?_
    simp only [pick, List.drop_succ_cons, List.drop_zero, List.head?_cons, Option.toList_some, List.append_nil]
    have hsx := kn.lt
    have hszx := hd.size
    rw [HGE.out] at hszx
    go_wp2_with (at_builtin; refine wpList_append_lies _ rfl _ _ 64 rfl base 102 i0 _ 2 16 Tryz.underlying64 hi0 hz0 hz1 hz2 rfl (by omega) (.slice A J.length c) J.length _ rfl ownD ⟨gn, 0, none⟩ 1 1 [.int .i64 p, .int .i64 q] rfl rfl (World.news_of_block kn) (stopCells_one [(p, q)]) (by omega) (by unfold maxLen; omega) (by omega) (by omega) X.heap.size rfl ?_; intro gz cz Y own9 gr9 l9 z9)
    have nne : some ge ≠ (Value.slice A J.length c).ownBlock := fun he => by
      cases A with
      | none => simp [Value.ownBlock] at he
      | some a =>
        have h1 := (HGA.out a rfl).2
        have h2 : ge = a.block := by simpa [Value.ownBlock] using he
        omega
    have k3Y := k3D.grown gr9 (fun he => own_blk_ne ownD k3D (by decide) he.symm)
    have kcY := kcD.grown gr9 (fun he => own_blk_ne ownD kcD (by decide) he.symm)
    have ksY := ksD.grown gr9 nne
    have hY : Only (fun i => ∃ a, A = some a ∧ i = a.block) w Y := (hd.mono (fun _ h => h.elim)).trans (Only.of_grown gr9) (fun i hi => .inl (by
      cases A with
      | none => simp [Value.ownBlock] at hi
      | some a => exact ⟨a, rfl, by simpa [Value.ownBlock] using hi.symm⟩))
    have hbz : base ≤ gz := by
      rcases l9 with h | h
      · cases A with
        | none => simp [Value.ownBlock] at h
        | some a =>
          have h1 := (HGA.out a rfl).1
          have h2 : a.block = gz := by simpa [Value.ownBlock] using h
          omega
      · omega
    clear k3D kcD ksD hd gr9 l9 kn hsx hszx ownD
    refine ⟨⟨k3Y, kcY, ksY⟩, wpBush_one 8 (by kernel_rfl) ?_⟩
    simp only [pick, List.drop_succ_cons, List.drop_zero, List.head?_cons, Option.toList_some, List.append_nil]
    go_wp2_with fail
    refine ⟨⟨k3Y, kcY, ksY⟩, wpBush_one 9 (by kernel_rfl) ?_⟩
    simp only [pick, List.drop_succ_cons, List.drop_zero, List.head?_cons, Option.toList_some, List.append_nil]
    go_wp2_with fail
    refine ⟨⟨k3Y, kcY, ksY⟩, wpBush_end (by kernel_rfl) (by kernel_rfl) (by kernel_rfl) ?_⟩
    simp only [pick, List.drop_succ_cons, List.drop_zero, List.head?_cons, Option.toList_some, List.append_nil]
    refine wpHeld_nil ?_
    obtain ⟨x0, x1, x2⟩ := kcY.all
    have hst := kcY.set_ 1 (.slice (some ⟨gz, 0, none⟩) (J.length + 1) cz)
    have hoY := Only.owns (F := fun i => i = gc) ((Only.refl (fun i => i = gc) Y).setCell (p := ⟨gc, 1, none⟩) (.inl rfl) (.slice (some ⟨gz, 0, none⟩) (J.length + 1) cz)) own9 (fun g hg he => own_blk_ne own9 kcY (by decide) (he ▸ hg))
    have hO := (hY.mono (G := fun i => i = gc ∨ ∃ a, A = some a ∧ i = a.block) (fun _ h => .inr h)).setCell (p := ⟨gc, 1, none⟩) (.inl (.inl rfl)) (.slice (some ⟨gz, 0, none⟩) (J.length + 1) cz)
    clear k3Y ksY hY nne own9
    go_wp2
    go_end0
    refine ⟨rfl, some ⟨gz, 0, none⟩, cz, ?_⟩
    have hlj : (joinStep J (p, q)).length = J.length + 1 := by rw [HJ.out]; simp
    rw [hlj, HJ.out, stopCells_app]
    exact ⟨hst, hoY, hO, fun a ha => by injection ha with ha; subst ha; exact hbz⟩
  · have HM := Lib.hid hm
    have HT := Lib.hid ht
    rw [hm] at kc own1 hl
    clear hm ht
    obtain ⟨gA, cA, hv, hbA, hgA⟩ := own1.form (Nat.succ_pos m)
    injection hv with hv _ hcA
    subst hv hcA
    obtain ⟨ct0, ct1⟩ := stopCells_at J m t HT.out
    have t0 := own1.cellAt (m * 2) (by omega)
    have t1 := own1.cellAt (m * 2 + 1) (by omega)
    rw [ct0] at t0
    rw [ct1] at t1
    clear ct0 ct1
    obtain ⟨s0, s1, s2⟩ := ks.all
    obtain ⟨a0, a1, a2⟩ := k3.all
    obtain ⟨c0, c1, c2⟩ := kc.all
    have d1 : decide ((1 : Int) ≤ ((m + 1 : Nat) : Int)) = true := decide_eq_true (by omega)
    rcases hj with ⟨hlt, hj⟩ | ⟨hle, hj⟩
    · have HJ := Lib.hid hj
      clear hj
      have dle : decide (p ≤ t.2) = false := decide_eq_false (by simp only at hlt; omega)
      go_enter Tryz.func85, Tryz.ntmps85
      go_wp2_with fail
      go_quiet (fail)
      go_wp2_with fail
      have hbW := hb0.drewN nq
      have kcW := kc.drewN nq
      have ksW := ks.drewN nq
      have k3W := k3.drewN nq
      have ownW : ((w.alloc (.cells #[.int .i64 p, .int .i64 q] 102)).drewN nq).ownsRow base 102 2 (.slice (some ⟨gA, 0, none⟩) (m + 1) c) (m + 1) (stopCells J) := own1
      have hsW : w.heap.size < ((w.alloc (.cells #[.int .i64 p, .int .i64 q] 102)).drewN nq).heap.size := ksW.lt
      clear hb0 kc ks k3 own1 s0 s1 s2 a0 a1 a2 c0 c1 c2
      generalize (w.alloc (.cells #[.int .i64 p, .int .i64 q] 102)).drewN nq = W at *
      generalize hge : w.heap.size = ge at *
      have HGE := Lib.hid hge
      clear hge
      refine wp_region_bush (fun V => Blk V g3 96 #[.pointer (some ⟨gc, 0, none⟩)] ∧ Blk V gc 145 #[.int .i64 f, .slice (some ⟨gA, 0, none⟩) (m + 1) c] ∧ Blk V ge 102 #[.int .i64 p, .int .i64 q]) [0, 1, 2, 3, 4, 5] 4 [] [10] (by kernel_rfl) (by kernel_rfl) (fun _ d _ _ _ h => by cases d <;> exact h) ⟨k3W, kcW, ksW⟩ ?_
      simp only [pick, List.drop_succ_cons, List.drop_zero, List.head?_cons, Option.toList_some, List.cons_append, List.nil_append, List.append_nil]
      repeat (refine wpHeld_step ?_ rfl ?_ ?_; rotate_left; · (intro V hV; obtain ⟨v0, v1, v2⟩ := hV.1.all; obtain ⟨x0, x1, x2⟩ := hV.2.1.all; obtain ⟨y0, y1, y2⟩ := hV.2.2.all; go_simp; with_reducible rfl))
      refine wpHeld_nil ?_
      have hd := hbW.drew
      have k3D := k3W.drew
      have kcD := kcW.drew
      have ksD := ksW.drew
      have ownD : W.drew.ownsRow base 102 2 (.slice (some ⟨gA, 0, none⟩) (m + 1) c) (m + 1) (stopCells J) := ownW
      have hsD : ge < W.drew.heap.size := hsW
      clear hbW k3W kcW ksW ownW hsW
      generalize W.drew = V at *
      refine wpBush_one 6 (by kernel_rfl) ?_
      simp only [pick, List.drop_succ_cons, List.drop_zero, List.head?_cons, Option.toList_some, List.append_nil]
      go_wp2_with fail
      have kn := Blk.new V 102 #[.int .i64 p, .int .i64 q]
      replace hd := hd.alloc (.cells #[.int .i64 p, .int .i64 q] 102)
      replace k3D := k3D.alloc (.cells #[.int .i64 p, .int .i64 q] 102)
      replace kcD := kcD.alloc (.cells #[.int .i64 p, .int .i64 q] 102)
      replace ksD := ksD.alloc (.cells #[.int .i64 p, .int .i64 q] 102)
      replace ownD := ownD.alloc (.cells #[.int .i64 p, .int .i64 q] 102)
      refine ⟨⟨k3D, kcD, ksD⟩, ?_⟩
      generalize V.heap.size = gn at *
      generalize V.alloc (.cells #[.int .i64 p, .int .i64 q] 102) = X at *
      clear hsD
      refine wpBush_one 7 (by kernel_rfl) ?_
      simp only [pick, List.drop_succ_cons, List.drop_zero, List.head?_cons, Option.toList_some, List.append_nil]
      have hsx := kn.lt
      have hszx := hd.size
      rw [HGE.out] at hszx
      go_wp2_with (at_builtin; refine wpList_append_lies _ rfl _ _ 64 rfl base 102 i0 _ 2 16 Tryz.underlying64 hi0 hz0 hz1 hz2 rfl (by omega) (.slice (some ⟨gA, 0, none⟩) (m + 1) c) (m + 1) _ rfl ownD ⟨gn, 0, none⟩ 1 1 [.int .i64 p, .int .i64 q] rfl rfl (World.news_of_block kn) (stopCells_one [(p, q)]) (by omega) (by unfold maxLen; omega) (by omega) (by omega) X.heap.size rfl ?_; intro gz cz Y own9 gr9 l9 z9)
      have nne : some ge ≠ (Value.slice (some ⟨gA, 0, none⟩) (m + 1) c).ownBlock := fun he => by
        have h1 := (HGA.out _ rfl).2
        have h2 : ge = gA := by simpa [Value.ownBlock] using he
        simp only at h1
        omega
      have k3Y := k3D.grown gr9 (fun he => own_blk_ne ownD k3D (by decide) he.symm)
      have kcY := kcD.grown gr9 (fun he => own_blk_ne ownD kcD (by decide) he.symm)
      have ksY := ksD.grown gr9 nne
      have hY : Only (fun i => ∃ a, some (⟨gA, 0, none⟩ : Addr) = some a ∧ i = a.block) w Y := (hd.mono (fun _ h => h.elim)).trans (Only.of_grown gr9) (fun i hi => .inl ⟨_, rfl, by simpa [Value.ownBlock] using hi.symm⟩)
      have hbz : base ≤ gz := by
        rcases l9 with h | h
        · have h2 : gA = gz := by simpa [Value.ownBlock] using h
          omega
        · omega
      clear k3D kcD ksD hd gr9 l9 kn hsx hszx ownD
      refine ⟨⟨k3Y, kcY, ksY⟩, wpBush_one 8 (by kernel_rfl) ?_⟩
      simp only [pick, List.drop_succ_cons, List.drop_zero, List.head?_cons, Option.toList_some, List.append_nil]
      go_wp2_with fail
      refine ⟨⟨k3Y, kcY, ksY⟩, wpBush_one 9 (by kernel_rfl) ?_⟩
      simp only [pick, List.drop_succ_cons, List.drop_zero, List.head?_cons, Option.toList_some, List.append_nil]
      go_wp2_with fail
      refine ⟨⟨k3Y, kcY, ksY⟩, wpBush_end (by kernel_rfl) (by kernel_rfl) (by kernel_rfl) ?_⟩
      simp only [pick, List.drop_succ_cons, List.drop_zero, List.head?_cons, Option.toList_some, List.append_nil]
      refine wpHeld_nil ?_
      obtain ⟨x0, x1, x2⟩ := kcY.all
      have hst := kcY.set_ 1 (.slice (some ⟨gz, 0, none⟩) ((m + 1) + 1) cz)
      have hoY := Only.owns (F := fun i => i = gc) ((Only.refl (fun i => i = gc) Y).setCell (p := ⟨gc, 1, none⟩) (.inl rfl) (.slice (some ⟨gz, 0, none⟩) ((m + 1) + 1) cz)) own9 (fun g hg he => own_blk_ne own9 kcY (by decide) (he ▸ hg))
      have hO := (hY.mono (G := fun i => i = gc ∨ ∃ a, some (⟨gA, 0, none⟩ : Addr) = some a ∧ i = a.block) (fun _ h => .inr h)).setCell (p := ⟨gc, 1, none⟩) (.inl (.inl rfl)) (.slice (some ⟨gz, 0, none⟩) ((m + 1) + 1) cz)
      clear k3Y ksY hY nne own9
      go_wp2
      go_end0
      refine ⟨rfl, some ⟨gz, 0, none⟩, cz, ?_⟩
      have hlj : (joinStep J (p, q)).length = (m + 1) + 1 := by rw [HJ.out]; simp [HM.out]
      rw [hlj, HJ.out, stopCells_app]
      exact ⟨hst, hoY, hO, fun a ha => by injection ha with ha; subst ha; exact hbz⟩
    · have HJ := Lib.hid hj
      clear hj
      have dle : decide (p ≤ t.2) = true := decide_eq_true hle
      obtain ⟨z, hz⟩ : ∃ z, z = max t.2 q := ⟨_, rfl⟩
      have rm := fun ts ty W => run_max2 (P := Tryz.prog) t.2 q z hz ts ty W
      have HZ := Lib.hid hz
      clear hz
      clear hle
      go_enter Tryz.func85, Tryz.ntmps85
      go_wp2_with fail
      go_quiet (fail)
      go_wp2_with fail
      have hbW := hb0.drewN nq
      have kcW := kc.drewN nq
      have ksW := ks.drewN nq
      have k3W := k3.drewN nq
      have ownW : ((w.alloc (.cells #[.int .i64 p, .int .i64 q] 102)).drewN nq).ownsRow base 102 2 (.slice (some ⟨gA, 0, none⟩) (m + 1) c) (m + 1) (stopCells J) := own1
      clear hb0 kc ks k3 own1 s0 s1 s2 a0 a1 a2 c0 c1 c2
      generalize (w.alloc (.cells #[.int .i64 p, .int .i64 q] 102)).drewN nq = W at *
      generalize hge : w.heap.size = ge at *
      have HGE := Lib.hid hge
      clear hge
      obtain ⟨s0, s1, s2⟩ := ksW.all
      obtain ⟨a0, a1, a2⟩ := k3W.all
      obtain ⟨c0, c1, c2⟩ := kcW.all
      have fz := ownW.frozenAt (m * 2 + 1)
      have t1W := ownW.cellAt (m * 2 + 1) (by omega)
      rw [(stopCells_at J m t HT.out).2] at t1W
      clear t0 t1
      have ib0 : (0 : Int) ≤ (m : Int) := by omega
      have ib1 : (m : Int) < (m : Int) + 1 := by omega
      have ib2 : (m : Int) < ((m + 1 : Nat) : Int) := by omega
      refine wp_region_tailB 16 (by kernel_rfl) (by kernel_rfl) ?_
      simp only [List.take_succ_cons, List.take_zero, List.drop_succ_cons, List.drop_zero]
      repeat still_step
      refine wpStill_nil ?_
      go_wp2
      have hst := (ownW.stored (m * 2 + 1) (.int .i64 z)).1
      have hO : Only (fun i => i = gc ∨ ∃ a, some (⟨gA, 0, none⟩ : Addr) = some a ∧ i = a.block) w (W.setCell ⟨gA, m * 2 + 1, none⟩ (.int .i64 z)) :=
        (hbW.mono (G := fun i => i = gc ∨ ∃ a, some (⟨gA, 0, none⟩ : Addr) = some a ∧ i = a.block) (fun _ h => h.elim)).setCell (p := ⟨gA, m * 2 + 1, none⟩) (.inl (.inr ⟨_, rfl, rfl⟩)) _
      have hk := kcW.far (p := ⟨gA, m * 2 + 1, none⟩) (fun he => own_blk_ne ownW kcW (by decide) (by rw [he]; rfl)) (.int .i64 z)
      have hlj : (joinStep J (p, q)).length = m + 1 := by rw [HJ.out]; simp [HM.out]
      rw [stopCells_set HT.out] at hst
      refine bodyPost_ret (v := .tuple #[]) (by simp [results, Tryz.results85, go_sem]) rfl ⟨rfl, some ⟨gA, 0, none⟩, c, ?_⟩
      have hje : joinStep J (p, q) = J.set m (t.1, z) := by rw [HJ.out, HZ.out]
      rw [hlj, hje]
      exact ⟨hk.drew, hst, hO.drew, fun a ha => by injection ha with ha; subst ha; exact hbA⟩
end Go.Proofs.YtebdkmlganalaaaGreatDoor
