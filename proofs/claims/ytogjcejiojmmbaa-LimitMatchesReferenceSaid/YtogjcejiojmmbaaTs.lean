/- slices.SortFunc at stops, by From; slices.Clone. -/
import Derived.Test.YtogjcejiojmmbaaTb
import Derived.Test.YtogjcejiojmmbaaSo
import Derived.Test.YtogjcejiojmmbaaBu
namespace Go.Proofs.Ytogjcejiojmmbaa
open Go.RowKit Go.Shelf Go.Lib Go.Sort

/-- A stop whose From is of a moderate size. -/
abbrev BStop := {s : Stp2 // -4000000 ≤ s.1 ∧ s.1 ≤ 4000000}
noncomputable instance : Inhabited BStop := ⟨⟨(0, 0), by decide⟩⟩
def encB (x : BStop) : List Value := encStop x.1
def cfB (x y : BStop) : Int := x.1.1 - y.1.1
theorem ltB_ (x y : BStop) : ltOf cfB x y = decide (x.1.1 < y.1.1) := by
  unfold ltOf cfB
  rw [decide_eq_decide]
  omega
theorem swoB : SWO (ltOf cfB) where
  irrefl x := by rw [ltB_]; simp
  trans x y z h1 h2 := by rw [ltB_] at *; simp at *; omega
  ntrans x y z h1 h2 := by rw [ltB_] at *; simp at *; omega

set_option maxHeartbeats 1000000 in
theorem cmp_any (x y : BStop) (W : World) : Calls Try.prog 53 #[.agg (encB x).toArray, .agg (encB y).toArray] W fun e w' => e = .returned (.int .i64 (cfB x y)) ∧ ∃ q os', w' = grow (W.drewN q) os' := by
  obtain ⟨⟨a, b⟩, h1, h2⟩ := x
  obtain ⟨⟨c, d⟩, h3, h4⟩ := y
  show Calls Try.prog 53 #[.agg #[.int .i64 a, .int .i64 b], .agg #[.int .i64 c, .int .i64 d]] W fun e w' => e = .returned (.int .i64 (a - c)) ∧ ∃ q os', w' = grow (W.drewN q) os'
  simp only at h1 h2 h3 h4
  go_enter Try.func53, Try.ntmps53
  go_wp2
  go_ret
  exact ⟨rfl, 0, _, by rw [alloc_eq_grow, alloc_eq_grow, grow_grow]; rfl⟩
theorem cmpLays (blk off size : Nat) (w : World) : CmpLays Try.prog 53 #[] encB 2 cfB blk off size w := fun _ _ _ _ x y => cmp_any x y _

/-- The cells of stops, one behind the other. -/
def stopCells (S : List Stp2) : List Value := S.flatMap encStop
theorem stopCells_len (S : List Stp2) : (stopCells S).length = S.length * 2 := by
  induction S with
  | nil => rfl
  | cons s S ih => simp only [stopCells, List.flatMap_cons, List.length_append, List.length_cons] at *; rw [ih]; simp [encStop]; omega
theorem stopCells_at : ∀ (S : List Stp2) (i : Nat) (s : Stp2), S[i]? = some s → (stopCells S)[i * 2]? = some (.int .i64 s.1) ∧ (stopCells S)[i * 2 + 1]? = some (.int .i64 s.2)
  | [], i, s, h => by simp at h
  | t :: S, 0, s, h => by simp at h; subst h; exact ⟨rfl, rfl⟩
  | t :: S, i + 1, s, h => by
    have := stopCells_at S i s (by simpa using h)
    have e1 : (i + 1) * 2 = i * 2 + 1 + 1 := by omega
    have e2 : (i + 1) * 2 + 1 = i * 2 + 1 + 1 + 1 := by omega
    rw [e1]
    exact this
theorem stopCells_one (S : List Stp2) : ∀ u ∈ stopCells S, u.oneCell' = true := by
  intro u hu
  simp only [stopCells, List.mem_flatMap, encStop] at hu
  obtain ⟨s, _, h⟩ := hu
  simp at h
  rcases h with rfl | rfl <;> rfl
theorem StopsAt.of_row {w : World} {base g n cap : Nat} {S : List Stp2} (hl : S.length = n) (h : w.ownsRow base 28 2 (.slice (some ⟨g, 0, none⟩) n cap) n (stopCells S)) (hg : g < w.heap.size) : StopsAt w w.heap.size (some ⟨g, 0, none⟩) S := fun i s hi => by
  refine ⟨g, 0, rfl, hg, ?_⟩
  have hlt := (List.getElem?_eq_some_iff.1 hi).1
  obtain ⟨h1, h2⟩ := stopCells_at S i s hi
  have k1 := h.cellAt (i * 2) (by omega)
  have k2 := h.cellAt (i * 2 + 1) (by omega)
  rw [Nat.zero_add]
  exact ⟨k1.trans h1, k2.trans h2⟩
/-- The cells as they are read: for an append. -/
theorem stops_news {w : World} {B : Nat} {A : Option Addr} {S : List Stp2} (h : StopsAt w B A S) : ∀ j u, (stopCells S)[j]? = some u → ∃ ad, A = some ad ∧ w.cell? (ad.add j) = some u := fun j u hj => by
  have hlt := (List.getElem?_eq_some_iff.1 hj).1
  rw [stopCells_len] at hlt
  obtain ⟨s, hs⟩ : ∃ s, S[j / 2]? = some s := ⟨_, List.getElem?_eq_getElem (by omega)⟩
  obtain ⟨g, off, h1, _, h2, h3⟩ := h _ s hs
  obtain ⟨k1, k2⟩ := stopCells_at S _ s hs
  refine ⟨_, h1, ?_⟩
  have ha : (⟨g, off, none⟩ : Addr).add j = ⟨g, off + j, none⟩ := by
    unfold Addr.add
    split
    · rename_i h0; subst h0; rfl
    · rfl
  rw [ha]
  rcases Nat.mod_two_eq_zero_or_one j with hm | hm
  · have e : j = j / 2 * 2 := by omega
    rw [← e] at k1
    rw [k1] at hj
    injection hj with hj
    rw [← hj, e]
    have e2 : j / 2 * 2 / 2 * 2 = j / 2 * 2 := by omega
    exact h2
  · have e : j = j / 2 * 2 + 1 := by omega
    rw [← e] at k2
    rw [k2] at hj
    injection hj with hj
    rw [← hj, e]
    exact h3

/-- What the sort leaves. -/
def SortPost (w : World) (A : Option Addr) (S : List Stp2) (e : Ending) (w' : World) : Prop :=
  e = .returned (.tuple #[]) ∧ ∃ S', S'.Perm S ∧ S'.Pairwise (fun a b => a.1 ≤ b.1) ∧ StopsAt w' w'.heap.size A S' ∧ Only (fun i => ∃ a, A = some a ∧ i = a.block) w w'

theorem sort_any (w : World) (base cap : Nat) (A : Option Addr) (S : List Stp2) (hS : ∀ s ∈ S, -4000000 ≤ s.1 ∧ s.1 ≤ 4000000) (hl : S.length ≤ 100) (hown : w.ownsRow base 28 2 (.slice A S.length cap) S.length (stopCells S)) :
    Calls Try.prog 52 #[.slice A S.length cap, .func (.func 53) #[] #[]] w (SortPost w A S) := by
  rcases Nat.eq_zero_or_pos S.length with h0 | h0
  · have : S = [] := List.eq_nil_of_length_eq_zero h0
    subst this
    exact (AnyF.slices_SortFunc_none sortL A cap _ w).mono fun e w' ⟨he, hw⟩ => ⟨he, [], List.Perm.refl _, List.Pairwise.nil, StopsAt.nil _ _ _, hw ▸ Only.refl _ _⟩
  · obtain ⟨g, cap', hv, hbg, hg⟩ := hown.form h0
    injection hv with hA _ hcap
    subst hA hcap
    obtain ⟨T, hT⟩ : ∃ T : List BStop, T.map Subtype.val = S := ⟨S.pmap (fun s h => ⟨s, h⟩) hS, by rw [List.map_pmap]; simp⟩
    have hTl : T.length = S.length := by rw [← hT, List.length_map]
    have eg : ∀ args w, (callFunc 53 args).run Try.prog w = .ok (.enter 53 args) w := enters_of Try.func53 (by kernel_rfl) rfl
    have hH : HoldsK encB 2 w g 0 T.toArray := fun j hj => by
      have hj' : j < T.length * 2 := by simpa using hj
      refine ⟨?_, hown.frozenAt (0 + j)⟩
      have hx : (flatK encB 2 T.toArray)[j]! = (encB T.toArray[j / 2]!)[j % 2]! := get_flatK encB 2 _ j (by simpa using hj')
      show _ = some (id (flatK encB 2 T.toArray)[j]!)
      rw [hx, Nat.zero_add, hown.cellAt j (by omega)]
      obtain ⟨s, hs⟩ : ∃ s, T[j / 2]? = some s := ⟨_, List.getElem?_eq_getElem (by omega)⟩
      have hs2 : S[j / 2]? = some s.1 := by rw [← hT, List.getElem?_map, hs]; rfl
      have hs3 : T.toArray[j / 2]! = s := by simp [hs]
      rw [hs3]
      obtain ⟨k1, k2⟩ := stopCells_at S _ _ hs2
      rcases Nat.mod_two_eq_zero_or_one j with hm | hm
      · rw [hm]
        have e : j = j / 2 * 2 := by omega
        rw [← e] at k1
        rw [k1]
        rfl
      · rw [hm]
        have e : j = j / 2 * 2 + 1 := by omega
        rw [← e] at k2
        rw [k2]
        rfl
    have hsz : T.toArray.size = S.length := by simp [hTl]
    have hcon := AnyQ.slices_SortFunc sortL 2 Try.isAgg28 Try.sizeOf28 encB (fun _ => rfl) (fun x v hv => by simp [encB, encStop] at hv; rcases hv with rfl | rfl <;> rfl) cfB swoB 53 #[] g 0 cap T.toArray w eg (cmpLays g 0 _ w) hH hg (by omega)
    rw [hsz] at hcon
    refine Calls.mono hcon ?_
    rintro e w' ⟨rfl, d', n, os, hp, hs, rfl⟩
    obtain ⟨hp1, -, hp3⟩ := hp
    rw [hsz] at hp1
    have hperm : d'.toList.Perm T := by
      have e1 : d'.extract 0 S.length = d' := by rw [← hp1]; simp
      have e2 : T.toArray.extract 0 S.length = T.toArray := by rw [← hsz]; simp
      rw [e1, e2] at hp3
      simpa using hp3
    have hH' := holdsK_sortWorldK_c (encB) 2 (w := w) (blk := g) (off := 0) T.toArray d' n os hH hg (by omega)
    refine ⟨rfl, d'.toList.map Subtype.val, ?_, ?_, ?_, ?_⟩
    · rw [← hT]; exact hperm.map _
    · rw [List.pairwise_map, List.pairwise_iff_getElem]
      intro i j hi hj hij
      have hi' : i < d'.size := by simpa using hi
      have hj' : j < d'.size := by simpa using hj
      have h1 := hs i j (Nat.zero_le _) hij (by omega)
      rw [ltB_, getElem!_pos d' i hi', getElem!_pos d' j hj'] at h1
      have h2 : ¬ (d'[j].1.1 < d'[i].1.1) := by simpa using h1
      simp only [Array.getElem_toList]
      omega
    · intro i s hi
      rw [List.getElem?_map] at hi
      obtain ⟨x, hx, rfl⟩ : ∃ x, d'.toList[i]? = some x ∧ x.1 = s := by
        cases hc : d'.toList[i]? with
        | none => rw [hc] at hi; cases hi
        | some x => rw [hc] at hi; injection hi with hi; exact ⟨x, rfl, hi⟩
      have hlt := (List.getElem?_eq_some_iff.1 hx).1
      have hlt' : i < d'.size := by simpa using hlt
      have hx2 : d'[i]! = x := by
        rw [getElem!_pos d' i hlt']
        have := (List.getElem?_eq_some_iff.1 hx).2
        simpa using this
      have c0 := (hH' (i * 2) (by simp; omega)).1
      have c1 := (hH' (i * 2 + 1) (by simp; omega)).1
      have f0 : (flatK encB 2 d')[i * 2]! = (encB d'[i * 2 / 2]!)[i * 2 % 2]! := get_flatK encB 2 _ _ (by omega)
      have f1 : (flatK encB 2 d')[i * 2 + 1]! = (encB d'[(i * 2 + 1) / 2]!)[(i * 2 + 1) % 2]! := get_flatK encB 2 _ _ (by omega)
      have g0 : i * 2 / 2 = i := by omega
      have g1 : (i * 2 + 1) / 2 = i := by omega
      have g2 : i * 2 % 2 = 0 := by omega
      have g3 : (i * 2 + 1) % 2 = 1 := by omega
      rw [g0, g2, hx2] at f0
      rw [g1, g3, hx2] at f1
      refine ⟨g, 0, rfl, lt_sortWorldK encB 2 w g 0 n d' os hg, ?_, ?_⟩
      · rw [c0]
        show some (id (flatK encB 2 d')[i * 2]!) = _
        rw [f0]
        rfl
      · rw [← Nat.add_assoc] at c1
        rw [c1]
        show some (id (flatK encB 2 d')[i * 2 + 1]!) = _
        rw [f1]
        rfl
    · refine ⟨rfl, rfl, rfl, size_sortWorldK_c encB 2 w g 0 n d' os, fun i hi hn => ?_⟩
      have hne : i ≠ g := fun h => hn ⟨_, rfl, h⟩
      show ((putRowK encB 2 (Sort.ahead w n) g 0 d').heap ++ os)[i]? = _
      have hsz2 : (putRowK encB 2 (Sort.ahead w n) g 0 d').heap.size = w.heap.size := size_putRowK encB 2 (Sort.ahead w n) g 0 d'
      rw [Array.getElem?_append_left (by rw [hsz2]; exact hi)]
      show (w.heap.modify g _)[i]? = _
      rw [Array.getElem?_modify, if_neg (fun h => hne h.symm)]
end Go.Proofs.Ytogjcejiojmmbaa
