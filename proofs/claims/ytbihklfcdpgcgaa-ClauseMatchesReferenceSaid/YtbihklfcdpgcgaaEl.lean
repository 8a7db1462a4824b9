/- A map of slices of clauses, by their After. -/
import Derived.Test.YtbihklfcdpgcgaaEk
namespace Go.Proofs.Ytbihklfcdpgcgaa
open Go.RowKit

theorem Try.infoCl : (Try.prog.info? 35).map (fun i => (i.zero, i.size, i.bytes)) = some (some (.agg (clA zcl)), 20, 248) := by kernel_rfl
abbrev Grp := St2 × Value × List Cl
def grKv (g : Grp) : Value × Value := (.agg (stA g.1), g.2.1)
/-- Two slices that do not lie in one row. -/
def Apart (a b : Value) : Prop := a.ownBlock = none ∨ a.ownBlock ≠ b.ownBlock
structure GrAt (w : World) (base m : Nat) (G : List Grp) : Prop where
  map : MapV w m (G.map grKv)
  own : ∀ g ∈ G, OwnCls w base g.2.1 g.2.2
  apart : G.Pairwise fun a b => a.1 ≠ b.1 ∧ Apart a.2.1 b.2.1
theorem GrAt.keys {w : World} {base m : Nat} {G : List Grp} (_h : GrAt w base m G) : ∀ p ∈ G.map grKv, StV p.1 := fun p hp => by
  obtain ⟨g, _, rfl⟩ := List.mem_map.1 hp
  exact ⟨g.1, rfl⟩
theorem OwnCls.grown {w w' : World} {base : Nat} {v : Value} {l : List Cl} {row : Option Nat} (h : OwnCls w base v l) (hg : w.grownBy w' row) (hne : v.ownBlock = none ∨ v.ownBlock ≠ row) : OwnCls w' base v l := World.ownsRow.kept h hg hne
theorem GrAt.grown {w w' : World} {base m : Nat} {G : List Grp} {row : Option Nat} (h : GrAt w base m G) (hg : w.grownBy w' row) (hm : some m ≠ row) (hr : ∀ g ∈ G, g.2.1.ownBlock = none ∨ g.2.1.ownBlock ≠ row) : GrAt w' base m G :=
  ⟨h.map.grown hg hm, fun g hgG => (h.own g hgG).grown hg (hr g hgG), h.apart⟩
theorem GrAt.alloc {w : World} {base m : Nat} {G : List Grp} (h : GrAt w base m G) (o : Obj) : GrAt (w.alloc o) base m G :=
  h.grown (World.grownBy_alloc w o none) (by simp) fun g _ => by cases hh : g.2.1.ownBlock with | none => exact .inl rfl | some x => exact .inr (by simp)
theorem OwnCls.lt {w : World} {base : Nat} {v : Value} {l : List Cl} (h : OwnCls w base v l) : ∀ k, v.ownBlock = some k → base ≤ k ∧ k < w.heap.size := fun k hk => World.ownsRow.lt h k hk
theorem Apart.symm {a b : Value} (h : Apart a b) : Apart b a := by
  unfold Apart at *
  cases hb : b.ownBlock with
  | none => exact .inl rfl
  | some x =>
    right
    rcases h with h | h
    · rw [h]; simp
    · rw [hb] at h; exact fun e => h e.symm
/-- What the groups hold, X being dealt out. -/
structure GrRel (X : List Cl) (G : List Grp) : Prop where
  list : ∀ g ∈ G, g.2.2 = X.filter fun c => decide (c.after = g.1)
  none : ∀ t, (∀ g ∈ G, g.1 ≠ t) → (X.filter fun c => decide (c.after = t)) = []
theorem GrRel.nil : GrRel [] [] := ⟨by simp, fun _ _ => rfl⟩
theorem filter_snoc (X : List Cl) (c : Cl) (t : St2) : ((X ++ [c]).filter fun c => decide (c.after = t)) = if c.after = t then (X.filter fun c => decide (c.after = t)) ++ [c] else X.filter fun c => decide (c.after = t) := by
  rw [List.filter_append]
  by_cases h : c.after = t <;> simp [h]
theorem GrRel.more {X : List Cl} {G1 G2 : List Grp} {c : Cl} {v v' : Value} {l : List Cl} (h : GrRel X (G1 ++ (c.after, v, l) :: G2)) (hd : ∀ g ∈ G1 ++ G2, g.1 ≠ c.after) : GrRel (X ++ [c]) (G1 ++ (c.after, v', l ++ [c]) :: G2) := by
  refine ⟨fun g hg => ?_, fun t ht => ?_⟩
  · rcases List.mem_append.1 hg with hg | hg
    · rw [filter_snoc, if_neg (fun e => hd g (List.mem_append_left _ hg) e.symm)]
      exact h.list g (List.mem_append_left _ hg)
    · rcases List.mem_cons.1 hg with rfl | hg
      · rw [filter_snoc, if_pos rfl, ← h.list (c.after, v, l) (by simp)]
      · rw [filter_snoc, if_neg (fun e => hd g (List.mem_append_right _ hg) e.symm)]
        exact h.list g (List.mem_append_right _ (List.mem_cons_of_mem _ hg))
  · have h1 : c.after ≠ t := ht (c.after, v', l ++ [c]) (by simp)
    rw [filter_snoc, if_neg h1]
    refine h.none t fun g hg => ?_
    rcases List.mem_append.1 hg with hg | hg
    · exact ht g (List.mem_append_left _ hg)
    · rcases List.mem_cons.1 hg with rfl | hg
      · exact h1
      · exact ht g (List.mem_append_right _ (List.mem_cons_of_mem _ hg))
theorem GrRel.new {X : List Cl} {G : List Grp} {c : Cl} {v' : Value} (h : GrRel X G) (hn : ∀ g ∈ G, g.1 ≠ c.after) : GrRel (X ++ [c]) (G ++ [(c.after, v', [c])]) := by
  refine ⟨fun g hg => ?_, fun t ht => ?_⟩
  · rcases List.mem_append.1 hg with hg | hg
    · rw [filter_snoc, if_neg (fun e => hn g hg e.symm)]
      exact h.list g hg
    · simp at hg
      subst hg
      rw [filter_snoc, if_pos rfl, h.none c.after hn]
      rfl
  · have h1 : c.after ≠ t := ht (c.after, v', [c]) (by simp)
    rw [filter_snoc, if_neg h1]
    exact h.none t fun g hg => ht g (List.mem_append_left _ hg)
theorem gr_upd {G1 G2 : List Grp} {t : St2} {v v' : Value} {l l' : List Cl} (hd : ∀ g ∈ G1 ++ G2, g.1 ≠ t) :
    ((G1 ++ (t, v, l) :: G2).map grKv).map (upV (.agg (stA t)) v') = (G1 ++ (t, v', l') :: G2).map grKv := by
  have hk : ∀ K : List Grp, (∀ g ∈ K, g.1 ≠ t) → (K.map grKv).map (upV (.agg (stA t)) v') = K.map grKv := fun K hK => by
    rw [List.map_map]
    refine List.map_congr_left fun g hg => ?_
    exact upV_neg (p := grKv g) fun e => hK g hg (stA_inj e)
  rw [List.map_append, List.map_cons, List.map_append, List.map_cons, hk G1 fun g hg => hd g (List.mem_append_left _ hg), hk G2 fun g hg => hd g (List.mem_append_right _ hg), List.map_append, List.map_cons, (upV_pos (x := .agg (stA t)) (v := v') (p := grKv (t, v, l)) rfl : upV _ _ _ = _)]
  rfl
/-- Behind an append to a group's slice, or to a new one. -/
theorem GrAt.set {w w2 w3 : World} {base m : Nat} {G1 G2 : List Grp} {t : St2} {v v' : Value} {l l' : List Cl} (h : GrAt w base m (G1 ++ (t, v, l) :: G2)) (hg : w.grownBy w2 v.ownBlock) (_hm : ∀ g, v.ownBlock = some g → g ≠ m) (ho : OwnCls w2 base v' l')
    (hlie : v'.ownBlock = v.ownBlock ∨ v'.ownBlock = some w.heap.size ∨ ∃ k, v'.ownBlock = some k ∧ w.heap.size ≤ k) (hM : MapV w3 m ((G1 ++ (t, v', l') :: G2).map grKv)) (hg3 : w2.grownBy w3 (some m)) (hv' : ∀ k, v'.ownBlock = some k → k ≠ m) (hrow : ∀ g ∈ G1 ++ G2, ∀ k, g.2.1.ownBlock = some k → k ≠ m) : GrAt w3 base m (G1 ++ (t, v', l') :: G2) := by
  have hold : ∀ g ∈ G1 ++ G2, g ∈ G1 ++ (t, v, l) :: G2 := fun g hgm => by
    rcases List.mem_append.1 hgm with h1 | h1
    · exact List.mem_append_left _ h1
    · exact List.mem_append_right _ (List.mem_cons_of_mem _ h1)
  have hap := h.apart
  rw [List.pairwise_append] at hap
  obtain ⟨p1, p2, p3⟩ := hap
  obtain ⟨p4, p5⟩ := List.pairwise_cons.1 p2
  have hapv : ∀ g ∈ G1 ++ G2, Apart g.2.1 v := fun g hgm => by
    rcases List.mem_append.1 hgm with h1 | h1
    · exact (p3 g h1 _ List.mem_cons_self).2
    · exact (p4 g h1).2.symm
  have hapv' : ∀ g ∈ G1 ++ G2, Apart g.2.1 v' := fun g hgm => by
    unfold Apart
    rcases hlie with h1 | h1 | ⟨k, h1, h2⟩
    · rw [h1]; exact hapv g hgm
    · right
      rw [h1]
      intro e
      have := ((h.own g (hold g hgm)).lt _ e).2
      omega
    · right
      rw [h1]
      intro e
      have := ((h.own g (hold g hgm)).lt _ e).2
      omega
  refine ⟨hM, fun g hgm => ?_, ?_⟩
  · have hk : ∀ g ∈ G1 ++ G2, OwnCls w3 base g.2.1 g.2.2 := fun g hgm => by
      have o1 := (h.own g (hold g hgm)).grown hg (hapv g hgm)
      refine o1.grown hg3 ?_
      cases hh : g.2.1.ownBlock with
      | none => exact .inl rfl
      | some x => right; intro e; injection e with e; exact hrow g hgm x hh e
    rcases List.mem_append.1 hgm with h1 | h1
    · exact hk g (List.mem_append_left _ h1)
    · rcases List.mem_cons.1 h1 with rfl | h1
      · refine ho.grown hg3 ?_
        cases hh : v'.ownBlock with
        | none => exact .inl rfl
        | some x => right; intro e; injection e with e; exact hv' x hh e
      · exact hk g (List.mem_append_right _ h1)
  · rw [List.pairwise_append]
    refine ⟨p1, List.pairwise_cons.2 ⟨fun g hgm => ⟨(p4 g hgm).1, (hapv' g (List.mem_append_right _ hgm)).symm⟩, p5⟩, fun a ha b hb => ?_⟩
    rcases List.mem_cons.1 hb with rfl | hb
    · exact ⟨(p3 a ha _ List.mem_cons_self).1, hapv' a (List.mem_append_left _ ha)⟩
    · exact p3 a ha b (List.mem_cons_of_mem _ hb)
theorem GrAt.find {w : World} {base m : Nat} {G : List Grp} (h : GrAt w base m G) (t : St2) : (∀ g ∈ G, g.1 ≠ t) ∨ ∃ G1 G2 v l, G = G1 ++ (t, v, l) :: G2 ∧ ∀ g ∈ G1 ++ G2, g.1 ≠ t := by
  by_cases hn : ∀ g ∈ G, g.1 ≠ t
  · exact .inl hn
  · right
    simp only [Classical.not_forall, Decidable.not_not, exists_prop] at hn
    obtain ⟨⟨t', v, l⟩, hg, rfl⟩ := hn
    obtain ⟨G1, G2, rfl⟩ := List.append_of_mem hg
    refine ⟨G1, G2, v, l, rfl, fun g hgm => ?_⟩
    have hap := h.apart
    rw [List.pairwise_append] at hap
    obtain ⟨_, p2, p3⟩ := hap
    rcases List.mem_append.1 hgm with h1 | h1
    · exact (p3 g h1 _ List.mem_cons_self).1
    · exact fun e => ((List.pairwise_cons.1 p2).1 g h1).1 e.symm
end Go.Proofs.Ytbihklfcdpgcgaa
