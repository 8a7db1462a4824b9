/- The state in which List's walk goes over the groups. -/
import Derived.Test.YtbihklfcdpgcgaaEl
import Derived.Lib.OwnKind
namespace Go.Proofs.Ytbihklfcdpgcgaa
open Go.RowKit

/-- A clause loaded whole out of a row. -/
theorem row_load {W : World} {base g n cap k : Nat} {l : List Cl} (h : W.ownsRow base 35 20 (.slice (some ⟨g, 0, none⟩) n cap) n (cls l)) (hn : l.length = n) {c : Cl} (hk : l[k]? = some c) :
    (loadVar 35 ⟨g, k * 20, none⟩).run Try.prog W = .ok (.agg (clA c)) W := by
  have hkl : k < l.length := (List.getElem?_eq_some_iff.1 hk).1
  have hl : (loadCells ⟨g, k * 20, none⟩ (clA c).toList.length).run Try.prog W = .ok (clA c).toList.toArray W :=
    run_loadCells_list (P := Try.prog) W ⟨g, k * 20, none⟩ (clA c).toList (fun j v hv => by
      have hj : j < 20 := by
        have := (List.getElem?_eq_some_iff.1 hv).1
        rwa [Array.length_toList, clA_size] at this
      have hadd : (⟨g, k * 20, none⟩ : Addr).add j = ⟨g, k * 20 + j, none⟩ := by unfold Addr.add; split <;> simp_all
      rw [hadd, h.cellAt (k * 20 + j) (by omega)]
      exact (flat_at encC_len hk hj).trans hv)
  rw [Array.length_toList, Array.toArray_toList, clA_size] at hl
  have hagg : (isAgg 35).run Try.prog W = .ok true W := by
    unfold isAgg
    rw [Sem.run_bind, run_underlying Try.underlying35 W]
    rfl
  have hsz := Try.sizeOf35 W
  unfold loadVar
  rw [Sem.run_bind, hagg]
  simp only [Result.andThen_ok, if_true]
  rw [Sem.run_bind, hsz]
  simp only [Result.andThen_ok]
  rw [Sem.run_bind, hl]
  rfl
theorem load_row {ops : Array Oper} {rest : List Oper} {o : Oper} {a : Act} {W : World} {Q : Exit → Act → World → Prop} (hgd : o.guard = none) {x : Operand} (ho : o.op = .load 35 x) {base g n cap k : Nat} {l : List Cl} (hx : a.eval x = .pointer (some ⟨g, k * 20, none⟩))
    (hr : W.ownsRow base 35 20 (.slice (some ⟨g, 0, none⟩) n cap) n (cls l)) (hn : l.length = n) {c : Cl} (hk : l[k]? = some c)
    (h : wpList Try.prog ops Q rest (a.put o.dst (.agg (clA c))) W) : wpList Try.prog ops Q (o :: rest) a W := by
  refine wpList_plain hgd fun _ hK => ?_
  unfold Oper.wp execOp
  simp only [ho, hx, Instr.loadAt, Instr.sureAddr, Sem.run_bind, Sem.run_pure, Result.andThen_ok, row_load hr hn hk]
  exact hK _ _ h

def kvG (p : St2 × Value) : Value × Value := (.agg (stA p.1), p.2)
def grp (L : List Cl) (t : St2) : List Cl := L.filter fun c => decide (c.after = t)
structure Wk (w : World) (base bc bo bw m : Nat) (KV : List (St2 × Value)) (L : List Cl) (lst : St2 → List Cl) (v : Value) (O : List Cl) : Prop where
  cc : Blk w bc 71 #[.map (some m)]
  co : Blk w bo 42 #[v]
  cw : Blk w bw 72 #[.func (.func 35) #[] #[.pointer (some ⟨bc, 0, none⟩), .pointer (some ⟨bo, 0, none⟩), .pointer (some ⟨bw, 0, none⟩)]]
  map : MapV w m (KV.map kvG)
  own : ∀ p ∈ KV, OwnCls w base p.2 (lst p.1)
  perm : ∀ t, (lst t).Perm (grp L t)
  keys : KV.Pairwise fun a b => a.1 ≠ b.1 ∧ Apart a.2 b.2
  none : ∀ t, (∀ p ∈ KV, p.1 ≠ t) → grp L t = []
  out : OwnCls w base v O
  apO : ∀ p ∈ KV, Apart p.2 v
  bs : base ≤ bc ∧ base ≤ bo ∧ base ≤ bw ∧ base ≤ m
section
variable {w w' : World} {base bc bo bw m : Nat} {KV : List (St2 × Value)} {L : List Cl} {lst : St2 → List Cl} {v : Value} {O : List Cl}
theorem OwnCls.ne_blk {u : Value} {l : List Cl} (h : OwnCls w base u l) {g : Nat} {t : TypeId} {cs : Array Value} (hb : Blk w g t cs) (ht : t ≠ 35) : u.ownBlock ≠ some g := fun e => by
  obtain ⟨c, fz, hc⟩ := Lib.ownsRow_kind h g e
  unfold Blk at hb
  rw [hb] at hc
  injection hc with hc
  injection hc with _ hc
  exact ht hc
theorem OwnCls.ne_map {u : Value} {l : List Cl} (h : OwnCls w base u l) {g : Nat} {K : List (Value × Value)} (hb : MapV w g K) : u.ownBlock ≠ some g := fun e => by
  obtain ⟨c, fz, hc⟩ := Lib.ownsRow_kind h g e
  obtain ⟨es, clock, h1, _⟩ := hb
  rw [h1] at hc
  injection hc with hc
  cases hc
theorem Blk.ne_map {g b : Nat} {t : TypeId} {cs : Array Value} {K : List (Value × Value)} (h : Blk w g t cs) (hb : MapV w b K) : g ≠ b := fun e => by
  subst e
  obtain ⟨es, clock, h1, _⟩ := hb
  unfold Blk at h
  rw [h1] at h
  injection h with h
  cases h
/-- What a change outside leaves. -/
theorem Wk.only {F : Foot} (h : Wk w base bc bo bw m KV L lst v O) (k : Only F w w') (h1 : ¬ F bc) (h2 : ¬ F bo) (h3 : ¬ F bw) (h4 : ¬ F m) (h5 : ∀ p ∈ KV, ∀ g, p.2.ownBlock = some g → ¬ F g) (h6 : ∀ g, v.ownBlock = some g → ¬ F g) : Wk w' base bc bo bw m KV L lst v O :=
  ⟨k.blk h.cc h1, k.blk h.co h2, k.blk h.cw h3, h.map.only k h4, fun p hp => k.owns (h.own p hp) (h5 p hp), h.perm, h.keys, h.none, k.owns h.out h6, h.apO, h.bs⟩
theorem Wk.same (h : Wk w base bc bo bw m KV L lst v O) (hb : Below w.heap.size w w') : Wk w' base bc bo bw m KV L lst v O :=
  h.only (Only.of_below hb fun _ => False) (fun h => h) (fun h => h) (fun h => h) (fun h => h) (fun _ _ _ _ h => h) fun _ _ h => h
/-- The slice of a group; nil where there is none. -/
def Sl (KV : List (St2 × Value)) (t : St2) (u : Value) : Prop := (t, u) ∈ KV ∨ (u = .slice none 0 0 ∧ ∀ p ∈ KV, p.1 ≠ t)
theorem sl_ex (KV : List (St2 × Value)) (t : St2) : ∃ u, Sl KV t u := by
  by_cases h : ∀ p ∈ KV, p.1 ≠ t
  · exact ⟨_, .inr ⟨rfl, h⟩⟩
  · simp only [Classical.not_forall, Decidable.not_not, exists_prop] at h
    obtain ⟨⟨t', u⟩, hp, rfl⟩ := h
    exact ⟨u, .inl hp⟩
theorem Wk.at (h : Wk w base bc bo bw m KV L lst v O) {t : St2} {u : Value} (hs : Sl KV t u) : OwnCls w base u (lst t) := by
  rcases hs with hs | ⟨rfl, hs⟩
  · exact h.own _ hs
  · have : lst t = [] := by
      have := h.perm t
      rw [h.none t hs] at this
      exact this.eq_nil
    rw [this]
    exact World.ownsRow_nil _ _ _ _
theorem Wk.look (h : Wk w base bc bo bw m KV L lst v O) {t : St2} {u : Value} (hs : Sl KV t u) :
    (Instr.lookup 71 (.map (some m)) (.agg #[.int .i64 t.1, .int .i64 t.2]) false).run Try.prog w = .ok u w := by
  have hk : ∀ p ∈ KV.map kvG, StV p.1 := fun p hp => by
    obtain ⟨q, _, rfl⟩ := List.mem_map.1 hp
    exact ⟨q.1, rfl⟩
  rcases hs with hs | ⟨rfl, hs⟩
  · exact h.map.look_some (P := Try.prog) kysS Try.underlying71 hk (List.mem_map_of_mem (f := kvG) hs) false
  · exact h.map.look_none (P := Try.prog) kysS Try.underlying71 hk ⟨t, rfl⟩ (fun p hp => by
      obtain ⟨q, hq, rfl⟩ := List.mem_map.1 hp
      exact fun e => hs q hq (stA_inj e)) (by kernel_rfl) false
theorem Apart.out {a b : Value} (h : Apart a b) {g : Nat} (hg : a.ownBlock = some g) : b.ownBlock ≠ some g := by
  rcases h with h | h
  · rw [h] at hg; cases hg
  · rw [hg] at h; exact fun e => h e.symm
/-- A group sorted in place. -/
theorem Wk.sort (h : Wk w base bc bo bw m KV L lst v O) {t : St2} {u : Value} (hs : Sl KV t u) (ho : OwnCls w' base u (sortC (lst t))) (k : Only (fun i => u.ownBlock = some i) w w') : Wk w' base bc bo bw m KV L (fun s => if s = t then sortC (lst s) else lst s) v O := by
  have hu := h.at hs
  refine ⟨k.blk h.cc (hu.ne_blk h.cc (by decide)), k.blk h.co (hu.ne_blk h.co (by decide)), k.blk h.cw (hu.ne_blk h.cw (by decide)), h.map.only k (hu.ne_map h.map), fun p hp => ?_, fun s => ?_, h.keys, h.none, k.owns h.out fun g hg e => ?_, h.apO, h.bs⟩
  · by_cases e : p.1 = t
    · simp only [if_pos e]
      rcases hs with hs | ⟨_, hs⟩
      · have : p.2 = u := by
          rcases hq : h.keys with _
          exact Classical.byContradiction fun hne => by
            have := List.Pairwise.forall_of_forall_of_flip (l := KV) (R := fun a b => a.1 = b.1 → a.2 = b.2) (fun _ _ _ => rfl) (h.keys.imp fun hab he => absurd he hab.1) (h.keys.imp fun hab he => absurd he.symm hab.1)
            exact hne (this hp hs e)
        rw [this, e]
        exact ho
      · exact absurd e (hs p hp)
    · simp only [if_neg e]
      refine k.owns (h.own p hp) fun g hg eg => ?_
      rcases hs with hs | ⟨rfl, _⟩
      · have := List.Pairwise.forall_of_forall_of_flip (l := KV) (R := fun a b => a.1 ≠ b.1 → Apart a.2 b.2) (fun _ _ h => absurd rfl h) (h.keys.imp fun hab _ => hab.2) (h.keys.imp fun hab _ => hab.2.symm)
        exact (this hp hs e).out hg eg
      · cases eg
  · show (if s = t then sortC (lst s) else lst s).Perm _
    split
    · exact (sortC_perm _).trans (h.perm s)
    · exact h.perm s
  · rcases hs with hs | ⟨rfl, _⟩
    · exact (h.apO _ hs).out e hg
    · cases e
/-- One more in 'out'. -/
theorem Wk.push (h : Wk w base bc bo bw m KV L lst v O) {v' : Value} {O' : List Cl} (k : Only (fun i => v.ownBlock = some i ∨ i = bo) w w') (ho : OwnCls w' base v' O') (hlie : v'.ownBlock = v.ownBlock ∨ ∃ g, v'.ownBlock = some g ∧ w.heap.size ≤ g) (hco : Blk w' bo 42 #[v']) : Wk w' base bc bo bw m KV L lst v' O' := by
  have hr : ∀ p ∈ KV, ∀ g, p.2.ownBlock = some g → ¬ (v.ownBlock = some g ∨ g = bo) := fun p hp g hg e => by
    rcases e with e | rfl
    · exact (h.apO p hp).out hg e
    · exact (h.own p hp).ne_blk h.co (by decide) hg
  refine ⟨k.blk h.cc fun e => ?_, hco, k.blk h.cw fun e => ?_, h.map.only k fun e => ?_, fun p hp => k.owns (h.own p hp) (hr p hp), h.perm, h.keys, h.none, ho, fun p hp => ?_, h.bs⟩
  · rcases e with e | e
    · exact h.out.ne_blk h.cc (by decide) e
    · exact h.cc.ne_ h.co (by decide) e
  · rcases e with e | e
    · exact h.out.ne_blk h.cw (by decide) e
    · exact h.cw.ne_ h.co (by decide) e
  · rcases e with e | e
    · exact h.out.ne_map h.map e
    · exact h.co.ne_map h.map e.symm
  · unfold Apart
    cases hp2 : p.2.ownBlock with
    | none => exact .inl rfl
    | some g =>
      right
      rcases hlie with e | ⟨g', e, hg'⟩
      · rw [e]
        exact fun e' => hr p hp g hp2 (.inl e'.symm)
      · rw [e]
        intro e'
        injection e' with e'
        have := (OwnCls.lt (h.own p hp) g hp2).2
        omega
end
end Go.Proofs.Ytbihklfcdpgcgaa
