/- A region that draws its order, over any program: reads that hold as long as S does, first; then operations that come up in any order, behind each of which S holds; then the rest, one at a time. And append of a slice that may be nil. -/
import Derived.Test.YtgfahifdmacmhaaGreatDoorPlan
import Derived.Maps.AppendAt
namespace Go.Proofs.YtgfahifdmacmhaaGreatDoor
open Go.RowKit

section
variable {P : Program} {md : Region.Mode} {ops : Array Oper} {Q : Exit → Act → World → Prop}

def setAll (ks : List Nat) (listed : Array Bool) : Array Bool := ks.foldl (fun b k => b.setIfInBounds k true) listed
theorem headB_set {ops : Array Oper} : ∀ (ks : List Nat) (listed l2 : Array Bool), headB md ops ks listed = some l2 → setAll ks listed = l2
  | [], _, _, h => by simp only [headB, Option.some.injEq] at h; exact h
  | k :: ks, listed, l2, h => by
    unfold headB at h
    split at h
    · exact headB_set ks _ _ h
    · cases h
/-- What is not listed is among the late ones. -/
def lateB (n : Nat) (fs : List Nat) (listed : Array Bool) : Bool := (List.range n).all fun j => listed.getD j false || fs.contains j

/-- What may come up in any order, f operations; behind each S holds; then the reads gs, and ts, one at a time. -/
def wpBush (P : Program) (l : List Oper) (S : World → Prop) (Q : Exit → Act → World → Prop) (gs ts : List Nat) : Nat → Array Bool → Act → World → Prop
  | 0, listed, a, w => lateB l.toArray.size (gs ++ ts) listed = true ∧ (headB .any l.toArray gs listed).isSome = true ∧ tailB .any l.toArray ts (setAll gs listed) = true ∧
      wpHeld P l.toArray (fun _ => True) (fun a' => wpList P l.toArray Q (pick l ts) a' w) (pick l gs) a
  | f + 1, listed, a, w => Region.ready .any l.toArray listed ≠ [] ∧ ∀ i ∈ Region.ready .any l.toArray listed,
      wpList P l.toArray (Exit.then (fun a' w' => S w' ∧ wpBush P l S Q gs ts f (listed.setIfInBounds i true) a' w') Q) (pick l [i]) a w

section
variable {l : List Oper} {S : World → Prop} {gs ts : List Nat} {listed : Array Bool} {a : Act} {w : World} {f : Nat}
theorem wpBush_end (hL : lateB l.toArray.size (gs ++ ts) listed = true) (hG : (headB .any l.toArray gs listed).isSome = true) (hB : tailB .any l.toArray ts (setAll gs listed) = true) (h : wpHeld P l.toArray (fun _ => True) (fun a' => wpList P l.toArray Q (pick l ts) a' w) (pick l gs) a) : wpBush P l S Q gs ts 0 listed a w := ⟨hL, hG, hB, h⟩
theorem wpBush_one (i : Nat) (hr : Region.ready .any l.toArray listed = [i])
    (h : wpList P l.toArray (Exit.then (fun a' w' => S w' ∧ wpBush P l S Q gs ts f (listed.setIfInBounds i true) a' w') Q) (pick l [i]) a w) : wpBush P l S Q gs ts (f + 1) listed a w :=
  ⟨by rw [hr]; simp, fun j hj => by rw [hr] at hj; simp at hj; subst hj; exact h⟩
theorem wpBush_two (i k : Nat) (hr : Region.ready .any l.toArray listed = [i, k])
    (h : wpList P l.toArray (Exit.then (fun a' w' => S w' ∧ wpBush P l S Q gs ts f (listed.setIfInBounds i true) a' w') Q) (pick l [i]) a w)
    (h2 : wpList P l.toArray (Exit.then (fun a' w' => S w' ∧ wpBush P l S Q gs ts f (listed.setIfInBounds k true) a' w') Q) (pick l [k]) a w) : wpBush P l S Q gs ts (f + 1) listed a w :=
  ⟨by rw [hr]; simp, fun j hj => by
    rw [hr] at hj
    simp only [List.mem_cons, List.not_mem_nil, or_false] at hj
    rcases hj with rfl | rfl <;> assumption⟩
theorem wpBush_three (i k m : Nat) (hr : Region.ready .any l.toArray listed = [i, k, m])
    (h : wpList P l.toArray (Exit.then (fun a' w' => S w' ∧ wpBush P l S Q gs ts f (listed.setIfInBounds i true) a' w') Q) (pick l [i]) a w)
    (h2 : wpList P l.toArray (Exit.then (fun a' w' => S w' ∧ wpBush P l S Q gs ts f (listed.setIfInBounds k true) a' w') Q) (pick l [k]) a w)
    (h3 : wpList P l.toArray (Exit.then (fun a' w' => S w' ∧ wpBush P l S Q gs ts f (listed.setIfInBounds m true) a' w') Q) (pick l [m]) a w) : wpBush P l S Q gs ts (f + 1) listed a w :=
  ⟨by rw [hr]; simp, fun j hj => by
    rw [hr] at hj
    simp only [List.mem_cons, List.not_mem_nil, or_false] at hj
    rcases hj with rfl | rfl | rfl <;> assumption⟩
end

theorem wpAnyE_any {ops : Array Oper} {S : World → Prop} {late : Nat → Bool} (hS : ∀ w, S w) : ∀ (f : Nat) (listed : Array Bool) (a : Act) (w : World), wpAny P md ops Q f listed a w → wpAnyE P md ops Q S late f listed a w
  | 0, _, _, _, h => h
  | f + 1, _, _, _, h => ⟨h.1, fun i hi => wpOp_mono (fun a' w' h' => ⟨fun _ => hS w', wpAnyE_any hS f _ a' w' h'⟩) (h.2 i hi)⟩

/-- What can still come is late. -/
theorem wpAnyE_late {ops : Array Oper} {S : World → Prop} {late : Nat → Bool} : ∀ (f : Nat) (listed : Array Bool) (a : Act) (w : World), (∀ j, j < ops.size → listed.getD j false = false → late j = true) → wpAny P md ops Q f listed a w → wpAnyE P md ops Q S late f listed a w
  | 0, _, _, _, _, h => h
  | f + 1, listed, _, _, hl, h => by
    refine ⟨h.1, fun i hi => wpOp_mono (fun a' w' h' => ⟨fun hf => ?_, ?_⟩) (h.2 i hi)⟩
    · obtain ⟨hn, o, ho, _⟩ := mem_ready.1 hi
      have hlt : i < ops.size := by
        rcases Nat.lt_or_ge i ops.size with h1 | h1
        · exact h1
        · rw [Array.getElem?_eq_none h1] at ho; cases ho
      rw [hl i hlt (getD_both hn)] at hf
      cases hf
    · refine wpAnyE_late f _ a' w' (fun j hj hjl => hl j hj ?_) h'
      by_cases hij : i = j
      · subst hij
        obtain ⟨hn, _⟩ := mem_ready.1 hi
        exact getD_both hn
      · rw [getD_set_ne false hij] at hjl; exact hjl

theorem wpAnyE_bush {l : List Oper} {S : World → Prop} {gs ts : List Nat} (hsel : Region.noSelect l.toArray = true) (hQ : ∀ c (d : Option Tmp) (v : Value) a w, Q (.panic c) (a.put d v) w → Q (.panic c) a w) :
    ∀ (f : Nat) (listed : Array Bool) (a : Act) (w : World), Closed .any l.toArray listed →
    wpBush P l S Q gs ts f listed a w → wpAnyE P .any l.toArray Q S (fun j => (gs ++ ts).contains j) (f + (gs.length + ts.length)) listed a w
  | 0, listed, a, w, hc, h => by
    rw [Nat.zero_add]
    obtain ⟨hb, h1, h2, h3⟩ := h
    cases h4 : headB .any l.toArray gs listed with
    | none => rw [h4] at h1; cases h1
    | some l2 =>
      have hl2 := headB_set _ _ _ h4
      rw [hl2] at h2
      refine wpAnyE_late _ _ _ _ (fun j hj hjl => ?_) ?_
      · have := List.all_eq_true.1 hb j (by simpa using hj)
        rw [hjl, Bool.false_or] at this
        exact this
      refine wpAny_of_E (S := fun _ => True) (late := fun _ => false) _ _ _ _ ?_
      refine wpAnyE_held (P := P) (Q := Q) (md := .any) (w := w) (S := fun _ => True) (late := fun _ => false) (K := fun a' => wpList P l.toArray Q (pick l ts) a' w) (hs := gs) (g := ts.length) hsel hQ
        (fun j i hi hj => by cases hj) (fun i hi => rfl) trivial
        (fun a' ha' => wpAnyE_any (fun _ => trivial) _ _ _ _ (wpAny_tail ts l2 a' w h2 ha')) gs listed a (fun k hk => hk) hc h4 h3
  | f + 1, listed, a, w, hc, h => by
    rw [show f + 1 + (gs.length + ts.length) = (f + (gs.length + ts.length)) + 1 by omega]
    refine ⟨fun h0 => absurd h0 h.1, fun i hi => ?_⟩
    obtain ⟨_, o, h0, _⟩ := mem_ready.1 hi
    have hp : pick l [i] = [o] := by
      have : l[i]? = some o := by simpa using h0
      simp [pick, this]
    have h2 := h.2 i hi
    rw [hp] at h2
    exact wpOp_mono (fun a' w' h' => ⟨fun _ => h'.1, wpAnyE_bush hsel hQ f _ a' w' (hc.set hi) h'.2⟩) (wpOp_of_one h0 h2)

def bushB (l : List Oper) (hs fs : List Nat) (n : Nat) : Bool :=
  Region.noSelect l.toArray && decide (hs.length + n + fs.length = l.length) && waitB .any l.toArray fs hs && (hs.all fun i => !fs.contains i) && (headB .any l.toArray hs (Array.replicate l.length false)).isSome

/-- The reads of a region, taken first, keep the state closed. -/
theorem headB_closed {l : List Oper} : ∀ (ks : List Nat) (listed l2 : Array Bool), Closed md l.toArray listed → headB md l.toArray ks listed = some l2 → Closed md l.toArray l2
  | [], _, _, hc, h => by simp only [headB, Option.some.injEq] at h; subst h; exact hc
  | k :: ks, listed, l2, hc, h => by
    unfold headB at h
    split at h
    · rename_i hrf
      simp only [Bool.and_eq_true] at hrf
      exact headB_closed ks _ _ (hc.set (by simpa using hrf.1)) h
    · cases h

/-- A REGION THAT DRAWS ITS ORDER: the reads 'hs', whose values hold as long as S does; then n operations in any order, behind each of which S holds; then the reads 'gs' and 'ts', one at a time: these wait for all of 'hs'. -/
theorem wp_region_bush {id : Nat} {l : List Oper} {a : Act} {w : World} (S : World → Prop) (hs : List Nat) (n : Nat) (gs ts : List Nat) (hm : P.follows .mixedOrders = true) (hB : bushB l hs (gs ++ ts) n = true)
    (hQ : ∀ c (d : Option Tmp) (v : Value) a w, Q (.panic c) (a.put d v) w → Q (.panic c) a w) (hS : S w.drew)
    (h : wpHeld P l.toArray S (fun a' => wpBush P l S Q gs ts n (setAll hs (Array.replicate l.length false)) a' w.drew) (pick l hs) a) : (Code.region id l.toArray true).wp P Q a w := by
  simp only [bushB, Bool.and_eq_true, decide_eq_true_eq] at hB
  obtain ⟨⟨⟨⟨hsel, hlen⟩, hw⟩, hnf⟩, hrest⟩ := hB
  cases h2 : headB .any l.toArray hs (Array.replicate l.length false) with
  | none => rw [h2] at hrest; cases hrest
  | some l2 =>
    have hl2 := headB_set _ _ _ h2
    rw [hl2] at h
    have hc0 : Closed .any l.toArray (Array.replicate l.length false) := fun j oj _ hl => by rw [getD_replicate_false] at hl; cases hl
    have hc2 := headB_closed _ _ _ hc0 h2
    refine wp_region_any hm ?_
    have key := wpAnyE_held (P := P) (Q := Q) (md := .any) (w := w.drew) (S := S) (late := fun j => (gs ++ ts).contains j) (hs := hs) (g := n + (gs.length + ts.length)) hsel hQ
      (fun j i hi hj => List.all_eq_true.1 (List.all_eq_true.1 hw j (List.contains_iff_mem.1 hj)) i hi) (fun i hi => by have := List.all_eq_true.1 hnf i hi; cases hc : (gs ++ ts).contains i; rfl; rw [hc] at this; cases this) hS
      (fun a' ha' => wpAnyE_bush hsel hQ n l2 a' w.drew hc2 ha') hs (Array.replicate l.length false) a (fun k hk => hk) hc0 h2 h
    have k3 := wpAny_of_E _ _ _ _ key
    rw [List.length_append] at hlen
    have : l.length = hs.length + (n + (gs.length + ts.length)) := by omega
    rw [← this] at k3
    have hsz : l.toArray.size = l.length := by simp
    rw [hsz]
    exact k3

/-- The library's law, its world written as the walk wants it. -/
theorem wp_region_tailB {id : Nat} {l : List Oper} {a : Act} {w : World} (n : Nat) (hm : P.follows .mixedOrders = true) (hB : Region.lexTailB .any l.toArray n = true)
    (h : wpStill P l.toArray w.drew (fun a' => wpList P l.toArray Q (l.drop n) a' w.drew) (l.take n) a) : (Code.region id l.toArray true).wp P Q a w :=
  wp_region_still_tail n hm hB h

/-- append(v, x...): v the call's own, x a slice that may be nil. -/
theorem wpList_append_any {w : World} {rest : List Oper} {o : Oper} {a : Act} (hgd : o.guard = none) (s x : Operand) (t : TypeId)
    (ho : o.op = .call { callee := .builtin .append, args := #[s, x], argTypes := #[t, t] })
    (base : Nat) (e : TypeId) (i : TypeInfo) (z : Value) (size bytes : Nat) (ht : P.underlying t = some (.slice e)) (hi : P.info? e = some i) (hz : i.zero = some z)
    (hsize : i.size = size) (hby : i.bytes = bytes) (hzs : z.cells.size = size) (hsz : 0 < size)
    (v : Value) (n : Nat) (xs : List Value) (hs : a.eval s = v) (hown : w.ownsRow base e size v n xs)
    (A : Option Addr) (m c : Nat) (news : List Value) (hx : a.eval x = .slice A m c) (hl : news.length = m * size) (hnews : ∀ j u, news[j]? = some u → ∃ ad, A = some ad ∧ w.cell? (ad.add j) = some u) (h1 : ∀ u ∈ news, u.oneCell' = true)
    (h63 : n + m ≤ maxLen) (hbytes : (n + m) * bytes ≤ 140737488355328) (hbase : base ≤ w.heap.size)
    (h : ∀ v' w', w'.ownsRow base e size v' (n + m) (xs ++ news) → w.grownBy w' v.ownBlock → (v'.ownBlock = v.ownBlock ∨ v'.ownBlock = some w.heap.size) → wpList P ops Q rest (a.put o.dst v') w') :
    wpList P ops Q (o :: rest) a w := by
  cases A with
  | some ad =>
    refine wpList_append_own_at w hgd s x t ho base e i z size bytes ht hi hz hsize hby hzs hsz v n xs hs hown ad m c news hx hl (fun j u hj => ?_) h1 h63 hbytes hbase (fun v' w' h2 h3 _ h5 => h v' w' h2 h3 h5)
    obtain ⟨ad', e1, e2⟩ := hnews j u hj
    injection e1 with e1
    rw [e1]
    exact e2
  | none =>
    have hn : news = [] := by
      match news, hnews with
      | [], _ => rfl
      | u :: us, hnews => obtain ⟨_, e1, _⟩ := hnews 0 u rfl; cases e1
    subst hn
    have hm : m = 0 := by
      rcases Nat.eq_zero_or_pos m with h0 | h0
      · exact h0
      · have := Nat.mul_pos h0 hsz
        simp at hl
        omega
    subst hm
    refine wpList_plain hgd fun K hK => ?_
    have hr : (Builtin.append_ #[t, t] o.type #[v, .slice none 0 c]).run P w = .ok v w := by
      rcases hown.2 with ⟨rfl, rfl⟩ | ⟨g, cap, cur, rfl, _, _, hnc, _⟩
      · simp [Builtin.append_, run_underlying ht, sizeOf, typeInfo, hi, Builtin.lenOf, Builtin.firstCells]
      · simp [Builtin.append_, run_underlying ht, sizeOf, typeInfo, hi, Builtin.lenOf, Builtin.firstCells, hnc, storeCells]
    unfold Oper.wp execOp
    simp only [ho, resolve, invoke, builtin, Sem.run_bind, Sem.run_pure, Result.andThen_ok, List.map_toArray, List.map_cons, List.map_nil, hs, hx, hr]
    exact hK _ _ (h v w (by simpa using hown) ⟨rfl, rfl, rfl, Nat.le_refl _, fun _ _ _ => rfl⟩ (.inl rfl))
end
end Go.Proofs.YtgfahifdmacmhaaGreatDoor
