/- Part 3 of what the laws of this seat stand on: Ek, El, Em, En, Eo, Ep, Eq, Er, Et, Eu. -/
import Derived.Test.YtaicbllfkehhjaaZ2
import Derived.Lib.Strings
import Derived.Lib.OwnKind
import Derived.Lib.SmallJoins
import Derived.Laws.EntriesVeiled

/- Slices of clauses of the call's own; the comparison; slices.SortFunc. -/
namespace Go.Proofs.Ytaicbllfkehhjaa
open Go.RowKit Go.Shelf Go.Lib Go.Sort

theorem flat_len {α : Type} {f : α → List Value} {k : Nat} (h : ∀ x, (f x).length = k) : ∀ l : List α, (l.flatMap f).length = l.length * k
  | [] => by simp
  | x :: l => by
    rw [List.flatMap_cons, List.length_append, h, flat_len h l, List.length_cons, Nat.succ_mul]
    omega
theorem flat_at {α : Type} {f : α → List Value} {k : Nat} (h : ∀ x, (f x).length = k) : ∀ {l : List α} {i j : Nat} {x : α}, l[i]? = some x → j < k → (l.flatMap f)[i * k + j]? = (f x)[j]?
  | [], i, j, x, hi, _ => by simp at hi
  | y :: l, 0, j, x, hi, hj => by
    simp at hi
    subst hi
    rw [List.flatMap_cons, Nat.zero_mul, Nat.zero_add, List.getElem?_append_left (by rw [h]; exact hj)]
  | y :: l, i + 1, j, x, hi, hj => by
    rw [List.flatMap_cons, List.getElem?_append_right (by rw [h, Nat.succ_mul]; omega), h]
    have e : (i + 1) * k + j - k = i * k + j := by rw [Nat.succ_mul]; omega
    rw [e]
    exact flat_at h (by simpa using hi) hj
def encC (c : Cl) : List Value := (clA c).toList
theorem encC_len (c : Cl) : (encC c).length = 20 := rfl
theorem encC_one (c : Cl) : ∀ v ∈ encC c, v.oneCell' = true := fun v hv => (Array.all_eq_true_iff_forall_mem.1 (clA_one c)) v (by simpa [encC] using hv)
def cls (l : List Cl) : List Value := l.flatMap encC
theorem cls_len (l : List Cl) : (cls l).length = l.length * 20 := flat_len encC_len l
theorem cls_one (l : List Cl) : ∀ u ∈ cls l, u.oneCell' = true := fun u hu => by
  obtain ⟨c, _, h⟩ := List.mem_flatMap.1 hu
  exact encC_one c u h
/-- A slice of clauses of the call's own. -/
def OwnCls (w : World) (base : Nat) (v : Value) (l : List Cl) : Prop := w.ownsRow base 56 20 v l.length (cls l)

/-! ### the comparison -/
set_option maxRecDepth 100000 in
set_option maxHeartbeats 4000000 in
theorem or_any (w : World) (g : Nat) (x y : Int) (h : Blk w g 3 #[.int .i64 x, .int .i64 y]) : Calls Try.prog 57 #[.slice (some ⟨g, 0, none⟩) 2 2] w fun e w' => e = .returned (.int .i64 (if x ≠ 0 then x else y)) ∧ w = w' := by
  have c0 : w.cell? ⟨g, 0, none⟩ = some (.int .i64 x) := h.cell 0
  have c1 : w.cell? ⟨g, 1, none⟩ = some (.int .i64 y) := h.cell 1
  obtain ⟨R, hR⟩ : ∃ r, (if x ≠ 0 then x else y) = r := ⟨_, rfl⟩
  rw [hR]
  have HR := Lib.hid hR
  clear hR h
  go_enter Try.func57, Try.ntmps57
  go_wp2_with fail
  go_loopw [8] (fun i wr => wr = w ∧ ∃ k : Nat, k ≤ 2 ∧ i = .int .i64 (k : Int) ∧ (1 ≤ k → x = 0) ∧ (2 ≤ k → y = 0)) (fun i _ => 2 - (intOf i).toNat)
  case atStart => exact ⟨rfl, 0, by omega, rfl, fun h => by omega, fun h => by omega⟩
  case round =>
    obtain ⟨rfl, k, hk, rfl, h1, h2⟩ := hrel
    match k, hk, h1, h2 with
    | 0, _, _, _ =>
      by_cases hx : x = 0
      · have e : (x != 0) = false := by simp [hx]
        have HX := Lib.hid hx
        clear hx h1 h2
        go_wp2_with fail
        go_roundw
        case rel => exact ⟨by first | trivial | rfl, 1, by omega, by first | rfl | go_num, fun _ => HX.out, fun h => by omega⟩
        case measure => simp [intOf]
      · have e : (x != 0) = true := by simpa using hx
        obtain rfl : x = R := by have := HR.out; rw [if_pos hx] at this; exact this
        clear hx h1 h2 HR
        go_wp2
        go_ret
        exact ⟨rfl, rfl⟩
    | 1, _, h1, _ =>
      obtain rfl : y = R := by have := HR.out; rw [if_neg (by simp [h1 (by omega)])] at this; exact this
      by_cases hy : y = 0
      · have e : (y != 0) = false := by simp [hy]
        have HY := Lib.hid hy
        have HX := Lib.hid (h1 (by omega))
        clear hy h1 h2 HR
        go_wp2_with fail
        go_roundw
        case rel => exact ⟨by first | trivial | rfl, 2, by omega, by first | rfl | go_num, fun _ => HX.out, fun _ => HY.out⟩
        case measure => simp [intOf]
      · have e : (y != 0) = true := by simpa using hy
        clear hy h1 h2 HR
        go_wp2
        go_ret
        exact ⟨rfl, rfl⟩
    | 2, _, h1, h2 =>
      obtain rfl : R = 0 := by have := HR.out; rw [if_neg (by simp [h1 (by omega)]), h2 (by omega)] at this; exact this.symm
      clear h1 h2 HR
      go_wp2
      go_ret
      exact ⟨rfl, rfl⟩
/-- A clause whose Id is of a moderate size. -/
abbrev BCl := {c : Cl // -4000000 ≤ c.id.1 ∧ c.id.1 ≤ 4000000 ∧ -4000000 ≤ c.id.2 ∧ c.id.2 ≤ 4000000}
noncomputable instance : Inhabited BCl := ⟨⟨zcl, by decide⟩⟩
def encB (x : BCl) : List Value := encC x.1
def cfB (x y : BCl) : Int := if y.1.id.2 - x.1.id.2 ≠ 0 then y.1.id.2 - x.1.id.2 else y.1.id.1 - x.1.id.1
theorem ltB_ (x y : BCl) : ltOf cfB x y = bef x.1 y.1 := by
  rw [Bool.eq_iff_iff, bef_iff]
  unfold ltOf cfB
  simp only [decide_eq_true_eq]
  split <;> omega
theorem swoB : SWO (ltOf cfB) where
  irrefl x := by rw [ltB_]; cases h : bef x.1 x.1 with | false => rfl | true => exact (bef_asymm h h).elim
  trans x y z h1 h2 := by rw [ltB_] at *; exact bef_trans h1 h2
  ntrans x y z h1 h2 := by
    rw [ltB_] at *
    have a : ¬ bef x.1 y.1 = true := by rw [h1]; simp
    have b : ¬ bef y.1 z.1 = true := by rw [h2]; simp
    cases h : bef x.1 z.1 with
    | false => rfl
    | true => rw [bef_iff] at *; omega
set_option maxRecDepth 100000 in
set_option maxHeartbeats 4000000 in
theorem cmp_any (x y : BCl) (W : World) : Calls Try.prog 56 #[.agg (encB x).toArray, .agg (encB y).toArray] W fun e w' => e = .returned (.int .i64 (cfB x y)) ∧ ∃ q os', w' = grow (W.drewN q) os' := by
  obtain ⟨a, ha1, ha2, ha3, ha4⟩ := x
  obtain ⟨b, hb1, hb2, hb3, hb4⟩ := y
  show Calls Try.prog 56 #[.agg (clA a), .agg (clA b)] W fun e w' => e = .returned (.int .i64 (if b.id.2 - a.id.2 ≠ 0 then b.id.2 - a.id.2 else b.id.1 - a.id.1)) ∧ ∃ q os', w' = grow (W.drewN q) os'
  have kA : Blk ((W.alloc (.cells (clA a) 56)).alloc (.cells (clA b) 56)) W.heap.size 56 (clA a) := (Blk.new W _ _).alloc _
  have kB := Blk.new1 W (.cells (clA a) 56) 56 (clA b)
  obtain ⟨a0, a1, -, -, -⟩ := cl_cells kA
  obtain ⟨b0, b1, -, -, -⟩ := cl_cells kB
  have pq := or_any _ _ (b.id.2 - a.id.2) (b.id.1 - a.id.1) (Blk.new ((W.alloc (.cells (clA a) 56)).alloc (.cells (clA b) 56)) 3 #[.int .i64 (b.id.2 - a.id.2), .int .i64 (b.id.1 - a.id.1)])
  rw [show ((W.alloc (.cells (clA a) 56)).alloc (.cells (clA b) 56)).heap.size = W.heap.size + 1 + 1 by simp] at pq
  obtain ⟨R, hR⟩ : ∃ r, (if b.id.2 - a.id.2 ≠ 0 then b.id.2 - a.id.2 else b.id.1 - a.id.1) = r := ⟨_, rfl⟩
  rw [hR] at pq ⊢
  have P := Lib.hid pq
  clear pq hR
  have HW := Lib.hid (show ∃ q os', ((W.alloc (.cells (clA a) 56)).alloc (.cells (clA b) 56)).alloc (.cells #[.int .i64 (b.id.2 - a.id.2), .int .i64 (b.id.1 - a.id.1)] 3) = grow (W.drewN q) os' from ⟨0, _, by rw [alloc_eq_grow, alloc_eq_grow, alloc_eq_grow, grow_grow, grow_grow]; rfl⟩)
  have i1 : IntKind.i64.wrap (b.id.2 - a.id.2) = b.id.2 - a.id.2 := IntWalk.i64_in _ (by omega)
  have i2 : IntKind.i64.wrap (b.id.1 - a.id.1) = b.id.1 - a.id.1 := IntWalk.i64_in _ (by omega)
  clear kA kB
  generalize clA a = CA at *
  generalize clA b = CB at *
  go_enter Try.func56, Try.ntmps56
  go_wp2_with fail
  refine P.out.mono ?_
  rintro e w1 ⟨rfl, rfl⟩
  go_wp2
  go_ret
  exact ⟨rfl, HW.out⟩
theorem cmpLays (blk off size : Nat) (w : World) : CmpLays Try.prog 56 #[] encB 20 cfB blk off size w := fun _ _ _ _ x y => cmp_any x y _

/-! ### the sort -/
theorem flatK_list (T : Array BCl) : (flatK encB 20 T).toList = cls (T.toList.map Subtype.val) := by
  apply List.ext_getElem?
  intro t
  by_cases ht : t < T.size * 20
  · have h1 : (flatK encB 20 T)[t]! = (encB T[t / 20]!)[t % 20]! := get_flatK encB 20 T t ht
    have hsz : t < (flatK encB 20 T).size := by simpa using ht
    have hq : t / 20 < T.size := by omega
    have h2 : (T.toList.map Subtype.val)[t / 20]? = some T[t / 20]!.1 := by
      rw [List.getElem?_map, Array.getElem?_toList, Array.getElem?_eq_getElem hq, getElem!_pos T (t / 20) hq]; rfl
    have h3 := flat_at encC_len h2 (show t % 20 < 20 by omega)
    rw [show t / 20 * 20 + t % 20 = t by omega] at h3
    rw [Array.getElem?_toList, Array.getElem?_eq_getElem hsz, ← getElem!_pos (flatK encB 20 T) t hsz, h1]
    unfold cls
    rw [h3]
    have hlt : t % 20 < (encC T[t / 20]!.1).length := by rw [encC_len]; omega
    show some ((encC T[t / 20]!.1)[t % 20]!) = _
    rw [List.getElem?_eq_getElem hlt, getElem!_pos (encC T[t / 20]!.1) (t % 20) hlt]
  · rw [List.getElem?_eq_none (by simp; omega), List.getElem?_eq_none (by rw [cls_len]; simp; omega)]
theorem take_putCells (F cur : Array Value) (h : F.size ≤ cur.size) : (putCells id 0 F cur).toList.take F.size = F.toList := by
  apply List.ext_getElem?
  intro t
  rw [List.getElem?_take]
  by_cases ht : t < F.size
  · rw [if_pos ht, Array.getElem?_toList, Array.getElem?_toList]
    unfold putCells
    have hc : t < cur.size := by omega
    rw [Array.getElem?_mapIdx, Array.getElem?_eq_getElem hc, Array.getElem?_eq_getElem ht]
    simp [ht]
  · rw [if_neg ht, List.getElem?_eq_none (by simp; omega)]
theorem sort_any (w : World) (base : Nat) (v : Value) (S : List Cl) (hS : ∀ c ∈ S, -4000000 ≤ c.id.1 ∧ c.id.1 ≤ 4000000 ∧ -4000000 ≤ c.id.2 ∧ c.id.2 ≤ 4000000) (hu : Uq S) (hl : S.length ≤ 1000000) (hown : OwnCls w base v S) :
    Calls Try.prog 55 #[v, .func (.func 56) #[] #[]] w fun e w' => e = .returned (.tuple #[]) ∧ OwnCls w' base v (sortC S) ∧ Only (fun i => v.ownBlock = some i) w w' := by
  unfold OwnCls at hown
  rcases hown.2 with ⟨rfl, h0⟩ | ⟨g, cap, cur, rfl, hbase, hb, hn, hcap, hcs, htake⟩
  · have : S = [] := List.eq_nil_of_length_eq_zero h0
    subst this
    exact (AnyF.slices_SortFunc_none sortL none 0 _ w).mono fun e w' ⟨he, hw⟩ => ⟨he, World.ownsRow_nil _ _ _ _, hw ▸ Only.refl _ _⟩
  · have hg := (Array.getElem?_eq_some_iff.1 hb).1
    obtain ⟨T, hT⟩ : ∃ T : List BCl, T.map Subtype.val = S := ⟨S.pmap (fun s h => ⟨s, h⟩) hS, by rw [List.map_pmap]; simp⟩
    have hTl : T.length = S.length := by rw [← hT, List.length_map]
    have eg : ∀ args w, (callFunc 56 args).run Try.prog w = .ok (.enter 56 args) w := enters_of Try.func56 (by kernel_rfl) rfl
    have hfl := flatK_list T.toArray
    rw [List.toList_toArray, hT] at hfl
    have hsz : T.toArray.size = S.length := by simp [hTl]
    have hfs : (flatK encB 20 T.toArray).size = S.length * 20 := by rw [size_flatK, hsz]
    have hH : HoldsK encB 20 w g 0 T.toArray := fun j hj => by
      rw [hfs] at hj
      refine ⟨?_, hown.frozenAt (0 + j)⟩
      rw [Nat.zero_add, hown.cellAt j (by omega), ← hfl]
      show _ = some (id (flatK encB 20 T.toArray)[j]!)
      have hj2 : j < (flatK encB 20 T.toArray).size := by rw [hfs]; exact hj
      rw [Array.getElem?_toList, Array.getElem?_eq_getElem hj2, getElem!_pos _ j hj2]
      rfl
    have hcon := AnyQ.slices_SortFunc sortL 20 Try.isAgg56 Try.sizeOf56 encB (fun _ => rfl) (fun x v hv => encC_one x.1 v hv) cfB swoB 56 #[] g 0 cap T.toArray w eg (cmpLays g 0 _ w) hH hg (by omega)
    rw [hsz] at hcon
    refine Calls.mono hcon ?_
    rintro e w' ⟨rfl, d', n, os, hp, hs, rfl⟩
    obtain ⟨hp1, -, hp3⟩ := hp
    rw [hsz] at hp1
    have hperm : d'.toList.Perm T := by
      have e1 : d'.extract 0 S.length = d' := by rw [← hp1]; simp
      have e2 : T.toArray.extract 0 S.length = T.toArray := by rw [← hsz]; simp
      rw [e1, e2] at hp3
      simpa using hp3
    have hpS : (d'.toList.map Subtype.val).Perm S := by rw [← hT]; exact hperm.map _
    have hsrt : (d'.toList.map Subtype.val).Pairwise (fun a b => bef a b = true) := by
      have hud := hu.perm hpS.symm
      unfold Uq at hud
      rw [List.pairwise_map, List.pairwise_iff_getElem] at hud ⊢
      intro i j hi hj hij
      have hi' : i < d'.size := by simpa using hi
      have hj' : j < d'.size := by simpa using hj
      have h1 := hs i j (Nat.zero_le _) hij (by omega)
      have h2 := hud i j hi hj hij
      rw [ltB_, getElem!_pos d' i hi', getElem!_pos d' j hj'] at h1
      simp only [Array.getElem_toList] at h2 ⊢
      exact (bef_total h2).resolve_right (by rw [h1]; simp)
    have hsc : d'.toList.map Subtype.val = sortC S := sort_one hsrt (sortC_sorted hu) (hpS.trans (sortC_perm S).symm)
    have hfd := flatK_list d'
    rw [hsc] at hfd
    have hlen : (sortC S).length = S.length := (sortC_perm S).length_eq
    have hfds : (flatK encB 20 d').size = S.length * 20 := by rw [size_flatK, hp1]
    have hheap : (sortWorldK encB 20 w g 0 n d' os).heap[g]? = some (.cells (putCells id 0 (flatK encB 20 d') cur) 56 (0, 0)) := by
      show ((w.heap.modify g _) ++ os)[g]? = _
      rw [Array.getElem?_append_left (by simpa using hg), Array.getElem?_modify, if_pos rfl, hb]
      rfl
    refine ⟨rfl, ?_, rfl, rfl, rfl, size_sortWorldK_c encB 20 w g 0 n d' os, fun i hi hn => ?_⟩
    · unfold OwnCls
      rw [hlen]
      refine ⟨by rw [cls_len, hlen], .inr ⟨g, cap, _, rfl, hbase, hheap, hn, hcap, ?_, ?_⟩⟩
      · unfold putCells
        rw [Array.size_mapIdx]
        exact hcs
      · rw [← hfds, take_putCells _ _ (by rw [hfds, hcs]; exact Nat.mul_le_mul_right 20 hn), hfd]
    · have hne : i ≠ g := fun h => hn (by rw [h]; rfl)
      show ((w.heap.modify g _) ++ os)[i]? = _
      rw [Array.getElem?_append_left (by simpa using hi), Array.getElem?_modify, if_neg (fun h => hne h.symm)]
end Go.Proofs.Ytaicbllfkehhjaa

/- A map of slices of clauses, by their After. -/
namespace Go.Proofs.Ytaicbllfkehhjaa
open Go.RowKit

theorem Try.infoCl : (Try.prog.info? 56).map (fun i => (i.zero, i.size, i.bytes)) = some (some (.agg (clA zcl)), 20, 248) := by kernel_rfl
abbrev Grp := St2 × Value × List Cl
def grKv (g : Grp) : Value × Value := (.agg (stA g.1), g.2.1)
/-- Two slices that do not lie in one row. -/
def Apart (a b : Value) : Prop := a.ownBlock = none ∨ a.ownBlock ≠ b.ownBlock
structure GrAt (w : World) (base m : Nat) (G : List Grp) : Prop where
  map : MapV w m (G.map grKv)
  own : ∀ g ∈ G, OwnCls w base g.2.1 g.2.2
  apart : G.Pairwise fun a b => a.1 ≠ b.1 ∧ Apart a.2.1 b.2.1
theorem GrAt.keys {w : World} {base m : Nat} {G : List Grp} (_h : GrAt w base m G) : ∀ p ∈ G.map grKv, StV p.1 := fun p hp => by
  obtain ⟨g, _, rfl⟩ := List.mem_map.1 hp
  exact ⟨g.1, rfl⟩
theorem OwnCls.grown {w w' : World} {base : Nat} {v : Value} {l : List Cl} {row : Option Nat} (h : OwnCls w base v l) (hg : w.grownBy w' row) (hne : v.ownBlock = none ∨ v.ownBlock ≠ row) : OwnCls w' base v l := World.ownsRow.kept h hg hne
theorem GrAt.grown {w w' : World} {base m : Nat} {G : List Grp} {row : Option Nat} (h : GrAt w base m G) (hg : w.grownBy w' row) (hm : some m ≠ row) (hr : ∀ g ∈ G, g.2.1.ownBlock = none ∨ g.2.1.ownBlock ≠ row) : GrAt w' base m G :=
  ⟨h.map.grown hg hm, fun g hgG => (h.own g hgG).grown hg (hr g hgG), h.apart⟩
theorem GrAt.alloc {w : World} {base m : Nat} {G : List Grp} (h : GrAt w base m G) (o : Obj) : GrAt (w.alloc o) base m G :=
  h.grown (World.grownBy_alloc w o none) (by simp) fun g _ => by cases hh : g.2.1.ownBlock with | none => exact .inl rfl | some x => exact .inr (by simp)
theorem OwnCls.lt {w : World} {base : Nat} {v : Value} {l : List Cl} (h : OwnCls w base v l) : ∀ k, v.ownBlock = some k → base ≤ k ∧ k < w.heap.size := fun k hk => World.ownsRow.lt h k hk
theorem Apart.symm {a b : Value} (h : Apart a b) : Apart b a := by
  unfold Apart at *
  cases hb : b.ownBlock with
  | none => exact .inl rfl
  | some x =>
    right
    rcases h with h | h
    · rw [h]; simp
    · rw [hb] at h; exact fun e => h e.symm
/-- What the groups hold, X being dealt out. -/
structure GrRel (X : List Cl) (G : List Grp) : Prop where
  list : ∀ g ∈ G, g.2.2 = X.filter fun c => decide (c.after = g.1)
  none : ∀ t, (∀ g ∈ G, g.1 ≠ t) → (X.filter fun c => decide (c.after = t)) = []
theorem GrRel.nil : GrRel [] [] := ⟨by simp, fun _ _ => rfl⟩
theorem filter_snoc (X : List Cl) (c : Cl) (t : St2) : ((X ++ [c]).filter fun c => decide (c.after = t)) = if c.after = t then (X.filter fun c => decide (c.after = t)) ++ [c] else X.filter fun c => decide (c.after = t) := by
  rw [List.filter_append]
  by_cases h : c.after = t <;> simp [h]
theorem GrRel.more {X : List Cl} {G1 G2 : List Grp} {c : Cl} {v v' : Value} {l : List Cl} (h : GrRel X (G1 ++ (c.after, v, l) :: G2)) (hd : ∀ g ∈ G1 ++ G2, g.1 ≠ c.after) : GrRel (X ++ [c]) (G1 ++ (c.after, v', l ++ [c]) :: G2) := by
  refine ⟨fun g hg => ?_, fun t ht => ?_⟩
  · rcases List.mem_append.1 hg with hg | hg
    · rw [filter_snoc, if_neg (fun e => hd g (List.mem_append_left _ hg) e.symm)]
      exact h.list g (List.mem_append_left _ hg)
    · rcases List.mem_cons.1 hg with rfl | hg
      · rw [filter_snoc, if_pos rfl, ← h.list (c.after, v, l) (by simp)]
      · rw [filter_snoc, if_neg (fun e => hd g (List.mem_append_right _ hg) e.symm)]
        exact h.list g (List.mem_append_right _ (List.mem_cons_of_mem _ hg))
  · have h1 : c.after ≠ t := ht (c.after, v', l ++ [c]) (by simp)
    rw [filter_snoc, if_neg h1]
    refine h.none t fun g hg => ?_
    rcases List.mem_append.1 hg with hg | hg
    · exact ht g (List.mem_append_left _ hg)
    · rcases List.mem_cons.1 hg with rfl | hg
      · exact h1
      · exact ht g (List.mem_append_right _ (List.mem_cons_of_mem _ hg))
theorem GrRel.new {X : List Cl} {G : List Grp} {c : Cl} {v' : Value} (h : GrRel X G) (hn : ∀ g ∈ G, g.1 ≠ c.after) : GrRel (X ++ [c]) (G ++ [(c.after, v', [c])]) := by
  refine ⟨fun g hg => ?_, fun t ht => ?_⟩
  · rcases List.mem_append.1 hg with hg | hg
    · rw [filter_snoc, if_neg (fun e => hn g hg e.symm)]
      exact h.list g hg
    · simp at hg
      subst hg
      rw [filter_snoc, if_pos rfl, h.none c.after hn]
      rfl
  · have h1 : c.after ≠ t := ht (c.after, v', [c]) (by simp)
    rw [filter_snoc, if_neg h1]
    exact h.none t fun g hg => ht g (List.mem_append_left _ hg)
theorem gr_upd {G1 G2 : List Grp} {t : St2} {v v' : Value} {l l' : List Cl} (hd : ∀ g ∈ G1 ++ G2, g.1 ≠ t) :
    ((G1 ++ (t, v, l) :: G2).map grKv).map (upV (.agg (stA t)) v') = (G1 ++ (t, v', l') :: G2).map grKv := by
  have hk : ∀ K : List Grp, (∀ g ∈ K, g.1 ≠ t) → (K.map grKv).map (upV (.agg (stA t)) v') = K.map grKv := fun K hK => by
    rw [List.map_map]
    refine List.map_congr_left fun g hg => ?_
    exact upV_neg (p := grKv g) fun e => hK g hg (stA_inj e)
  rw [List.map_append, List.map_cons, List.map_append, List.map_cons, hk G1 fun g hg => hd g (List.mem_append_left _ hg), hk G2 fun g hg => hd g (List.mem_append_right _ hg), List.map_append, List.map_cons, (upV_pos (x := .agg (stA t)) (v := v') (p := grKv (t, v, l)) rfl : upV _ _ _ = _)]
  rfl
/-- Behind an append to a group's slice, or to a new one. -/
theorem GrAt.set {w w2 w3 : World} {base m : Nat} {G1 G2 : List Grp} {t : St2} {v v' : Value} {l l' : List Cl} (h : GrAt w base m (G1 ++ (t, v, l) :: G2)) (hg : w.grownBy w2 v.ownBlock) (_hm : ∀ g, v.ownBlock = some g → g ≠ m) (ho : OwnCls w2 base v' l')
    (hlie : v'.ownBlock = v.ownBlock ∨ v'.ownBlock = some w.heap.size ∨ ∃ k, v'.ownBlock = some k ∧ w.heap.size ≤ k) (hM : MapV w3 m ((G1 ++ (t, v', l') :: G2).map grKv)) (hg3 : w2.grownBy w3 (some m)) (hv' : ∀ k, v'.ownBlock = some k → k ≠ m) (hrow : ∀ g ∈ G1 ++ G2, ∀ k, g.2.1.ownBlock = some k → k ≠ m) : GrAt w3 base m (G1 ++ (t, v', l') :: G2) := by
  have hold : ∀ g ∈ G1 ++ G2, g ∈ G1 ++ (t, v, l) :: G2 := fun g hgm => by
    rcases List.mem_append.1 hgm with h1 | h1
    · exact List.mem_append_left _ h1
    · exact List.mem_append_right _ (List.mem_cons_of_mem _ h1)
  have hap := h.apart
  rw [List.pairwise_append] at hap
  obtain ⟨p1, p2, p3⟩ := hap
  obtain ⟨p4, p5⟩ := List.pairwise_cons.1 p2
  have hapv : ∀ g ∈ G1 ++ G2, Apart g.2.1 v := fun g hgm => by
    rcases List.mem_append.1 hgm with h1 | h1
    · exact (p3 g h1 _ List.mem_cons_self).2
    · exact (p4 g h1).2.symm
  have hapv' : ∀ g ∈ G1 ++ G2, Apart g.2.1 v' := fun g hgm => by
    unfold Apart
    rcases hlie with h1 | h1 | ⟨k, h1, h2⟩
    · rw [h1]; exact hapv g hgm
    · right
      rw [h1]
      intro e
      have := ((h.own g (hold g hgm)).lt _ e).2
      omega
    · right
      rw [h1]
      intro e
      have := ((h.own g (hold g hgm)).lt _ e).2
      omega
  refine ⟨hM, fun g hgm => ?_, ?_⟩
  · have hk : ∀ g ∈ G1 ++ G2, OwnCls w3 base g.2.1 g.2.2 := fun g hgm => by
      have o1 := (h.own g (hold g hgm)).grown hg (hapv g hgm)
      refine o1.grown hg3 ?_
      cases hh : g.2.1.ownBlock with
      | none => exact .inl rfl
      | some x => right; intro e; injection e with e; exact hrow g hgm x hh e
    rcases List.mem_append.1 hgm with h1 | h1
    · exact hk g (List.mem_append_left _ h1)
    · rcases List.mem_cons.1 h1 with rfl | h1
      · refine ho.grown hg3 ?_
        cases hh : v'.ownBlock with
        | none => exact .inl rfl
        | some x => right; intro e; injection e with e; exact hv' x hh e
      · exact hk g (List.mem_append_right _ h1)
  · rw [List.pairwise_append]
    refine ⟨p1, List.pairwise_cons.2 ⟨fun g hgm => ⟨(p4 g hgm).1, (hapv' g (List.mem_append_right _ hgm)).symm⟩, p5⟩, fun a ha b hb => ?_⟩
    rcases List.mem_cons.1 hb with rfl | hb
    · exact ⟨(p3 a ha _ List.mem_cons_self).1, hapv' a (List.mem_append_left _ ha)⟩
    · exact p3 a ha b (List.mem_cons_of_mem _ hb)
theorem GrAt.find {w : World} {base m : Nat} {G : List Grp} (h : GrAt w base m G) (t : St2) : (∀ g ∈ G, g.1 ≠ t) ∨ ∃ G1 G2 v l, G = G1 ++ (t, v, l) :: G2 ∧ ∀ g ∈ G1 ++ G2, g.1 ≠ t := by
  by_cases hn : ∀ g ∈ G, g.1 ≠ t
  · exact .inl hn
  · right
    simp only [Classical.not_forall, Decidable.not_not, exists_prop] at hn
    obtain ⟨⟨t', v, l⟩, hg, rfl⟩ := hn
    obtain ⟨G1, G2, rfl⟩ := List.append_of_mem hg
    refine ⟨G1, G2, v, l, rfl, fun g hgm => ?_⟩
    have hap := h.apart
    rw [List.pairwise_append] at hap
    obtain ⟨_, p2, p3⟩ := hap
    rcases List.mem_append.1 hgm with h1 | h1
    · exact (p3 g h1 _ List.mem_cons_self).1
    · exact fun e => ((List.pairwise_cons.1 p2).1 g h1).1 e.symm
end Go.Proofs.Ytaicbllfkehhjaa

/- The state in which List's walk goes over the groups. -/
namespace Go.Proofs.Ytaicbllfkehhjaa
open Go.RowKit

/-- A clause loaded whole out of a row. -/
theorem row_load {W : World} {base g n cap k : Nat} {l : List Cl} (h : W.ownsRow base 56 20 (.slice (some ⟨g, 0, none⟩) n cap) n (cls l)) (hn : l.length = n) {c : Cl} (hk : l[k]? = some c) :
    (loadVar 56 ⟨g, k * 20, none⟩).run Try.prog W = .ok (.agg (clA c)) W := by
  have hkl : k < l.length := (List.getElem?_eq_some_iff.1 hk).1
  have hl : (loadCells ⟨g, k * 20, none⟩ (clA c).toList.length).run Try.prog W = .ok (clA c).toList.toArray W :=
    run_loadCells_list (P := Try.prog) W ⟨g, k * 20, none⟩ (clA c).toList (fun j v hv => by
      have hj : j < 20 := by
        have := (List.getElem?_eq_some_iff.1 hv).1
        rwa [Array.length_toList, clA_size] at this
      have hadd : (⟨g, k * 20, none⟩ : Addr).add j = ⟨g, k * 20 + j, none⟩ := by unfold Addr.add; split <;> simp_all
      rw [hadd, h.cellAt (k * 20 + j) (by omega)]
      exact (flat_at encC_len hk hj).trans hv)
  rw [Array.length_toList, Array.toArray_toList, clA_size] at hl
  have hagg : (isAgg 56).run Try.prog W = .ok true W := by
    unfold isAgg
    rw [Sem.run_bind, run_underlying Try.underlying56 W]
    rfl
  have hsz := Try.sizeOf56 W
  unfold loadVar
  rw [Sem.run_bind, hagg]
  simp only [Result.andThen_ok, if_true]
  rw [Sem.run_bind, hsz]
  simp only [Result.andThen_ok]
  rw [Sem.run_bind, hl]
  rfl
theorem load_row {ops : Array Oper} {rest : List Oper} {o : Oper} {a : Act} {W : World} {Q : Exit → Act → World → Prop} (hgd : o.guard = none) {x : Operand} (ho : o.op = .load 56 x) {base g n cap k : Nat} {l : List Cl} (hx : a.eval x = .pointer (some ⟨g, k * 20, none⟩))
    (hr : W.ownsRow base 56 20 (.slice (some ⟨g, 0, none⟩) n cap) n (cls l)) (hn : l.length = n) {c : Cl} (hk : l[k]? = some c)
    (h : wpList Try.prog ops Q rest (a.put o.dst (.agg (clA c))) W) : wpList Try.prog ops Q (o :: rest) a W := by
  refine wpList_plain hgd fun _ hK => ?_
  unfold Oper.wp execOp
  simp only [ho, hx, Instr.loadAt, Instr.sureAddr, Sem.run_bind, Sem.run_pure, Result.andThen_ok, row_load hr hn hk]
  exact hK _ _ h

def kvG (p : St2 × Value) : Value × Value := (.agg (stA p.1), p.2)
def grp (L : List Cl) (t : St2) : List Cl := L.filter fun c => decide (c.after = t)
structure Wk (w : World) (base bc bo bw m : Nat) (KV : List (St2 × Value)) (L : List Cl) (lst : St2 → List Cl) (v : Value) (O : List Cl) : Prop where
  cc : Blk w bc 105 #[.map (some m)]
  co : Blk w bo 41 #[v]
  cw : Blk w bw 106 #[.func (.func 54) #[] #[.pointer (some ⟨bc, 0, none⟩), .pointer (some ⟨bo, 0, none⟩), .pointer (some ⟨bw, 0, none⟩)]]
  map : MapV w m (KV.map kvG)
  own : ∀ p ∈ KV, OwnCls w base p.2 (lst p.1)
  perm : ∀ t, (lst t).Perm (grp L t)
  keys : KV.Pairwise fun a b => a.1 ≠ b.1 ∧ Apart a.2 b.2
  none : ∀ t, (∀ p ∈ KV, p.1 ≠ t) → grp L t = []
  out : OwnCls w base v O
  apO : ∀ p ∈ KV, Apart p.2 v
  bs : base ≤ bc ∧ base ≤ bo ∧ base ≤ bw ∧ base ≤ m
section
variable {w w' : World} {base bc bo bw m : Nat} {KV : List (St2 × Value)} {L : List Cl} {lst : St2 → List Cl} {v : Value} {O : List Cl}
theorem OwnCls.ne_blk {u : Value} {l : List Cl} (h : OwnCls w base u l) {g : Nat} {t : TypeId} {cs : Array Value} (hb : Blk w g t cs) (ht : t ≠ 56) : u.ownBlock ≠ some g := fun e => by
  obtain ⟨c, fz, hc⟩ := Lib.ownsRow_kind h g e
  unfold Blk at hb
  rw [hb] at hc
  injection hc with hc
  injection hc with _ hc
  exact ht hc
theorem OwnCls.ne_map {u : Value} {l : List Cl} (h : OwnCls w base u l) {g : Nat} {K : List (Value × Value)} (hb : MapV w g K) : u.ownBlock ≠ some g := fun e => by
  obtain ⟨c, fz, hc⟩ := Lib.ownsRow_kind h g e
  obtain ⟨es, clock, h1, _⟩ := hb
  rw [h1] at hc
  injection hc with hc
  cases hc
theorem Blk.ne_map {g b : Nat} {t : TypeId} {cs : Array Value} {K : List (Value × Value)} (h : Blk w g t cs) (hb : MapV w b K) : g ≠ b := fun e => by
  subst e
  obtain ⟨es, clock, h1, _⟩ := hb
  unfold Blk at h
  rw [h1] at h
  injection h with h
  cases h
/-- What a change outside leaves. -/
theorem Wk.only {F : Foot} (h : Wk w base bc bo bw m KV L lst v O) (k : Only F w w') (h1 : ¬ F bc) (h2 : ¬ F bo) (h3 : ¬ F bw) (h4 : ¬ F m) (h5 : ∀ p ∈ KV, ∀ g, p.2.ownBlock = some g → ¬ F g) (h6 : ∀ g, v.ownBlock = some g → ¬ F g) : Wk w' base bc bo bw m KV L lst v O :=
  ⟨k.blk h.cc h1, k.blk h.co h2, k.blk h.cw h3, h.map.only k h4, fun p hp => k.owns (h.own p hp) (h5 p hp), h.perm, h.keys, h.none, k.owns h.out h6, h.apO, h.bs⟩
theorem Wk.same (h : Wk w base bc bo bw m KV L lst v O) (hb : Below w.heap.size w w') : Wk w' base bc bo bw m KV L lst v O :=
  h.only (Only.of_below hb fun _ => False) (fun h => h) (fun h => h) (fun h => h) (fun h => h) (fun _ _ _ _ h => h) fun _ _ h => h
/-- The slice of a group; nil where there is none. -/
def Sl (KV : List (St2 × Value)) (t : St2) (u : Value) : Prop := (t, u) ∈ KV ∨ (u = .slice none 0 0 ∧ ∀ p ∈ KV, p.1 ≠ t)
theorem sl_ex (KV : List (St2 × Value)) (t : St2) : ∃ u, Sl KV t u := by
  by_cases h : ∀ p ∈ KV, p.1 ≠ t
  · exact ⟨_, .inr ⟨rfl, h⟩⟩
  · simp only [Classical.not_forall, Decidable.not_not, exists_prop] at h
    obtain ⟨⟨t', u⟩, hp, rfl⟩ := h
    exact ⟨u, .inl hp⟩
theorem Wk.at (h : Wk w base bc bo bw m KV L lst v O) {t : St2} {u : Value} (hs : Sl KV t u) : OwnCls w base u (lst t) := by
  rcases hs with hs | ⟨rfl, hs⟩
  · exact h.own _ hs
  · have : lst t = [] := by
      have := h.perm t
      rw [h.none t hs] at this
      exact this.eq_nil
    rw [this]
    exact World.ownsRow_nil _ _ _ _
theorem Wk.look (h : Wk w base bc bo bw m KV L lst v O) {t : St2} {u : Value} (hs : Sl KV t u) :
    (Instr.lookup 105 (.map (some m)) (.agg #[.int .i64 t.1, .int .i64 t.2]) false).run Try.prog w = .ok u w := by
  have hk : ∀ p ∈ KV.map kvG, StV p.1 := fun p hp => by
    obtain ⟨q, _, rfl⟩ := List.mem_map.1 hp
    exact ⟨q.1, rfl⟩
  rcases hs with hs | ⟨rfl, hs⟩
  · exact h.map.look_some (P := Try.prog) kysS Try.underlying105 hk (List.mem_map_of_mem (f := kvG) hs) false
  · exact h.map.look_none (P := Try.prog) kysS Try.underlying105 hk ⟨t, rfl⟩ (fun p hp => by
      obtain ⟨q, hq, rfl⟩ := List.mem_map.1 hp
      exact fun e => hs q hq (stA_inj e)) (by kernel_rfl) false
theorem Apart.out {a b : Value} (h : Apart a b) {g : Nat} (hg : a.ownBlock = some g) : b.ownBlock ≠ some g := by
  rcases h with h | h
  · rw [h] at hg; cases hg
  · rw [hg] at h; exact fun e => h e.symm
/-- A group sorted in place. -/
theorem Wk.sort (h : Wk w base bc bo bw m KV L lst v O) {t : St2} {u : Value} (hs : Sl KV t u) (ho : OwnCls w' base u (sortC (lst t))) (k : Only (fun i => u.ownBlock = some i) w w') : Wk w' base bc bo bw m KV L (fun s => if s = t then sortC (lst s) else lst s) v O := by
  have hu := h.at hs
  refine ⟨k.blk h.cc (hu.ne_blk h.cc (by decide)), k.blk h.co (hu.ne_blk h.co (by decide)), k.blk h.cw (hu.ne_blk h.cw (by decide)), h.map.only k (hu.ne_map h.map), fun p hp => ?_, fun s => ?_, h.keys, h.none, k.owns h.out fun g hg e => ?_, h.apO, h.bs⟩
  · by_cases e : p.1 = t
    · simp only [if_pos e]
      rcases hs with hs | ⟨_, hs⟩
      · have : p.2 = u := by
          rcases hq : h.keys with _
          exact Classical.byContradiction fun hne => by
            have := List.Pairwise.forall_of_forall_of_flip (l := KV) (R := fun a b => a.1 = b.1 → a.2 = b.2) (fun _ _ _ => rfl) (h.keys.imp fun hab he => absurd he hab.1) (h.keys.imp fun hab he => absurd he.symm hab.1)
            exact hne (this hp hs e)
        rw [this, e]
        exact ho
      · exact absurd e (hs p hp)
    · simp only [if_neg e]
      refine k.owns (h.own p hp) fun g hg eg => ?_
      rcases hs with hs | ⟨rfl, _⟩
      · have := List.Pairwise.forall_of_forall_of_flip (l := KV) (R := fun a b => a.1 ≠ b.1 → Apart a.2 b.2) (fun _ _ h => absurd rfl h) (h.keys.imp fun hab _ => hab.2) (h.keys.imp fun hab _ => hab.2.symm)
        exact (this hp hs e).out hg eg
      · cases eg
  · show (if s = t then sortC (lst s) else lst s).Perm _
    split
    · exact (sortC_perm _).trans (h.perm s)
    · exact h.perm s
  · rcases hs with hs | ⟨rfl, _⟩
    · exact (h.apO _ hs).out e hg
    · cases e
/-- One more in 'out'. -/
theorem Wk.push (h : Wk w base bc bo bw m KV L lst v O) {v' : Value} {O' : List Cl} (k : Only (fun i => v.ownBlock = some i ∨ i = bo) w w') (ho : OwnCls w' base v' O') (hlie : v'.ownBlock = v.ownBlock ∨ ∃ g, v'.ownBlock = some g ∧ w.heap.size ≤ g) (hco : Blk w' bo 41 #[v']) : Wk w' base bc bo bw m KV L lst v' O' := by
  have hr : ∀ p ∈ KV, ∀ g, p.2.ownBlock = some g → ¬ (v.ownBlock = some g ∨ g = bo) := fun p hp g hg e => by
    rcases e with e | rfl
    · exact (h.apO p hp).out hg e
    · exact (h.own p hp).ne_blk h.co (by decide) hg
  refine ⟨k.blk h.cc fun e => ?_, hco, k.blk h.cw fun e => ?_, h.map.only k fun e => ?_, fun p hp => k.owns (h.own p hp) (hr p hp), h.perm, h.keys, h.none, ho, fun p hp => ?_, h.bs⟩
  · rcases e with e | e
    · exact h.out.ne_blk h.cc (by decide) e
    · exact h.cc.ne_ h.co (by decide) e
  · rcases e with e | e
    · exact h.out.ne_blk h.cw (by decide) e
    · exact h.cw.ne_ h.co (by decide) e
  · rcases e with e | e
    · exact h.out.ne_map h.map e
    · exact h.co.ne_map h.map e.symm
  · unfold Apart
    cases hp2 : p.2.ownBlock with
    | none => exact .inl rfl
    | some g =>
      right
      rcases hlie with e | ⟨g', e, hg'⟩
      · rw [e]
        exact fun e' => hr p hp g hp2 (.inl e'.symm)
      · rw [e]
        intro e'
        injection e' with e'
        have := (OwnCls.lt (h.own p hp) g hp2).2
        omega
end
end Go.Proofs.Ytaicbllfkehhjaa

/- List$1: the walk over the groups. -/
namespace Go.Proofs.Ytaicbllfkehhjaa
open Go.RowKit

theorem grp_uq {L : List Cl} (h : Uq L) (t : St2) : Uq (grp L t) := List.Pairwise.filter _ h
theorem sort_grp {L l : List Cl} (h : Uq L) {t : St2} (p : l.Perm (grp L t)) : sortC l = kids L t :=
  sort_one (sortC_sorted ((grp_uq h t).perm p.symm)) (kids_sorted h t) ((sortC_perm l).trans (p.trans (sortC_perm _).symm))
theorem fold_cl (c : Cl) : Array.foldl (fun (cs : Array Value) (x : Value × Nat) => cs.setIfInBounds x.2 x.1) #[.int .i64 0, .int .i64 0, .int .i64 0, .int .i64 0, .int .i64 0, .string ⟨#[]⟩, .string ⟨#[]⟩, .string ⟨#[]⟩, .string ⟨#[]⟩, .int .i64 0, .string ⟨#[]⟩, .string ⟨#[]⟩, .string ⟨#[]⟩, .string ⟨#[]⟩, .string ⟨#[]⟩, .bool false, .int .i64 0, .string ⟨#[]⟩, .string ⟨#[]⟩, .bool false] (clA c).zipIdx 0 20 = clA c := by kernel_rfl
theorem cls_snoc (l : List Cl) (c : Cl) : cls (l ++ [c]) = cls l ++ encC c := by unfold cls; simp
theorem wk_app {w w' : World} {base bc bo bw m : Nat} {KV : List (St2 × Value)} {L : List Cl} {lst : St2 → List Cl} {v v' : Value} {O O' : List Cl} (h : Wk w base bc bo bw m KV L lst v O) (hg : w.grownBy w' v.ownBlock) (ho : OwnCls w' base v' O') (hlie : v'.ownBlock = v.ownBlock ∨ ∃ g, v'.ownBlock = some g ∧ w.heap.size ≤ g) :
    Blk w' bo 41 #[v] ∧ Wk (w'.setCell ⟨bo, 0, none⟩ v') base bc bo bw m KV L lst v' O' := by
  have co := h.co.grown hg (fun e => h.out.ne_blk h.co (by decide) e.symm)
  refine ⟨co, h.push (((Only.of_grown hg).mono fun i hi => .inl hi).setCell (.inl (.inr rfl)) _) ?_ hlie (co.set_ 0 v')⟩
  exact ((Only.refl (fun i => i = bo) w').setCell (p := ⟨bo, 0, none⟩) (.inl rfl) v').owns ho fun g hg' e => by
    subst e
    exact ho.ne_blk co (by decide) hg'
theorem own_snoc {w : World} {base M : Nat} {v : Value} {OO : List Cl} {c : Cl} (hM : OO.length = M) (o : w.ownsRow base 56 20 v (M + 1) (cls OO ++ encC c)) : OwnCls w base v (OO ++ [c]) := by
  subst hM
  unfold OwnCls
  rw [List.length_append, cls_snoc]
  exact o
/-- What the call of the walk does at t. -/
def WalkAt (base bc bo bw m : Nat) (KV : List (St2 × Value)) (L : List Cl) (n : Nat) : Prop :=
  ∀ (w : World) (t : St2) (lst : St2 → List Cl) (v : Value) (O : List Cl), Wk w base bc bo bw m KV L lst v O → O.length + (walkN n L t).length ≤ 500000000 → (walkN n L t).length ≤ 1000000 → rank L t < n →
    Calls Try.prog 54 #[.agg (stA t), .pointer (some ⟨bc, 0, none⟩), .pointer (some ⟨bo, 0, none⟩), .pointer (some ⟨bw, 0, none⟩)] w fun e w' => e = .returned (.tuple #[]) ∧ Below base w w' ∧
      ∃ v' lst', Wk w' base bc bo bw m KV L lst' v' (O ++ walkN n L t) ∧ ∀ s, lst s = kids L s → lst' s = kids L s
theorem kids_le {L : List Cl} {n : Nat} (t : St2) : (kids L t).length ≤ (walkN (n + 1) L t).length := by
  rw [walkN_succ]
  generalize kids L t = K
  induction K with
  | nil => simp
  | cons c K ih => rw [List.flatMap_cons, List.length_append]; simp only [List.length_cons]; omega
def upto (L : List Cl) (n : Nat) (K : List Cl) : List Cl := K.flatMap fun c => c :: walkN n L c.id
theorem upto_take {L K : List Cl} {n k : Nat} {c : Cl} (h : K[k]? = some c) : upto L n (K.take (k + 1)) = (upto L n (K.take k) ++ [c]) ++ walkN n L c.id := by
  unfold upto
  rw [List.take_add_one, h, List.flatMap_append]
  simp
theorem upto_le {L K : List Cl} {n k : Nat} : (upto L n (K.take k)).length ≤ (upto L n K).length := by
  unfold upto
  have := List.take_append_drop k K
  calc ((K.take k).flatMap fun c => c :: walkN n L c.id).length ≤ ((K.take k ++ K.drop k).flatMap fun c => c :: walkN n L c.id).length := by rw [List.flatMap_append, List.length_append]; omega
    _ = _ := by rw [this]
set_option maxRecDepth 100000 in
set_option maxHeartbeats 8000000 in
theorem walk_step {base bc bo bw m n : Nat} {KV : List (St2 × Value)} {L : List Cl} (ht : Tr L) (hB : ∀ c ∈ L, -4000000 ≤ c.id.1 ∧ c.id.1 ≤ 4000000 ∧ -4000000 ≤ c.id.2 ∧ c.id.2 ≤ 4000000) (ih : WalkAt base bc bo bw m KV L n) : WalkAt base bc bo bw m KV L (n + 1) := by
  intro w t lst v O h hl hl2 hr
  obtain ⟨u, hu⟩ := sl_ex KV t
  have hq : ∀ k, (upto L n ((kids L t).take k)).length ≤ (upto L n (kids L t)).length := fun k => upto_le
  have hkl : (kids L t).length ≤ 1000000 := Nat.le_trans (kids_le t) hl2
  obtain ⟨X, hX⟩ : ∃ X, walkN (n + 1) L t = X := ⟨_, rfl⟩
  have hX2 : upto L n (kids L t) = X := hX
  rw [hX] at hl hl2 ⊢
  rw [hX2] at hq
  have hbase : base ≤ w.heap.size := Nat.le_trans h.bs.1 (Nat.le_of_lt h.cc.lt)
  have h1 : Wk (w.alloc (.cells (stA t) 33)) base bc bo bw m KV L lst v O := h.same ((Below.refl _ w).alloc (Nat.le_refl _) _)
  have kI := Blk.new w 33 (stA t)
  have kI0 : (w.alloc (.cells (stA t) 33)).cell? ⟨w.heap.size, 0, none⟩ = some (.int .i64 t.1) := kI.cell 0
  have kI1 : (w.alloc (.cells (stA t) 33)).cell? ⟨w.heap.size, 1, none⟩ = some (.int .i64 t.2) := kI.cell 1
  have cC0 : (w.alloc (.cells (stA t) 33)).cell? ⟨bc, 0, none⟩ = some (.map (some m)) := h1.cc.cell 0
  have hlook := h1.look hu
  have o1 := h1.at hu
  have hgu : Uq (lst t) := (grp_uq ht.uq t).perm (h.perm t).symm
  have hll : (lst t).length = (kids L t).length := by rw [(h.perm t).length_eq]; exact (sortC_perm _).length_eq.symm
  obtain ⟨i0, hi0, hz0, hz1, hz2⟩ := info_parts Try.infoCl
  obtain ⟨N, hN⟩ : ∃ N, (kids L t).length = N := ⟨_, rfl⟩
  obtain ⟨A, cu, hUe, hA⟩ : ∃ A cu, u = .slice A N cu ∧ ∀ k, k < N → ∃ g, A = some ⟨g, 0, none⟩ := by
    rcases Joins.ownsRow_forms o1 with ⟨h1, h2⟩ | ⟨g, cap, hv⟩
    · exact ⟨none, 0, by rw [h1]; congr 1; omega, fun k hk => by omega⟩
    · exact ⟨some ⟨g, 0, none⟩, cap, by rw [hv, hll, hN], fun _ _ => ⟨g, rfl⟩⟩
  subst hUe
  have HN := Lib.hid hN
  have HA := Lib.hid hA
  have HS := Lib.hid (sort_any _ base _ (lst t) (fun c hc => hB c (List.mem_filter.1 ((h.perm t).mem_iff.1 hc)).1) hgu (by omega) o1)
  have HH1 := Lib.hid h1
  have HL := Lib.hid hl
  have HL2 := Lib.hid hl2
  have HR := Lib.hid hr
  have HX := Lib.hid hX2
  have HQ := Lib.hid hq
  have HGU := Lib.hid hgu
  have HU := Lib.hid hu
  have HPM := Lib.hid h.perm
  rw [hN] at hkl
  clear hX hX2 hl hl2 hr hgu hu hll hq h1 h o1 hN hA
  go_enter Try.func54, Try.ntmps54
  go_wp2_with fail
  refine HS.out.mono ?_
  rintro e w1 ⟨rfl, o2, k1⟩
  have h2 := HH1.out.sort HU.out o2 k1
  have HK1 := Lib.hid (show Below base w w1 from ((Below.refl base w).alloc hbase _).trans (k1.below (by simp; omega) fun i hi => (OwnCls.lt o2 i hi).1))
  obtain ⟨lst1, hL1, hL2, hL3⟩ : ∃ l1 : St2 → List Cl, Wk w1 base bc bo bw m KV L l1 v O ∧ l1 t = kids L t ∧ ∀ s, lst s = kids L s → l1 s = kids L s :=
    ⟨_, h2, by simp only [if_pos]; exact sort_grp ht.uq (HPM.out t), fun s hs => by
      show (if s = t then sortC (lst s) else lst s) = _
      split
      · exact sort_grp ht.uq (HPM.out s)
      · exact hs⟩
  have HP := Lib.hid (show ∃ l1 v' , Wk w1 base bc bo bw m KV L l1 v' (O ++ upto L n ((kids L t).take 0)) ∧ l1 t = kids L t ∧ ∀ s, lst s = kids L s → l1 s = kids L s from ⟨lst1, v, by simpa [upto] using hL1, hL2, hL3⟩)
  clear hL1 hL2 hL3 h2 o2 k1 hlook kI kI0 kI1 cC0 HS HH1 hbase
  go_wp2_with fail
  go_loopw [15] (fun i wr => ∃ k : Nat, k ≤ N ∧ i = .int .i64 (k : Int) ∧ Below base w wr ∧ Hid (∃ l1 v' , Wk wr base bc bo bw m KV L l1 v' (O ++ upto L n ((kids L t).take k)) ∧ l1 t = kids L t ∧ ∀ s, lst s = kids L s → l1 s = kids L s)) (fun i _ => N - (intOf i).toNat)
  case atStart => exact ⟨0, Nat.zero_le _, rfl, HK1.out, HP⟩
  case round =>
    obtain ⟨k, hk, rfl, bk, HPk⟩ := hrel
    obtain ⟨l1, v1, W1, hl1, hl3⟩ := HPk.out
    clear HPk HP HK1
    by_cases hkN : k < N
    · obtain ⟨g, rfl⟩ := HA.out k hkN
      obtain ⟨c, hc⟩ : ∃ c, (kids L t)[k]? = some c := ⟨_, List.getElem?_eq_getElem (by rw [HN.out]; exact hkN)⟩
      have oR : wr.ownsRow base 56 20 (.slice (some ⟨g, 0, none⟩) N cu) N (cls (kids L t)) := by
        have := W1.at HU.out
        unfold OwnCls at this
        rw [hl1, HN.out] at this
        exact this
      have e1 : decide ((k : Int) < (N : Int)) = true := decide_eq_true (by omega)
      obtain ⟨OO, hOO⟩ : ∃ OO, O ++ upto L n ((kids L t).take k) = OO := ⟨_, rfl⟩
      rw [hOO] at W1
      obtain ⟨M, hM⟩ : ∃ M, OO.length = M := ⟨_, rfl⟩
      have hM2 : M ≤ 500000000 := by
        have h1 := HQ.out k
        have h2 := HL.out
        rw [← hM, ← hOO, List.length_append]
        omega
      obtain ⟨B1, c1, rfl⟩ : ∃ B1 c1, v1 = .slice B1 M c1 := by
        rcases Joins.ownsRow_forms W1.out with ⟨h1, h2⟩ | ⟨g, cap, hv⟩
        · exact ⟨none, 0, by rw [h1]; congr 1; omega⟩
        · exact ⟨some ⟨g, 0, none⟩, cap, by rw [hv, hM]⟩
      have hpc := put_cl wr c
      have hcz := clA_size c
      have W2 := W1.same ((Below.refl _ wr).alloc (Nat.le_refl _) (.cells (clA c) 56))
      have W3 := W2.same ((Below.refl _ _).alloc (Nat.le_refl _) (.cells (clA c) 56))
      have own3 : ((wr.alloc (.cells (clA c) 56)).alloc (.cells (clA c) 56)).ownsRow base 56 20 (.slice B1 M c1) M (cls OO) := by
        have := W3.out
        unfold OwnCls at this
        rw [hM] at this
        exact this
      have HFO := Lib.hid (fold_cl c)
      have HONE := Lib.hid (encC_one c)
      have HENC := Lib.hid (show encC c = (clA c).toList from rfl)
      have HC := Lib.hid hc
      have HW1 := Lib.hid W1
      have HL1 := Lib.hid hl1
      have HL3 := Lib.hid hl3
      have HOR := Lib.hid oR
      have HKN := Lib.hid hkN
      have HW3 := Lib.hid W3
      have HOWN3 := Lib.hid own3
      have HM := Lib.hid hM
      have HOO := Lib.hid hOO
      have HB3 := Lib.hid ((bk.alloc (Nat.le_trans W1.bs.1 (Nat.le_of_lt W1.cc.lt)) (.cells (clA c) 56)).alloc (Nat.le_trans W2.bs.1 (Nat.le_of_lt W2.cc.lt)) (.cells (clA c) 56))
      have hsz : base ≤ wr.heap.size := Nat.le_trans W1.bs.1 (Nat.le_of_lt W1.cc.lt)
      have kc := Blk.new wr 56 (clA c)
      have kc' := Blk.new1 wr (.cells (clA c) 56) 56 (clA c)
      have kc3 := kc.alloc (.cells (clA c) 56)
      have co0 : (wr.alloc (.cells (clA c) 56)).cell? ⟨bo, 0, none⟩ = some (.slice B1 M c1) := W2.co.cell 0
      have HKC := Lib.hid kc
      have HKC1 := Lib.hid kc'
      have HKC3 := Lib.hid kc3
      clear W1 hl1 hl3 oR hc W2 W3 own3 kc kc' kc3 hM hOO
      generalize hCC : clA c = CC at *
      have HCC := Lib.hid hCC
      clear hCC
      go_wp2_with (first | (refine load_row rfl (x := .tmp 17) rfl rfl HOR.out HN.out HC.out ?_; rw [HCC.out]) | (refine load_cl (c := c) rfl (x := .tmp 7) rfl rfl (by rw [HCC.out]; exact HKC.out) ?_; rw [HCC.out]) | (at_builtin; rw [HFO.out]; refine wpList_append_lies _ rfl _ _ 41 rfl base 56 i0 _ 20 248 Try.underlying41 hi0 hz0 hz1 hz2 rfl (by omega) (.slice B1 M c1) M (cls OO) rfl HOWN3.out ⟨wr.heap.size + 1, 0, none⟩ 1 1 (encC c) rfl rfl (by rw [HENC.out]; exact World.news_of_block HKC1.out) HONE.out (by omega) (by unfold maxLen; omega) (by omega) (by simp; omega) (wr.heap.size + 2) (by simp) ?_; intro g9 cap9 w9 o9 gr9 l9 z9; obtain ⟨co9, W10⟩ := wk_app HW3.out gr9 (own_snoc HM.out o9) (by rcases l9 with l9 | l9; exact .inl l9.symm; exact .inr ⟨g9, rfl, by rw [l9]; simp⟩); obtain ⟨cy9, fy9, ly9⟩ := co9.all; have kd := (HKC3.out.grown gr9 (by intro e; have := OwnCls.lt HW1.out.out _ e.symm; omega)).far (p := ⟨bo, 0, none⟩) (by have := HW1.out.co.lt; show wr.heap.size ≠ bo; omega) (.slice (some ⟨g9, 0, none⟩) (M + 1) cap9); have kd0 : (w9.setCell ⟨bo, 0, none⟩ (.slice (some ⟨g9, 0, none⟩) (M + 1) cap9)).cell? ⟨wr.heap.size, 0, none⟩ = some (.int .i64 c.id.1) := (by rw [Blk.cell kd 0, ← HCC.out]; rfl); have kd1 : (w9.setCell ⟨bo, 0, none⟩ (.slice (some ⟨g9, 0, none⟩) (M + 1) cap9)).cell? ⟨wr.heap.size, 1, none⟩ = some (.int .i64 c.id.2) := (by rw [Blk.cell kd 1, ← HCC.out]; rfl); have cw10 : (w9.setCell ⟨bo, 0, none⟩ (.slice (some ⟨g9, 0, none⟩) (M + 1) cap9)).cell? ⟨bw, 0, none⟩ = some _ := W10.cw.cell 0; have HW10 := Lib.hid W10; have HG9 := Lib.hid gr9; clear W10 gr9 l9 kd))
      have hcm : c ∈ kids L t := List.mem_of_getElem? HC.out
      have hup := upto_take (L := L) (n := n) HC.out
      have hlen := HQ.out (k + 1)
      rw [hup, List.length_append, List.length_append] at hlen
      have hO2 : O.length + (upto L n ((kids L t).take k)).length = M := by rw [← HM.out, ← HOO.out, List.length_append]
      have hXl := HL.out
      have hXl2 := HL2.out
      have hrk := rank_kid ht hcm
      have hrn := HR.out
      refine (ih _ c.id l1 _ _ HW10.out (by rw [List.length_append, HM.out]; simp only [List.length_cons, List.length_nil] at *; omega) (by omega) (by omega)).mono ?_
      rintro e w11 ⟨rfl, b11, v2, l2, W11, hk2⟩
      have b12 : Below base w w11 := ((HB3.out.grown HG9.out (by simp; omega) (fun y hy => (OwnCls.lt HW1.out.out y hy).1)).setCell (p := ⟨bo, 0, none⟩) HW1.out.bs.2.1 _).trans b11
      have HP2 := Lib.hid (show ∃ l1 v', Wk w11 base bc bo bw m KV L l1 v' (O ++ upto L n ((kids L t).take (k + 1))) ∧ l1 t = kids L t ∧ ∀ s, lst s = kids L s → l1 s = kids L s from ⟨l2, v2, by rw [hup, ← List.append_assoc, ← List.append_assoc, HOO.out]; exact W11, hk2 t HL1.out, fun s hs => hk2 s (HL3.out s hs)⟩)
      clear hup hlen hO2 hXl hXl2 hrk hrn W11 hk2 HW10 HG9 hcm
      go_wp2_with fail
      go_roundw
      case rel => exact ⟨k + 1, HKN.out, by go_num, b12, HP2⟩
      case measure => simp [intOf]; have := HKN.out; omega
    · obtain rfl : k = N := by omega
      have e1 : decide ((k : Int) < (k : Int)) = false := decide_eq_false (by omega)
      have HR2 := Lib.hid (show ∃ v' lst', Wk wr base bc bo bw m KV L lst' v' (O ++ X) ∧ ∀ s, lst s = kids L s → lst' s = kids L s from ⟨v1, l1, by
        have := W1
        rw [← HN.out, List.take_length, HX.out] at this
        exact this, hl3⟩)
      clear W1 hl1 hl3
      go_wp2
      exact bodyPost_end (results_none rfl _ _ _) rfl ⟨rfl, bk, HR2.out⟩
theorem walk_all {base bc bo bw m : Nat} {KV : List (St2 × Value)} {L : List Cl} (ht : Tr L) (hB : ∀ c ∈ L, -4000000 ≤ c.id.1 ∧ c.id.1 ≤ 4000000 ∧ -4000000 ≤ c.id.2 ∧ c.id.2 ≤ 4000000) : ∀ n, WalkAt base bc bo bw m KV L n
  | 0 => fun _ _ _ _ _ _ _ _ h => absurd h (Nat.not_lt_zero _)
  | n + 1 => walk_step ht hB (walk_all ht hB n)
end Go.Proofs.Ytaicbllfkehhjaa

/- List. -/
namespace Go.Proofs.Ytaicbllfkehhjaa
open Go.RowKit

theorem wk_start {w : World} {base bc bo bw m : Nat} {G : List Grp} {X L : List Cl} (hG : GrAt w base m G) (hR : GrRel X G) (hp : X.Perm L) (cc : Blk w bc 105 #[.map (some m)]) (co : Blk w bo 41 #[.slice none 0 0])
    (cw : Blk w bw 106 #[.func (.func 54) #[] #[.pointer (some ⟨bc, 0, none⟩), .pointer (some ⟨bo, 0, none⟩), .pointer (some ⟨bw, 0, none⟩)]]) (hb : base ≤ bc ∧ base ≤ bo ∧ base ≤ bw ∧ base ≤ m) :
    Wk w base bc bo bw m (G.map fun g => (g.1, g.2.1)) L (grp X) (.slice none 0 0) [] where
  cc := cc
  co := co
  cw := cw
  map := by rw [List.map_map]; exact hG.map
  own p hp := by
    obtain ⟨g, hg, rfl⟩ := List.mem_map.1 hp
    have := hG.own g hg
    rw [hR.list g hg] at this
    exact this
  perm t := hp.filter _
  keys := by rw [List.pairwise_map]; exact hG.apart
  none t ht := by
    have h := hR.none t fun g hg => ht _ (List.mem_map_of_mem (f := fun g : Grp => (g.1, g.2.1)) hg)
    have h2 : (X.filter fun c => decide (c.after = t)).Perm (grp L t) := hp.filter _
    rw [h] at h2
    exact h2.symm.eq_nil
  out := World.ownsRow_nil _ _ _ _
  apO p hp := by
    unfold Apart
    cases h : p.2.ownBlock with
    | none => exact .inl rfl
    | some x => exact .inr (by simp [Value.ownBlock])
  bs := hb
theorem ne_iter {w : World} {base : Nat} {u : Value} {l : List Cl} (h : OwnCls w base u l) {b r : Nat} {K T : List (Value × Value)} (hb : IterV w b r K T) : u.ownBlock ≠ some r := fun e => by
  obtain ⟨c, fz, hc⟩ := Lib.ownsRow_kind h r e
  obtain ⟨es, clock, since, seen, c0, h1, h2, h3, h4, _⟩ := hb
  rw [h4] at hc
  injection hc with hc
  cases hc
theorem gr_new {w w8 : World} {base m : Nat} {G : List Grp} (h : GrAt w base m G) {t : St2} {v' : Value} {l' : List Cl} (hn : ∀ g ∈ G, g.1 ≠ t) (k : Only (fun i => i = m) w w8) (hM : MapV w8 m (G.map grKv ++ [(.agg (stA t), v')])) (ho : OwnCls w8 base v' l') (hf : ∃ g, v'.ownBlock = some g ∧ w.heap.size ≤ g) : GrAt w8 base m (G ++ [(t, v', l')]) := by
  refine ⟨by rw [List.map_append]; exact hM, fun g hg => ?_, ?_⟩
  · rcases List.mem_append.1 hg with hg | hg
    · exact k.owns (h.own g hg) fun i hi e => (h.own g hg).ne_map h.map (by rw [hi, e])
    · simp at hg
      subst hg
      exact ho
  · rw [List.pairwise_append]
    refine ⟨h.apart, by simp, fun a ha b hb => ?_⟩
    simp at hb
    subst hb
    refine ⟨hn a ha, ?_⟩
    obtain ⟨g, hg, hlt⟩ := hf
    unfold Apart
    cases hq : a.2.1.ownBlock with
    | none => exact .inl rfl
    | some x =>
      right
      rw [hg]
      intro e
      injection e with e
      have := ((h.own a ha).lt x hq).2
      omega
theorem gr_same {w w' : World} {base m : Nat} {G : List Grp} (h : GrAt w base m G) (hb : Below w.heap.size w w') : GrAt w' base m G :=
  ⟨h.map.below hb h.map.lt, fun g hg => (Only.of_below hb (fun _ => False)).owns (h.own g hg) (fun _ _ h => h), h.apart⟩
set_option maxRecDepth 100000 in
set_option maxHeartbeats 8000000 in
theorem list_any (w : World) (p b : Nat) (L : List Cl) (h : PgAt w p b L) (ht : Tr L) (hB : ∀ c ∈ L, -4000000 ≤ c.id.1 ∧ c.id.1 ≤ 4000000 ∧ -4000000 ≤ c.id.2 ∧ c.id.2 ≤ 4000000) (hl : L.length ≤ 1000000) :
    Calls Try.prog 40 #[.pointer (some ⟨p, 0, none⟩)] w fun e w' => ∃ v, e = .returned v ∧ OwnCls w' w.heap.size v (walkS L) ∧ Below w.heap.size w w' := by
  obtain ⟨hp, L', hm, hperm⟩ := h
  have hpl := hp.lt
  have hbl := hm.lt
  have hM0 := MapV.made w
  have cc0 := Blk.new1 w (.map #[] 0) 105 #[.map (some w.heap.size)]
  have hM1 := hM0.alloc (.cells #[.map (some w.heap.size)] 105)
  have cp : ((w.alloc (.map #[] 0)).alloc (.cells #[.map (some w.heap.size)] 105)).cell? ⟨p, 0, none⟩ = some (.map (some b)) := ((hp.alloc _).alloc _).cell 0
  have hmm := (hm.alloc (.map #[] 0)).alloc (.cells #[.map (some w.heap.size)] 105)
  obtain ⟨o, hr, hI⟩ := hmm.range (P := Try.prog) Try.underlying53
  rw [show ((w.alloc (.map #[] 0)).alloc (.cells #[.map (some w.heap.size)] 105)).heap.size = w.heap.size + 1 + 1 by simp] at hr hI
  have cc1 := cc0.alloc o
  have hM2 := hM1.alloc o
  have hB1 := Lib.hid ((((Below.refl w.heap.size w).alloc (Nat.le_refl _) (.map #[] 0)).alloc (by simp) (.cells #[.map (some w.heap.size)] 105)).alloc (by simp; omega) o)
  have HI := Lib.hid hI
  have hmm0 := @run_makeMap Try.prog
  have HM2 := Lib.hid hM2
  have HCC := Lib.hid cc1
  have HT := Lib.hid ht
  have HBB := Lib.hid hB
  have HL := Lib.hid hl
  have HPM := Lib.hid hperm
  clear hM0 cc0 hM1 hmm hI cc1 hM2 ht hB hl hperm hm hp
  go_enter Try.func40, Try.ntmps40
  go_upto_region 5 with fail
  clear hmm0 hr cp
  generalize ((w.alloc (.map #[] 0)).alloc (.cells #[.map (some w.heap.size)] 105)).alloc o = w2 at *
  go_loopw [16] (fun _ wr => ∃ (X T : List Cl) (G : List Grp), Hid ((X ++ T).Perm L) ∧ Hid (GrRel X G) ∧ Hid (GrAt wr w.heap.size w.heap.size G) ∧ Blk wr (w.heap.size + 1) 105 #[.map (some w.heap.size)] ∧ IterV wr b (w.heap.size + 1 + 1) (kvs L') (kvs T) ∧ Below w.heap.size w wr) (fun _ wr => iterLeft wr b (w.heap.size + 1 + 1))
  case atStart => exact ⟨[], L', [], HPM, Lib.hid GrRel.nil, Lib.hid ⟨HM2.out, by simp, List.Pairwise.nil⟩, HCC.out, HI.out, hB1.out⟩
  case round =>
    clear HI HM2 HCC hB1
    obtain ⟨X, T, G, HX, HR, HG, hcc, I, hb⟩ := hrel
    have hleft := I.left
    rcases I.next (P := Try.prog) 0 with ⟨hT, hnx⟩ | ⟨U, V, x, v, w3, hT, hxv, hnx, hg, I1, hen⟩
    · obtain rfl : T = [] := by simpa [kvs] using hT
      clear I hT hleft
      have HBw := Lib.hid hb
      have hsz := hb.size
      obtain ⟨FV, hFV⟩ : ∃ FV, Value.func (.func 54) #[] #[.pointer (some ⟨w.heap.size + 1, 0, none⟩), .pointer (some ⟨wr.heap.size, 0, none⟩), .pointer (some ⟨wr.heap.size + 1, 0, none⟩)] = FV := ⟨_, rfl⟩
      have k0 := Blk.new1 wr (.cells #[.slice none 0 0] 41) 106 #[.nilFunc]
      have k7b := Blk.new1 wr (.cells #[.slice none 0 0] 41) 106 #[FV]
      have k6b := (Blk.new wr 41 #[.slice none 0 0]).alloc (.cells #[FV] 106)
      have hbW : Below wr.heap.size wr ((wr.alloc (.cells #[.slice none 0 0] 41)).alloc (.cells #[FV] 106)) :=
        ((Below.refl _ wr).alloc (Nat.le_refl _) _).alloc (by simp) _
      have hccW := hcc.below hbW hcc.lt
      have hpX : X.Perm L := by simpa using HX.out
      have WK := wk_start (gr_same HG.out hbW) HR.out hpX hccW k6b (by rw [hFV]; exact k7b) ⟨by omega, by omega, by omega, by omega⟩
      have c7b : ((wr.alloc (.cells #[.slice none 0 0] 41)).alloc (.cells #[FV] 106)).cell? ⟨wr.heap.size + 1, 0, none⟩ = some FV := k7b.cell 0
      subst hFV
      obtain ⟨c7, f7, l7⟩ := k0.all
      have HWK := Lib.hid WK
      have HBW := Lib.hid hbW
      have HWL := Lib.hid (walk_perm HT.out).length_eq
      clear WK hbW hccW hpX k0 k7b k6b hb hcc HX HG HR
      go_wp2_with fail
      refine (walk_all HT.out HBB.out (L.length + 1) _ z2 (grp X) (.slice none 0 0) [] HWK.out (by have h1 := HWL.out; have h2 := HL.out; unfold walkS at h1; rw [List.length_nil]; omega) (by have h1 := HWL.out; have h2 := HL.out; unfold walkS at h1; omega) (by have := rank_le L z2; omega)).mono ?_
      rintro e w9 ⟨rfl, b9, v9, l9, W9, -⟩
      have c69 : w9.cell? ⟨wr.heap.size, 0, none⟩ = some v9 := W9.co.cell 0
      have HO := Lib.hid (show OwnCls w9 w.heap.size v9 (walkS L) from W9.out)
      have b99 := (HBw.out.trans (HBW.out.mono hsz)).trans b9
      clear W9
      go_wp2
      go_ret
      exact ⟨v9, rfl, HO.out, b99⟩
    · obtain ⟨U', R, rfl, hA, hRR⟩ := List.map_eq_append_iff.1 hT
      obtain ⟨c, V', rfl, hc, hBB⟩ := List.map_eq_cons_iff.1 hRR
      obtain ⟨rfl, rfl⟩ : x = .agg (stA c.id) ∧ v = .agg (clA c) := by
        have : kvC c = (x, v) := hc
        unfold kvC at this
        exact ⟨(congrArg Prod.fst this).symm, (congrArg Prod.snd this).symm⟩
      have I2 : IterV w3 b (w.heap.size + 1 + 1) (kvs L') (kvs (U' ++ V')) := by
        rw [← hA, ← hBB, ← List.map_append] at I1
        exact I1
      have hb3 : Below w.heap.size w w3 := hb.grown hg hb.size (fun y hy => by injection hy with hy; omega)
      have hG3 : GrAt w3 w.heap.size w.heap.size G := HG.out.grown hg (by intro e; injection e with e; omega) fun g hgm => .inr (ne_iter (HG.out.own g hgm) I)
      have hcc3 := hcc.grown hg (by intro e; injection e with e; omega)
      have hent : (Instr.entry (.pointer (some ⟨w.heap.size + 1 + 1, 0, none⟩))).run Try.prog w3 = .ok (.tuple #[.agg #[.int .i64 c.id.1, .int .i64 c.id.2], .agg (clA c)]) w3 := hen w3 rfl rfl
      have hcz := clA_size c
      have hpc := put_cl w3 c
      have k5 := Blk.new w3 56 (clA c)
      have k5b := k5.alloc (.cells (clA c) 56)
      have k6 := Blk.new1 w3 (.cells (clA c) 56) 56 (clA c)
      have ca0 : (w3.alloc (.cells (clA c) 56)).cell? ⟨w3.heap.size, 2, none⟩ = some (.int .i64 c.after.1) := k5.cell 2
      have ca1 : (w3.alloc (.cells (clA c) 56)).cell? ⟨w3.heap.size, 3, none⟩ = some (.int .i64 c.after.2) := k5.cell 3
      have cm0 : (w3.alloc (.cells (clA c) 56)).cell? ⟨w.heap.size + 1, 0, none⟩ = some (.map (some w.heap.size)) := (hcc3.alloc _).cell 0
      have hB6 : Below w3.heap.size w3 ((w3.alloc (.cells (clA c) 56)).alloc (.cells (clA c) 56)) := ((Below.refl _ w3).alloc (Nat.le_refl _) _).alloc (by simp) _
      have hG6 := gr_same hG3 hB6
      have hfo := fold_cl c
      have HK5 := Lib.hid k5
      have HG6 := Lib.hid hG6
      have HB6 := Lib.hid hB6
      have HI2 := Lib.hid I2
      have HB3 := Lib.hid hb3
      have HCC3 := Lib.hid hcc3
      clear hT hRR hc hA hBB hxv hen I I1 hb hg hcc HG hG3 k5 k5b k6 hG6 hB6 I2 hb3 hcc3
      generalize hCC : clA c = CC at *
      have HCC := Lib.hid hCC
      clear hCC
      have hleft2 := HI2.out.left
      have hkeys := HG6.out.keys
      have HXP := Lib.hid (show ((X ++ [c]) ++ (U' ++ V')).Perm L from by
        refine List.Perm.trans ?_ HX.out
        rw [List.append_assoc]
        exact List.Perm.append_left X (by simpa using (List.perm_middle (a := c) (l₁ := U') (l₂ := V')).symm))
      have HXL := Lib.hid (show X.length ≤ 1000000 from by
        have h1 := HX.out.length_eq
        have h2 := HL.out
        rw [List.length_append] at h1
        omega)
      obtain ⟨i0, hi0, hz0, hz1, hz2⟩ := info_parts Try.infoCl
      have HONE := Lib.hid (encC_one c)
      have HENC := Lib.hid (show encC c = CC.toList from by rw [← HCC.out]; rfl)
      rcases HG6.out.find c.after with hn | ⟨G1, G2, v, l, rfl, hd⟩
      · obtain ⟨q, w7, hme0, hg7, hst⟩ := HG6.out.map.entry_none (P := Try.prog) (x := .agg (stA c.after)) (z := .slice none 0 0) kysS Try.underlying105 hkeys ⟨c.after, rfl⟩ (fun p hp => by
          obtain ⟨g, hg, rfl⟩ := List.mem_map.1 hp
          exact fun e => hn g hg (stA_inj e)) (by kernel_rfl)
        have hme : (Instr.mapEntry 105 (.map (some w.heap.size)) (.agg #[.int .i64 c.after.1, .int .i64 c.after.2])).run Try.prog ((w3.alloc (.cells CC 56)).alloc (.cells CC 56)) = .ok (.tuple #[.slice none 0 0, .int .i64 q]) w7 := hme0
        clear hme0
        have hsz3 : w.heap.size ≤ w3.heap.size := HB3.out.size
        have hs7 : w3.heap.size + 2 ≤ w7.heap.size := by have := hg7.size; simp at this; omega
        have HK7 := Lib.hid ((Blk.new1 w3 (.cells CC 56) 56 CC).grown hg7 (by intro e; injection e with e; omega))
        have HG7 := Lib.hid hg7
        have HST := Lib.hid hst
        have HN := Lib.hid hn
        have hml : w.heap.size < w7.heap.size := by omega
        clear hst hn hkeys hg7
        go_wp2_with (first | (refine load_cl (c := c) rfl (x := .tmp 5) rfl rfl (by rw [HCC.out]; exact HK5.out) ?_; rw [HCC.out]) | (at_builtin; refine wpList_append_lies _ rfl _ _ 41 rfl w.heap.size 56 i0 _ 20 248 Try.underlying41 hi0 hz0 hz1 hz2 rfl (by omega) (.slice none 0 0) 0 (cls []) rfl (World.ownsRow_nil _ _ _ _) ⟨w3.heap.size + 1, 0, none⟩ 1 1 (encC c) rfl rfl (by rw [HENC.out]; exact World.news_of_block HK7.out) HONE.out (by omega) (by unfold maxLen; omega) (by omega) (by omega) w7.heap.size rfl ?_; intro g9 cap9 w9 o9 gr9 l9 z9; obtain ⟨w10, hes, hM10, hg10⟩ := HST.out w9 (.slice (some ⟨g9, 0, none⟩) (0 + 1) cap9) (gr9.block _ hml (fun e => by cases e)); have HM10 := Lib.hid hM10; have HG10 := Lib.hid hg10; have HG9 := Lib.hid gr9; have HO9 := Lib.hid o9; have HL9 := Lib.hid l9; clear hM10 hg10 gr9 o9 l9))
        obtain rfl : g9 = w7.heap.size := by
          rcases HL9.out with e | e
          · cases e
          · exact e
        have hcc6 := HCC3.out.below HB6.out HCC3.out.lt
        have hcc10 := ((hcc6.grown HG7.out (by intro e; injection e with e; omega)).grown HG9.out (by intro e; cases e)).grown HG10.out (by intro e; injection e with e; omega)
        have hlt3 := HI2.out.map.lt
        have hlr3 := HI2.out.ltr
        have hs6 := HB6.out.size
        have hs9 := HG9.out.size
        have hs67 := HG7.out.size
        have I10 : IterV w10 b (w.heap.size + 1 + 1) (kvs L') (kvs (U' ++ V')) := HI2.out.of_blocks
          ((HG10.out.block b (by omega) (by intro e; injection e with e; omega)).trans ((HG9.out.block b (by omega) (by intro e; cases e)).trans ((HG7.out.block b (by omega) (by intro e; injection e with e; omega)).trans (HB6.out.block b hlt3))))
          ((HG10.out.block _ (by omega) (by intro e; injection e with e; omega)).trans ((HG9.out.block _ (by omega) (by intro e; cases e)).trans ((HG7.out.block _ (by omega) (by intro e; injection e with e; omega)).trans (HB6.out.block _ hlr3))))
        have hb10 : Below w.heap.size w w10 := (((HB3.out.trans (HB6.out.mono hsz3)).grown HG7.out (by omega) (fun y hy => by injection hy with hy; omega)).grown HG9.out (by omega) (fun y hy => by cases hy)).grown HG10.out (by omega) (fun y hy => by injection hy with hy; omega)
        have hO9 : OwnCls w9 w.heap.size (.slice (some ⟨w7.heap.size, 0, none⟩) (0 + 1) cap9) [c] := own_snoc (OO := []) rfl HO9.out
        have hk10 : Only (fun i => i = w.heap.size) ((w3.alloc (.cells CC 56)).alloc (.cells CC 56)) w10 := (((Only.of_grown HG7.out).mono (fun i hi => by injection hi with hi; exact hi.symm)).trans (Only.of_grown HG9.out) (fun i hi => by cases hi)).trans (Only.of_grown HG10.out) (fun i hi => by injection hi with hi; exact .inl hi.symm)
        have hG10 := gr_new HG6.out HN.out hk10 HM10.out (hO9.grown HG10.out (.inr (by show (some w7.heap.size : Option Nat) ≠ some w.heap.size; intro e; injection e with e; omega))) ⟨w7.heap.size, rfl, hs67⟩
        refine ⟨⟨X ++ [c], U' ++ V', _, HXP, Lib.hid (HR.out.new HN.out), Lib.hid hG10, hcc10, I10, hb10⟩, ?_⟩
        rw [I10.left, hleft]
        simp [kvs]
      · have hmem : (Value.agg (stA c.after), v) ∈ (G1 ++ (c.after, v, l) :: G2).map grKv := List.mem_map.2 ⟨(c.after, v, l), by simp, rfl⟩
        obtain ⟨q, hme0, hst⟩ := HG6.out.map.entry_some (P := Try.prog) kysS Try.underlying105 hkeys hmem
        have hov : OwnCls ((w3.alloc (.cells CC 56)).alloc (.cells CC 56)) w.heap.size v l := HG6.out.own (c.after, v, l) (by simp)
        have hll : l = X.filter fun c' => decide (c'.after = c.after) := HR.out.list (c.after, v, l) (by simp)
        have hll2 : l.length ≤ 1000000 := by rw [hll]; exact Nat.le_trans (List.length_filter_le _ _) HXL.out
        obtain ⟨M, hM⟩ : ∃ M, l.length = M := ⟨_, rfl⟩
        obtain ⟨B1, c1, hve⟩ : ∃ B1 c1, v = .slice B1 M c1 := by
          rcases Joins.ownsRow_forms hov with ⟨h1, h2⟩ | ⟨g, cap, hv⟩
          · exact ⟨none, 0, by rw [h1]; congr 1; omega⟩
          · exact ⟨some ⟨g, 0, none⟩, cap, by rw [hv, hM]⟩
        subst hve
        have HOV := Lib.hid (show ((w3.alloc (.cells CC 56)).alloc (.cells CC 56)).ownsRow w.heap.size 56 20 (.slice B1 M c1) M (cls l) from by
          have := hov
          unfold OwnCls at this
          rw [hM] at this
          exact this)
        have hme : (Instr.mapEntry 105 (.map (some w.heap.size)) (.agg #[.int .i64 c.after.1, .int .i64 c.after.2])).run Try.prog ((w3.alloc (.cells CC 56)).alloc (.cells CC 56)) = .ok (.tuple #[.slice B1 M c1, .int .i64 q]) ((w3.alloc (.cells CC 56)).alloc (.cells CC 56)) := hme0
        clear hme0
        have HST := Lib.hid hst
        have HM := Lib.hid hM
        have HM2 := Lib.hid hll2
        have HNE := Lib.hid (hov.ne_map HG6.out.map)
        have HDD := Lib.hid hd
        have HK6 := Lib.hid (Blk.new1 w3 (.cells CC 56) 56 CC)
        clear hmem hst hov hll hll2 hM hd hkeys
        have hsz3 : w.heap.size ≤ w3.heap.size := HB3.out.size
        have hM6 : M ≤ 1000000 := by rw [← HM.out]; exact HM2.out
        go_wp2_with (first | (refine load_cl (c := c) rfl (x := .tmp 5) rfl rfl (by rw [HCC.out]; exact HK5.out) ?_; rw [HCC.out]) | (at_builtin; refine wpList_append_lies _ rfl _ _ 41 rfl w.heap.size 56 i0 _ 20 248 Try.underlying41 hi0 hz0 hz1 hz2 rfl (by omega) (.slice B1 M c1) M (cls l) rfl HOV.out ⟨w3.heap.size + 1, 0, none⟩ 1 1 (encC c) rfl rfl (by rw [HENC.out]; exact World.news_of_block HK6.out) HONE.out (by omega) (by unfold maxLen; omega) (by omega) (by simp; omega) (w3.heap.size + 2) (by simp) ?_; intro g9 cap9 w9 o9 gr9 l9 z9; obtain ⟨w10, hes, hM10, hg10⟩ := HST.out w9 (.slice (some ⟨g9, 0, none⟩) (M + 1) cap9) (gr9.block _ HG6.out.map.lt (fun e => HNE.out e.symm)); have HM10 := Lib.hid hM10; have HG10 := Lib.hid hg10; have HG9 := Lib.hid gr9; have HO9 := Lib.hid o9; have HL9 := Lib.hid l9; clear hM10 hg10 gr9 o9 l9))
        have hrb : ∀ k, (Value.slice B1 M c1).ownBlock = some k → w.heap.size ≤ k := fun k hk => ((OwnCls.lt (HG6.out.own (c.after, .slice B1 M c1, l) (by simp))) k hk).1
        have hni : (Value.slice B1 M c1).ownBlock ≠ some (w.heap.size + 1 + 1) := by
          have hI6 : IterV ((w3.alloc (.cells CC 56)).alloc (.cells CC 56)) b (w.heap.size + 1 + 1) (kvs L') (kvs (U' ++ V')) := HI2.out.of_blocks (HB6.out.block b HI2.out.map.lt) (HB6.out.block _ HI2.out.ltr)
          exact ne_iter (HG6.out.own (c.after, .slice B1 M c1, l) (by simp)) hI6
        have hcc6 := HCC3.out.below HB6.out HCC3.out.lt
        have hnb : (Value.slice B1 M c1).ownBlock ≠ some (w.heap.size + 1) := OwnCls.ne_blk (HG6.out.own (c.after, .slice B1 M c1, l) (by simp)) hcc6 (by decide)
        have hcc10 := (hcc6.grown HG9.out (fun e => hnb e.symm)).grown HG10.out (by intro e; injection e with e; omega)
        have hlt3 := HI2.out.map.lt
        have hlr3 := HI2.out.ltr
        have hs6 := HB6.out.size
        have hs9 := HG9.out.size
        have I10 : IterV w10 b (w.heap.size + 1 + 1) (kvs L') (kvs (U' ++ V')) := HI2.out.of_blocks
          ((HG10.out.block b (by omega) (by intro e; injection e with e; omega)).trans ((HG9.out.block b (by omega) (fun e => by have := hrb b e.symm; omega)).trans (HB6.out.block b hlt3)))
          ((HG10.out.block _ (by omega) (by intro e; injection e with e; omega)).trans ((HG9.out.block _ (by omega) (fun e => hni e.symm)).trans (HB6.out.block _ hlr3)))
        have hb10 : Below w.heap.size w w10 := ((HB3.out.trans (HB6.out.mono hsz3)).grown HG9.out (by omega) hrb).grown HG10.out (by omega) (fun y hy => by injection hy with hy; omega)
        have hG10 : GrAt w10 w.heap.size w.heap.size (G1 ++ (c.after, .slice (some ⟨g9, 0, none⟩) (M + 1) cap9, l ++ [c]) :: G2) := by
          refine HG6.out.set HG9.out (fun k hk e => HNE.out (by rw [hk, e])) (own_snoc HM.out HO9.out) ?_ ?_ HG10.out ?_ ?_
          · rcases HL9.out with e | e
            · exact .inl e.symm
            · exact .inr (.inr ⟨g9, rfl, by rw [e]; simp⟩)
          · have := HM10.out
            rw [gr_upd (l' := l ++ [c]) HDD.out] at this
            exact this
          · intro k hk e
            obtain rfl : g9 = k := by injection hk
            rcases HL9.out with e' | e'
            · exact HNE.out (by rw [e', e])
            · omega
          · intro g hgm k hk e
            subst e
            refine OwnCls.ne_map (HG6.out.own g ?_) HG6.out.map hk
            rcases List.mem_append.1 hgm with h1 | h1
            · exact List.mem_append_left _ h1
            · exact List.mem_append_right _ (List.mem_cons_of_mem _ h1)
        refine ⟨⟨X ++ [c], U' ++ V', _, HXP, Lib.hid (HR.out.more HDD.out), Lib.hid hG10, hcc10, I10, hb10⟩, ?_⟩
        rw [I10.left, hleft]
        simp [kvs]
end Go.Proofs.Ytaicbllfkehhjaa

/- Patches. -/
namespace Go.Proofs.Ytaicbllfkehhjaa
open Go.RowKit

theorem ptA_size (p : Pt) : (ptA p).size = 15 := rfl
def encP (p : Pt) : List Value := (ptA p).toList
theorem encP_len (p : Pt) : (encP p).length = 15 := rfl
theorem encP_one (p : Pt) : ∀ v ∈ encP p, v.oneCell' = true := by
  intro v hv
  simp only [encP, ptA, List.mem_cons, List.not_mem_nil, or_false] at hv
  rcases hv with rfl | rfl | rfl | rfl | rfl | rfl | rfl | rfl | rfl | rfl | rfl | rfl | rfl | rfl | rfl <;> rfl
def pts (l : List Pt) : List Value := l.flatMap encP
theorem pts_len (l : List Pt) : (pts l).length = l.length * 15 := flat_len encP_len l
theorem pts_snoc (l : List Pt) (p : Pt) : pts (l ++ [p]) = pts l ++ encP p := by unfold pts; simp
/-- A slice of patches of the call's own. -/
def OwnPts (w : World) (base : Nat) (v : Value) (l : List Pt) : Prop := w.ownsRow base 37 15 v l.length (pts l)
def live (L : List Cl) : List Pt := (L.filter fun c => !c.gone).map fun c => c.pt
theorem live_snoc (L : List Cl) (c : Cl) : live (L ++ [c]) = if c.gone then live L else live L ++ [c.pt] := by
  unfold live
  rw [List.filter_append]
  cases h : c.gone <;> simp [h]
/-- A clause's patch, loaded whole out of the clause's block. -/
theorem pt_load {W : World} {g : Nat} {c : Cl} (h : Blk W g 56 (clA c)) : (loadVar 37 ⟨g, 4, none⟩).run Try.prog W = .ok (.agg (ptA c.pt)) W := by
  have hl : (loadCells ⟨g, 4, none⟩ (ptA c.pt).toList.length).run Try.prog W = .ok (ptA c.pt).toList.toArray W :=
    run_loadCells_list (P := Try.prog) W ⟨g, 4, none⟩ (ptA c.pt).toList (fun j v hv => by
      have hj : j < 15 := by
        have := (List.getElem?_eq_some_iff.1 hv).1
        rwa [Array.length_toList, ptA_size] at this
      have hadd : (⟨g, 4, none⟩ : Addr).add j = ⟨g, 4 + j, none⟩ := by unfold Addr.add; split <;> simp_all
      rw [hadd, h.cell, ← hv]
      match j, hj with
      | 0, _ | 1, _ | 2, _ | 3, _ | 4, _ | 5, _ | 6, _ | 7, _ | 8, _ | 9, _ | 10, _ | 11, _ | 12, _ | 13, _ | 14, _ => rfl)
  rw [Array.length_toList, Array.toArray_toList, ptA_size] at hl
  have hagg : (isAgg 37).run Try.prog W = .ok true W := by
    unfold isAgg
    rw [Sem.run_bind, run_underlying Try.underlying37 W]
    rfl
  have hsz := Try.sizeOf37 W
  unfold loadVar
  rw [Sem.run_bind, hagg]
  simp only [Result.andThen_ok, if_true]
  rw [Sem.run_bind, hsz]
  simp only [Result.andThen_ok]
  rw [Sem.run_bind, hl]
  rfl
theorem load_pt {ops : Array Oper} {rest : List Oper} {o : Oper} {a : Act} {W : World} {Q : Exit → Act → World → Prop} (hgd : o.guard = none) {x : Operand} (ho : o.op = .load 37 x) {g : Nat} {c : Cl} (hx : a.eval x = .pointer (some ⟨g, 4, none⟩))
    (hb : Blk W g 56 (clA c)) (h : wpList Try.prog ops Q rest (a.put o.dst (.agg (ptA c.pt))) W) : wpList Try.prog ops Q (o :: rest) a W := by
  refine wpList_plain hgd fun _ hK => ?_
  unfold Oper.wp execOp
  simp only [ho, hx, Instr.loadAt, Instr.sureAddr, Sem.run_bind, Sem.run_pure, Result.andThen_ok, pt_load hb]
  exact hK _ _ h
def zpt : Pt := zcl.pt
theorem fold_pt (p : Pt) : Array.foldl (fun (cs : Array Value) (x : Value × Nat) => cs.setIfInBounds x.2 x.1) #[.int .i64 0, .string ⟨#[]⟩, .string ⟨#[]⟩, .string ⟨#[]⟩, .string ⟨#[]⟩, .int .i64 0, .string ⟨#[]⟩, .string ⟨#[]⟩, .string ⟨#[]⟩, .string ⟨#[]⟩, .string ⟨#[]⟩, .bool false, .int .i64 0, .string ⟨#[]⟩, .string ⟨#[]⟩] (ptA p).zipIdx 0 15 = ptA p := by kernel_rfl
theorem row_kind_ne {w : World} {B B' : Nat} {e e' : TypeId} {s s' n n' : Nat} {v v' : Value} {xs xs' : List Value} (h : w.ownsRow B e s v n xs) (h' : w.ownsRow B' e' s' v' n' xs') (hne : e ≠ e') : v.ownBlock = none ∨ v.ownBlock ≠ v'.ownBlock := by
  cases hv : v.ownBlock with
  | none => exact .inl rfl
  | some g =>
    right
    intro e
    obtain ⟨c, f, h1⟩ := Lib.ownsRow_kind h g hv
    obtain ⟨c', f', h2⟩ := Lib.ownsRow_kind h' g e.symm
    rw [h1] at h2
    injection h2 with h2
    injection h2 with _ h2
    exact hne h2
theorem live_take {S : List Cl} {k : Nat} {c : Cl} (h : S[k]? = some c) : live (S.take (k + 1)) = if c.gone then live (S.take k) else live (S.take k) ++ [c.pt] := by
  rw [List.take_add_one, h]
  exact live_snoc _ _
theorem pts_own {w : World} {base M : Nat} {v : Value} {l : List Pt} {p : Pt} (hM : l.length = M) (o : w.ownsRow base 37 15 v (M + 1) (pts l ++ encP p)) : OwnPts w base v (l ++ [p]) := by
  subst hM
  unfold OwnPts
  rw [List.length_append, pts_snoc]
  exact o
theorem Try.infoPt : (Try.prog.info? 37).map (fun i => (i.zero, i.size, i.bytes)) = some (some (.agg (ptA zpt)), 15, 208) := by kernel_rfl
end Go.Proofs.Ytaicbllfkehhjaa

/- Slices of clauses as a law reads them. -/
namespace Go.Proofs.Ytaicbllfkehhjaa
open Go.RowKit

/-- The cells of a slice of clauses, in blocks below B. -/
def ClsAt (w : World) (B : Nat) (A : Option Addr) (l : List Cl) : Prop :=
  ∀ (i : Nat) (c : Cl), l[i]? = some c → ∃ g off, A = some ⟨g, off, none⟩ ∧ g < B ∧ ∀ (k : Nat) (v : Value), (encC c)[k]? = some v → w.cell? ⟨g, off + i * 20 + k, none⟩ = some v
theorem ClsAt.below {w w' : World} {B : Nat} {A : Option Addr} {l : List Cl} (h : ClsAt w B A l) (hb : Below B w w') : ClsAt w' B A l := fun i c hi => by
  obtain ⟨g, off, h1, h2, h3⟩ := h i c hi
  exact ⟨g, off, h1, h2, fun k v hv => (hb.cell (p := ⟨g, off + i * 20 + k, none⟩) h2).trans (h3 k v hv)⟩
theorem ClsAt.wide {w : World} {B B' : Nat} {A : Option Addr} {l : List Cl} (h : ClsAt w B A l) (hB : B ≤ B') : ClsAt w B' A l := fun i c hi => by
  obtain ⟨g, off, h1, h2, h3⟩ := h i c hi
  exact ⟨g, off, h1, by omega, h3⟩
theorem ClsAt.nil (w : World) (B : Nat) (A : Option Addr) : ClsAt w B A [] := fun i c hi => by simp at hi
/-- A slice of the call's own is such a one. -/
theorem OwnCls.form {w : World} {base : Nat} {v : Value} {l : List Cl} (h : OwnCls w base v l) : ∃ A cap, v = .slice A l.length cap ∧ ClsAt w w.heap.size A l := by
  rcases h.2 with ⟨rfl, h0⟩ | ⟨g, cap, cur, rfl, hbase, hb, hn, hcap, hcs, htake⟩
  · have : l = [] := List.eq_nil_of_length_eq_zero h0
    subst this
    exact ⟨none, 0, rfl, ClsAt.nil _ _ _⟩
  · refine ⟨some ⟨g, 0, none⟩, cap, rfl, fun i c hi => ⟨g, 0, rfl, (h.lt g rfl).2, fun k v hv => ?_⟩⟩
    have hk : k < 20 := by
      have := (List.getElem?_eq_some_iff.1 hv).1
      rwa [encC_len] at this
    have hil : i < l.length := (List.getElem?_eq_some_iff.1 hi).1
    unfold OwnCls at h
    rw [Nat.zero_add, h.cellAt (i * 20 + k) (by omega)]
    exact (flat_at encC_len hi hk).trans hv
theorem at_load {W : World} {B : Nat} {A : Option Addr} {l : List Cl} (h : ClsAt W B A l) {i : Nat} {c : Cl} (hi : l[i]? = some c) {g off : Nat} (hA : A = some ⟨g, off, none⟩) :
    (loadVar 56 ⟨g, off + i * 20, none⟩).run Try.prog W = .ok (.agg (clA c)) W := by
  obtain ⟨g', off', h1, _, h3⟩ := h i c hi
  rw [hA] at h1
  obtain ⟨rfl, rfl⟩ : g = g' ∧ off = off' := by
    have h4 := Option.some.inj h1
    exact ⟨congrArg Addr.block h4, congrArg Addr.off h4⟩
  have hl : (loadCells ⟨g, off + i * 20, none⟩ (clA c).toList.length).run Try.prog W = .ok (clA c).toList.toArray W :=
    run_loadCells_list (P := Try.prog) W ⟨g, off + i * 20, none⟩ (clA c).toList (fun j v hv => by
      have hadd : (⟨g, off + i * 20, none⟩ : Addr).add j = ⟨g, off + i * 20 + j, none⟩ := by unfold Addr.add; split <;> simp_all
      rw [hadd]
      exact h3 j v hv)
  rw [Array.length_toList, Array.toArray_toList, clA_size] at hl
  have hagg : (isAgg 56).run Try.prog W = .ok true W := by
    unfold isAgg
    rw [Sem.run_bind, run_underlying Try.underlying56 W]
    rfl
  have hsz := Try.sizeOf56 W
  unfold loadVar
  rw [Sem.run_bind, hagg]
  simp only [Result.andThen_ok, if_true]
  rw [Sem.run_bind, hsz]
  simp only [Result.andThen_ok]
  rw [Sem.run_bind, hl]
  rfl
theorem load_at {ops : Array Oper} {rest : List Oper} {o : Oper} {a : Act} {W : World} {Q : Exit → Act → World → Prop} (hgd : o.guard = none) {x : Operand} (ho : o.op = .load 56 x) {B g off i : Nat} {A : Option Addr} {l : List Cl} (hx : a.eval x = .pointer (some ⟨g, off + i * 20, none⟩))
    (hr : ClsAt W B A l) (hA : A = some ⟨g, off, none⟩) {c : Cl} (hi : l[i]? = some c) (h : wpList Try.prog ops Q rest (a.put o.dst (.agg (clA c))) W) : wpList Try.prog ops Q (o :: rest) a W := by
  refine wpList_plain hgd fun _ hK => ?_
  unfold Oper.wp execOp
  simp only [ho, hx, Instr.loadAt, Instr.sureAddr, Sem.run_bind, Sem.run_pure, Result.andThen_ok, at_load hr hi hA]
  exact hK _ _ h
/-- A page that has been given clauses one after the other. -/
def pageS (l : List Cl) : List Cl := l.foldl (fun a c => (putS a c).1) []
theorem pageS_snoc (l : List Cl) (c : Cl) : pageS (l ++ [c]) = (putS (pageS l) c).1 := by unfold pageS; rw [List.foldl_append]; rfl
end Go.Proofs.Ytaicbllfkehhjaa

/- page: a page that is given clauses. -/
namespace Go.Proofs.Ytaicbllfkehhjaa
open Go.RowKit

theorem putS_len (L : List Cl) (c : Cl) : (putS L c).1.length ≤ L.length + 1 := by
  unfold putS setC
  repeat' split
  all_goals simp
theorem page_fold : ∀ (l L : List Cl), Pg L → Pg (l.foldl (fun a c => (putS a c).1) L) ∧ (l.foldl (fun a c => (putS a c).1) L).length ≤ L.length + l.length
  | [], L, h => ⟨h, Nat.le_refl _⟩
  | c :: l, L, h => by
    obtain ⟨h1, h2⟩ := page_fold l _ (h.put c)
    have := putS_len L c
    exact ⟨h1, by rw [List.length_cons]; show (l.foldl _ (putS L c).1).length ≤ _; omega⟩
theorem page_pg (l : List Cl) : Pg (pageS l) := (page_fold l [] Pg.nil).1
theorem page_len (l : List Cl) : (pageS l).length ≤ l.length := by unfold pageS; have := (page_fold l [] Pg.nil).2; simpa using this
theorem pageS_take {l : List Cl} {k : Nat} {c : Cl} (h : l[k]? = some c) : pageS (l.take (k + 1)) = (putS (pageS (l.take k)) c).1 := by
  rw [List.take_add_one, h]
  exact pageS_snoc _ _
end Go.Proofs.Ytaicbllfkehhjaa

/- stamp; few. -/
namespace Go.Proofs.Ytaicbllfkehhjaa
open Go.RowKit

def slV (x : Option Addr × Nat × Nat) : Value := .slice x.1 x.2.1 x.2.2
def fewS (vs : List (Option Addr × Nat × Nat)) : Bool := vs.all fun x => decide (x.2.1 ≤ 80)
theorem few_stop {vs : List (Option Addr × Nat × Nat)} {k : Nat} {x : Option Addr × Nat × Nat} (h : vs[k]? = some x) (hx : 80 < x.2.1) : fewS vs = false := by
  unfold fewS
  rw [List.all_eq_false]
  exact ⟨x, List.mem_of_getElem? h, by simp; omega⟩
theorem few_end {vs : List (Option Addr × Nat × Nat)} (h : ∀ j x, j < vs.length → vs[j]? = some x → x.2.1 ≤ 80) : fewS vs = true := by
  unfold fewS
  rw [List.all_eq_true]
  intro x hx
  obtain ⟨j, hj⟩ := List.getElem?_of_mem hx
  simpa using h j x (List.getElem?_eq_some_iff.1 hj).1 hj
end Go.Proofs.Ytaicbllfkehhjaa

/- The reference: Stamp. -/
namespace Go.Proofs.Ytaicbllfkehhjaa
open Go.RowKit

set_option maxRecDepth 100000 in
set_option maxHeartbeats 4000000 in
theorem rStamp_any (w : World) (s : St2) : Calls Try.prog 66 #[.agg (stA s)] w fun e w' => e = .returned (.bool (properT s)) ∧ Below w.heap.size w w' := by
  obtain ⟨x, y⟩ := s
  obtain ⟨R, hR⟩ : ∃ r, properT (x, y) = r := ⟨_, rfl⟩
  rw [hR]
  unfold properT at hR
  simp only at hR
  have HR := Lib.hid hR
  clear hR
  have hb := (Below.refl w.heap.size w).alloc (Nat.le_refl _) (.cells (stA (x, y)) 33)
  have kb := Blk.new w 33 (stA (x, y))
  have c0 : (w.alloc (.cells (stA (x, y)) 33)).cell? ⟨w.heap.size, 0, none⟩ = some (.int .i64 x) := kb.cell 0
  have c1 : (w.alloc (.cells (stA (x, y)) 33)).cell? ⟨w.heap.size, 1, none⟩ = some (.int .i64 y) := kb.cell 1
  clear kb
  generalize hA : stA (x, y) = A at *
  have e1 : (x ≥ 0) = (0 ≤ x) := rfl
  by_cases h1 : 0 ≤ x
  · by_cases h2 : x < 200
    · by_cases h3 : 1 ≤ y
      · by_cases h4 : y ≤ 1000000
        · have := HR.out
          simp [h1, h2, h3, h4] at this
          subst this
          clear HR
          go_enter Try.func66, Try.ntmps66
          go_wp2
          go_ret
          exact ⟨rfl, hb⟩
        · have := HR.out
          simp [h1, h2, h3, h4] at this
          subst this
          clear HR
          go_enter Try.func66, Try.ntmps66
          go_wp2
          go_ret
          exact ⟨rfl, hb⟩
      · have := HR.out
        simp [h1, h2, h3] at this
        subst this
        clear HR
        go_enter Try.func66, Try.ntmps66
        go_wp2
        go_ret
        exact ⟨rfl, hb⟩
    · have := HR.out
      simp [h1, h2] at this
      subst this
      clear HR
      go_enter Try.func66, Try.ntmps66
      go_wp2
      go_ret
      exact ⟨rfl, hb⟩
  · have := HR.out
    simp [h1] at this
    subst this
    clear HR
    go_enter Try.func66, Try.ntmps66
    go_wp2
    go_ret
    exact ⟨rfl, hb⟩
set_option maxRecDepth 100000 in
set_option maxHeartbeats 8000000 in
theorem rProper_any (w : World) (c : Cl) : Calls Try.prog 51 #[.agg (clA c)] w fun e w' => e = .returned (.bool (properC c)) ∧ Below w.heap.size w w' := by
  have hb := (Below.refl w.heap.size w).alloc (Nat.le_refl _) (.cells (clA c) 56)
  have kb := Blk.new w 56 (clA c)
  have hez : ∀ W : World, (Op.equalIn 10000 33 (.agg #[.int .i64 c.after.1, .int .i64 c.after.2]) (.agg #[.int .i64 0, .int .i64 0])).run Try.prog W = .ok (decide (c.after = z2)) W := eq_st c.after z2
  have hpa : ∀ W : World, Calls Try.prog 66 #[.agg #[.int .i64 c.after.1, .int .i64 c.after.2]] W fun e w' => e = .returned (.bool (properT c.after)) ∧ Below W.heap.size W w' := fun W => rStamp_any W c.after
  have hpi : ∀ W : World, Calls Try.prog 66 #[.agg #[.int .i64 c.id.1, .int .i64 c.id.2]] W fun e w' => e = .returned (.bool (properT c.id)) ∧ Below W.heap.size W w' := fun W => rStamp_any W c.id
  unfold properC
  obtain ⟨b1, h1⟩ : ∃ b, decide (c.after = z2) = b := ⟨_, rfl⟩
  obtain ⟨b2, h2⟩ : ∃ b, properT c.after = b := ⟨_, rfl⟩
  obtain ⟨b3, h3⟩ : ∃ b, decide (c.after.2 < c.id.2) = b := ⟨_, rfl⟩
  obtain ⟨b4, h4⟩ : ∃ b, properT c.id = b := ⟨_, rfl⟩
  rw [h1] at hez
  rw [h2] at hpa
  rw [h4] at hpi
  rw [h1, h2, h3, h4]
  obtain ⟨k0, k1, k2, k3, -⟩ := cl_cells kb
  have KB := Lib.hid kb
  have PA := Lib.hid hpa
  have PI := Lib.hid hpi
  obtain ⟨CC, hCC⟩ : ∃ x, clA c = x := ⟨_, rfl⟩
  rw [hCC] at KB hb k0 k1 k2 k3 ⊢
  have HCC := Lib.hid hCC
  clear h1 h2 h4 kb hpa hpi hCC
  go_enter Try.func51, Try.ntmps51
  go_wp2_with fail
  refine (PI.out _).mono ?_
  rintro e w1 ⟨rfl, q1⟩
  have hb1 := hb.trans (q1.mono hb.size)
  obtain ⟨m0, m1, m2, m3, -⟩ := cl_cells (c := c) (by rw [HCC.out]; exact KB.out.below q1 KB.out.lt)
  have KB1 := Lib.hid (KB.out.below q1 KB.out.lt)
  clear PI q1 hb KB k0 k1 k2 k3
  cases b4 with
  | false =>
    go_wp2
    go_ret
    exact ⟨by cases b1 <;> cases b2 <;> cases b3 <;> rfl, hb1⟩
  | true =>
    cases b1 with
    | true =>
      go_wp2
      go_ret
      exact ⟨by cases b2 <;> cases b3 <;> rfl, hb1⟩
    | false =>
      go_wp2_with fail
      refine (PA.out _).mono ?_
      rintro e w2 ⟨rfl, q2⟩
      have hb2 := hb1.trans (q2.mono hb1.size)
      obtain ⟨n0, n1, n2, n3, -⟩ := cl_cells (c := c) (by rw [HCC.out]; exact KB1.out.below q2 KB1.out.lt)
      clear PA q2 hb1 KB1 m0 m1 m2 m3
      cases b2 with
      | false =>
        go_wp2
        go_ret
        exact ⟨by cases b3 <;> rfl, hb2⟩
      | true =>
        cases b3 <;> (go_wp2; go_ret; exact ⟨rfl, hb2⟩)
end Go.Proofs.Ytaicbllfkehhjaa
