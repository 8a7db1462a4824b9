/- Slices of clauses of the call's own; the comparison; slices.SortFunc. -/
import Derived.Test.YtbihklfcdpgcgaaEj
import Derived.Lib.Strings
namespace Go.Proofs.Ytbihklfcdpgcgaa
open Go.RowKit Go.Shelf Go.Lib Go.Sort

theorem flat_len {α : Type} {f : α → List Value} {k : Nat} (h : ∀ x, (f x).length = k) : ∀ l : List α, (l.flatMap f).length = l.length * k
  | [] => by simp
  | x :: l => by
    rw [List.flatMap_cons, List.length_append, h, flat_len h l, List.length_cons, Nat.succ_mul]
    omega
theorem flat_at {α : Type} {f : α → List Value} {k : Nat} (h : ∀ x, (f x).length = k) : ∀ {l : List α} {i j : Nat} {x : α}, l[i]? = some x → j < k → (l.flatMap f)[i * k + j]? = (f x)[j]?
  | [], i, j, x, hi, _ => by simp at hi
  | y :: l, 0, j, x, hi, hj => by
    simp at hi
    subst hi
    rw [List.flatMap_cons, Nat.zero_mul, Nat.zero_add, List.getElem?_append_left (by rw [h]; exact hj)]
  | y :: l, i + 1, j, x, hi, hj => by
    rw [List.flatMap_cons, List.getElem?_append_right (by rw [h, Nat.succ_mul]; omega), h]
    have e : (i + 1) * k + j - k = i * k + j := by rw [Nat.succ_mul]; omega
    rw [e]
    exact flat_at h (by simpa using hi) hj
def encC (c : Cl) : List Value := (clA c).toList
theorem encC_len (c : Cl) : (encC c).length = 20 := rfl
theorem encC_one (c : Cl) : ∀ v ∈ encC c, v.oneCell' = true := fun v hv => (Array.all_eq_true_iff_forall_mem.1 (clA_one c)) v (by simpa [encC] using hv)
def cls (l : List Cl) : List Value := l.flatMap encC
theorem cls_len (l : List Cl) : (cls l).length = l.length * 20 := flat_len encC_len l
theorem cls_one (l : List Cl) : ∀ u ∈ cls l, u.oneCell' = true := fun u hu => by
  obtain ⟨c, _, h⟩ := List.mem_flatMap.1 hu
  exact encC_one c u h
/-- A slice of clauses of the call's own. -/
def OwnCls (w : World) (base : Nat) (v : Value) (l : List Cl) : Prop := w.ownsRow base 35 20 v l.length (cls l)

/-! ### the comparison -/
set_option maxRecDepth 100000 in
set_option maxHeartbeats 4000000 in
theorem or_any (w : World) (g : Nat) (x y : Int) (h : Blk w g 3 #[.int .i64 x, .int .i64 y]) : Calls Try.prog 38 #[.slice (some ⟨g, 0, none⟩) 2 2] w fun e w' => e = .returned (.int .i64 (if x ≠ 0 then x else y)) ∧ w = w' := by
  have c0 : w.cell? ⟨g, 0, none⟩ = some (.int .i64 x) := h.cell 0
  have c1 : w.cell? ⟨g, 1, none⟩ = some (.int .i64 y) := h.cell 1
  obtain ⟨R, hR⟩ : ∃ r, (if x ≠ 0 then x else y) = r := ⟨_, rfl⟩
  rw [hR]
  have HR := Lib.hid hR
  clear hR h
  go_enter Try.func38, Try.ntmps38
  go_wp2_with fail
  go_loopw [8] (fun i wr => wr = w ∧ ∃ k : Nat, k ≤ 2 ∧ i = .int .i64 (k : Int) ∧ (1 ≤ k → x = 0) ∧ (2 ≤ k → y = 0)) (fun i _ => 2 - (intOf i).toNat)
  case atStart => exact ⟨rfl, 0, by omega, rfl, fun h => by omega, fun h => by omega⟩
  case round =>
    obtain ⟨rfl, k, hk, rfl, h1, h2⟩ := hrel
    match k, hk, h1, h2 with
    | 0, _, _, _ =>
      by_cases hx : x = 0
      · have e : (x != 0) = false := by simp [hx]
        have HX := Lib.hid hx
        clear hx h1 h2
        go_wp2_with fail
        go_roundw
        case rel => exact ⟨by first | trivial | rfl, 1, by omega, by first | rfl | go_num, fun _ => HX.out, fun h => by omega⟩
        case measure => simp [intOf]
      · have e : (x != 0) = true := by simpa using hx
        obtain rfl : x = R := by have := HR.out; rw [if_pos hx] at this; exact this
        clear hx h1 h2 HR
        go_wp2
        go_ret
        exact ⟨rfl, rfl⟩
    | 1, _, h1, _ =>
      obtain rfl : y = R := by have := HR.out; rw [if_neg (by simp [h1 (by omega)])] at this; exact this
      by_cases hy : y = 0
      · have e : (y != 0) = false := by simp [hy]
        have HY := Lib.hid hy
        have HX := Lib.hid (h1 (by omega))
        clear hy h1 h2 HR
        go_wp2_with fail
        go_roundw
        case rel => exact ⟨by first | trivial | rfl, 2, by omega, by first | rfl | go_num, fun _ => HX.out, fun _ => HY.out⟩
        case measure => simp [intOf]
      · have e : (y != 0) = true := by simpa using hy
        clear hy h1 h2 HR
        go_wp2
        go_ret
        exact ⟨rfl, rfl⟩
    | 2, _, h1, h2 =>
      obtain rfl : R = 0 := by have := HR.out; rw [if_neg (by simp [h1 (by omega)]), h2 (by omega)] at this; exact this.symm
      clear h1 h2 HR
      go_wp2
      go_ret
      exact ⟨rfl, rfl⟩
/-- A clause whose Id is of a moderate size. -/
abbrev BCl := {c : Cl // -4000000 ≤ c.id.1 ∧ c.id.1 ≤ 4000000 ∧ -4000000 ≤ c.id.2 ∧ c.id.2 ≤ 4000000}
noncomputable instance : Inhabited BCl := ⟨⟨zcl, by decide⟩⟩
def encB (x : BCl) : List Value := encC x.1
def cfB (x y : BCl) : Int := if y.1.id.2 - x.1.id.2 ≠ 0 then y.1.id.2 - x.1.id.2 else y.1.id.1 - x.1.id.1
theorem ltB_ (x y : BCl) : ltOf cfB x y = bef x.1 y.1 := by
  rw [Bool.eq_iff_iff, bef_iff]
  unfold ltOf cfB
  simp only [decide_eq_true_eq]
  split <;> omega
theorem swoB : SWO (ltOf cfB) where
  irrefl x := by rw [ltB_]; cases h : bef x.1 x.1 with | false => rfl | true => exact (bef_asymm h h).elim
  trans x y z h1 h2 := by rw [ltB_] at *; exact bef_trans h1 h2
  ntrans x y z h1 h2 := by
    rw [ltB_] at *
    have a : ¬ bef x.1 y.1 = true := by rw [h1]; simp
    have b : ¬ bef y.1 z.1 = true := by rw [h2]; simp
    cases h : bef x.1 z.1 with
    | false => rfl
    | true => rw [bef_iff] at *; omega
set_option maxRecDepth 100000 in
set_option maxHeartbeats 4000000 in
theorem cmp_any (x y : BCl) (W : World) : Calls Try.prog 37 #[.agg (encB x).toArray, .agg (encB y).toArray] W fun e w' => e = .returned (.int .i64 (cfB x y)) ∧ ∃ q os', w' = grow (W.drewN q) os' := by
  obtain ⟨a, ha1, ha2, ha3, ha4⟩ := x
  obtain ⟨b, hb1, hb2, hb3, hb4⟩ := y
  show Calls Try.prog 37 #[.agg (clA a), .agg (clA b)] W fun e w' => e = .returned (.int .i64 (if b.id.2 - a.id.2 ≠ 0 then b.id.2 - a.id.2 else b.id.1 - a.id.1)) ∧ ∃ q os', w' = grow (W.drewN q) os'
  have kA : Blk ((W.alloc (.cells (clA a) 35)).alloc (.cells (clA b) 35)) W.heap.size 35 (clA a) := (Blk.new W _ _).alloc _
  have kB := Blk.new1 W (.cells (clA a) 35) 35 (clA b)
  obtain ⟨a0, a1, -, -, -⟩ := cl_cells kA
  obtain ⟨b0, b1, -, -, -⟩ := cl_cells kB
  have pq := or_any _ _ (b.id.2 - a.id.2) (b.id.1 - a.id.1) (Blk.new ((W.alloc (.cells (clA a) 35)).alloc (.cells (clA b) 35)) 3 #[.int .i64 (b.id.2 - a.id.2), .int .i64 (b.id.1 - a.id.1)])
  rw [show ((W.alloc (.cells (clA a) 35)).alloc (.cells (clA b) 35)).heap.size = W.heap.size + 1 + 1 by simp] at pq
  obtain ⟨R, hR⟩ : ∃ r, (if b.id.2 - a.id.2 ≠ 0 then b.id.2 - a.id.2 else b.id.1 - a.id.1) = r := ⟨_, rfl⟩
  rw [hR] at pq ⊢
  have P := Lib.hid pq
  clear pq hR
  have HW := Lib.hid (show ∃ q os', ((W.alloc (.cells (clA a) 35)).alloc (.cells (clA b) 35)).alloc (.cells #[.int .i64 (b.id.2 - a.id.2), .int .i64 (b.id.1 - a.id.1)] 3) = grow (W.drewN q) os' from ⟨0, _, by rw [alloc_eq_grow, alloc_eq_grow, alloc_eq_grow, grow_grow, grow_grow]; rfl⟩)
  have i1 : IntKind.i64.wrap (b.id.2 - a.id.2) = b.id.2 - a.id.2 := IntWalk.i64_in _ (by omega)
  have i2 : IntKind.i64.wrap (b.id.1 - a.id.1) = b.id.1 - a.id.1 := IntWalk.i64_in _ (by omega)
  clear kA kB
  generalize clA a = CA at *
  generalize clA b = CB at *
  go_enter Try.func37, Try.ntmps37
  go_wp2_with fail
  refine P.out.mono ?_
  rintro e w1 ⟨rfl, rfl⟩
  go_wp2
  go_ret
  exact ⟨rfl, HW.out⟩
theorem cmpLays (blk off size : Nat) (w : World) : CmpLays Try.prog 37 #[] encB 20 cfB blk off size w := fun _ _ _ _ x y => cmp_any x y _

/-! ### the sort -/
theorem flatK_list (T : Array BCl) : (flatK encB 20 T).toList = cls (T.toList.map Subtype.val) := by
  apply List.ext_getElem?
  intro t
  by_cases ht : t < T.size * 20
  · have h1 : (flatK encB 20 T)[t]! = (encB T[t / 20]!)[t % 20]! := get_flatK encB 20 T t ht
    have hsz : t < (flatK encB 20 T).size := by simpa using ht
    have hq : t / 20 < T.size := by omega
    have h2 : (T.toList.map Subtype.val)[t / 20]? = some T[t / 20]!.1 := by
      rw [List.getElem?_map, Array.getElem?_toList, Array.getElem?_eq_getElem hq, getElem!_pos T (t / 20) hq]; rfl
    have h3 := flat_at encC_len h2 (show t % 20 < 20 by omega)
    rw [show t / 20 * 20 + t % 20 = t by omega] at h3
    rw [Array.getElem?_toList, Array.getElem?_eq_getElem hsz, ← getElem!_pos (flatK encB 20 T) t hsz, h1]
    unfold cls
    rw [h3]
    have hlt : t % 20 < (encC T[t / 20]!.1).length := by rw [encC_len]; omega
    show some ((encC T[t / 20]!.1)[t % 20]!) = _
    rw [List.getElem?_eq_getElem hlt, getElem!_pos (encC T[t / 20]!.1) (t % 20) hlt]
  · rw [List.getElem?_eq_none (by simp; omega), List.getElem?_eq_none (by rw [cls_len]; simp; omega)]
theorem take_putCells (F cur : Array Value) (h : F.size ≤ cur.size) : (putCells id 0 F cur).toList.take F.size = F.toList := by
  apply List.ext_getElem?
  intro t
  rw [List.getElem?_take]
  by_cases ht : t < F.size
  · rw [if_pos ht, Array.getElem?_toList, Array.getElem?_toList]
    unfold putCells
    have hc : t < cur.size := by omega
    rw [Array.getElem?_mapIdx, Array.getElem?_eq_getElem hc, Array.getElem?_eq_getElem ht]
    simp [ht]
  · rw [if_neg ht, List.getElem?_eq_none (by simp; omega)]
theorem sort_any (w : World) (base : Nat) (v : Value) (S : List Cl) (hS : ∀ c ∈ S, -4000000 ≤ c.id.1 ∧ c.id.1 ≤ 4000000 ∧ -4000000 ≤ c.id.2 ∧ c.id.2 ≤ 4000000) (hu : Uq S) (hl : S.length ≤ 1000000) (hown : OwnCls w base v S) :
    Calls Try.prog 36 #[v, .func (.func 37) #[] #[]] w fun e w' => e = .returned (.tuple #[]) ∧ OwnCls w' base v (sortC S) ∧ Only (fun i => v.ownBlock = some i) w w' := by
  unfold OwnCls at hown
  rcases hown.2 with ⟨rfl, h0⟩ | ⟨g, cap, cur, rfl, hbase, hb, hn, hcap, hcs, htake⟩
  · have : S = [] := List.eq_nil_of_length_eq_zero h0
    subst this
    exact (AnyF.slices_SortFunc_none sortL none 0 _ w).mono fun e w' ⟨he, hw⟩ => ⟨he, World.ownsRow_nil _ _ _ _, hw ▸ Only.refl _ _⟩
  · have hg := (Array.getElem?_eq_some_iff.1 hb).1
    obtain ⟨T, hT⟩ : ∃ T : List BCl, T.map Subtype.val = S := ⟨S.pmap (fun s h => ⟨s, h⟩) hS, by rw [List.map_pmap]; simp⟩
    have hTl : T.length = S.length := by rw [← hT, List.length_map]
    have eg : ∀ args w, (callFunc 37 args).run Try.prog w = .ok (.enter 37 args) w := enters_of Try.func37 (by kernel_rfl) rfl
    have hfl := flatK_list T.toArray
    rw [List.toList_toArray, hT] at hfl
    have hsz : T.toArray.size = S.length := by simp [hTl]
    have hfs : (flatK encB 20 T.toArray).size = S.length * 20 := by rw [size_flatK, hsz]
    have hH : HoldsK encB 20 w g 0 T.toArray := fun j hj => by
      rw [hfs] at hj
      refine ⟨?_, hown.frozenAt (0 + j)⟩
      rw [Nat.zero_add, hown.cellAt j (by omega), ← hfl]
      show _ = some (id (flatK encB 20 T.toArray)[j]!)
      have hj2 : j < (flatK encB 20 T.toArray).size := by rw [hfs]; exact hj
      rw [Array.getElem?_toList, Array.getElem?_eq_getElem hj2, getElem!_pos _ j hj2]
      rfl
    have hcon := AnyQ.slices_SortFunc sortL 20 Try.isAgg35 Try.sizeOf35 encB (fun _ => rfl) (fun x v hv => encC_one x.1 v hv) cfB swoB 37 #[] g 0 cap T.toArray w eg (cmpLays g 0 _ w) hH hg (by omega)
    rw [hsz] at hcon
    refine Calls.mono hcon ?_
    rintro e w' ⟨rfl, d', n, os, hp, hs, rfl⟩
    obtain ⟨hp1, -, hp3⟩ := hp
    rw [hsz] at hp1
    have hperm : d'.toList.Perm T := by
      have e1 : d'.extract 0 S.length = d' := by rw [← hp1]; simp
      have e2 : T.toArray.extract 0 S.length = T.toArray := by rw [← hsz]; simp
      rw [e1, e2] at hp3
      simpa using hp3
    have hpS : (d'.toList.map Subtype.val).Perm S := by rw [← hT]; exact hperm.map _
    have hsrt : (d'.toList.map Subtype.val).Pairwise (fun a b => bef a b = true) := by
      have hud := hu.perm hpS.symm
      unfold Uq at hud
      rw [List.pairwise_map, List.pairwise_iff_getElem] at hud ⊢
      intro i j hi hj hij
      have hi' : i < d'.size := by simpa using hi
      have hj' : j < d'.size := by simpa using hj
      have h1 := hs i j (Nat.zero_le _) hij (by omega)
      have h2 := hud i j hi hj hij
      rw [ltB_, getElem!_pos d' i hi', getElem!_pos d' j hj'] at h1
      simp only [Array.getElem_toList] at h2 ⊢
      exact (bef_total h2).resolve_right (by rw [h1]; simp)
    have hsc : d'.toList.map Subtype.val = sortC S := sort_one hsrt (sortC_sorted hu) (hpS.trans (sortC_perm S).symm)
    have hfd := flatK_list d'
    rw [hsc] at hfd
    have hlen : (sortC S).length = S.length := (sortC_perm S).length_eq
    have hfds : (flatK encB 20 d').size = S.length * 20 := by rw [size_flatK, hp1]
    have hheap : (sortWorldK encB 20 w g 0 n d' os).heap[g]? = some (.cells (putCells id 0 (flatK encB 20 d') cur) 35 (0, 0)) := by
      show ((w.heap.modify g _) ++ os)[g]? = _
      rw [Array.getElem?_append_left (by simpa using hg), Array.getElem?_modify, if_pos rfl, hb]
      rfl
    refine ⟨rfl, ?_, rfl, rfl, rfl, size_sortWorldK_c encB 20 w g 0 n d' os, fun i hi hn => ?_⟩
    · unfold OwnCls
      rw [hlen]
      refine ⟨by rw [cls_len, hlen], .inr ⟨g, cap, _, rfl, hbase, hheap, hn, hcap, ?_, ?_⟩⟩
      · unfold putCells
        rw [Array.size_mapIdx]
        exact hcs
      · rw [← hfds, take_putCells _ _ (by rw [hfds, hcs]; exact Nat.mul_le_mul_right 20 hn), hfd]
    · have hne : i ≠ g := fun h => hn (by rw [h]; rfl)
      show ((w.heap.modify g _) ++ os)[i]? = _
      rw [Array.getElem?_append_left (by simpa using hi), Array.getElem?_modify, if_neg (fun h => hne h.symm)]
end Go.Proofs.Ytbihklfcdpgcgaa
