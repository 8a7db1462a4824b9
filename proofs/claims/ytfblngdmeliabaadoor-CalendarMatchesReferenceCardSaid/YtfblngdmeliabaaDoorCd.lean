/- Days on which offices are open, in package calendar: the map, a look-up, Work, from. -/
import Derived.Test.YtfblngdmeliabaaDoorCc
import Derived.Maps.Own
import Derived.Maps.OwnOps
import Derived.Maps.Views
namespace Go.Proofs.YtfblngdmeliabaaDoor
open Go.RowKit
open Go.Maps Go.ChangeMaps

/-- A slice of integers that came in. -/
def IntsAt (w : World) (B : Nat) (A : Option Addr) (l : List Int) : Prop :=
  ∀ (i : Nat) (v : Int), l[i]? = some v → ∃ g off, A = some ⟨g, off, none⟩ ∧ g < B ∧ w.cell? ⟨g, off + i, none⟩ = some (.int .i64 v)
theorem IntsAt.below {w w' : World} {B : Nat} {A : Option Addr} {l : List Int} (h : IntsAt w B A l) (hb : Below B w w') : IntsAt w' B A l := fun i v hi => by
  obtain ⟨g, off, hA, hg, hc⟩ := h i v hi
  exact ⟨g, off, hA, hg, (hb.cell (p := ⟨g, off + i, none⟩) hg).trans hc⟩
theorem IntsAt.wide {w : World} {B B' : Nat} {A : Option Addr} {l : List Int} (h : IntsAt w B A l) (hB : B ≤ B') : IntsAt w B' A l := fun i v hi => by
  obtain ⟨g, off, hA, hg, hc⟩ := h i v hi
  exact ⟨g, off, hA, Nat.lt_of_lt_of_le hg hB, hc⟩
def wf64 (x : Int) : Prop := -9223372036854775808 ≤ x ∧ x ≤ 9223372036854775807
theorem wf64_lit {x : Int} : (Lit.int .i64 x).wf = true ↔ wf64 x := by
  simp [Lit.wf, IntKind.min, IntKind.max, IntKind.signed, IntKind.bits, wf64]
/-- The datum of the closed days. -/
def clD (l : List Int) : DataW Unit := l.foldl (fun D d => D.put (.int .i64 d) (.lit (.bool true))) (.map [])
theorem clD_snoc (l : List Int) (d : Int) : clD (l ++ [d]) = (clD l).put (.int .i64 d) (.lit (.bool true)) := by unfold clD; rw [List.foldl_append]; rfl
theorem clD_map (l : List Int) : IsMap (clD l) ∧ ∀ x : Int, (clD l).atKey (.int .i64 x) (.lit (.bool false)) = .lit (.bool (decide (x ∈ l))) := by
  have key : ∀ k : Nat, k ≤ l.length → IsMap (clD (l.take k)) ∧ ∀ x : Int, (clD (l.take k)).atKey (.int .i64 x) (.lit (.bool false)) = .lit (.bool (decide (x ∈ l.take k))) := by
    intro k
    induction k with
    | zero => intro _; exact ⟨isMap_empty, fun x => by simp [clD]; rfl⟩
    | succ k ih =>
      intro hk
      obtain ⟨h1, h2⟩ := ih (by omega)
      rw [List.take_succ_eq_append_getElem (show k < l.length by omega), clD_snoc]
      refine ⟨h1.put _ _, fun x => ?_⟩
      by_cases hx : x = l[k]
      · rw [← hx, atKey_put_same (k := .int .i64 x) h1 (by exact trivial)]
        congr 2
        symm
        rw [decide_eq_true_eq, List.mem_append]
        right
        simp
      · rw [atKey_put_other (by intro e; injection e with _ e; exact hx e), h2 x]
        congr 2
        rw [decide_eq_decide, List.mem_append, List.mem_singleton]
        exact ⟨.inl, fun c => c.resolve_right hx⟩
  have := key l.length (Nat.le_refl _)
  rwa [List.take_length] at this

/-- Block b holds the map of the closed days. -/
def ClMap (w : World) (b n : Nat) (l : List Int) : Prop := w.ownsMap Tryd.prog 3 (plainElem Tryd.prog 4) b n (clD l)
theorem ClMap.below {w w' : World} {b n : Nat} {l : List Int} {B : Nat} (h : ClMap w b n l) (hb : Below B w w') (hB : b < B) : ClMap w' b n l := by
  obtain ⟨es, clock, h1, F, hs, hD⟩ := h
  exact ⟨es, clock, (hb.block b hB).trans h1, F, hs, hD⟩
theorem plainElem_bool_inv {H : Type} {P : Program} {e : TypeId} (he : P.underlying e = some .bool) {v : Value} {z : DataW H × List MemPlace} (h : plainElem P e v = some z) : ∃ x, v = .bool x ∧ z = (.lit (.bool x), []) := by
  unfold plainElem at h
  rw [he] at h
  cases v <;> simp at h
  subst h
  exact ⟨_, rfl, rfl⟩
set_option maxRecDepth 100000 in
theorem ClMap.look {w : World} {b n : Nat} {l : List Int} (h : ClMap w b n l) {x : Int} (hx : wf64 x) : (Instr.lookup 51 (.map (some b)) (.int .i64 x) false).run Tryd.prog w = .ok (.bool (decide (x ∈ l))) w := by
  have hz : (zeroValue 4).run Tryd.prog w = .ok (.bool false) w := by kernel_rfl
  obtain ⟨v, ps, hrun, hv⟩ := World.ownsMap.lookup h (int_keyed Tryd.underlying3) Tryd.underlying51 hz (plainElem_bool Tryd.underlying4 false) (keyOf_int_mk Tryd.underlying3 (wf64_lit.2 hx))
  obtain ⟨c, rfl, hc⟩ := plainElem_bool_inv Tryd.underlying4 hv
  rw [(clD_map l).2 x] at hc
  injection hc with hc _
  injection hc with hc
  injection hc with hc
  rw [hrun, hc]

set_option maxHeartbeats 400000 in
theorem closed_any (w : World) (B : Nat) (A : Option Addr) (l : List Int) (c : Nat) (h : IntsAt w B A l) (hB : B ≤ w.heap.size) (hl : l.length ≤ 4611686018427387904) (hw : ∀ x ∈ l, wf64 x) :
    Calls Tryd.prog 31 #[.slice A l.length c] w fun e w' => e = .returned (.map (some w.heap.size)) ∧ ClMap w' w.heap.size l.length l ∧ Below w.heap.size w w' := by
  have hmm := @run_makeMap Tryd.prog
  go_enter Tryd.func31, Tryd.ntmps31
  go_wp2_with fail
  go_loopw [9] (fun i wr => ∃ k : Nat, k ≤ l.length ∧ i = .int .i64 (k : Int) ∧ ClMap wr w.heap.size k (l.take k) ∧ Below w.heap.size w wr) (fun i _ => l.length - (intOf i).toNat)
  case atStart => exact ⟨0, Nat.zero_le _, rfl, World.ownsMap_made _ _ _ _, (Below.refl _ _).alloc (Nat.le_refl _) _⟩
  case round =>
    obtain ⟨k, hk, rfl, hown, hnx⟩ := hrel
    by_cases hlt : k < l.length
    · obtain ⟨x, hx⟩ : ∃ x, l[k]? = some x := ⟨_, List.getElem?_eq_getElem hlt⟩
      have hwx := hw x (List.mem_of_getElem? hx)
      obtain ⟨g, off, hA, hg, hc⟩ := h k x hx
      subst hA
      have hcell := (hnx.cell (p := ⟨g, off + k, none⟩) (by show g < w.heap.size; omega)).trans hc
      have hkey := keyOf_int_mk Tryd.underlying3 (wf64_lit.2 hwx)
      have HX := Lib.hid hx
      have hsn : clD (l.take (k + 1)) = (clD (l.take k)).put (.int .i64 x) (.lit (.bool true)) := by
        obtain ⟨hk', hx'⟩ := List.getElem?_eq_some_iff.1 hx
        rw [List.take_succ_eq_append_getElem hk', clD_snoc, hx']
      have HSN := Lib.hid hsn
      clear hx hc hsn
      unfold ClMap at hown
      go_wp2_with (at_mapUpdate; refine wpList_mapUpdate_own _ rfl _ _ _ 51 rfl 3 4 (int_keyed Tryd.underlying3) Tryd.underlying51 _ w.heap.size k _ rfl hown (by unfold maxLen; omega) _ _ _ rfl rfl hkey _ [] (plainElem_bool Tryd.underlying4 true) ?_; intro w1 hown1 hgrow1)
      go_roundw
      case rel => exact ⟨k + 1, by omega, by go_num, (by unfold ClMap; rw [HSN.out]; exact hown1), hnx.grown hgrow1 hnx.size (fun j hj => by cases hj; exact Nat.le_refl _)⟩
      case measure => simp [intOf]; omega
    · obtain rfl : k = l.length := by omega
      rw [List.take_length] at hown
      go_wp2
      go_ret
      exact ⟨rfl, hown, hnx⟩

/-- Whether offices are open on a day. -/
def opB (l : List Int) (n : Int) : Bool := isB n && decide (wkd n < 5) && !decide (n ∈ l)
theorem opB_iff (l : List Int) (n : Int) : opB l n = true ↔ 0 ≤ n ∧ n ≤ 1000000 ∧ (n + 5) % 7 < 5 ∧ n ∉ l := by
  unfold opB wkd
  by_cases h : isB n = true
  · obtain ⟨h0, h1⟩ := (isB_iff n).1 h
    simp [h, h0, h1]
  · have h' : isB n = false := by simpa using h
    have h2 : ¬ (0 ≤ n ∧ n ≤ 1000000) := fun c => h ((isB_iff n).2 c)
    simp only [h', Bool.false_and, Bool.false_eq_true, false_iff]
    intro c
    exact h2 ⟨c.1, c.2.1⟩

set_option maxRecDepth 100000 in
set_option maxHeartbeats 400000 in
theorem open_any (w : World) (b k : Nat) (l : List Int) (h : ClMap w b k l) (n : Int) :
    Calls Tryd.prog 32 #[.map (some b), .int .i64 n] w fun e w' => e = .returned (.bool (opB l n)) ∧ w = w' := by
  cases hi : isB n with
  | false =>
    have e : opB l n = false := by unfold opB; rw [hi]; rfl
    rw [e]
    have HI := Lib.hid hi
    clear hi e
    go_enter Tryd.func32, Tryd.ntmps32
    go_wp2_with fail
    refine (is_any _ n).mono ?_
    rintro e w1 ⟨rfl, rfl⟩
    rw [HI.out]
    go_wp2
    go_ret
    exact ⟨rfl, rfl⟩
  | true =>
    have hn := (isB_iff n).1 hi
    have hk := h.look (x := n) (by unfold wf64; omega)
    obtain ⟨c, hc⟩ : ∃ c, decide (n ∈ l) = c := ⟨_, rfl⟩
    have e : opB l n = (decide (wkd n < 5) && !c) := by unfold opB; rw [hi, hc]; rfl
    rw [hc] at hk
    rw [e]
    have HI := Lib.hid hi
    clear hi e hc
    by_cases h5 : wkd n < 5
    · rw [show decide (wkd n < 5) = true by simpa using h5]
      go_enter Tryd.func32, Tryd.ntmps32
      go_wp2_with fail
      refine (is_any _ n).mono ?_
      rintro e w1 ⟨rfl, rfl⟩
      rw [HI.out]
      go_wp2_with fail
      refine (weekday_any _ n).mono ?_
      rintro e w1 ⟨rfl, rfl⟩
      cases c with
      | false =>
        go_wp2
        go_ret
        exact ⟨rfl, rfl⟩
      | true =>
        go_wp2
        go_ret
        exact ⟨rfl, rfl⟩
    · rw [show decide (wkd n < 5) = false by simpa using h5]
      go_enter Tryd.func32, Tryd.ntmps32
      go_wp2_with fail
      refine (is_any _ n).mono ?_
      rintro e w1 ⟨rfl, rfl⟩
      rw [HI.out]
      go_wp2_with fail
      refine (weekday_any _ n).mono ?_
      rintro e w1 ⟨rfl, rfl⟩
      go_wp2
      go_ret
      exact ⟨rfl, rfl⟩

theorem work_any (w : World) (B : Nat) (A : Option Addr) (l : List Int) (c : Nat) (h : IntsAt w B A l) (hB : B ≤ w.heap.size) (hl : l.length ≤ 4611686018427387904) (hw : ∀ x ∈ l, wf64 x) (n : Int) :
    Calls Tryd.prog 17 #[.int .i64 n, .slice A l.length c] w fun e w' => e = .returned (.bool (opB l n)) ∧ Below w.heap.size w w' := by
  go_enter Tryd.func17, Tryd.ntmps17
  go_wp2_with fail
  refine (closed_any w B A l c h hB hl hw).mono ?_
  rintro e w1 ⟨rfl, hm, hb⟩
  go_wp2_with fail
  refine (open_any _ _ _ _ hm n).mono ?_
  rintro e w2 ⟨rfl, rfl⟩
  go_wp2
  go_ret
  exact ⟨rfl, hb⟩
end Go.Proofs.YtfblngdmeliabaaDoor
