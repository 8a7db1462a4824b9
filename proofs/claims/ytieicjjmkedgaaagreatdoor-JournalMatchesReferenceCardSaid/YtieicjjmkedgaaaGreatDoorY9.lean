/- Part 9 of what the laws of this seat stand on: Py, Pz, Ni, Sa, Sb, Sc. -/
import Derived.Test.YtieicjjmkedgaaaGreatDoorY8
import Derived.Deep.CutBlock
import Derived.Deep.RegionLaw
import Derived.Deep.RegionHeld3

/- A great region that draws its order, walked in stages one at a time, each with its own small check. Over any program. -/
namespace Go.Proofs.YtieicjjmkedgaaaGreatDoor
open Go.RowKit

section
variable {P : Program} {ops : Array Oper} {md : Region.Mode} {Q : Exit → Act → World → Prop}

/-- Operation j waits for operation i. -/
def Waits (md : Region.Mode) (ops : Array Oper) (i j : Nat) : Prop := ∀ listed : Array Bool, Closed md ops listed → listed.getD i false = false → listed.getD j false = false ∧ j ∉ Region.ready md ops listed
/-- A table of operations that wait for g: each waits for g itself or for an earlier one of the table. -/
def markB (md : Region.Mode) (ops : Array Oper) (g : Nat) (marks : List Nat) : Bool := marks.all fun t => match ops[t]? with
  | some o => o.after.any fun e => Region.binds md e && decide (e.on < t) && (e.on == g || marks.contains e.on)
  | none => false
theorem mark_waits {g : Nat} {marks : List Nat} (h : markB md ops g marks = true) : ∀ (n t : Nat), t < n → t ∈ marks → Waits md ops g t
  | 0, _, h0, _ => by omega
  | n + 1, t, h0, ht => by
    intro listed hc hg
    have h1 := List.all_eq_true.1 h t ht
    cases ho : ops[t]? with
    | none => rw [ho] at h1; cases h1
    | some o =>
      rw [ho] at h1
      obtain ⟨e, he, hb⟩ := Array.any_eq_true'.1 h1
      simp only [Bool.and_eq_true, Bool.or_eq_true, beq_iff_eq, decide_eq_true_eq] at hb
      have hon : listed.getD e.on false = false := by
        rcases hb.2 with h2 | h2
        · rw [h2]; exact hg
        · exact (mark_waits h n e.on (by omega) (List.contains_iff_mem.1 h2) listed hc hg).1
      refine ⟨?_, fun hr => ?_⟩
      · cases hl : listed.getD t false with
        | false => rfl
        | true => rw [hc t o ho hl e he hb.1.1] at hon; cases hon
      · obtain ⟨_, o', ho', hall⟩ := mem_ready.1 hr
        have : o' = o := Option.some.inj (ho'.symm.trans ho)
        subst this
        rw [hall e he hb.1.1] at hon
        cases hon

theorem wpAnyE_firstW {S : World → Prop} {late : Nat → Bool} {i : Nat} {oi : Oper} {v : Value} (hi : ops[i]? = some oi) (hsel : ∀ (j : Nat) (o : Oper) cs b, ops[j]? = some o → o.op ≠ .select cs b)
    (hQ : ∀ c a w, Q (.panic c) (a.put oi.dst v) w → Q (.panic c) a w) (hlate : ∀ j, late j = true → Waits md ops i j) (hli : late i = false) :
    ∀ (fuel : Nat) (listed : Array Bool) (a : Act) (w : World), Closed md ops listed →
      (∀ j oj, ops[j]? = some oj → j ≠ i → listed.getD j true = false → (∀ e ∈ oj.after, Region.binds md e = true → e.on ≠ i) → oi.apart ops oj = true) →
      i ∈ Region.ready md ops listed → YieldsIf P ops S oi v a → S w →
      wpAnyE P md ops Q S late fuel (listed.setIfInBounds i true) (a.put oi.dst v) w → wpAnyE P md ops Q S late (fuel + 1) listed a w := by
  intro fuel
  induction fuel with
  | zero =>
    intro listed a w hc _ hr hy hS H
    refine ⟨fun h => (by rw [h] at hr; cases hr), fun j hj => ?_⟩
    by_cases hji : j = i
    · subst hji; exact hy.wpOp hi hS ⟨fun _ => hS, H⟩
    · have := ready_mono hj hji
      rw [H.1] at this
      cases this
  | succ fuel ih =>
    intro listed a w hc hfree hr hy hS H
    refine ⟨fun h => (by rw [h] at hr; cases hr), fun j hj => ?_⟩
    by_cases hji : j = i
    · subst hji; exact hy.wpOp hi hS ⟨fun _ => hS, H⟩
    · have h1 := H.2 j (ready_mono hj hji)
      have hun := (mem_ready.1 hr).1
      have hlj : late j = false := by
        cases hl : late j with
        | false => rfl
        | true => exact absurd hj (hlate j hl listed hc (getD_both hun)).2
      obtain ⟨hjun, oj, hoj, hall⟩ := mem_ready.1 hj
      have hnot : ∀ e ∈ oj.after, Region.binds md e = true → e.on ≠ i := fun e he hb heq => by
        have h1 := hall e he hb
        rw [heq, getD_both hun] at h1
        cases h1
      have h2 := wpOp_putIf hoj (hfree j oj hoj hji hjun hnot) (fun cs b => hsel i oi cs b hi) (fun cs b => hsel j oj cs b hoj) hQ hy h1
      have hfree' : ∀ k ok, ops[k]? = some ok → k ≠ i → (listed.setIfInBounds j true).getD k true = false →
          (∀ e ∈ ok.after, Region.binds md e = true → e.on ≠ i) → oi.apart ops ok = true := fun k ok hk hki hun hno => by
        refine hfree k ok hk hki ?_ hno
        by_cases hjk : j = k
        · subst hjk; exact hjun
        · rw [getD_set_ne true hjk] at hun; exact hun
      refine wpOp_mono (fun a' w' h3 => ⟨fun _ => h3.2.1 hlj, ih (listed.setIfInBounds j true) a' w' (hc.set hj) hfree' (ready_mono hr (Ne.symm hji)) h3.1 (h3.2.1 hlj) ?_⟩) h2
      rw [Array.setIfInBounds_comm _ _ hji]
      exact h3.2.2
theorem wpAnyE_heldW {w : World} {l : List Oper} {S : World → Prop} {late : Nat → Bool} {K : Act → Prop} {hs : List Nat} {listed2 : Array Bool} {g : Nat} (hsel : Region.noSelect l.toArray = true) (hQ : ∀ c (d : Option Tmp) (v : Value) a w, Q (.panic c) (a.put d v) w → Q (.panic c) a w)
    (hlate : ∀ j i, i ∈ hs → late j = true → Waits md l.toArray i j) (hln : ∀ i ∈ hs, late i = false) (hS : S w)
    (hK : ∀ a, K a → wpAnyE P md l.toArray Q S late g listed2 a w) :
    ∀ (ks : List Nat) (listed : Array Bool) (a : Act), (∀ k ∈ ks, k ∈ hs) → Closed md l.toArray listed → headB md l.toArray ks listed = some listed2 →
    wpHeld P l.toArray S K (pick l ks) a → wpAnyE P md l.toArray Q S late (ks.length + g) listed a w
  | [], listed, a, _, _, hB, h => by
    simp only [headB, Option.some.injEq] at hB
    subst hB
    rw [List.length_nil, Nat.zero_add]
    exact hK a h
  | k :: ks, listed, a, hk, hc, hB, h => by
    unfold headB at hB
    split at hB
    · rename_i hrf
      simp only [Bool.and_eq_true] at hrf
      have hr' : k ∈ Region.ready md l.toArray listed := by simpa using hrf.1
      obtain ⟨_, o, h0, _⟩ := mem_ready.1 hr'
      have hp : pick l (k :: ks) = o :: pick l ks := by
        have : l[k]? = some o := by simpa using h0
        simp [pick, this]
      rw [hp] at h
      obtain ⟨v, hy, hr⟩ := h
      rw [show (k :: ks).length + g = (ks.length + g) + 1 by simp; omega]
      exact wpAnyE_firstW h0 (Region.noSelect_spec hsel) (fun c a w => hQ c _ _ a w) (fun j => hlate j k (hk k (by simp))) (hln k (hk k (by simp))) _ listed a w hc (Region.free_spec h0 hrf.2) hr' hy hS
        (wpAnyE_heldW hsel hQ hlate hln hS hK ks _ _ (fun k' h' => hk k' (by simp [h'])) (hc.set hr') hB hr)
    · cases hB

/-- The region, walked as far as 'listed'. -/
structure GoodR (l : List Oper) (listed : Array Bool) : Prop where
  sel : Region.noSelect l.toArray = true
  closed : Closed .any l.toArray listed
  size : listed.size = l.length
def At (P : Program) (l : List Oper) (Q : Exit → Act → World → Prop) (n : Nat) (listed : Array Bool) (a : Act) (w : World) : Prop :=
  (∀ c (d : Option Tmp) (v : Value) a w, Q (.panic c) (a.put d v) w → Q (.panic c) a w) → GoodR l listed → wpAny P .any l.toArray Q n listed a w
variable {l : List Oper} {listed l2 l3 : Array Bool} {a : Act} {w : World} {n N : Nat}
theorem at_end (hB : Region.ready .any l.toArray listed = []) (h : Q .normal a w) : At P l Q 0 listed a w := fun _ _ => ⟨hB, h⟩
theorem at_free (hs : List Nat) (l2 : Array Bool) (n : Nat) (hN : hs.length + n = N) (hB : headB .any l.toArray hs listed = some l2) (h : wpHeld P l.toArray (fun _ => True) (fun a' => At P l Q n l2 a' w) (pick l hs) a) : At P l Q N listed a w := by
  subst hN
  intro hQ hg
  have hg2 : GoodR l l2 := ⟨hg.sel, headB_closed _ _ _ hg.closed hB, by rw [← headB_set _ _ _ hB, size_setAll]; exact hg.size⟩
  exact wpAny_of_E _ _ _ _ (wpAnyE_held (P := P) (Q := Q) (md := .any) (w := w) (S := fun _ => True) (late := fun _ => false) (hs := hs) (g := n) hg.sel hQ (fun _ _ _ h => by cases h) (fun _ _ => rfl) trivial
    (fun a' ha' => wpAnyE_any (fun _ => trivial) _ _ _ _ (ha' hQ hg2)) hs listed a (fun k hk => hk) hg.closed hB h)
theorem at_run (ts : List Nat) (l2 : Array Bool) (n : Nat) (hN : ts.length + n = N) (hB : onesB l.toArray ts listed = some l2) (h : wpList P l.toArray (Exit.then (fun a' w' => At P l Q n l2 a' w') Q) (pick l ts) a w) : At P l Q N listed a w := by
  subst hN
  intro hQ hg
  have hg2 : GoodR l l2 := ⟨hg.sel, onesB_closed _ _ _ hg.closed hB, by rw [← onesB_set _ _ _ hB, size_setAll]; exact hg.size⟩
  exact wpAny_ones (fun a' w' h' => h' hQ hg2) ts listed a w hB h
/-- 'marks': for each read, a table of operations that wait for it; all that is left is in each table. -/
def leftB (m : Nat) (l3 : Array Bool) (hs : List Nat) (marks : List (List Nat)) : Bool := (List.range m).all fun j => l3.getD j false || (!hs.contains j && marks.all fun ms => ms.contains j)
theorem at_hold (S : World → Prop) (hs es : List Nat) (marks : List (List Nat)) (l2 l3 : Array Bool) (n : Nat) (hN : hs.length + (es.length + n) = N) (hB : headB .any l.toArray hs listed = some l2) (hE : onesB l.toArray es l2 = some l3)
    (hM : ((List.zip hs marks).all fun p => markB .any l.toArray p.1 p.2) = true) (hZ : hs.length = marks.length) (hL : leftB l.length l3 hs marks = true) (hS : S w)
    (h : wpHeld P l.toArray S (fun a' => wpEarly P l.toArray S Q (fun a w => At P l Q n l3 a w) (pick l es) a' w) (pick l hs) a) : At P l Q N listed a w := by
  subst hN
  intro hQ hg
  have hc2 := headB_closed _ _ _ hg.closed hB
  have hz2 : l2.size = l.length := by rw [← headB_set _ _ _ hB, size_setAll]; exact hg.size
  have hg3 : GoodR l l3 := ⟨hg.sel, onesB_closed _ _ _ hc2 hE, by rw [← onesB_set _ _ _ hE, size_setAll]; exact hz2⟩
  have hall : ∀ j, j < l.length → l3.getD j false = false → j ∉ hs ∧ ∀ ms ∈ marks, j ∈ ms := fun j hj hl => by
    have := List.all_eq_true.1 hL j (List.mem_range.2 hj)
    rw [hl] at this
    simp only [Bool.false_or, Bool.and_eq_true, Bool.not_eq_true', List.all_eq_true] at this
    exact ⟨fun hm => (by rw [List.contains_iff_mem.2 hm] at this; exact absurd this.1 (by simp)), fun ms hms => List.contains_iff_mem.1 (this.2 ms hms)⟩
  refine wpAny_of_E _ _ _ _ (wpAnyE_heldW (P := P) (Q := Q) (md := .any) (w := w) (S := S) (late := fun j => decide (j < l.length) && !l3.getD j false) (hs := hs) (g := es.length + n) hg.sel hQ
    (fun j i hi hj => ?_) (fun i hi => ?_) hS
    (fun a' ha' => wpAnyE_ones (fun a2 w2 h2 => wpAnyE_late _ _ _ _ (fun j hj hjl => ?_) (h2 hQ hg3)) es l2 a' w hE ha') hs listed a (fun k hk => hk) hg.closed hB h)
  · simp only [Bool.and_eq_true, decide_eq_true_eq, Bool.not_eq_true'] at hj
    obtain ⟨_, hm⟩ := hall j hj.1 hj.2
    obtain ⟨x, hx⟩ := List.getElem?_of_mem hi
    obtain ⟨hxl, hxe⟩ := List.getElem?_eq_some_iff.1 hx
    have hmx : marks[x]? = some (marks[x]'(by omega)) := List.getElem?_eq_getElem (by omega)
    have hp : (i, marks[x]'(by omega)) ∈ List.zip hs marks := by
      apply List.mem_of_getElem? (i := x)
      rw [List.getElem?_zip_eq_some]
      exact ⟨hx, hmx⟩
    exact mark_waits (List.all_eq_true.1 hM _ hp) (j + 1) j (by omega) (hm _ (List.mem_of_getElem? hmx))
  · cases hq : (decide (i < l.length) && !l3.getD i false) with
    | false => rfl
    | true =>
      simp only [Bool.and_eq_true, decide_eq_true_eq, Bool.not_eq_true'] at hq
      exact absurd hi (hall i hq.1 hq.2).1
  · have hj2 : j < l.length := by simpa using hj
    simp [hj2, hjl]
theorem wp_region_at {id : Nat} (hm : P.follows .mixedOrders = true) (hB : Region.noSelect l.toArray = true) (hQ : ∀ c (d : Option Tmp) (v : Value) a w, Q (.panic c) (a.put d v) w → Q (.panic c) a w) (hN : l.length = N) (l0 : Array Bool) (h0 : Array.replicate l.length false = l0)
    (h : At P l Q N l0 a w.drew) : (Code.region id l.toArray true).wp P Q a w := by
  subst hN h0
  have hc0 : Closed .any l.toArray (Array.replicate l.length false) := fun j oj _ hl => by rw [getD_replicate_false] at hl; cases hl
  refine wp_region_any hm ?_
  have k := h hQ ⟨hB, hc0, by simp⟩
  have hsz : l.toArray.size = l.length := by simp
  rw [hsz]
  exact k
end
end Go.Proofs.YtieicjjmkedgaaaGreatDoor

/- A region that draws its order, all of whose operations keep S: those that make memory or call come by any turns; reads that hold as long as S does are taken at once. Over any program. -/
namespace Go.Proofs.YtieicjjmkedgaaaGreatDoor
open Go.RowKit

section
variable {P : Program} {Q : Exit → Act → World → Prop} {S : World → Prop}
/-- The region, walked as far as 'listed'; what is left keeps S. -/
def AtS (P : Program) (l : List Oper) (Q : Exit → Act → World → Prop) (S : World → Prop) (n : Nat) (listed : Array Bool) (a : Act) (w : World) : Prop :=
  (∀ c (d : Option Tmp) (v : Value) a w, Q (.panic c) (a.put d v) w → Q (.panic c) a w) → GoodR l listed → wpAnyE P .any l.toArray Q S (fun _ => false) n listed a w
variable {l : List Oper} {listed l2 : Array Bool} {a : Act} {w : World} {n N : Nat}
theorem ats_end (hB : Region.ready .any l.toArray listed = []) (h : Q .normal a w) : AtS P l Q S 0 listed a w := fun _ _ => ⟨hB, h⟩
theorem ats_take (hs : List Nat) (n : Nat) (hN : hs.length + n = N) (hB : (headB .any l.toArray hs listed).isSome = true) (hS : S w) (h : wpHeld P l.toArray S (fun a' => AtS P l Q S n (setAll hs listed) a' w) (pick l hs) a) : AtS P l Q S N listed a w := by
  subst hN
  intro hQ hg
  obtain ⟨l2, hB⟩ := Option.isSome_iff_exists.1 hB
  rw [headB_set _ _ _ hB] at h
  have hg2 : GoodR l l2 := ⟨hg.sel, headB_closed _ _ _ hg.closed hB, by rw [← headB_set _ _ _ hB, size_setAll]; exact hg.size⟩
  exact wpAnyE_held (P := P) (Q := Q) (md := .any) (w := w) (S := S) (late := fun _ => false) (hs := hs) (g := n) hg.sel hQ (fun _ _ _ h => by cases h) (fun _ _ => rfl) hS
    (fun a' ha' => ha' hQ hg2) hs listed a (fun k hk => hk) hg.closed hB h
theorem ats_step (h0 : Region.ready .any l.toArray listed ≠ []) (h : ∀ i ∈ Region.ready .any l.toArray listed, wpList P l.toArray (Exit.then (fun a' w' => S w' ∧ AtS P l Q S n (listed.setIfInBounds i true) a' w') Q) (pick l [i]) a w) : AtS P l Q S (n + 1) listed a w := fun hQ hg => by
  refine ⟨fun he => absurd he h0, fun i hi => ?_⟩
  obtain ⟨_, o, ho, _⟩ := mem_ready.1 hi
  have hp : pick l [i] = [o] := by
    have : l[i]? = some o := by simpa using ho
    simp [pick, this]
  have h2 := h i hi
  rw [hp] at h2
  exact wpOp_mono (fun a' w' h' => ⟨fun _ => h'.1, h'.2 hQ ⟨hg.sel, hg.closed.set hi, by rw [Array.size_setIfInBounds]; exact hg.size⟩⟩) (wpOp_of_one ho h2)
theorem ats_one (i : Nat) (hr : Region.ready .any l.toArray listed = [i]) (h : wpList P l.toArray (Exit.then (fun a' w' => S w' ∧ AtS P l Q S n (listed.setIfInBounds i true) a' w') Q) (pick l [i]) a w) : AtS P l Q S (n + 1) listed a w :=
  ats_step (by rw [hr]; simp) fun j hj => by rw [hr] at hj; simp at hj; subst hj; exact h
theorem ats_two (i k : Nat) (hr : Region.ready .any l.toArray listed = [i, k])
    (h : wpList P l.toArray (Exit.then (fun a' w' => S w' ∧ AtS P l Q S n (listed.setIfInBounds i true) a' w') Q) (pick l [i]) a w)
    (k' : wpList P l.toArray (Exit.then (fun a' w' => S w' ∧ AtS P l Q S n (listed.setIfInBounds k true) a' w') Q) (pick l [k]) a w) : AtS P l Q S (n + 1) listed a w :=
  ats_step (by rw [hr]; simp) fun j hj => by
    rw [hr] at hj
    simp only [List.mem_cons, List.not_mem_nil, or_false] at hj
    rcases hj with rfl | rfl <;> assumption
theorem wp_region_ats {id : Nat} (S : World → Prop) (hm : P.follows .mixedOrders = true) (hB : Region.noSelect l.toArray = true) (hQ : ∀ c (d : Option Tmp) (v : Value) a w, Q (.panic c) (a.put d v) w → Q (.panic c) a w) (hN : l.length = N)
    (h : AtS P l Q S N (Array.replicate N false) a w.drew) : (Code.region id l.toArray true).wp P Q a w := by
  subst hN
  have hc0 : Closed .any l.toArray (Array.replicate l.length false) := fun j oj _ hl => by rw [getD_replicate_false] at hl; cases hl
  refine wp_region_any hm ?_
  have k := wpAny_of_E _ _ _ _ (h hQ ⟨hB, hc0, by simp⟩)
  have hsz : l.toArray.size = l.length := by simp
  rw [hsz]
  exact k
end
end Go.Proofs.YtieicjjmkedgaaaGreatDoor

/- The reference: Parse. -/
namespace Go.Proofs.YtieicjjmkedgaaaGreatDoor
open Go.RowKit Go.Shelf

set_option maxRecDepth 100000 in
set_option maxHeartbeats 8000000 in
theorem rparse_any (w : World) (t : List UInt8) (hl : t.length ≤ 1000000) : Calls Tryz.prog 43 #[.string (bs t)] w (ParsePost w (parseR t)) := by
  obtain ⟨i0, hi0, hz0, hz1, hz2⟩ := info_parts Tryz.infoStr
  obtain ⟨R, hR⟩ : ∃ R, parseR t = R := ⟨_, rfl⟩
  rw [hR]
  have HR := Lib.hid hR
  clear hR
  have hw0 : OwnStrs w w.heap.size (.slice none 0 0) [] := OwnStrs.nil _ _
  go_enter Tryz.func43, Tryz.ntmps43
  go_wp2_with fail
  go_loopw [0, 4] (fun s v wr => ∃ (m : List UInt8) (rs : List (List UInt8)) (A : Option Addr) (c : Nat), s = .string (bs m) ∧ v = .slice A rs.length c ∧ Hid (OwnStrs wr w.heap.size (.slice A rs.length c) rs) ∧ Hid (R = (parseR m).map (fun x => rs ++ x)) ∧ m.length + rs.length ≤ t.length ∧ Hid (Below w.heap.size w wr)) (fun s _ _ => strSize s)
  case atStart => exact ⟨t, [], none, 0, rfl, rfl, Lib.hid hw0, Lib.hid (by rw [HR.out]; cases R <;> rfl), by simp, Lib.hid (Below.refl _ _)⟩
  case round =>
    clear hw0 HR
    obtain ⟨m, rs, A, c, rfl, rfl, OW, HM, hml, HB⟩ := hrel
    have hsz := bs_size m
    by_cases h0 : m = []
    · subst h0
      have hfin : R = some rs := by have := HM.out; rw [parseR_nil] at this; simpa using this
      subst hfin
      clear HM
      go_wp2
      go_ret2
      exact ⟨HB.out, _, _, rfl, OW.out⟩
    have hpos : 0 < m.length := List.length_pos_iff.2 h0
    have hpos2 : (0 : Int) < (m.length : Int) := by omega
    have hm1 : (m.length : Int) ≤ 1000000 := by omega
    have H0 := Lib.hid h0
    clear h0
    obtain ⟨we, rfl⟩ : ∃ x, x = wr := ⟨wr, rfl⟩
    go_upto_block 2 with fail
    obtain ⟨K, hK⟩ : ∃ K, colS m = K := ⟨_, rfl⟩
    have HK := Lib.hid hK
    obtain ⟨hK5, hKl⟩ := colS_le m
    rw [hK] at hK5 hKl
    clear hK
    go_cut [5] from 10 to 25 (fun v wx => v = .int .i64 (K : Int) ∧ wx = we)
    case first =>
      go_wp2_with fail
      go_loopw [5] (fun v wx => wx = we ∧ ∃ k : Nat, k ≤ K ∧ v = .int .i64 (k : Int)) (fun v _ => 5 - (intOf v).toNat)
      case atStart => exact ⟨rfl, 0, Nat.zero_le _, rfl⟩
      case round =>
        obtain ⟨hwr, k, hk, rfl⟩ := hrel
        have hwr := hwr.symm
        subst hwr
        by_cases hkm : k < m.length
        · obtain ⟨b, hb⟩ : ∃ b, m[k]? = some b := ⟨_, List.getElem?_eq_getElem hkm⟩
          have hin3 : k < (bs m).size := by rw [bs_size]; exact hkm
          have hget : (bs m)[k] = b := by
            obtain ⟨h1, h2⟩ := List.getElem?_eq_some_iff.1 hb
            rw [← h2]
            rfl
          have hki : (k : Int) < (m.length : Int) := by omega
          have hb255 := b.toNat_lt
          by_cases h5 : k < 5
          · have h5i : (k : Int) < 5 := by omega
            by_cases h58 : b = 58
            · have hkK : k = K := by rw [← HK.out]; exact colS_end (by rw [HK.out]; exact hk) (.inr (.inr (by rw [hb, h58])))
              have e58 : ((b.toNat : Int) != 58) = false := by rw [h58]; rfl
              clear hb h58 hk
              subst hkK
              go_wp2_with fail
              go_meet
              exact ⟨rfl, by first | trivial | rfl⟩
            · have hkK : k < K := by rw [← HK.out]; exact colS_go (by rw [HK.out]; exact hk) h5 hb h58
              have e58 : ((b.toNat : Int) != 58) = true := by
                have : b.toNat ≠ 58 := fun e => h58 (UInt8.toNat_inj.1 e)
                have h2 : (b.toNat : Int) ≠ 58 := by omega
                simpa using h2
              have HKK := Lib.hid hkK
              clear hb h58 hk hkK
              go_wp2_with fail
              exact ⟨⟨by first | trivial | rfl, k + 1, HKK.out, by go_num⟩, by have := HKK.out; simp [intOf]; omega⟩
          · have hkK : k = K := by rw [← HK.out]; exact colS_end (by rw [HK.out]; exact hk) (.inl (by omega))
            have h5i : ¬ (k : Int) < 5 := by omega
            clear hb hk
            subst hkK
            go_wp2_with fail
            go_meet
            exact ⟨rfl, by first | trivial | rfl⟩
        · have hkK : k = K := by rw [← HK.out]; exact colS_end (by rw [HK.out]; exact hk) (.inr (.inl (by omega)))
          have hki : ¬ (k : Int) < (m.length : Int) := by omega
          clear hk
          subst hkK
          go_wp2_with fail
          go_meet
          exact ⟨rfl, by first | trivial | rfl⟩
    case rest =>
      obtain ⟨rfl, hwc⟩ := hcut
      have hwc := hwc.symm
      subst hwc
      by_cases h58 : m[K]? = some 58
      · have hKm : K < m.length := (List.getElem?_eq_some_iff.1 h58).1
        have hin3 : K < (bs m).size := by rw [bs_size]; exact hKm
        have hget : (bs m)[K] = (58 : UInt8) := by
          obtain ⟨h1, h2⟩ := List.getElem?_eq_some_iff.1 h58
          rw [← h2]
          rfl
        have hKi : ¬ (m.length : Int) ≤ (K : Int) := by omega
        have e58 : (((58 : UInt8).toNat : Int) != 58) = false := rfl
        have s1 := sl_to m K hKl
        have hal : (m.take K).length ≤ 8 := by rw [List.length_take]; omega
        have hst := rparse_step (t := m) (by rw [HK.out]; exact h58)
        rw [HK.out] at hst
        have PN := Lib.hid (fun W => rnumber_any W (m.take K) hal)
        obtain ⟨a, ha⟩ : ∃ a, m.take K = a := ⟨_, rfl⟩
        obtain ⟨r, hr⟩ : ∃ r, m.drop (K + 1) = r := ⟨_, rfl⟩
        have hrl : r.length = m.length - (K + 1) := by rw [← hr, List.length_drop]
        rw [ha] at hst s1 PN
        rw [hr] at hst
        have HST := Lib.hid hst
        have H58 := Lib.hid h58
        have HRR := Lib.hid hr
        have hnn : numS a = match Lib.decFrom 0 a with | some n => (n : Int) | none => -1 := rfl
        clear hst h58 ha hr hal
        cases hd : Lib.decFrom 0 a with
        | none =>
          rw [hd] at hnn
          simp only at hnn
          rw [hnn] at PN
          have hnone : R = none := by
            rw [HM.out, HST.out]
            cases hq : numOf a with
            | none => rfl
            | some k =>
              have := (num_some hq).1
              rw [hd] at this
              cases this
          subst hnone
          clear hnn hd HM HST
          go_upto_region 9 with (go_at_call 76; refine (PN.out _).mono ?_; rintro e w2 ⟨rfl, h9⟩; have h9 := h9.symm; subst h9)
          go_quiet (fail)
          all_goals (go_wp2_with fail)
          all_goals go_ret2
          all_goals exact ParsePost.no (by first | exact below_dN HB.out _ | exact HB.out.drew)
        | some n =>
          rw [hd] at hnn
          simp only at hnn
          rw [hnn] at PN
          have en0 : decide ((n : Int) < 0) = false := decide_eq_false (by omega)
          by_cases hn2 : n ≤ 20000
          · have en1 : decide (20000 < (n : Int)) = false := decide_eq_false (by omega)
            have hn3 : (n : Int) ≤ 20000 := by omega
            have PD := Lib.hid (fun W => rdecimal_any W n (by omega))
            obtain ⟨D, hD⟩ : ∃ D, Lib.decDigits n = D := ⟨_, rfl⟩
            rw [hD] at PD
            by_cases hDa : D = a
            · have hnum : numOf a = some n := by
                have := numOf_itoa (n := n) hn2
                rwa [itoa_nat, hD, hDa] at this
              subst hDa
              have hst := HST.out
              rw [hnum, Option.bind_some] at hst
              have HS2 := Lib.hid hst
              clear hnn hd HST hnum hst hD
              go_upto_region 9 with (go_at_call 76; refine (PN.out _).mono ?_; rintro e w2 ⟨rfl, h9⟩; have h9 := h9.symm; subst h9)
              have hr1 : (r.length : Int) = (m.length : Int) - ((K : Int) + 1) := by omega
              have hK1 : IntKind.wrap .i64 ((K : Int) + 1) = (K : Int) + 1 := IntWalk.i64_in _ (by omega)
              have hK2 : IntKind.wrap .i64 ((K : Int) + 1 + (n : Int)) = (K : Int) + 1 + (n : Int) := IntWalk.i64_in _ (by omega)
              refine wp_region_ats (fun W => Below w.heap.size w W) (by kernel_rfl) (by kernel_rfl) (fun _ d _ _ _ h => by cases d <;> exact h) rfl ?_
              have HB2 := Lib.hid HB.out.drew
              refine ats_take [0, 1, 2, 3, 4, 5, 6, 7, 9, 10, 11] 12 rfl (by kernel_rfl) (HB2.out) ?_
              simp only [pick, List.drop_succ_cons, List.drop_zero, List.head?_cons, Option.toList_some, List.cons_append, List.nil_append, List.append_nil]
              (refine wpHeld_step ?_ rfl ?_ ?_; rotate_left; · (intro W hW; skip; first | (go_simp; try with_reducible rfl))); simp only [Act.put, List.setIfInBounds_toArray, List.set_cons_succ, List.set_cons_zero]
              (refine wpHeld_step ?_ rfl ?_ ?_; rotate_left; · (intro W hW; skip; first | (go_simp; try with_reducible rfl))); simp only [Act.put, List.setIfInBounds_toArray, List.set_cons_succ, List.set_cons_zero]
              (refine wpHeld_step ?_ rfl ?_ ?_; rotate_left; · (intro W hW; skip; first | (go_simp; try with_reducible rfl))); simp only [Act.put, List.setIfInBounds_toArray, List.set_cons_succ, List.set_cons_zero]
              (refine wpHeld_want ?_ (by kernel_rfl) ?_ ?_; rotate_left; · (intro W hW; skip; first | (go_simp; try with_reducible rfl))); simp only [Act.put, List.setIfInBounds_toArray, List.set_cons_succ, List.set_cons_zero]
              (refine wpHeld_want ?_ (by kernel_rfl) ?_ ?_; rotate_left; · (intro W hW; skip; first | (go_simp; try with_reducible rfl))); simp only [Act.put, List.setIfInBounds_toArray, List.set_cons_succ, List.set_cons_zero]
              (refine wpHeld_step ?_ rfl ?_ ?_; rotate_left; · (intro W hW; skip; first | (go_simp; try with_reducible rfl))); simp only [Act.put, List.setIfInBounds_toArray, List.set_cons_succ, List.set_cons_zero]
              (refine wpHeld_step ?_ rfl ?_ ?_; rotate_left; · (intro W hW; skip; first | (go_simp; try with_reducible rfl))); simp only [Act.put, List.setIfInBounds_toArray, List.set_cons_succ, List.set_cons_zero]
              (refine wpHeld_want ?_ (by kernel_rfl) ?_ ?_; rotate_left; · (intro W hW; skip; first | (go_simp; try with_reducible rfl))); simp only [Act.put, List.setIfInBounds_toArray, List.set_cons_succ, List.set_cons_zero]
              (refine wpHeld_want ?_ (by kernel_rfl) ?_ ?_; rotate_left; · (intro W hW; skip; first | (go_simp; try with_reducible rfl))); simp only [Act.put, List.setIfInBounds_toArray, List.set_cons_succ, List.set_cons_zero]
              (refine wpHeld_want ?_ (by kernel_rfl) ?_ ?_; rotate_left; · (intro W hW; skip; first | (go_simp; try with_reducible rfl))); simp only [Act.put, List.setIfInBounds_toArray, List.set_cons_succ, List.set_cons_zero]
              (refine wpHeld_want ?_ (by kernel_rfl) ?_ ?_; rotate_left; · (intro W hW; skip; first | (go_simp; try with_reducible rfl))); simp only [Act.put, List.setIfInBounds_toArray, List.set_cons_succ, List.set_cons_zero]
              refine wpHeld_nil ?_
              refine ats_one 8 (by kernel_rfl) ?_
              simp only [pick, List.drop_succ_cons, List.drop_zero, List.head?_cons, Option.toList_some, List.append_nil]
              go_wp2_with fail
              refine (PD.out _).mono ?_
              rintro e w3 ⟨rfl, h9⟩
              have h9 := h9.symm
              subst h9
              try go_wp2_with fail
              refine ⟨HB2.out, ?_⟩
              refine ats_one 12 (by kernel_rfl) ?_
              simp only [pick, List.drop_succ_cons, List.drop_zero, List.head?_cons, Option.toList_some, List.append_nil]
              go_wp2_with fail
              refine ⟨HB2.out, ?_⟩
              refine ats_one 13 (by kernel_rfl) ?_
              simp only [pick, List.drop_succ_cons, List.drop_zero, List.head?_cons, Option.toList_some, List.append_nil]
              go_wp2_with fail
              refine ⟨HB2.out, ?_⟩
              refine ats_one 14 (by kernel_rfl) ?_
              simp only [pick, List.drop_succ_cons, List.drop_zero, List.head?_cons, Option.toList_some, List.append_nil]
              go_wp2_with fail
              refine ⟨HB2.out, ?_⟩
              by_cases hnr : n ≤ r.length
              · have hnr2 : decide ((m.length : Int) < (K : Int) + 1 + (n : Int)) = false := decide_eq_false (by omega)
                refine ats_take [15, 16, 17, 18, 19, 20, 21] 1 rfl (by kernel_rfl) (HB2.out) ?_
                simp only [pick, List.drop_succ_cons, List.drop_zero, List.head?_cons, Option.toList_some, List.cons_append, List.nil_append, List.append_nil]
                (refine wpHeld_want ?_ (by kernel_rfl) ?_ ?_; rotate_left; · (intro W hW; skip; first | (go_simp; try with_reducible rfl))); simp only [Act.put, List.setIfInBounds_toArray, List.set_cons_succ, List.set_cons_zero]
                (refine wpHeld_want ?_ (by kernel_rfl) ?_ ?_; rotate_left; · (intro W hW; skip; first | (go_simp; try with_reducible rfl))); simp only [Act.put, List.setIfInBounds_toArray, List.set_cons_succ, List.set_cons_zero]
                (refine wpHeld_want ?_ (by kernel_rfl) ?_ ?_; rotate_left; · (intro W hW; skip; first | (go_simp; try with_reducible rfl))); simp only [Act.put, List.setIfInBounds_toArray, List.set_cons_succ, List.set_cons_zero]
                (refine wpHeld_want ?_ (by kernel_rfl) ?_ ?_; rotate_left; · (intro W hW; skip; first | (go_simp; try with_reducible rfl))); simp only [Act.put, List.setIfInBounds_toArray, List.set_cons_succ, List.set_cons_zero]
                (refine wpHeld_want ?_ (by kernel_rfl) ?_ ?_; rotate_left; · (intro W hW; skip; first | (go_simp; try with_reducible rfl))); simp only [Act.put, List.setIfInBounds_toArray, List.set_cons_succ, List.set_cons_zero]
                (refine wpHeld_want ?_ (by kernel_rfl) ?_ ?_; rotate_left; · (intro W hW; skip; first | (go_simp; try with_reducible rfl))); simp only [Act.put, List.setIfInBounds_toArray, List.set_cons_succ, List.set_cons_zero]
                (refine wpHeld_want ?_ (by kernel_rfl) ?_ ?_; rotate_left; · (intro W hW; skip; first | (go_simp; try with_reducible rfl))); simp only [Act.put, List.setIfInBounds_toArray, List.set_cons_succ, List.set_cons_zero]
                refine wpHeld_nil ?_
                refine ats_one 22 (by kernel_rfl) ?_
                simp only [pick, List.drop_succ_cons, List.drop_zero, List.head?_cons, Option.toList_some, List.append_nil]
                go_wp2_with fail
                refine ⟨HB2.out, ?_⟩
                refine ats_end (by kernel_rfl) ?_
                have hR2 : R = (parseR (r.drop n)).map (fun x => (rs ++ [r.take n]) ++ x) := by
                  rw [HM.out, HS2.out, if_pos hnr]
                  cases parseR (r.drop n) with
                  | none => rfl
                  | some q => simp
                have s2 : ∀ W : World, (Instr.slice 9 (.string (bs m)) (some (.int .i64 ((K : Int) + 1))) (some (.int .i64 ((K : Int) + 1 + (n : Int)))) none).run Tryz.prog W = .ok (.string (bs (r.take n))) W := fun W => by
                  have := sl_mid m (K + 1) (K + 1 + n) (by omega) (by omega) W
                  rwa [HRR.out, show K + 1 + n - (K + 1) = n by omega, Int.natCast_add, Int.natCast_add, Int.natCast_one] at this
                have s3 : ∀ W : World, (Instr.slice 9 (.string (bs m)) (some (.int .i64 ((K : Int) + 1 + (n : Int)))) none none).run Tryz.prog W = .ok (.string (bs (r.drop n))) W := fun W => by
                  have := sl_from m (K + 1 + n) (by omega) W
                  rwa [← List.drop_drop, HRR.out, Int.natCast_add, Int.natCast_add, Int.natCast_one] at this
                obtain ⟨pc, hpc⟩ : ∃ x, r.take n = x := ⟨_, rfl⟩
                obtain ⟨nx, hnx⟩ : ∃ x, r.drop n = x := ⟨_, rfl⟩
                have hnxl : nx.length + 1 ≤ m.length := by rw [← hnx, List.length_drop]; omega
                have HNX := Lib.hid (show nx.length + (rs ++ [pc]).length ≤ t.length from by rw [List.length_append, List.length_singleton]; omega)
                have HNL := Lib.hid hnxl
                rw [hpc, hnx] at hR2
                rw [hpc] at s2
                rw [hnx] at s3
                have HR2 := Lib.hid hR2
                have OW2 := Lib.hid (show OwnStrs w2.drew w.heap.size (.slice A rs.length c) rs from (Only.of_below (show Below w2.heap.size w2 w2.drew from ⟨rfl, rfl, rfl, Nat.le_refl _, fun _ _ => rfl⟩) (fun _ => False)).owns OW.out (fun _ _ h => h))
                have hrsl : rs.length ≤ 1000000 := by omega
                clear hR2 hpc hnx hnxl HM HS2 OW HB hnr hnr2 hr1 hrl
                generalize w2.drew = wx at *
                have kn := Blk.new wx 9 #[sv pc]
                have hb2 := HB2.out.alloc HB2.out.size (.cells #[sv pc] 9)
                have own2 : OwnStrs (wx.alloc (.cells #[sv pc] 9)) w.heap.size (.slice A rs.length c) rs := World.ownsRow.alloc OW2.out _
                go_wp2_with (at_builtin; refine wpList_append_lies _ rfl _ _ 30 rfl w.heap.size 9 i0 _ 1 16 Tryz.underlying30 hi0 hz0 hz1 hz2 rfl (by omega) (.slice A rs.length c) rs.length (rs.map sv) rfl own2 ⟨wx.heap.size, 0, none⟩ 1 1 [sv pc] rfl rfl (World.news_of_block kn) (sv_one [pc]) (by omega) (by unfold maxLen; omega) (by omega) (by have := HB2.out.size; simp; omega) (wx.heap.size + 1) (by simp) ?_; intro gz cz Y own9 gr9 l9 z9)
                have hb3 := hb2.grown gr9 hb2.size (fun x hx => (World.ownsRow.lt own2 x hx).1)
                have hl1 : (rs ++ [pc]).length = rs.length + 1 := by simp
                have own3 : OwnStrs Y w.heap.size (.slice (some ⟨gz, 0, none⟩) (rs.length + 1) cz) (rs ++ [pc]) := by
                  unfold OwnStrs
                  rw [hl1, List.map_append]
                  exact own9
                go_roundw
                case rel => exact ⟨nx, rs ++ [pc], some ⟨gz, 0, none⟩, cz, rfl, by rw [hl1], by rw [hl1]; exact Lib.hid own3, HR2, HNX.out, Lib.hid hb3⟩
                case measure =>
                  show (bs nx).size < (bs m).size
                  rw [bs_size, bs_size]
                  exact HNL.out
              · have hnone : R = none := by rw [HM.out, HS2.out, if_neg hnr]; rfl
                subst hnone
                have hnr2 : decide ((m.length : Int) < (K : Int) + 1 + (n : Int)) = true := decide_eq_true (by omega)
                refine ats_take [15, 16, 17, 18, 19, 20, 21] 1 rfl (by kernel_rfl) (HB2.out) ?_
                simp only [pick, List.drop_succ_cons, List.drop_zero, List.head?_cons, Option.toList_some, List.cons_append, List.nil_append, List.append_nil]
                (refine wpHeld_want ?_ (by kernel_rfl) ?_ ?_; rotate_left; · (intro W hW; skip; first | (go_simp; try with_reducible rfl))); simp only [Act.put, List.setIfInBounds_toArray, List.set_cons_succ, List.set_cons_zero]
                (refine wpHeld_want ?_ (by kernel_rfl) ?_ ?_; rotate_left; · (intro W hW; skip; first | (go_simp; try with_reducible rfl))); simp only [Act.put, List.setIfInBounds_toArray, List.set_cons_succ, List.set_cons_zero]
                (refine wpHeld_want ?_ (by kernel_rfl) ?_ ?_; rotate_left; · (intro W hW; skip; first | (go_simp; try with_reducible rfl))); simp only [Act.put, List.setIfInBounds_toArray, List.set_cons_succ, List.set_cons_zero]
                (refine wpHeld_want ?_ (by kernel_rfl) ?_ ?_; rotate_left; · (intro W hW; skip; first | (go_simp; try with_reducible rfl))); simp only [Act.put, List.setIfInBounds_toArray, List.set_cons_succ, List.set_cons_zero]
                (refine wpHeld_want ?_ (by kernel_rfl) ?_ ?_; rotate_left; · (intro W hW; skip; first | (go_simp; try with_reducible rfl))); simp only [Act.put, List.setIfInBounds_toArray, List.set_cons_succ, List.set_cons_zero]
                (refine wpHeld_want ?_ (by kernel_rfl) ?_ ?_; rotate_left; · (intro W hW; skip; first | (go_simp; try with_reducible rfl))); simp only [Act.put, List.setIfInBounds_toArray, List.set_cons_succ, List.set_cons_zero]
                (refine wpHeld_want ?_ (by kernel_rfl) ?_ ?_; rotate_left; · (intro W hW; skip; first | (go_simp; try with_reducible rfl))); simp only [Act.put, List.setIfInBounds_toArray, List.set_cons_succ, List.set_cons_zero]
                refine wpHeld_nil ?_
                refine ats_one 22 (by kernel_rfl) ?_
                simp only [pick, List.drop_succ_cons, List.drop_zero, List.head?_cons, Option.toList_some, List.append_nil]
                go_wp2_with fail
                refine ⟨HB2.out, ?_⟩
                refine ats_end (by kernel_rfl) ?_
                clear HM HS2
                go_wp2_with fail
                go_ret2
                exact ParsePost.no HB2.out
            · have hnone : R = none := by
                rw [HM.out, HST.out]
                cases hq : numOf a with
                | none => rfl
                | some k =>
                  obtain ⟨q1, q2, q3⟩ := num_some hq
                  rw [hd] at q1
                  have q1 := Option.some.inj q1
                  subst q1
                  exact absurd (hD.symm.trans q3) hDa
              subst hnone
              have q1 := beq_bs hDa
              clear hnn hd HM HST hD hDa
              go_upto_region 9 with (go_at_call 76; refine (PN.out _).mono ?_; rintro e w2 ⟨rfl, h9⟩; have h9 := h9.symm; subst h9)
              refine wp_region_ats (fun W => Below w.heap.size w W) (by kernel_rfl) (by kernel_rfl) (fun _ d _ _ _ h => by cases d <;> exact h) rfl ?_
              have HB2 := Lib.hid HB.out.drew
              refine ats_take [0, 1, 2, 3, 4, 5, 6, 7, 9, 10, 11] 12 rfl (by kernel_rfl) (HB2.out) ?_
              simp only [pick, List.drop_succ_cons, List.drop_zero, List.head?_cons, Option.toList_some, List.cons_append, List.nil_append, List.append_nil]
              (refine wpHeld_step ?_ rfl ?_ ?_; rotate_left; · (intro W hW; skip; first | (go_simp; try with_reducible rfl))); simp only [Act.put, List.setIfInBounds_toArray, List.set_cons_succ, List.set_cons_zero]
              (refine wpHeld_step ?_ rfl ?_ ?_; rotate_left; · (intro W hW; skip; first | (go_simp; try with_reducible rfl))); simp only [Act.put, List.setIfInBounds_toArray, List.set_cons_succ, List.set_cons_zero]
              (refine wpHeld_step ?_ rfl ?_ ?_; rotate_left; · (intro W hW; skip; first | (go_simp; try with_reducible rfl))); simp only [Act.put, List.setIfInBounds_toArray, List.set_cons_succ, List.set_cons_zero]
              (refine wpHeld_want ?_ (by kernel_rfl) ?_ ?_; rotate_left; · (intro W hW; skip; first | (go_simp; try with_reducible rfl))); simp only [Act.put, List.setIfInBounds_toArray, List.set_cons_succ, List.set_cons_zero]
              (refine wpHeld_want ?_ (by kernel_rfl) ?_ ?_; rotate_left; · (intro W hW; skip; first | (go_simp; try with_reducible rfl))); simp only [Act.put, List.setIfInBounds_toArray, List.set_cons_succ, List.set_cons_zero]
              (refine wpHeld_step ?_ rfl ?_ ?_; rotate_left; · (intro W hW; skip; first | (go_simp; try with_reducible rfl))); simp only [Act.put, List.setIfInBounds_toArray, List.set_cons_succ, List.set_cons_zero]
              (refine wpHeld_step ?_ rfl ?_ ?_; rotate_left; · (intro W hW; skip; first | (go_simp; try with_reducible rfl))); simp only [Act.put, List.setIfInBounds_toArray, List.set_cons_succ, List.set_cons_zero]
              (refine wpHeld_want ?_ (by kernel_rfl) ?_ ?_; rotate_left; · (intro W hW; skip; first | (go_simp; try with_reducible rfl))); simp only [Act.put, List.setIfInBounds_toArray, List.set_cons_succ, List.set_cons_zero]
              (refine wpHeld_want ?_ (by kernel_rfl) ?_ ?_; rotate_left; · (intro W hW; skip; first | (go_simp; try with_reducible rfl))); simp only [Act.put, List.setIfInBounds_toArray, List.set_cons_succ, List.set_cons_zero]
              (refine wpHeld_want ?_ (by kernel_rfl) ?_ ?_; rotate_left; · (intro W hW; skip; first | (go_simp; try with_reducible rfl))); simp only [Act.put, List.setIfInBounds_toArray, List.set_cons_succ, List.set_cons_zero]
              (refine wpHeld_want ?_ (by kernel_rfl) ?_ ?_; rotate_left; · (intro W hW; skip; first | (go_simp; try with_reducible rfl))); simp only [Act.put, List.setIfInBounds_toArray, List.set_cons_succ, List.set_cons_zero]
              refine wpHeld_nil ?_
              refine ats_one 8 (by kernel_rfl) ?_
              simp only [pick, List.drop_succ_cons, List.drop_zero, List.head?_cons, Option.toList_some, List.append_nil]
              go_wp2_with fail
              refine (PD.out _).mono ?_
              rintro e w3 ⟨rfl, h9⟩
              have h9 := h9.symm
              subst h9
              try go_wp2_with fail
              refine ⟨HB2.out, ?_⟩
              refine ats_one 12 (by kernel_rfl) ?_
              simp only [pick, List.drop_succ_cons, List.drop_zero, List.head?_cons, Option.toList_some, List.append_nil]
              go_wp2_with fail
              refine ⟨HB2.out, ?_⟩
              refine ats_one 13 (by kernel_rfl) ?_
              simp only [pick, List.drop_succ_cons, List.drop_zero, List.head?_cons, Option.toList_some, List.append_nil]
              go_wp2_with fail
              refine ⟨HB2.out, ?_⟩
              refine ats_one 14 (by kernel_rfl) ?_
              simp only [pick, List.drop_succ_cons, List.drop_zero, List.head?_cons, Option.toList_some, List.append_nil]
              go_wp2_with fail
              refine ⟨HB2.out, ?_⟩
              refine ats_take [15, 16, 17, 18, 19, 20, 21] 1 rfl (by kernel_rfl) (HB2.out) ?_
              simp only [pick, List.drop_succ_cons, List.drop_zero, List.head?_cons, Option.toList_some, List.cons_append, List.nil_append, List.append_nil]
              iterate 7 (refine wpHeld_skip (by kernel_rfl) ?_)
              refine wpHeld_nil ?_
              refine ats_one 22 (by kernel_rfl) ?_
              simp only [pick, List.drop_succ_cons, List.drop_zero, List.head?_cons, Option.toList_some, List.append_nil]
              go_wp2_with fail
              refine ⟨HB2.out, ?_⟩
              refine ats_end (by kernel_rfl) ?_
              go_wp2_with fail
              go_ret2
              exact ParsePost.no HB2.out
          · have hnone : R = none := by
              rw [HM.out, HST.out]
              cases hq : numOf a with
              | none => rfl
              | some k =>
                obtain ⟨q1, q2, q3⟩ := num_some hq
                rw [hd] at q1
                have q1 := Option.some.inj q1
                omega
            subst hnone
            have en1 : decide (20000 < (n : Int)) = true := decide_eq_true (by omega)
            clear hnn hd HM HST
            go_upto_region 9 with (go_at_call 76; refine (PN.out _).mono ?_; rintro e w2 ⟨rfl, h9⟩; have h9 := h9.symm; subst h9)
            go_quiet (fail)
            all_goals (go_wp2_with fail)
            all_goals go_ret2
            all_goals exact ParsePost.no (by first | exact below_dN HB.out _ | exact HB.out.drew)
      · have hnone : R = none := by rw [HM.out, rparse_no H0.out (by rw [HK.out]; exact h58)]; rfl
        subst hnone
        by_cases hKm : K < m.length
        · obtain ⟨b, hb⟩ : ∃ b, m[K]? = some b := ⟨_, List.getElem?_eq_getElem hKm⟩
          have hin3 : K < (bs m).size := by rw [bs_size]; exact hKm
          have hget : (bs m)[K] = b := by
            obtain ⟨h1, h2⟩ := List.getElem?_eq_some_iff.1 hb
            rw [← h2]
            rfl
          have hKi : ¬ (m.length : Int) ≤ (K : Int) := by omega
          have e58 : ((b.toNat : Int) != 58) = true := by
            have : b.toNat ≠ 58 := fun e => h58 (by rw [hb]; exact congrArg some (UInt8.toNat_inj.1 e))
            have h2 : (b.toNat : Int) ≠ 58 := by omega
            simpa using h2
          clear hb h58 HM
          go_wp2_with fail
          go_ret2
          exact ParsePost.no HB.out
        · have hKi : (m.length : Int) ≤ (K : Int) := by omega
          clear h58 HM
          go_wp2_with fail
          go_ret2
          exact ParsePost.no HB.out
end Go.Proofs.YtieicjjmkedgaaaGreatDoor

/- The disk of the reference as plain data: its sectors as texts. -/
namespace Go.Proofs.YtieicjjmkedgaaaGreatDoor
open Go.RowKit

theorem own_block {A : Option Addr} {k c g : Nat} (h : (Value.slice A k c).ownBlock = some g) : ∃ b, A = some b ∧ b.block = g := by
  cases A with
  | none => cases h
  | some b => injection h with h; exact ⟨b, rfl, h⟩
theorem own_some {w : World} {e : TypeId} {A : Option Addr} {n c : Nat} {xs : List Value} (h : w.ownsRow 0 e 1 (.slice A n c) n xs) (hn : 0 < n) : ∃ g, A = some ⟨g, 0, none⟩ ∧ g < w.heap.size := by
  rcases h.2 with ⟨_, h0⟩ | ⟨g, cap, cur, hv, _, hh, _⟩
  · omega
  · injection hv with hA h2 h3
    exact ⟨g, hA, Blk.lt (w := w) (g := g) (t := e) (cs := cur) hh⟩
/-- Whether a byte rots. -/
def rotB (n : Nat) (s k m : Int) : Bool := decide (0 ≤ s ∧ s < n ∧ 0 ≤ k ∧ k < 64 ∧ 1 ≤ m ∧ m ≤ 255)
theorem rotB_spec {n : Nat} {s k m : Int} : rotB n s k m = true ↔ 0 ≤ s ∧ s < n ∧ 0 ≤ k ∧ k < 64 ∧ 1 ≤ m ∧ m ≤ 255 := by simp [rotB]
theorem Dk.rot_eq (d : Dk) (s k m : Int) : d.rot s k m = if rotB d.n s k m = true then { d with st := d.st.set (64 * s.toNat + k.toNat) ((d.st.getD (64 * s.toNat + k.toNat) 0) ^^^ UInt8.ofNat m.toNat) } else d := by
  unfold Dk.rot
  by_cases h : rotB d.n s k m = true
  · rw [if_pos h]
    have := rotB_spec.1 h
    rw [if_pos ⟨by simp [Dk.has]; omega, by omega, by omega, by omega, by omega⟩]
  · rw [if_neg h]
    rw [if_neg]
    rintro ⟨h1, h2, h3, h4, h5⟩
    apply h
    have h1' : 0 ≤ s ∧ s < d.n := by simpa [Dk.has] using h1
    exact rotB_spec.2 ⟨by omega, by omega, by omega, by omega, by omega, by omega⟩
theorem Dk.rot_same (d : Dk) (s k m : Int) : (d.rot s k m).n = d.n ∧ (d.rot s k m).q = d.q ∧ (d.rot s k m).off = d.off ∧ (d.rot s k m).el = d.el := by
  rw [Dk.rot_eq]
  split <;> exact ⟨rfl, rfl, rfl, rfl⟩
theorem Dk.stale_same (d : Dk) (s : Int) : (d.stale s).n = d.n ∧ (d.stale s).q = d.q ∧ (d.stale s).off = d.off ∧ (d.stale s).el = d.el := by
  unfold Dk.stale
  split <;> exact ⟨rfl, rfl, rfl, rfl⟩
theorem ba_ext {a b : ByteArray} (h : a.data.toList = b.data.toList) : a = b := by
  obtain ⟨a⟩ := a
  obtain ⟨b⟩ := b
  congr 1
  exact Array.toList_inj.1 h
def Dk.secB (d : Dk) (i : Nat) : ByteArray := ⟨(d.sec i).toArray⟩
def Dk.elB (d : Dk) (i : Nat) : ByteArray := ⟨((d.el.drop (64 * i)).take 64).toArray⟩
def Dk.stS (d : Dk) : List ByteArray := (List.range d.n).map d.secB
def Dk.elS (d : Dk) : List ByteArray := (List.range d.n).map d.elB
theorem Dk.stS_len (d : Dk) : d.stS.length = d.n := by simp [Dk.stS]
theorem Dk.elS_len (d : Dk) : d.elS.length = d.n := by simp [Dk.elS]
theorem Dk.stS_at (d : Dk) {i : Nat} (hi : i < d.n) : d.stS[i]? = some (d.secB i) := by simp [Dk.stS, hi]
theorem Dk.elS_at (d : Dk) {i : Nat} (hi : i < d.n) : d.elS[i]? = some (d.elB i) := by simp [Dk.elS, hi]
theorem Dk.secB_size {d : Dk} (h : d.Ok) {i : Nat} (hi : i < d.n) : (d.secB i).size = 64 := Dk.sec_len h hi
theorem Dk.elB_size {d : Dk} (h : d.Ok) {i : Nat} (hi : i < d.n) : (d.elB i).size = 64 := by
  show ((d.el.drop (64 * i)).take 64).length = 64
  rw [List.length_take, List.length_drop, h.el]
  omega
theorem toList_len (t : ByteArray) : t.data.toList.length = t.size := by simp
theorem bytes_eta (t : ByteArray) : (⟨t.data.toList.toArray⟩ : ByteArray) = t := rfl

theorem sectors_set {n : Nat} {f f' : Nat → ByteArray} {s : Nat} {t : ByteArray} (h : ∀ i, i < n → f' i = if s = i then t else f i) : (List.range n).map f' = ((List.range n).map f).set s t := by
  apply List.ext_getElem?
  intro i
  rw [List.getElem?_set]
  by_cases hi : i < n
  · simp only [List.getElem?_map, List.getElem?_range hi, Option.map_some, List.length_map, List.length_range, h i hi]
    by_cases hs : s = i
    · subst hs; simp [hi]
    · simp [hs]
  · have e1 : ((List.range n).map f')[i]? = none := by simp; omega
    have e2 : ((List.range n).map f)[i]? = none := by simp; omega
    rw [e1, e2]
    by_cases hs : s = i
    · subst hs; simp [hi]
    · simp [hs]

theorem splice_full {α : Type} {L t : List α} {i : Nat} (ht : t.length = 64) (hL : 64 * i + 64 ≤ L.length) : ((splice L (64 * i) t).drop (64 * i)).take 64 = t := by
  have h0 : List.drop t.length (List.take 64 (List.drop (64 * i) L)) = [] := List.drop_eq_nil_of_le (by rw [List.length_take]; omega)
  rw [splice_same (by omega) hL, h0, List.append_nil]
theorem Dk.set_sectors {d : Dk} (h : d.Ok) {i : Nat} {t : ByteArray} (hi : i < d.n) (ht : t.size = 64) :
    (d.set_ i t.data.toList).stS = d.stS.set i t ∧ (d.set_ i t.data.toList).elS = d.elS.set i (d.secB i) := by
  have hl := toList_len t
  refine ⟨sectors_set (n := d.n) fun j hj => ?_, sectors_set (n := d.n) fun j hj => ?_⟩
  · unfold Dk.secB
    by_cases hij : i = j
    · subst hij
      rw [if_pos rfl, Dk.set_sec h hi (by omega), if_pos rfl, List.drop_of_length_le (by rw [Dk.sec_len h hi]; omega), List.append_nil]
    · rw [if_neg hij, Dk.set_sec h hi (by omega), if_neg (fun e => hij e.symm)]
  · unfold Dk.elB Dk.set_
    simp only
    have hs : (List.take 64 (List.drop (64 * i) d.st)).length = 64 := Dk.sec_len h hi
    by_cases hij : i = j
    · subst hij
      rw [if_pos rfl, splice_full hs (by rw [h.el]; omega)]
      rfl
    · rw [if_neg hij, splice_far (by omega) (fun e => hij e.symm) (by rw [h.el]; omega)]

theorem Dk.set_torn {d : Dk} (h : d.Ok) {i k : Nat} {t : List UInt8} (hi : i < d.n) (ht : t.length = 64) (hk : k ≤ 64) : d.set_ i (t.take k) = d.set_ i (t.take k ++ (d.sec i).drop k) := by
  have hl : (t.take k).length = k := by simp; omega
  have key : splice d.st (64 * i) (t.take k) = splice d.st (64 * i) (t.take k ++ (d.sec i).drop k) := by
    unfold splice
    congr 1
    have hsl := Dk.sec_len h hi
    rw [List.length_append, List.length_drop, hsl, hl, List.append_assoc]
    congr 1
    have e1 : 64 * i + (k + (64 - k)) = 64 * i + 64 := by omega
    rw [e1]
    unfold Dk.sec
    have e2 : List.drop (64 * i + k) d.st = List.drop k (List.drop (64 * i) d.st) := by rw [List.drop_drop]
    have e3 : List.drop (64 * i + 64) d.st = List.drop 64 (List.drop (64 * i) d.st) := by rw [List.drop_drop]
    rw [e2, e3]
    have hm : (List.take 64 (List.drop (64 * i) d.st)).length = 64 := hsl
    generalize List.drop (64 * i) d.st = M at *
    conv => lhs; rw [← List.take_append_drop 64 M]
    rw [List.drop_append_of_le_length (by omega)]
  unfold Dk.set_
  rw [key]

theorem Dk.rot_sectors {d : Dk} (h : d.Ok) {s k m : Nat} (hs : s < d.n) (hk : k < 64) (h1 : 1 ≤ m) (h2 : m ≤ 255) (b : UInt8) (hb : (d.secB s).data[k]? = some b) :
    (d.rot (s : Int) k m).stS = d.stS.set s ((d.secB s).extract 0 k ++ ⟨#[b ^^^ UInt8.ofNat m]⟩ ++ (d.secB s).extract (k + 1) (d.secB s).size) ∧ (d.rot (s : Int) k m).elS = d.elS := by
  have hr : rotB d.n s k m = true := rotB_spec.2 (by omega)
  rw [Dk.rot_eq, if_pos hr]
  have e0 : 64 * (s : Int).toNat + (k : Int).toNat = 64 * s + k := by omega
  have e1 : UInt8.ofNat (m : Int).toNat = UInt8.ofNat m := by simp
  have hb' : (d.sec s)[k]? = some b := by
    have : (d.secB s).data[k]? = (d.sec s)[k]? := by simp [Dk.secB]
    rw [← this]; exact hb
  have hsl := Dk.sec_len h hs
  have hst : d.st.getD (64 * s + k) 0 = b := by
    have : d.st[64 * s + k]? = some b := by
      rw [← hb']
      unfold Dk.sec
      rw [List.getElem?_take_of_lt hk, List.getElem?_drop]
    simp [List.getD_eq_getElem?_getD, this]
  rw [e0, e1, hst]
  generalize b ^^^ UInt8.ofNat m = v
  refine ⟨sectors_set (n := d.n) fun j hj => ?_, rfl⟩
  have hg : ∀ x, x < 64 → ((List.drop (64 * j) (d.st.set (64 * s + k) v)).take 64)[x]? = if s = j ∧ k = x then some v else (d.sec j)[x]? := fun x hx => by
    unfold Dk.sec
    rw [List.getElem?_take_of_lt hx, List.getElem?_take_of_lt hx, List.getElem?_drop, List.getElem?_drop, List.getElem?_set]
    by_cases hc : s = j ∧ k = x
    · obtain ⟨rfl, rfl⟩ := hc
      rw [if_pos rfl, if_pos (show 64 * s + k < d.st.length by rw [h.st]; omega), if_pos (show s = s ∧ k = k from ⟨rfl, rfl⟩)]
    · rw [if_neg (by omega), if_neg hc]
  unfold Dk.secB
  by_cases hsj : s = j
  · subst hsj
    rw [if_pos rfl]
    apply ba_ext
    have e2 : ((⟨(d.sec s).toArray⟩ : ByteArray).extract 0 k ++ ⟨#[v]⟩ ++ (⟨(d.sec s).toArray⟩ : ByteArray).extract (k + 1) (⟨(d.sec s).toArray⟩ : ByteArray).size).data.toList = (d.sec s).take k ++ ([v] ++ (d.sec s).drop (k + 1)) := by
      have : (⟨(d.sec s).toArray⟩ : ByteArray).size = (d.sec s).length := rfl
      simp [ByteArray.data_append, ByteArray.data_extract, this, List.take_of_length_le]
    rw [e2]
    apply List.ext_getElem?
    intro x
    by_cases hx : x < 64
    · refine (hg x hx).trans ?_
      by_cases hkx : k = x
      · subst hkx
        rw [if_pos ⟨rfl, rfl⟩, List.getElem?_append_right (by simp; omega)]
        simp [hsl]
        rw [show k - min k 64 = 0 by omega]
        rfl
      · rw [if_neg (fun c => hkx c.2)]
        by_cases hlt : x < k
        · rw [List.getElem?_append_left (by simp; omega), List.getElem?_take_of_lt hlt]
        · rw [List.getElem?_append_right (by simp; omega), List.getElem?_append_right (by simp; omega), List.getElem?_drop]
          congr 1
          simp [hsl]; omega
    · rw [List.getElem?_eq_none (by show (List.take 64 _).length ≤ x; simp; omega), List.getElem?_eq_none (by simp; omega)]
  · rw [if_neg hsj]
    congr 2
    show (List.drop (64 * j) (d.st.set (64 * s + k) v)).take 64 = d.sec j
    apply List.ext_getElem?
    intro x
    by_cases hx : x < 64
    · rw [hg x hx, if_neg (fun c => hsj c.1)]
    · rw [List.getElem?_eq_none (by simp; omega), List.getElem?_eq_none (by unfold Dk.sec; simp; omega)]

theorem Dk.stale_sectors {d : Dk} (h : d.Ok) {s : Nat} (hs : s < d.n) : (d.stale (s : Int)).stS = d.stS.set s (d.elB s) ∧ (d.stale (s : Int)).elS = d.elS := by
  have hh : d.has (s : Int) = true := by simp [Dk.has]; omega
  unfold Dk.stale
  rw [if_pos hh]
  refine ⟨sectors_set (n := d.n) fun j hj => ?_, rfl⟩
  have hl : ((d.el.drop (64 * s)).take 64).length = 64 := by rw [List.length_take, List.length_drop, h.el]; omega
  have e0 : (s : Int).toNat = s := by omega
  unfold Dk.secB Dk.sec
  simp only [e0]
  by_cases hij : s = j
  · subst hij
    rw [if_pos rfl, splice_full hl (by rw [h.st]; omega)]
    rfl
  · rw [if_neg hij, splice_far (by omega) (fun e => hij e.symm) (by rw [h.st]; omega)]

def zero64 : ByteArray := ⟨(List.replicate 64 0).toArray⟩
theorem Dk.new_sectors (n : Nat) : (Dk.new n).stS = List.replicate n zero64 ∧ (Dk.new n).elS = List.replicate n zero64 := by
  have key : ∀ i, i < n → ((List.replicate (64 * n) (0 : UInt8)).drop (64 * i)).take 64 = List.replicate 64 0 := fun i hi => by
    rw [List.drop_replicate, List.take_replicate]
    congr 1
    omega
  refine ⟨?_, ?_⟩
  · apply List.ext_getElem?
    intro i
    by_cases hi : i < n
    · rw [Dk.stS_at _ (show i < (Dk.new n).n from hi), List.getElem?_replicate, if_pos hi]
      unfold Dk.secB Dk.sec zero64
      congr 3
      exact key i hi
    · rw [List.getElem?_eq_none (by rw [Dk.stS_len]; show n ≤ i; omega), List.getElem?_eq_none (by simp; omega)]
  · apply List.ext_getElem?
    intro i
    by_cases hi : i < n
    · rw [Dk.elS_at _ (show i < (Dk.new n).n from hi), List.getElem?_replicate, if_pos hi]
      unfold Dk.elB zero64
      congr 3
      exact key i hi
    · rw [List.getElem?_eq_none (by rw [Dk.elS_len]; show n ≤ i; omega), List.getElem?_eq_none (by simp; omega)]
end Go.Proofs.YtieicjjmkedgaaaGreatDoor

/- The disk of the reference in memory; what set and settle do to it. -/
namespace Go.Proofs.YtieicjjmkedgaaaGreatDoor
open Go.RowKit

/-- The cells of the pending writes. -/
def rcells (q : List (Nat × ByteArray)) : List Value := q.flatMap fun p => [.int .i64 (p.1 : Int), .string p.2]
theorem rcells_at (q : List (Nat × ByteArray)) {i : Nat} {p : Nat × ByteArray} (h : q[i]? = some p) : (rcells q)[i * 2]? = some (.int .i64 (p.1 : Int)) ∧ (rcells q)[i * 2 + 1]? = some (.string p.2) := by
  induction q generalizing i with
  | nil => simp at h
  | cons x q ih =>
    have e : rcells (x :: q) = [.int .i64 (x.1 : Int), .string x.2] ++ rcells q := rfl
    cases i with
    | zero =>
      have hx : x = p := by simpa using h
      subst hx
      rw [e]
      exact ⟨rfl, rfl⟩
    | succ i =>
      have h' : q[i]? = some p := by simpa using h
      obtain ⟨h1, h2⟩ := ih h'
      rw [e]
      exact ⟨by rw [List.getElem?_append_right (by simp; omega)]; rw [← h1]; congr 1; simp; omega, by rw [List.getElem?_append_right (by simp; omega)]; rw [← h2]; congr 1; simp; omega⟩
theorem rcells_len (q : List (Nat × ByteArray)) : (rcells q).length = q.length * 2 := by
  induction q with
  | nil => rfl
  | cons x q ih =>
    have e : rcells (x :: q) = [.int .i64 (x.1 : Int), .string x.2] ++ rcells q := rfl
    rw [e, List.length_append, ih]
    simp; omega

/-- The cells of the alarm. -/
def Alr (arm : Option (Int × Int × Int)) (b : Bool) (x y z : Int) : Prop :=
  match arm with
  | none => b = false
  | some t => b = true ∧ x = t.1 ∧ y = t.2.1 ∧ z = t.2.2

/-- Block m holds a disk of the reference; all its blocks are those of F. -/
structure RefAt' (w : World) (m g1 g2 c1 c2 : Nat) (qv : Value) (b : Bool) (x y z : Int) (d : Dk) (F : Foot) : Prop where
  ok : d.Ok
  main : Blk w m 56 #[.slice (some ⟨g1, 0, none⟩) d.n c1, .slice (some ⟨g2, 0, none⟩) d.n c2, qv, .bool (!d.off), .bool b, .int .i64 x, .int .i64 y, .int .i64 z]
  st : w.ownsRow 0 9 1 (.slice (some ⟨g1, 0, none⟩) d.n c1) d.n (d.stS.map Value.string)
  el : w.ownsRow 0 9 1 (.slice (some ⟨g2, 0, none⟩) d.n c2) d.n (d.elS.map Value.string)
  ne : g1 ≠ g2
  q : w.ownsRow 0 85 2 qv d.q.length (rcells d.q)
  qlen : d.q.length ≤ 4096
  alr : Alr d.arm b x y z
  fa : F m
  f1 : F g1
  f2 : F g2
  fq : ∀ g, qv.ownBlock = some g → F g
  fl : ∀ i, F i → i < w.heap.size

theorem own_ne_blk {w : World} {g n c : Nat} {e t : TypeId} {size : Nat} {cs : Array Value} {m : Nat} {xs : List Value} (h : w.ownsRow 0 e size (.slice (some ⟨g, 0, none⟩) n c) n xs) (hm : Blk w m t cs) (hne : e ≠ t) : g ≠ m := by
  intro e1
  subst e1
  exact own_blk_ne h hm hne rfl

theorem own_lt {w : World} {g n c : Nat} {e : TypeId} {size : Nat} {xs : List Value} (h : w.ownsRow 0 e size (.slice (some ⟨g, 0, none⟩) n c) n xs) : ∃ cs, Blk w g e cs := by
  rcases h.2 with ⟨h0, _⟩ | ⟨k, cap, cur, hv, _, hh, _⟩
  · cases h0
  · injection hv with hA
    injection hA with hA
    injection hA with hA
    subst hA
    exact ⟨_, hh⟩
theorem own_own_ne {w : World} {g n c : Nat} {e e' : TypeId} {size size' : Nat} {xs xs' : List Value} {qv : Value} {k : Nat} (h : w.ownsRow 0 e size (.slice (some ⟨g, 0, none⟩) n c) n xs) (hq : w.ownsRow 0 e' size' qv k xs') (hne : e' ≠ e) : qv.ownBlock ≠ some g := by
  obtain ⟨cs, hb⟩ := own_lt h
  exact own_blk_ne hq hb hne

section
variable {w w' : World} {m g1 g2 c1 c2 : Nat} {qv : Value} {b : Bool} {x y z : Int} {d d' : Dk} {F G : Foot}

theorem RefAt'.keep (h : RefAt' w m g1 g2 c1 c2 qv b x y z d F) (hO : Only G w w') (hd : ∀ i, F i → ¬ G i) : RefAt' w' m g1 g2 c1 c2 qv b x y z d F where
  ok := h.ok
  main := hO.blk h.main (hd _ h.fa)
  st := hO.owns h.st (fun g hg => by injection hg with hg; subst hg; exact hd _ h.f1)
  el := hO.owns h.el (fun g hg => by injection hg with hg; subst hg; exact hd _ h.f2)
  ne := h.ne
  q := hO.owns h.q fun g hg => hd _ (h.fq g hg)
  qlen := h.qlen
  alr := h.alr
  fa := h.fa
  f1 := h.f1
  f2 := h.f2
  fq := h.fq
  fl := fun i hi => Nat.lt_of_lt_of_le (h.fl i hi) hO.size

/-- Its sectors have changed alone. -/
theorem RefAt'.upd (h : RefAt' w m g1 g2 c1 c2 qv b x y z d F) (hO : Only (fun i => i = g1 ∨ i = g2) w w') (hok : d'.Ok)
    (h1 : w'.ownsRow 0 9 1 (.slice (some ⟨g1, 0, none⟩) d.n c1) d.n (d'.stS.map Value.string)) (h2 : w'.ownsRow 0 9 1 (.slice (some ⟨g2, 0, none⟩) d.n c2) d.n (d'.elS.map Value.string))
    (hn : d'.n = d.n) (hq : d'.q = d.q) (hf : d'.off = d.off) (ha : d'.arm = d.arm) : RefAt' w' m g1 g2 c1 c2 qv b x y z d' F where
  ok := hok
  main := by
    rw [hn, hf]
    refine hO.blk h.main ?_
    rintro (e | e)
    · exact own_ne_blk h.st h.main (by decide) e.symm
    · exact own_ne_blk h.el h.main (by decide) e.symm
  st := by rw [hn]; exact h1
  el := by rw [hn]; exact h2
  ne := h.ne
  q := by
    rw [hq]
    exact hO.owns h.q (fun g hg => by
      rintro (rfl | rfl)
      · exact own_own_ne h.st h.q (by decide) hg
      · exact own_own_ne h.el h.q (by decide) hg)
  qlen := by rw [hq]; exact h.qlen
  alr := by rw [ha]; exact h.alr
  fa := h.fa
  f1 := h.f1
  f2 := h.f2
  fq := h.fq
  fl := fun i hi => Nat.lt_of_lt_of_le (h.fl i hi) hO.size

theorem str_at {l : List ByteArray} {i : Nat} {v : ByteArray} (h : l[i]? = some v) : (l.map Value.string)[i]? = some (.string v) := by rw [List.getElem?_map, h]; rfl

set_option maxRecDepth 100000 in
set_option maxHeartbeats 800000 in
theorem rset_any (h : RefAt' w m g1 g2 c1 c2 qv b x y z d F) (i : Nat) (t : ByteArray) (hi : i < d.n) (ht : t.size = 64) :
    Calls Tryz.prog 50 #[.pointer (some ⟨m, 0, none⟩), .int .i64 (i : Int), .string t] w fun e w' =>
      e = .returned (.tuple #[]) ∧ Only F w w' ∧ RefAt' w' m g1 g2 c1 c2 qv b x y z (d.set_ i t.data.toList) F := by
  have hn := h.ok.n2
  have hsec := Dk.set_sectors h.ok hi ht
  have hok' := Dk.set_ok h.ok hi (t := t.data.toList) (by rw [toList_len]; omega)
  obtain ⟨m0, m1, m2⟩ := h.main.all
  have s1 := h.st.cellAt i (by omega)
  rw [str_at (Dk.stS_at d hi)] at s1
  have s2 := h.el.cellAt i (by omega)
  rw [str_at (Dk.elS_at d hi)] at s2
  have z1 := h.st.frozenAt i
  have z2 := h.el.frozenAt i
  have hne := h.ne
  have HT := Lib.hid ht
  have hI0 : (0 : Int) ≤ i := by omega
  have hI1 : (i : Int) < d.n := by omega
  have hg1m := own_ne_blk h.st h.main (by decide)
  have hg2m := own_ne_blk h.el h.main (by decide)
  have HSEC := Lib.hid hsec
  have r2 := (h.el.stored i (.string (d.secB i))).1
  generalize d.secB i = sb at *
  generalize d.elB i = eb at *
  clear ht hsec
  go_enter Tryz.func50, Tryz.ntmps50
  go_wp2
  refine wp_region_tail 12 (by kernel_rfl) (by kernel_rfl) ?_
  simp only [List.take_succ_cons, List.take_zero, List.drop_succ_cons, List.drop_zero]
  repeat still_step
  refine wpStill_nil ?_
  go_wp2
  go_end0
  have O1 : Only (fun k => k = g2) w (w.setCell ⟨g2, i, none⟩ (.string sb)) := (Only.refl (fun k => k = g2) w).setCell (p := ⟨g2, i, none⟩) (.inl rfl) _
  have k1 := O1.owns h.st (fun g hg e => by injection hg with hg; exact hne (hg.trans e))
  have r1 := (k1.stored i (.string t)).1
  have O2 : Only (fun k => k = g1) (w.setCell ⟨g2, i, none⟩ (.string sb)) ((w.setCell ⟨g2, i, none⟩ (.string sb)).setCell ⟨g1, i, none⟩ (.string t)) := (Only.refl (fun k => k = g1) _).setCell (p := ⟨g1, i, none⟩) (.inl rfl) _
  have r3 := O2.owns r2 (fun g hg e => by injection hg with hg; exact hne (e.symm.trans hg.symm))
  have e1 : Only (fun k => k = g1 ∨ k = g2) w (((w.setCell ⟨g2, i, none⟩ (.string sb)).setCell ⟨g1, i, none⟩ (.string t)).drew) :=
    ((O1.mono (fun k hk => .inr hk)).trans O2 (fun k hk => .inl (.inl hk))).drew
  refine ⟨rfl, e1.mono (by rintro k (rfl | rfl); exact h.f1; exact h.f2), h.upd e1 hok' ?_ ?_ rfl rfl rfl rfl⟩
  · rw [HSEC.out.1, List.map_set]
    exact r1.drew
  · rw [HSEC.out.2, List.map_set]
    exact r3.drew

theorem qv_slice (h : RefAt' w m g1 g2 c1 c2 qv b x y z d F) : (d.q = [] ∧ qv = .slice none 0 0) ∨ ∃ g c, qv = .slice (some ⟨g, 0, none⟩) d.q.length c := by
  rcases h.q.2 with ⟨h0, h1⟩ | ⟨g, cap, cur, hv, _⟩
  · left
    have := h.q.1
    refine ⟨?_, h0⟩
    simpa using h1
  · exact .inr ⟨g, cap, hv⟩

set_option maxRecDepth 100000 in
set_option maxHeartbeats 800000 in
theorem rsettle_any (h : RefAt' w m g1 g2 c1 c2 qv b x y z d F) (k : Nat) (hk : k ≤ d.q.length) :
    Calls Tryz.prog 49 #[.pointer (some ⟨m, 0, none⟩), .int .i64 (k : Int)] w fun e w' =>
      e = .returned (.tuple #[]) ∧ Only F w w' ∧ RefAt' w' m g1 g2 c1 c2 qv b x y z (d.settle (d.q.take k)) F := by
  have hql := h.qlen
  go_enter Tryz.func49, Tryz.ntmps49
  go_wp2_with fail
  go_loopw [4] (fun v wr => ∃ j : Nat, j ≤ k ∧ v = .int .i64 (j : Int) ∧ Only F w wr ∧ RefAt' wr m g1 g2 c1 c2 qv b x y z (d.settle (d.q.take j)) F) (fun v _ => k - (intOf v).toNat)
  case atStart => exact ⟨0, Nat.zero_le _, rfl, Only.refl _ _, h⟩
  case round =>
    obtain ⟨j, hj, rfl, hO, hR⟩ := hrel
    by_cases hlt : j < k
    · obtain ⟨p, hp⟩ : ∃ p, d.q[j]? = some p := ⟨_, List.getElem?_eq_getElem (by omega)⟩
      have hpo := h.ok.q p (List.mem_of_getElem? hp)
      have hset := Dk.settle_take d d.q j p hp
      have hsm := Dk.settle_same (d.q.take j) d
      obtain ⟨g, c, hqv⟩ : ∃ g c, qv = .slice (some ⟨g, 0, none⟩) d.q.length c := by
        rcases qv_slice h with ⟨h0, _⟩ | h0
        · rw [h0] at hp; simp at hp
        · exact h0
      have HSET := Lib.hid hset
      have hRq := hR.q
      rw [hsm.2.1] at hRq
      obtain ⟨r1, r2⟩ := rcells_at d.q hp
      have hqc := hRq
      rw [hqv] at hqc
      have a1 := hqc.cellAt (j * 2) (by omega)
      have a2 := hqc.cellAt (j * 2 + 1) (by omega)
      rw [r1] at a1
      rw [r2] at a2
      have hRn := hsm.1
      generalize d.settle (d.q.take j) = D at *
      obtain ⟨m0, m1, m2⟩ := hR.main.all
      rw [hqv] at m0
      obtain ⟨s, t⟩ := p
      simp only at hpo a1 a2 HSET
      obtain ⟨hs, ht⟩ := hpo
      have HT := Lib.hid ht
      have HQV := Lib.hid hqv
      have hDn : s < D.n := by omega
      have hjI : (j : Int) < d.q.length := by omega
      clear hset hsm r1 r2 hRq hqc hp ht hqv hRn
      go_wp2
      refine wp_region_tail 17 (by kernel_rfl) (by kernel_rfl) ?_
      simp only [List.take_succ_cons, List.take_zero, List.drop_succ_cons, List.drop_zero]
      repeat still_step
      refine wpStill_nil ?_
      go_wp2_with fail
      refine (rset_any (hR.keep (Only.refl (fun _ => False) wr).drew (by simp)) s t hDn HT.out).mono ?_
      rintro e w1 ⟨rfl, o1, h1⟩
      go_wp2
      go_roundw
      case rel => exact ⟨j + 1, by omega, by go_num, hO.trans o1.undrew (fun i hi => .inl hi), by rw [HSET.out]; exact h1⟩
      case measure => simp [intOf]; omega
    · obtain rfl : k = j := by omega
      go_wp2
      go_end0
      exact ⟨rfl, hO, hR⟩
end
end Go.Proofs.YtieicjjmkedgaaaGreatDoor

/- What Fail, count, Sync and Write of the reference do to its disk. -/
namespace Go.Proofs.YtieicjjmkedgaaaGreatDoor
open Go.RowKit

/-- Block m holds a disk of the reference; F are its blocks. -/
def RefAt (w : World) (m : Nat) (d : Dk) (F : Foot) : Prop := ∃ g1 g2 c1 c2 qv b x y z, RefAt' w m g1 g2 c1 c2 qv b x y z d F

section
variable {w w' : World} {m g1 g2 c1 c2 : Nat} {qv : Value} {b : Bool} {x y z : Int} {d d' : Dk} {F G : Foot}

theorem RefAt'.form (h : RefAt' w m g1 g2 c1 c2 qv b x y z d F) : ∃ A c, qv = .slice A d.q.length c := by
  rcases qv_slice h with ⟨h0, h1⟩ | ⟨g, c, h1⟩
  · exact ⟨none, 0, by rw [h0]; exact h1⟩
  · exact ⟨_, c, h1⟩

/-- The cells of the struct have changed alone. -/
theorem RefAt'.flags (h : RefAt' w m g1 g2 c1 c2 qv b x y z d F) (hO : Only (fun i => i = m) w w') {qv' : Value} {q' : List (Nat × ByteArray)} {off' : Bool} {arm' : Option (Int × Int × Int)} {b' : Bool} {x' y' z' : Int}
    (hq : (qv' = qv ∧ q' = d.q) ∨ (qv' = .slice none 0 0 ∧ q' = [])) (ha : Alr arm' b' x' y' z') (hr : ∀ t, arm' = some t → 0 ≤ t.1 ∧ t.1 ≤ 9223372036854775807)
    (hm : Blk w' m 56 #[.slice (some ⟨g1, 0, none⟩) d.n c1, .slice (some ⟨g2, 0, none⟩) d.n c2, qv', .bool (!off'), .bool b', .int .i64 x', .int .i64 y', .int .i64 z']) :
    RefAt' w' m g1 g2 c1 c2 qv' b' x' y' z' { d with q := q', off := off', arm := arm' } F where
  ok := ⟨h.ok.n1, h.ok.n2, h.ok.st, h.ok.el, (by
    rcases hq with ⟨_, e⟩ | ⟨_, e⟩
    · simp only [e]; exact h.ok.q
    · simp only [e]; intro p hp; cases hp), hr⟩
  main := hm
  st := hO.owns h.st (fun g hg => by injection hg with hg; subst hg; exact own_ne_blk h.st h.main (by decide))
  el := hO.owns h.el (fun g hg => by injection hg with hg; subst hg; exact own_ne_blk h.el h.main (by decide))
  ne := h.ne
  q := by
    rcases hq with ⟨e1, e2⟩ | ⟨e1, e2⟩
    · simp only [e1, e2]
      exact hO.owns h.q (fun g hg e => own_blk_ne h.q h.main (by decide) (by rw [hg, e]))
    · simp only [e1, e2]
      exact World.ownsRow_nil _ _ _ _
  qlen := by
    rcases hq with ⟨_, e⟩ | ⟨_, e⟩
    · simp only [e]; exact h.qlen
    · simp only [e]; exact Nat.zero_le _
  alr := ha
  fa := h.fa
  f1 := h.f1
  f2 := h.f2
  fq := by
    rcases hq with ⟨e, _⟩ | ⟨e, _⟩
    · rw [e]; exact h.fq
    · rw [e]; intro g hg; cases hg
  fl := fun i hi => Nat.lt_of_lt_of_le (h.fl i hi) hO.size

theorem RefAt'.down {w0 : World} (h : RefAt' w m g1 g2 c1 c2 qv b x y z d F) (hO : Only F w0 w) :
    Only F w0 (((w.setCell ⟨m, 2, none⟩ (.slice none 0 0)).setCell ⟨m, 3, none⟩ (.bool false)).setCell ⟨m, 4, none⟩ (.bool false)) ∧
    RefAt' (((w.setCell ⟨m, 2, none⟩ (.slice none 0 0)).setCell ⟨m, 3, none⟩ (.bool false)).setCell ⟨m, 4, none⟩ (.bool false)) m g1 g2 c1 c2 (.slice none 0 0) false x y z { d with q := [], off := true, arm := none } F :=
  ⟨((hO.setCell (.inl h.fa) _).setCell (.inl h.fa) _).setCell (.inl h.fa) _,
   h.flags ((((Only.refl (fun i => i = m) w).setCell (p := ⟨m, 2, none⟩) (.inl rfl) _).setCell (p := ⟨m, 3, none⟩) (.inl rfl) _).setCell (p := ⟨m, 4, none⟩) (.inl rfl) _) (.inr ⟨rfl, rfl⟩) rfl (fun t ht => by cases ht)
    (by simpa using ((h.main.set_ 2 (.slice none 0 0)).set_ 3 (.bool false)).set_ 4 (.bool false))⟩

set_option maxRecDepth 100000 in
set_option maxHeartbeats 800000 in
theorem rfail_on (h : RefAt' w m g1 g2 c1 c2 qv b x y z d F) (ho : d.off = false) (wr by_ : Int) :
    Calls Tryz.prog 16 #[.pointer (some ⟨m, 0, none⟩), .int .i64 wr, .int .i64 by_] w fun e w' =>
      e = .returned (.tuple #[]) ∧ Only F w w' ∧ RefAt' w' m g1 g2 c1 c2 (.slice none 0 0) false x y z (d.fail wr by_) F := by
  obtain ⟨A, c, rfl⟩ := h.form
  obtain ⟨k0, f0, hlt⟩ := h.main.all
  have hql := h.qlen
  have HO := Lib.hid ho
  simp only [ho] at k0
  obtain ⟨u, hu⟩ : ∃ u : Int, u = min wr (d.q.length : Int) := ⟨_, rfl⟩
  obtain ⟨n, hn⟩ : ∃ n : Nat, (n : Int) = max 0 u := ⟨(max 0 u).toNat, by omega⟩
  have e1 := run_min2 (P := Tryz.prog) wr (d.q.length : Int) u hu
  have e2 := run_max2 (P := Tryz.prog) 0 u n hn
  obtain ⟨v, hv⟩ : ∃ v : Int, v = min by_ 64 := ⟨_, rfl⟩
  obtain ⟨k, hk⟩ : ∃ k : Nat, (k : Int) = max 0 v := ⟨(max 0 v).toNat, by omega⟩
  have e3 := run_min2 (P := Tryz.prog) by_ 64 v hv
  have e4 := run_max2 (P := Tryz.prog) 0 v k hk
  have hnl : n ≤ d.q.length := by omega
  have hkl : k ≤ 64 := by omega
  have en : clamp wr d.q.length = n := by unfold clamp; omega
  have em : clamp by_ 64 = k := by unfold clamp; omega
  have EN := Lib.hid en
  have EM := Lib.hid em
  clear hn hk hu hv en em
  have hd : d.fail wr by_ = { (((d.settle (d.q.take n)).torn d.q[n]? k)) with q := [], off := true, arm := none } := by
    unfold Dk.fail; rw [ho, EN.out, EM.out]; rfl
  have HD := Lib.hid hd
  clear hd ho
  have hsame := Dk.settle_same (d.q.take n) d
  have HS := Lib.hid hsame
  clear hsame
  by_cases hnl2 : n < d.q.length
  · obtain ⟨p, hp⟩ : ∃ p, d.q[n]? = some p := ⟨_, List.getElem?_eq_getElem hnl2⟩
    have hqk : p.1 < d.n ∧ p.2.size = 64 := h.ok.q _ (List.mem_of_getElem? hp)
    have HP := Lib.hid hp
    clear hp
    obtain ⟨s, t⟩ := p
    simp only at hqk
    obtain ⟨hs, ht⟩ := hqk
    have HT := Lib.hid ht
    clear ht
    go_enter Tryz.func16, Tryz.ntmps16
    go_wp2_with fail
    refine (rsettle_any h n hnl).mono ?_
    rintro e w1 ⟨rfl, o1, h1⟩
    have hn1 : (d.settle (d.q.take n)).n = d.n := HS.out.1
    have hq1 : (d.settle (d.q.take n)).q = d.q := HS.out.2.1
    have hof : (d.settle (d.q.take n)).off = false := HS.out.2.2.1.trans HO.out
    generalize d.settle (d.q.take n) = D at *
    have hRq := h1.q
    rw [hq1] at hRq
    obtain ⟨r1, r2⟩ := rcells_at d.q HP.out
    obtain ⟨g, hA⟩ : ∃ g, A = some ⟨g, 0, none⟩ := by
      rcases hRq.2 with ⟨h0, _⟩ | ⟨g, cap, cur, hv, _⟩
      · injection h0 with _ h0 _; omega
      · injection hv with hv; exact ⟨g, hv⟩
    subst hA
    have a1 := hRq.cellAt (n * 2) (by omega)
    have a2 := hRq.cellAt (n * 2 + 1) (by omega)
    rw [r1] at a1
    rw [r2] at a2
    simp only at a1 a2
    obtain ⟨m0, m1, m2⟩ := h1.main.all
    simp only [hof] at m0
    have hnI : (n : Int) < d.q.length := by omega
    have HN := Lib.hid hn1
    have hsD : s < D.n := by omega
    have hsI : (s : Int) < D.n := by omega
    have hsI0 : (0 : Int) ≤ s := by omega
    clear k0 f0 hRq r1 r2 hq1 hn1 hof
    by_cases hk0 : 0 < k
    · have s1 := h1.st.cellAt s (by omega)
      rw [str_at (Dk.stS_at D hsD)] at s1
      have hsz := Dk.secB_size h1.ok hsD
      have HSB := Lib.hid (show D.secB s = D.secB s from rfl)
      have hT : (D.secB s).data.toList = D.sec s := by simp [Dk.secB]
      have htorn := Dk.set_torn h1.ok (k := k) (t := t.data.toList) hsD (by rw [toList_len]; exact HT.out) hkl
      have hres : (D.torn (some (s, t)) k) = D.set_ s (t.extract 0 k ++ (D.secB s).extract k (D.secB s).size).data.toList := by
        unfold Dk.torn
        simp only [hk0, if_true]
        rw [htorn]
        congr 1
        rw [← hT]
        simp [ByteArray.data_append, ByteArray.data_extract, List.take_of_length_le]
      have HRES := Lib.hid hres
      have hs1 : (t.extract 0 k).size = k := by rw [ext_size _ _ _ (by rw [HT.out]; omega)]; omega
      have hs2 : ((D.secB s).extract k (D.secB s).size).size = 64 - k := by rw [ext_size _ _ _ (Nat.le_refl _), hsz]
      have hsl1 : ∀ W : World, (Instr.slice 9 (.string t) none (some (.int .i64 (k : Int))) none).run Tryz.prog W = .ok (.string (t.extract 0 k)) W := fun W => by
        have := run_slice_string_h (P := Tryz.prog) W 9 t (by kernel_rfl) .i64 (k : Int) (by omega) (by rw [HT.out]; omega)
        simpa using this
      have hsl2 : ∀ W : World, (Instr.slice 9 (.string (D.secB s)) (some (.int .i64 (k : Int))) none none).run Tryz.prog W = .ok (.string ((D.secB s).extract k (D.secB s).size)) W := fun W => by
        have := run_slice_string_l (P := Tryz.prog) W 9 (D.secB s) (by kernel_rfl) .i64 (k : Int) (by omega) (by rw [hsz]; omega)
        simpa using this
      have had : ∀ W : World, (Op.stringOp .add (t.extract 0 k) ((D.secB s).extract k (D.secB s).size)).run Tryz.prog W = .ok (.string (t.extract 0 k ++ (D.secB s).extract k (D.secB s).size)) W := fun W => run_string_add_sum W _ _ (by omega)
      have hTT : (t.extract 0 k ++ (D.secB s).extract k (D.secB s).size).size = 64 := by rw [ByteArray.size_append, hs1, hs2]; omega
      have HTT := Lib.hid hTT
      clear hs1 hs2 hTT hres htorn hT HSB
      have hsz' : 64 ≤ (D.secB s).size := by omega
      generalize t.extract 0 k ++ (D.secB s).extract k (D.secB s).size = T at *
      generalize (D.secB s).extract k (D.secB s).size = T2 at *
      generalize t.extract 0 k = T1 at *
      generalize D.secB s = sb at *
      clear hsz hsz'
      have hg1l := h1.fl _ h1.f1
      go_wp2_with fail
      refine wp_region_tail 18 (by kernel_rfl) (by kernel_rfl) ?_
      simp only [List.take_succ_cons, List.take_zero, List.drop_succ_cons, List.drop_zero]
      repeat still_step
      refine wpStill_nil ?_
      go_wp2_with fail
      have h1' := h1.keep ((Only.refl (fun _ => False) w1).alloc (.cells #[Value.int .i64 (s : Int), .string t] 85)).drew (by simp)
      refine (rset_any h1' s T hsD HTT.out).mono ?_
      rintro e w2 ⟨rfl, o2, h2⟩
      obtain ⟨n0, n1, n2⟩ := h2.main.all
      clear m0 m1
      go_wp2
      go_end0
      obtain ⟨r1, r2⟩ := h2.down ((o1.alloc _).trans o2.undrew (fun i hi => .inl hi))
      refine ⟨rfl, r1, ?_⟩
      rw [HD.out, HP.out, HRES.out]
      exact r2
    · go_wp2
      go_end0
      obtain ⟨r1, r2⟩ := h1.down o1
      refine ⟨rfl, r1.alloc _, ?_⟩
      rw [HD.out, HP.out]
      have : D.torn (some (s, t)) k = D := by simp [Dk.torn, hk0]
      rw [this]
      exact r2.keep ((Only.refl (fun _ => False) _).alloc _) (by simp)
  · go_enter Tryz.func16, Tryz.ntmps16
    go_wp2_with fail
    refine (rsettle_any h n hnl).mono ?_
    rintro e w1 ⟨rfl, o1, h1⟩
    have hof : (d.settle (d.q.take n)).off = false := HS.out.2.2.1.trans HO.out
    obtain ⟨m0, m1, m2⟩ := h1.main.all
    simp only [hof] at m0
    clear k0 f0 hof
    go_wp2
    go_end0
    obtain ⟨r1, r2⟩ := h1.down o1
    refine ⟨rfl, r1, ?_⟩
    rw [HD.out, List.getElem?_eq_none (by omega)]
    exact r2
end
end Go.Proofs.YtieicjjmkedgaaaGreatDoor
