/- A region that draws its order, walked in stages: reads whose values hang on no world; reads that hold as long as S does, with calls that keep S behind them; operations that come up one at a time. Over any program. A great region that draws its order, walked in stages one at a time, each with its own small check. Over any program. A region that draws its order, all of whose operations keep S: those that make memory or call come by any turns; reads that hold as long as S does are taken at once. Over any program. -/
import Derived.Test.YtgfahifdmacmhaaGreatDoorBu
namespace Go.Proofs.YtgfahifdmacmhaaGreatDoor
open Go.RowKit

inductive Stg where
  /-- reads whose values hang on no world -/
  | free (hs : List Nat)
  /-- reads that hold as long as S does; then operations, one at a time, behind each of which S holds; all others wait for all the reads -/
  | hold (S : World → Prop) (hs es : List Nat)
  /-- one at a time -/
  | run (ts : List Nat)

section
variable {P : Program} {Q : Exit → Act → World → Prop}

def onesB (ops : Array Oper) : List Nat → Array Bool → Option (Array Bool)
  | [], listed => some listed
  | t :: ts, listed => if Region.ready .any ops listed = [t] then onesB ops ts (listed.setIfInBounds t true) else none
def leftOver (n : Nat) (listed : Array Bool) (hs es : List Nat) : List Nat := (List.range n).filter fun j => !listed.getD j false && !hs.contains j && !es.contains j
def stgB (l : List Oper) : List Stg → Array Bool → Bool
  | [], listed => (Region.ready .any l.toArray listed).isEmpty
  | .free hs :: r, listed => match headB .any l.toArray hs listed with
    | none => false
    | some l2 => stgB l r l2
  | .hold _ hs es :: r, listed => match headB .any l.toArray hs listed with
    | none => false
    | some l2 => waitB .any l.toArray (leftOver l.length listed hs es) hs && match onesB l.toArray es l2 with
      | none => false
      | some l3 => stgB l r l3
  | .run ts :: r, listed => match onesB l.toArray ts listed with
    | none => false
    | some l2 => stgB l r l2
def cnt : List Stg → Nat
  | [] => 0
  | .free hs :: r => hs.length + cnt r
  | .hold _ hs es :: r => hs.length + (es.length + cnt r)
  | .run ts :: r => ts.length + cnt r
def wpRun (P : Program) (l : List Oper) (Q : Exit → Act → World → Prop) (K : Act → World → Prop) (ts : List Nat) (a : Act) (w : World) : Prop := wpList P l.toArray (Exit.then K Q) (pick l ts) a w
def wpStg (P : Program) (l : List Oper) (Q : Exit → Act → World → Prop) : List Stg → Act → World → Prop
  | [], a, w => Q .normal a w
  | .free hs :: r, a, w => wpHeld P l.toArray (fun _ => True) (fun a' => wpStg P l Q r a' w) (pick l hs) a
  | .hold S hs es :: r, a, w => S w ∧ wpHeld P l.toArray S (fun a' => wpEarly P l.toArray S Q (fun a w => wpStg P l Q r a w) (pick l es) a' w) (pick l hs) a
  | .run ts :: r, a, w => wpRun P l Q (fun a' w' => wpStg P l Q r a' w') ts a w

theorem wpOp_of_cons {ops : Array Oper} {w : World} {i : Nat} {o : Oper} {rest : List Oper} {K : Act → World → Prop} {a : Act} (hi : ops[i]? = some o) (h : wpList P ops (Exit.then K Q) (o :: rest) a w) : wpOp P ops Q i (fun a' w' => wpList P ops (Exit.then K Q) rest a' w') a w := by
  unfold wpOp
  simp only [hi]
  unfold wpList at h
  split
  · rename_i hw
    rw [if_pos hw] at h
    rcases h with h | ⟨h1, a0, w0, h2⟩
    · left
      unfold Oper.wp at *
      generalize (execOp a.eval o).run P w = r at *
      cases r with
      | ok n w' =>
        cases n <;> simp only [Oper.upon] at h ⊢ <;>
          first
            | exact h
            | exact Calls.mono h (fun e w'' he => by cases e <;> first | exact he | (obtain ⟨a1, w1, h1⟩ := he; exact ⟨a1, w1, h1⟩))
            | exact Rows.mono h (fun _ _ he => he)
      | halt x w' => cases x <;> simp only [Oper.upon] at h ⊢ <;> exact h
    · exact .inr ⟨h1, a0, w0, h2⟩
  · rename_i hw
    rw [if_neg hw] at h
    exact h

theorem onesB_closed {l : List Oper} : ∀ (ts : List Nat) (listed l2 : Array Bool), Closed .any l.toArray listed → onesB l.toArray ts listed = some l2 → Closed .any l.toArray l2
  | [], _, _, hc, h => by simp only [onesB, Option.some.injEq] at h; subst h; exact hc
  | t :: ts, listed, l2, hc, h => by
    unfold onesB at h
    split at h
    · rename_i hr
      exact onesB_closed ts _ _ (hc.set (by rw [hr]; simp)) h
    · cases h
theorem wpAny_ones {l : List Oper} {K : Act → World → Prop} {g : Nat} {l2 : Array Bool} (hK : ∀ a w, K a w → wpAny P .any l.toArray Q g l2 a w) : ∀ (ts : List Nat) (listed : Array Bool) (a : Act) (w : World), onesB l.toArray ts listed = some l2 →
    wpList P l.toArray (Exit.then K Q) (pick l ts) a w → wpAny P .any l.toArray Q (ts.length + g) listed a w
  | [], listed, a, w, h, hw => by
    simp only [onesB, Option.some.injEq] at h
    subst h
    rw [List.length_nil, Nat.zero_add]
    exact hK a w hw
  | t :: ts, listed, a, w, h, hw => by
    unfold onesB at h
    split at h
    · rename_i hr
      have hr' : t ∈ Region.ready .any l.toArray listed := by rw [hr]; simp
      obtain ⟨_, o, h0, _⟩ := mem_ready.1 hr'
      have hp : pick l (t :: ts) = o :: pick l ts := by
        have : l[t]? = some o := by simpa using h0
        simp [pick, this]
      rw [hp] at hw
      rw [show (t :: ts).length + g = (ts.length + g) + 1 by simp; omega]
      refine ⟨fun h1 => (by rw [hr] at h1; cases h1), fun i hi => ?_⟩
      rw [hr] at hi
      obtain rfl : i = t := by simpa using hi
      exact wpOp_mono (fun a' w' h' => wpAny_ones hK ts _ a' w' h h') (wpOp_of_cons h0 hw)
    · cases h
theorem wpAnyE_ones {l : List Oper} {S : World → Prop} {late : Nat → Bool} {K : Act → World → Prop} {g : Nat} {l2 : Array Bool} (hK : ∀ a w, K a w → wpAnyE P .any l.toArray Q S late g l2 a w) : ∀ (es : List Nat) (listed : Array Bool) (a : Act) (w : World), onesB l.toArray es listed = some l2 →
    wpEarly P l.toArray S Q K (pick l es) a w → wpAnyE P .any l.toArray Q S late (es.length + g) listed a w
  | [], listed, a, w, h, hw => by
    simp only [onesB, Option.some.injEq] at h
    subst h
    rw [List.length_nil, Nat.zero_add]
    exact hK a w hw
  | t :: ts, listed, a, w, h, hw => by
    unfold onesB at h
    split at h
    · rename_i hr
      have hr' : t ∈ Region.ready .any l.toArray listed := by rw [hr]; simp
      obtain ⟨_, o, h0, _⟩ := mem_ready.1 hr'
      have hp : pick l (t :: ts) = o :: pick l ts := by
        have : l[t]? = some o := by simpa using h0
        simp [pick, this]
      rw [hp] at hw
      rw [show (t :: ts).length + g = (ts.length + g) + 1 by simp; omega]
      refine ⟨fun h1 => (by rw [hr] at h1; cases h1), fun i hi => ?_⟩
      rw [hr] at hi
      obtain rfl : i = t := by simpa using hi
      exact wpOp_mono (fun a' w' h' => ⟨fun _ => h'.1, wpAnyE_ones hK ts _ a' w' h h'.2⟩) (wpOp_of_one h0 hw)
    · cases h
theorem onesB_set {ops : Array Oper} : ∀ (ts : List Nat) (listed l2 : Array Bool), onesB ops ts listed = some l2 → setAll ts listed = l2
  | [], _, _, h => by simp only [onesB, Option.some.injEq] at h; exact h
  | t :: ts, listed, l2, h => by
    unfold onesB at h
    split at h
    · exact onesB_set ts _ _ h
    · cases h
theorem setAll_of {j : Nat} : ∀ (ts : List Nat) (listed : Array Bool), j < listed.size → (setAll ts listed).getD j false = false → listed.getD j false = false ∧ j ∉ ts
  | [], _, _, h => ⟨h, by simp⟩
  | t :: ts, listed, hj, h => by
    have h' : (setAll ts (listed.setIfInBounds t true)).getD j false = false := h
    obtain ⟨h1, h2⟩ := setAll_of ts (listed.setIfInBounds t true) (by simpa using hj) h'
    by_cases htj : t = j
    · subst htj
      simp [Array.getD, hj] at h1
    · rw [getD_set_ne false htj] at h1
      exact ⟨h1, by simp [h2, Ne.symm htj]⟩
theorem size_setAll : ∀ (ts : List Nat) (listed : Array Bool), (setAll ts listed).size = listed.size
  | [], _ => rfl
  | t :: ts, listed => by
    show (setAll ts (listed.setIfInBounds t true)).size = _
    rw [size_setAll ts, Array.size_setIfInBounds]
theorem wpAny_stg {l : List Oper} (hsel : Region.noSelect l.toArray = true) (hQ : ∀ c (d : Option Tmp) (v : Value) a w, Q (.panic c) (a.put d v) w → Q (.panic c) a w) :
    ∀ (st : List Stg) (listed : Array Bool) (a : Act) (w : World), stgB l st listed = true → Closed .any l.toArray listed → listed.size = l.length → wpStg P l Q st a w → wpAny P .any l.toArray Q (cnt st) listed a w
  | [], listed, a, w, hB, _, _, h => ⟨by simpa [stgB] using hB, h⟩
  | .free hs :: r, listed, a, w, hB, hc, hz, h => by
    unfold stgB at hB
    cases h2 : headB .any l.toArray hs listed with
    | none => rw [h2] at hB; cases hB
    | some l2 =>
      rw [h2] at hB
      have hz2 : l2.size = l.length := by rw [← headB_set _ _ _ h2, size_setAll]; exact hz
      exact wpAny_of_E _ _ _ _ (wpAnyE_held (P := P) (Q := Q) (md := .any) (w := w) (S := fun _ => True) (late := fun _ => false) (hs := hs) (g := cnt r) hsel hQ (fun _ _ _ h => by cases h) (fun _ _ => rfl) trivial
        (fun a' ha' => wpAnyE_any (fun _ => trivial) _ _ _ _ (wpAny_stg hsel hQ r l2 a' w hB (headB_closed _ _ _ hc h2) hz2 ha')) hs listed a (fun k hk => hk) hc h2 h)
  | .hold S hs es :: r, listed, a, w, hB, hc, hz, h => by
    unfold stgB at hB
    cases h2 : headB .any l.toArray hs listed with
    | none => rw [h2] at hB; cases hB
    | some l2 =>
      rw [h2] at hB
      simp only [Bool.and_eq_true] at hB
      obtain ⟨hw, hB⟩ := hB
      cases h3 : onesB l.toArray es l2 with
      | none => rw [h3] at hB; cases hB
      | some l3 =>
        rw [h3] at hB
        simp only at hB
        have hc2 := headB_closed _ _ _ hc h2
        have hs2 := headB_set _ _ _ h2
        have hs3 := onesB_set _ _ _ h3
        have hz2 : l2.size = l.length := by rw [← hs2, size_setAll]; exact hz
        have hz3 : l3.size = l.length := by rw [← hs3, size_setAll]; exact hz2
        refine wpAny_of_E _ _ _ _ (wpAnyE_held (P := P) (Q := Q) (md := .any) (w := w) (S := S) (late := fun j => (leftOver l.length listed hs es).contains j) (hs := hs) (g := es.length + cnt r) hsel hQ
          (fun j i hi hj => List.all_eq_true.1 (List.all_eq_true.1 hw j (List.contains_iff_mem.1 hj)) i hi) (fun i hi => ?_) h.1
          (fun a' ha' => wpAnyE_ones (fun a2 w2 h2 => wpAnyE_late _ _ _ _ (fun j hj hjl => ?_) (wpAny_stg hsel hQ r l3 a2 w2 hB (onesB_closed _ _ _ hc2 h3) hz3 h2)) es l2 a' w h3 ha') hs listed a (fun k hk => hk) hc h2 h.2)
        · cases hq : (leftOver l.length listed hs es).contains i with
          | false => rfl
          | true =>
            have := List.mem_filter.1 (List.contains_iff_mem.1 hq)
            simp [hi] at this
        · have hjl2 : j < l.length := by simpa using hj
          rw [← hs3] at hjl
          obtain ⟨g1, g2⟩ := setAll_of es l2 (by omega) hjl
          rw [← hs2] at g1
          obtain ⟨g3, g4⟩ := setAll_of hs listed (by omega) g1
          refine List.contains_iff_mem.2 (List.mem_filter.2 ⟨List.mem_range.2 hjl2, ?_⟩)
          simp [g2, g4]
          simpa using g3
  | .run ts :: r, listed, a, w, hB, hc, hz, h => by
    unfold stgB at hB
    cases h2 : onesB l.toArray ts listed with
    | none => rw [h2] at hB; cases hB
    | some l2 =>
      rw [h2] at hB
      have hz2 : l2.size = l.length := by rw [← onesB_set _ _ _ h2, size_setAll]; exact hz
      exact wpAny_ones (fun a' w' h' => wpAny_stg hsel hQ r l2 a' w' hB (onesB_closed _ _ _ hc h2) hz2 h') ts listed a w h2 h

/-- A REGION THAT DRAWS ITS ORDER, IN STAGES. -/
theorem wp_region_stages {id : Nat} {l : List Oper} {a : Act} {w : World} (st : List Stg) (hm : P.follows .mixedOrders = true) (hB : (Region.noSelect l.toArray && decide (cnt st = l.length) && stgB l st (Array.replicate l.length false)) = true)
    (hQ : ∀ c (d : Option Tmp) (v : Value) a w, Q (.panic c) (a.put d v) w → Q (.panic c) a w) (h : wpStg P l Q st a w.drew) : (Code.region id l.toArray true).wp P Q a w := by
  simp only [Bool.and_eq_true, decide_eq_true_eq] at hB
  obtain ⟨⟨hsel, hlen⟩, hst⟩ := hB
  have hc0 : Closed .any l.toArray (Array.replicate l.length false) := fun j oj _ hl => by rw [getD_replicate_false] at hl; cases hl
  refine wp_region_any hm ?_
  have k := wpAny_stg (P := P) (Q := Q) hsel hQ st _ a w.drew hst hc0 (by simp) h
  rw [hlen] at k
  have hsz : l.toArray.size = l.length := by simp
  rw [hsz]
  exact k
theorem wpHeld_want {ops : Array Oper} {S : World → Prop} {K : Act → Prop} {a : Act} {o : Oper} {rest : List Oper} (v : Value) (hw : Region.wanted o (yielded ops a.tmps) = true) (h : ∀ w, S w → (execOp a.eval o).run P w = .ok (.value v) w) (hK : wpHeld P ops S K rest (a.put o.dst v)) :
    wpHeld P ops S K (o :: rest) a := ⟨v, .inl ⟨hw, h⟩, hK⟩
theorem wpHeld_skip {ops : Array Oper} {S : World → Prop} {K : Act → Prop} {a : Act} {o : Oper} {rest : List Oper} (hw : Region.wanted o (yielded ops a.tmps) = false) (hK : wpHeld P ops S K rest (a.put o.dst undef)) :
    wpHeld P ops S K (o :: rest) a := ⟨undef, .inr ⟨hw, rfl⟩, hK⟩
end
end Go.Proofs.YtgfahifdmacmhaaGreatDoor

namespace Go.Proofs.YtgfahifdmacmhaaGreatDoor
open Go.RowKit

section
variable {P : Program} {ops : Array Oper} {md : Region.Mode} {Q : Exit → Act → World → Prop}

/-- Operation j waits for operation i. -/
def Waits (md : Region.Mode) (ops : Array Oper) (i j : Nat) : Prop := ∀ listed : Array Bool, Closed md ops listed → listed.getD i false = false → listed.getD j false = false ∧ j ∉ Region.ready md ops listed
/-- A table of operations that wait for g: each waits for g itself or for an earlier one of the table. -/
def markB (md : Region.Mode) (ops : Array Oper) (g : Nat) (marks : List Nat) : Bool := marks.all fun t => match ops[t]? with
  | some o => o.after.any fun e => Region.binds md e && decide (e.on < t) && (e.on == g || marks.contains e.on)
  | none => false
theorem mark_waits {g : Nat} {marks : List Nat} (h : markB md ops g marks = true) : ∀ (n t : Nat), t < n → t ∈ marks → Waits md ops g t
  | 0, _, h0, _ => by omega
  | n + 1, t, h0, ht => by
    intro listed hc hg
    have h1 := List.all_eq_true.1 h t ht
    cases ho : ops[t]? with
    | none => rw [ho] at h1; cases h1
    | some o =>
      rw [ho] at h1
      obtain ⟨e, he, hb⟩ := Array.any_eq_true'.1 h1
      simp only [Bool.and_eq_true, Bool.or_eq_true, beq_iff_eq, decide_eq_true_eq] at hb
      have hon : listed.getD e.on false = false := by
        rcases hb.2 with h2 | h2
        · rw [h2]; exact hg
        · exact (mark_waits h n e.on (by omega) (List.contains_iff_mem.1 h2) listed hc hg).1
      refine ⟨?_, fun hr => ?_⟩
      · cases hl : listed.getD t false with
        | false => rfl
        | true => rw [hc t o ho hl e he hb.1.1] at hon; cases hon
      · obtain ⟨_, o', ho', hall⟩ := mem_ready.1 hr
        have : o' = o := Option.some.inj (ho'.symm.trans ho)
        subst this
        rw [hall e he hb.1.1] at hon
        cases hon

theorem wpAnyE_firstW {S : World → Prop} {late : Nat → Bool} {i : Nat} {oi : Oper} {v : Value} (hi : ops[i]? = some oi) (hsel : ∀ (j : Nat) (o : Oper) cs b, ops[j]? = some o → o.op ≠ .select cs b)
    (hQ : ∀ c a w, Q (.panic c) (a.put oi.dst v) w → Q (.panic c) a w) (hlate : ∀ j, late j = true → Waits md ops i j) (hli : late i = false) :
    ∀ (fuel : Nat) (listed : Array Bool) (a : Act) (w : World), Closed md ops listed →
      (∀ j oj, ops[j]? = some oj → j ≠ i → listed.getD j true = false → (∀ e ∈ oj.after, Region.binds md e = true → e.on ≠ i) → oi.apart ops oj = true) →
      i ∈ Region.ready md ops listed → YieldsIf P ops S oi v a → S w →
      wpAnyE P md ops Q S late fuel (listed.setIfInBounds i true) (a.put oi.dst v) w → wpAnyE P md ops Q S late (fuel + 1) listed a w := by
  intro fuel
  induction fuel with
  | zero =>
    intro listed a w hc _ hr hy hS H
    refine ⟨fun h => (by rw [h] at hr; cases hr), fun j hj => ?_⟩
    by_cases hji : j = i
    · subst hji; exact hy.wpOp hi hS ⟨fun _ => hS, H⟩
    · have := ready_mono hj hji
      rw [H.1] at this
      cases this
  | succ fuel ih =>
    intro listed a w hc hfree hr hy hS H
    refine ⟨fun h => (by rw [h] at hr; cases hr), fun j hj => ?_⟩
    by_cases hji : j = i
    · subst hji; exact hy.wpOp hi hS ⟨fun _ => hS, H⟩
    · have h1 := H.2 j (ready_mono hj hji)
      have hun := (mem_ready.1 hr).1
      have hlj : late j = false := by
        cases hl : late j with
        | false => rfl
        | true => exact absurd hj (hlate j hl listed hc (getD_both hun)).2
      obtain ⟨hjun, oj, hoj, hall⟩ := mem_ready.1 hj
      have hnot : ∀ e ∈ oj.after, Region.binds md e = true → e.on ≠ i := fun e he hb heq => by
        have h1 := hall e he hb
        rw [heq, getD_both hun] at h1
        cases h1
      have h2 := wpOp_putIf hoj (hfree j oj hoj hji hjun hnot) (fun cs b => hsel i oi cs b hi) (fun cs b => hsel j oj cs b hoj) hQ hy h1
      have hfree' : ∀ k ok, ops[k]? = some ok → k ≠ i → (listed.setIfInBounds j true).getD k true = false →
          (∀ e ∈ ok.after, Region.binds md e = true → e.on ≠ i) → oi.apart ops ok = true := fun k ok hk hki hun hno => by
        refine hfree k ok hk hki ?_ hno
        by_cases hjk : j = k
        · subst hjk; exact hjun
        · rw [getD_set_ne true hjk] at hun; exact hun
      refine wpOp_mono (fun a' w' h3 => ⟨fun _ => h3.2.1 hlj, ih (listed.setIfInBounds j true) a' w' (hc.set hj) hfree' (ready_mono hr (Ne.symm hji)) h3.1 (h3.2.1 hlj) ?_⟩) h2
      rw [Array.setIfInBounds_comm _ _ hji]
      exact h3.2.2
theorem wpAnyE_heldW {w : World} {l : List Oper} {S : World → Prop} {late : Nat → Bool} {K : Act → Prop} {hs : List Nat} {listed2 : Array Bool} {g : Nat} (hsel : Region.noSelect l.toArray = true) (hQ : ∀ c (d : Option Tmp) (v : Value) a w, Q (.panic c) (a.put d v) w → Q (.panic c) a w)
    (hlate : ∀ j i, i ∈ hs → late j = true → Waits md l.toArray i j) (hln : ∀ i ∈ hs, late i = false) (hS : S w)
    (hK : ∀ a, K a → wpAnyE P md l.toArray Q S late g listed2 a w) :
    ∀ (ks : List Nat) (listed : Array Bool) (a : Act), (∀ k ∈ ks, k ∈ hs) → Closed md l.toArray listed → headB md l.toArray ks listed = some listed2 →
    wpHeld P l.toArray S K (pick l ks) a → wpAnyE P md l.toArray Q S late (ks.length + g) listed a w
  | [], listed, a, _, _, hB, h => by
    simp only [headB, Option.some.injEq] at hB
    subst hB
    rw [List.length_nil, Nat.zero_add]
    exact hK a h
  | k :: ks, listed, a, hk, hc, hB, h => by
    unfold headB at hB
    split at hB
    · rename_i hrf
      simp only [Bool.and_eq_true] at hrf
      have hr' : k ∈ Region.ready md l.toArray listed := by simpa using hrf.1
      obtain ⟨_, o, h0, _⟩ := mem_ready.1 hr'
      have hp : pick l (k :: ks) = o :: pick l ks := by
        have : l[k]? = some o := by simpa using h0
        simp [pick, this]
      rw [hp] at h
      obtain ⟨v, hy, hr⟩ := h
      rw [show (k :: ks).length + g = (ks.length + g) + 1 by simp; omega]
      exact wpAnyE_firstW h0 (Region.noSelect_spec hsel) (fun c a w => hQ c _ _ a w) (fun j => hlate j k (hk k (by simp))) (hln k (hk k (by simp))) _ listed a w hc (Region.free_spec h0 hrf.2) hr' hy hS
        (wpAnyE_heldW hsel hQ hlate hln hS hK ks _ _ (fun k' h' => hk k' (by simp [h'])) (hc.set hr') hB hr)
    · cases hB

/-- The region, walked as far as 'listed'. -/
structure Good (l : List Oper) (listed : Array Bool) : Prop where
  sel : Region.noSelect l.toArray = true
  closed : Closed .any l.toArray listed
  size : listed.size = l.length
def At (P : Program) (l : List Oper) (Q : Exit → Act → World → Prop) (n : Nat) (listed : Array Bool) (a : Act) (w : World) : Prop :=
  (∀ c (d : Option Tmp) (v : Value) a w, Q (.panic c) (a.put d v) w → Q (.panic c) a w) → Good l listed → wpAny P .any l.toArray Q n listed a w
variable {l : List Oper} {listed l2 l3 : Array Bool} {a : Act} {w : World} {n N : Nat}
theorem at_end (hB : Region.ready .any l.toArray listed = []) (h : Q .normal a w) : At P l Q 0 listed a w := fun _ _ => ⟨hB, h⟩
theorem at_free (hs : List Nat) (l2 : Array Bool) (n : Nat) (hN : hs.length + n = N) (hB : headB .any l.toArray hs listed = some l2) (h : wpHeld P l.toArray (fun _ => True) (fun a' => At P l Q n l2 a' w) (pick l hs) a) : At P l Q N listed a w := by
  subst hN
  intro hQ hg
  have hg2 : Good l l2 := ⟨hg.sel, headB_closed _ _ _ hg.closed hB, by rw [← headB_set _ _ _ hB, size_setAll]; exact hg.size⟩
  exact wpAny_of_E _ _ _ _ (wpAnyE_held (P := P) (Q := Q) (md := .any) (w := w) (S := fun _ => True) (late := fun _ => false) (hs := hs) (g := n) hg.sel hQ (fun _ _ _ h => by cases h) (fun _ _ => rfl) trivial
    (fun a' ha' => wpAnyE_any (fun _ => trivial) _ _ _ _ (ha' hQ hg2)) hs listed a (fun k hk => hk) hg.closed hB h)
theorem at_run (ts : List Nat) (l2 : Array Bool) (n : Nat) (hN : ts.length + n = N) (hB : onesB l.toArray ts listed = some l2) (h : wpList P l.toArray (Exit.then (fun a' w' => At P l Q n l2 a' w') Q) (pick l ts) a w) : At P l Q N listed a w := by
  subst hN
  intro hQ hg
  have hg2 : Good l l2 := ⟨hg.sel, onesB_closed _ _ _ hg.closed hB, by rw [← onesB_set _ _ _ hB, size_setAll]; exact hg.size⟩
  exact wpAny_ones (fun a' w' h' => h' hQ hg2) ts listed a w hB h
/-- 'marks': for each read, a table of operations that wait for it; all that is left is in each table. -/
def leftB (m : Nat) (l3 : Array Bool) (hs : List Nat) (marks : List (List Nat)) : Bool := (List.range m).all fun j => l3.getD j false || (!hs.contains j && marks.all fun ms => ms.contains j)
theorem at_hold (S : World → Prop) (hs es : List Nat) (marks : List (List Nat)) (l2 l3 : Array Bool) (n : Nat) (hN : hs.length + (es.length + n) = N) (hB : headB .any l.toArray hs listed = some l2) (hE : onesB l.toArray es l2 = some l3)
    (hM : ((List.zip hs marks).all fun p => markB .any l.toArray p.1 p.2) = true) (hZ : hs.length = marks.length) (hL : leftB l.length l3 hs marks = true) (hS : S w)
    (h : wpHeld P l.toArray S (fun a' => wpEarly P l.toArray S Q (fun a w => At P l Q n l3 a w) (pick l es) a' w) (pick l hs) a) : At P l Q N listed a w := by
  subst hN
  intro hQ hg
  have hc2 := headB_closed _ _ _ hg.closed hB
  have hz2 : l2.size = l.length := by rw [← headB_set _ _ _ hB, size_setAll]; exact hg.size
  have hg3 : Good l l3 := ⟨hg.sel, onesB_closed _ _ _ hc2 hE, by rw [← onesB_set _ _ _ hE, size_setAll]; exact hz2⟩
  have hall : ∀ j, j < l.length → l3.getD j false = false → j ∉ hs ∧ ∀ ms ∈ marks, j ∈ ms := fun j hj hl => by
    have := List.all_eq_true.1 hL j (List.mem_range.2 hj)
    rw [hl] at this
    simp only [Bool.false_or, Bool.and_eq_true, Bool.not_eq_true', List.all_eq_true] at this
    exact ⟨fun hm => (by rw [List.contains_iff_mem.2 hm] at this; exact absurd this.1 (by simp)), fun ms hms => List.contains_iff_mem.1 (this.2 ms hms)⟩
  refine wpAny_of_E _ _ _ _ (wpAnyE_heldW (P := P) (Q := Q) (md := .any) (w := w) (S := S) (late := fun j => decide (j < l.length) && !l3.getD j false) (hs := hs) (g := es.length + n) hg.sel hQ
    (fun j i hi hj => ?_) (fun i hi => ?_) hS
    (fun a' ha' => wpAnyE_ones (fun a2 w2 h2 => wpAnyE_late _ _ _ _ (fun j hj hjl => ?_) (h2 hQ hg3)) es l2 a' w hE ha') hs listed a (fun k hk => hk) hg.closed hB h)
  · simp only [Bool.and_eq_true, decide_eq_true_eq, Bool.not_eq_true'] at hj
    obtain ⟨_, hm⟩ := hall j hj.1 hj.2
    obtain ⟨x, hx⟩ := List.getElem?_of_mem hi
    obtain ⟨hxl, hxe⟩ := List.getElem?_eq_some_iff.1 hx
    have hmx : marks[x]? = some (marks[x]'(by omega)) := List.getElem?_eq_getElem (by omega)
    have hp : (i, marks[x]'(by omega)) ∈ List.zip hs marks := by
      apply List.mem_of_getElem? (i := x)
      rw [List.getElem?_zip_eq_some]
      exact ⟨hx, hmx⟩
    exact mark_waits (List.all_eq_true.1 hM _ hp) (j + 1) j (by omega) (hm _ (List.mem_of_getElem? hmx))
  · cases hq : (decide (i < l.length) && !l3.getD i false) with
    | false => rfl
    | true =>
      simp only [Bool.and_eq_true, decide_eq_true_eq, Bool.not_eq_true'] at hq
      exact absurd hi (hall i hq.1 hq.2).1
  · have hj2 : j < l.length := by simpa using hj
    simp [hj2, hjl]
theorem wp_region_at {id : Nat} (hm : P.follows .mixedOrders = true) (hB : Region.noSelect l.toArray = true) (hQ : ∀ c (d : Option Tmp) (v : Value) a w, Q (.panic c) (a.put d v) w → Q (.panic c) a w) (hN : l.length = N) (l0 : Array Bool) (h0 : Array.replicate l.length false = l0)
    (h : At P l Q N l0 a w.drew) : (Code.region id l.toArray true).wp P Q a w := by
  subst hN h0
  have hc0 : Closed .any l.toArray (Array.replicate l.length false) := fun j oj _ hl => by rw [getD_replicate_false] at hl; cases hl
  refine wp_region_any hm ?_
  have k := h hQ ⟨hB, hc0, by simp⟩
  have hsz : l.toArray.size = l.length := by simp
  rw [hsz]
  exact k
end
end Go.Proofs.YtgfahifdmacmhaaGreatDoor

namespace Go.Proofs.YtgfahifdmacmhaaGreatDoor
open Go.RowKit

section
variable {P : Program} {Q : Exit → Act → World → Prop} {S : World → Prop}
/-- The region, walked as far as 'listed'; what is left keeps S. -/
def AtS (P : Program) (l : List Oper) (Q : Exit → Act → World → Prop) (S : World → Prop) (n : Nat) (listed : Array Bool) (a : Act) (w : World) : Prop :=
  (∀ c (d : Option Tmp) (v : Value) a w, Q (.panic c) (a.put d v) w → Q (.panic c) a w) → Good l listed → wpAnyE P .any l.toArray Q S (fun _ => false) n listed a w
variable {l : List Oper} {listed l2 : Array Bool} {a : Act} {w : World} {n N : Nat}
theorem ats_end (hB : Region.ready .any l.toArray listed = []) (h : Q .normal a w) : AtS P l Q S 0 listed a w := fun _ _ => ⟨hB, h⟩
theorem ats_take (hs : List Nat) (n : Nat) (hN : hs.length + n = N) (hB : (headB .any l.toArray hs listed).isSome = true) (hS : S w) (h : wpHeld P l.toArray S (fun a' => AtS P l Q S n (setAll hs listed) a' w) (pick l hs) a) : AtS P l Q S N listed a w := by
  subst hN
  intro hQ hg
  obtain ⟨l2, hB⟩ := Option.isSome_iff_exists.1 hB
  rw [headB_set _ _ _ hB] at h
  have hg2 : Good l l2 := ⟨hg.sel, headB_closed _ _ _ hg.closed hB, by rw [← headB_set _ _ _ hB, size_setAll]; exact hg.size⟩
  exact wpAnyE_held (P := P) (Q := Q) (md := .any) (w := w) (S := S) (late := fun _ => false) (hs := hs) (g := n) hg.sel hQ (fun _ _ _ h => by cases h) (fun _ _ => rfl) hS
    (fun a' ha' => ha' hQ hg2) hs listed a (fun k hk => hk) hg.closed hB h
theorem ats_step (h0 : Region.ready .any l.toArray listed ≠ []) (h : ∀ i ∈ Region.ready .any l.toArray listed, wpList P l.toArray (Exit.then (fun a' w' => S w' ∧ AtS P l Q S n (listed.setIfInBounds i true) a' w') Q) (pick l [i]) a w) : AtS P l Q S (n + 1) listed a w := fun hQ hg => by
  refine ⟨fun he => absurd he h0, fun i hi => ?_⟩
  obtain ⟨_, o, ho, _⟩ := mem_ready.1 hi
  have hp : pick l [i] = [o] := by
    have : l[i]? = some o := by simpa using ho
    simp [pick, this]
  have h2 := h i hi
  rw [hp] at h2
  exact wpOp_mono (fun a' w' h' => ⟨fun _ => h'.1, h'.2 hQ ⟨hg.sel, hg.closed.set hi, by rw [Array.size_setIfInBounds]; exact hg.size⟩⟩) (wpOp_of_one ho h2)
theorem ats_one (i : Nat) (hr : Region.ready .any l.toArray listed = [i]) (h : wpList P l.toArray (Exit.then (fun a' w' => S w' ∧ AtS P l Q S n (listed.setIfInBounds i true) a' w') Q) (pick l [i]) a w) : AtS P l Q S (n + 1) listed a w :=
  ats_step (by rw [hr]; simp) fun j hj => by rw [hr] at hj; simp at hj; subst hj; exact h
theorem ats_two (i k : Nat) (hr : Region.ready .any l.toArray listed = [i, k])
    (h : wpList P l.toArray (Exit.then (fun a' w' => S w' ∧ AtS P l Q S n (listed.setIfInBounds i true) a' w') Q) (pick l [i]) a w)
    (k' : wpList P l.toArray (Exit.then (fun a' w' => S w' ∧ AtS P l Q S n (listed.setIfInBounds k true) a' w') Q) (pick l [k]) a w) : AtS P l Q S (n + 1) listed a w :=
  ats_step (by rw [hr]; simp) fun j hj => by
    rw [hr] at hj
    simp only [List.mem_cons, List.not_mem_nil, or_false] at hj
    rcases hj with rfl | rfl <;> assumption
theorem wp_region_ats {id : Nat} (S : World → Prop) (hm : P.follows .mixedOrders = true) (hB : Region.noSelect l.toArray = true) (hQ : ∀ c (d : Option Tmp) (v : Value) a w, Q (.panic c) (a.put d v) w → Q (.panic c) a w) (hN : l.length = N)
    (h : AtS P l Q S N (Array.replicate N false) a w.drew) : (Code.region id l.toArray true).wp P Q a w := by
  subst hN
  have hc0 : Closed .any l.toArray (Array.replicate l.length false) := fun j oj _ hl => by rw [getD_replicate_false] at hl; cases hl
  refine wp_region_any hm ?_
  have k := wpAny_of_E _ _ _ _ (h hQ ⟨hB, hc0, by simp⟩)
  have hsz : l.toArray.size = l.length := by simp
  rw [hsz]
  exact k
end
end Go.Proofs.YtgfahifdmacmhaaGreatDoor
