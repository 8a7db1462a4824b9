/- Part 5 of what the laws of this seat stand on: Px, Py, Ha, Ga, Gb. -/
import Derived.Test.YtaicbllfkehhjaaY4

/- A region that draws its order, walked in stages: reads whose values hang on no world; reads that hold as long as S does, with calls that keep S behind them; operations that come up one at a time. Over any program. -/
namespace Go.Proofs.Ytaicbllfkehhjaa
open Go.RowKit

inductive Stg where
  /-- reads whose values hang on no world -/
  | free (hs : List Nat)
  /-- reads that hold as long as S does; then operations, one at a time, behind each of which S holds; all others wait for all the reads -/
  | hold (S : World → Prop) (hs es : List Nat)
  /-- one at a time -/
  | run (ts : List Nat)

section
variable {P : Program} {Q : Exit → Act → World → Prop}

def onesB (ops : Array Oper) : List Nat → Array Bool → Option (Array Bool)
  | [], listed => some listed
  | t :: ts, listed => if Region.ready .any ops listed = [t] then onesB ops ts (listed.setIfInBounds t true) else none
def leftOver (n : Nat) (listed : Array Bool) (hs es : List Nat) : List Nat := (List.range n).filter fun j => !listed.getD j false && !hs.contains j && !es.contains j
def stgB (l : List Oper) : List Stg → Array Bool → Bool
  | [], listed => (Region.ready .any l.toArray listed).isEmpty
  | .free hs :: r, listed => match headB .any l.toArray hs listed with
    | none => false
    | some l2 => stgB l r l2
  | .hold _ hs es :: r, listed => match headB .any l.toArray hs listed with
    | none => false
    | some l2 => waitB .any l.toArray (leftOver l.length listed hs es) hs && match onesB l.toArray es l2 with
      | none => false
      | some l3 => stgB l r l3
  | .run ts :: r, listed => match onesB l.toArray ts listed with
    | none => false
    | some l2 => stgB l r l2
def cnt : List Stg → Nat
  | [] => 0
  | .free hs :: r => hs.length + cnt r
  | .hold _ hs es :: r => hs.length + (es.length + cnt r)
  | .run ts :: r => ts.length + cnt r
def wpRun (P : Program) (l : List Oper) (Q : Exit → Act → World → Prop) (K : Act → World → Prop) (ts : List Nat) (a : Act) (w : World) : Prop := wpList P l.toArray (Exit.then K Q) (pick l ts) a w
def wpStg (P : Program) (l : List Oper) (Q : Exit → Act → World → Prop) : List Stg → Act → World → Prop
  | [], a, w => Q .normal a w
  | .free hs :: r, a, w => wpHeld P l.toArray (fun _ => True) (fun a' => wpStg P l Q r a' w) (pick l hs) a
  | .hold S hs es :: r, a, w => S w ∧ wpHeld P l.toArray S (fun a' => wpEarly P l.toArray S Q (fun a w => wpStg P l Q r a w) (pick l es) a' w) (pick l hs) a
  | .run ts :: r, a, w => wpRun P l Q (fun a' w' => wpStg P l Q r a' w') ts a w

theorem wpOp_of_cons {ops : Array Oper} {w : World} {i : Nat} {o : Oper} {rest : List Oper} {K : Act → World → Prop} {a : Act} (hi : ops[i]? = some o) (h : wpList P ops (Exit.then K Q) (o :: rest) a w) : wpOp P ops Q i (fun a' w' => wpList P ops (Exit.then K Q) rest a' w') a w := by
  unfold wpOp
  simp only [hi]
  unfold wpList at h
  split
  · rename_i hw
    rw [if_pos hw] at h
    rcases h with h | ⟨h1, a0, w0, h2⟩
    · left
      unfold Oper.wp at *
      generalize (execOp a.eval o).run P w = r at *
      cases r with
      | ok n w' =>
        cases n <;> simp only [Oper.upon] at h ⊢ <;>
          first
            | exact h
            | exact Calls.mono h (fun e w'' he => by cases e <;> first | exact he | (obtain ⟨a1, w1, h1⟩ := he; exact ⟨a1, w1, h1⟩))
            | exact Rows.mono h (fun _ _ he => he)
      | halt x w' => cases x <;> simp only [Oper.upon] at h ⊢ <;> exact h
    · exact .inr ⟨h1, a0, w0, h2⟩
  · rename_i hw
    rw [if_neg hw] at h
    exact h

theorem onesB_closed {l : List Oper} : ∀ (ts : List Nat) (listed l2 : Array Bool), Closed .any l.toArray listed → onesB l.toArray ts listed = some l2 → Closed .any l.toArray l2
  | [], _, _, hc, h => by simp only [onesB, Option.some.injEq] at h; subst h; exact hc
  | t :: ts, listed, l2, hc, h => by
    unfold onesB at h
    split at h
    · rename_i hr
      exact onesB_closed ts _ _ (hc.set (by rw [hr]; simp)) h
    · cases h
theorem wpAny_ones {l : List Oper} {K : Act → World → Prop} {g : Nat} {l2 : Array Bool} (hK : ∀ a w, K a w → wpAny P .any l.toArray Q g l2 a w) : ∀ (ts : List Nat) (listed : Array Bool) (a : Act) (w : World), onesB l.toArray ts listed = some l2 →
    wpList P l.toArray (Exit.then K Q) (pick l ts) a w → wpAny P .any l.toArray Q (ts.length + g) listed a w
  | [], listed, a, w, h, hw => by
    simp only [onesB, Option.some.injEq] at h
    subst h
    rw [List.length_nil, Nat.zero_add]
    exact hK a w hw
  | t :: ts, listed, a, w, h, hw => by
    unfold onesB at h
    split at h
    · rename_i hr
      have hr' : t ∈ Region.ready .any l.toArray listed := by rw [hr]; simp
      obtain ⟨_, o, h0, _⟩ := mem_ready.1 hr'
      have hp : pick l (t :: ts) = o :: pick l ts := by
        have : l[t]? = some o := by simpa using h0
        simp [pick, this]
      rw [hp] at hw
      rw [show (t :: ts).length + g = (ts.length + g) + 1 by simp; omega]
      refine ⟨fun h1 => (by rw [hr] at h1; cases h1), fun i hi => ?_⟩
      rw [hr] at hi
      obtain rfl : i = t := by simpa using hi
      exact wpOp_mono (fun a' w' h' => wpAny_ones hK ts _ a' w' h h') (wpOp_of_cons h0 hw)
    · cases h
theorem wpAnyE_ones {l : List Oper} {S : World → Prop} {late : Nat → Bool} {K : Act → World → Prop} {g : Nat} {l2 : Array Bool} (hK : ∀ a w, K a w → wpAnyE P .any l.toArray Q S late g l2 a w) : ∀ (es : List Nat) (listed : Array Bool) (a : Act) (w : World), onesB l.toArray es listed = some l2 →
    wpEarly P l.toArray S Q K (pick l es) a w → wpAnyE P .any l.toArray Q S late (es.length + g) listed a w
  | [], listed, a, w, h, hw => by
    simp only [onesB, Option.some.injEq] at h
    subst h
    rw [List.length_nil, Nat.zero_add]
    exact hK a w hw
  | t :: ts, listed, a, w, h, hw => by
    unfold onesB at h
    split at h
    · rename_i hr
      have hr' : t ∈ Region.ready .any l.toArray listed := by rw [hr]; simp
      obtain ⟨_, o, h0, _⟩ := mem_ready.1 hr'
      have hp : pick l (t :: ts) = o :: pick l ts := by
        have : l[t]? = some o := by simpa using h0
        simp [pick, this]
      rw [hp] at hw
      rw [show (t :: ts).length + g = (ts.length + g) + 1 by simp; omega]
      refine ⟨fun h1 => (by rw [hr] at h1; cases h1), fun i hi => ?_⟩
      rw [hr] at hi
      obtain rfl : i = t := by simpa using hi
      exact wpOp_mono (fun a' w' h' => ⟨fun _ => h'.1, wpAnyE_ones hK ts _ a' w' h h'.2⟩) (wpOp_of_one h0 hw)
    · cases h
theorem onesB_set {ops : Array Oper} : ∀ (ts : List Nat) (listed l2 : Array Bool), onesB ops ts listed = some l2 → setAll ts listed = l2
  | [], _, _, h => by simp only [onesB, Option.some.injEq] at h; exact h
  | t :: ts, listed, l2, h => by
    unfold onesB at h
    split at h
    · exact onesB_set ts _ _ h
    · cases h
theorem setAll_of {j : Nat} : ∀ (ts : List Nat) (listed : Array Bool), j < listed.size → (setAll ts listed).getD j false = false → listed.getD j false = false ∧ j ∉ ts
  | [], _, _, h => ⟨h, by simp⟩
  | t :: ts, listed, hj, h => by
    have h' : (setAll ts (listed.setIfInBounds t true)).getD j false = false := h
    obtain ⟨h1, h2⟩ := setAll_of ts (listed.setIfInBounds t true) (by simpa using hj) h'
    by_cases htj : t = j
    · subst htj
      simp [Array.getD, hj] at h1
    · rw [getD_set_ne false htj] at h1
      exact ⟨h1, by simp [h2, Ne.symm htj]⟩
theorem size_setAll : ∀ (ts : List Nat) (listed : Array Bool), (setAll ts listed).size = listed.size
  | [], _ => rfl
  | t :: ts, listed => by
    show (setAll ts (listed.setIfInBounds t true)).size = _
    rw [size_setAll ts, Array.size_setIfInBounds]
theorem wpAny_stg {l : List Oper} (hsel : Region.noSelect l.toArray = true) (hQ : ∀ c (d : Option Tmp) (v : Value) a w, Q (.panic c) (a.put d v) w → Q (.panic c) a w) :
    ∀ (st : List Stg) (listed : Array Bool) (a : Act) (w : World), stgB l st listed = true → Closed .any l.toArray listed → listed.size = l.length → wpStg P l Q st a w → wpAny P .any l.toArray Q (cnt st) listed a w
  | [], listed, a, w, hB, _, _, h => ⟨by simpa [stgB] using hB, h⟩
  | .free hs :: r, listed, a, w, hB, hc, hz, h => by
    unfold stgB at hB
    cases h2 : headB .any l.toArray hs listed with
    | none => rw [h2] at hB; cases hB
    | some l2 =>
      rw [h2] at hB
      have hz2 : l2.size = l.length := by rw [← headB_set _ _ _ h2, size_setAll]; exact hz
      exact wpAny_of_E _ _ _ _ (wpAnyE_held (P := P) (Q := Q) (md := .any) (w := w) (S := fun _ => True) (late := fun _ => false) (hs := hs) (g := cnt r) hsel hQ (fun _ _ _ h => by cases h) (fun _ _ => rfl) trivial
        (fun a' ha' => wpAnyE_any (fun _ => trivial) _ _ _ _ (wpAny_stg hsel hQ r l2 a' w hB (headB_closed _ _ _ hc h2) hz2 ha')) hs listed a (fun k hk => hk) hc h2 h)
  | .hold S hs es :: r, listed, a, w, hB, hc, hz, h => by
    unfold stgB at hB
    cases h2 : headB .any l.toArray hs listed with
    | none => rw [h2] at hB; cases hB
    | some l2 =>
      rw [h2] at hB
      simp only [Bool.and_eq_true] at hB
      obtain ⟨hw, hB⟩ := hB
      cases h3 : onesB l.toArray es l2 with
      | none => rw [h3] at hB; cases hB
      | some l3 =>
        rw [h3] at hB
        simp only at hB
        have hc2 := headB_closed _ _ _ hc h2
        have hs2 := headB_set _ _ _ h2
        have hs3 := onesB_set _ _ _ h3
        have hz2 : l2.size = l.length := by rw [← hs2, size_setAll]; exact hz
        have hz3 : l3.size = l.length := by rw [← hs3, size_setAll]; exact hz2
        refine wpAny_of_E _ _ _ _ (wpAnyE_held (P := P) (Q := Q) (md := .any) (w := w) (S := S) (late := fun j => (leftOver l.length listed hs es).contains j) (hs := hs) (g := es.length + cnt r) hsel hQ
          (fun j i hi hj => List.all_eq_true.1 (List.all_eq_true.1 hw j (List.contains_iff_mem.1 hj)) i hi) (fun i hi => ?_) h.1
          (fun a' ha' => wpAnyE_ones (fun a2 w2 h2 => wpAnyE_late _ _ _ _ (fun j hj hjl => ?_) (wpAny_stg hsel hQ r l3 a2 w2 hB (onesB_closed _ _ _ hc2 h3) hz3 h2)) es l2 a' w h3 ha') hs listed a (fun k hk => hk) hc h2 h.2)
        · cases hq : (leftOver l.length listed hs es).contains i with
          | false => rfl
          | true =>
            have := List.mem_filter.1 (List.contains_iff_mem.1 hq)
            simp [hi] at this
        · have hjl2 : j < l.length := by simpa using hj
          rw [← hs3] at hjl
          obtain ⟨g1, g2⟩ := setAll_of es l2 (by omega) hjl
          rw [← hs2] at g1
          obtain ⟨g3, g4⟩ := setAll_of hs listed (by omega) g1
          refine List.contains_iff_mem.2 (List.mem_filter.2 ⟨List.mem_range.2 hjl2, ?_⟩)
          simp [g2, g4]
          simpa using g3
  | .run ts :: r, listed, a, w, hB, hc, hz, h => by
    unfold stgB at hB
    cases h2 : onesB l.toArray ts listed with
    | none => rw [h2] at hB; cases hB
    | some l2 =>
      rw [h2] at hB
      have hz2 : l2.size = l.length := by rw [← onesB_set _ _ _ h2, size_setAll]; exact hz
      exact wpAny_ones (fun a' w' h' => wpAny_stg hsel hQ r l2 a' w' hB (onesB_closed _ _ _ hc h2) hz2 h') ts listed a w h2 h

/-- A REGION THAT DRAWS ITS ORDER, IN STAGES. -/
theorem wp_region_stages {id : Nat} {l : List Oper} {a : Act} {w : World} (st : List Stg) (hm : P.follows .mixedOrders = true) (hB : (Region.noSelect l.toArray && decide (cnt st = l.length) && stgB l st (Array.replicate l.length false)) = true)
    (hQ : ∀ c (d : Option Tmp) (v : Value) a w, Q (.panic c) (a.put d v) w → Q (.panic c) a w) (h : wpStg P l Q st a w.drew) : (Code.region id l.toArray true).wp P Q a w := by
  simp only [Bool.and_eq_true, decide_eq_true_eq] at hB
  obtain ⟨⟨hsel, hlen⟩, hst⟩ := hB
  have hc0 : Closed .any l.toArray (Array.replicate l.length false) := fun j oj _ hl => by rw [getD_replicate_false] at hl; cases hl
  refine wp_region_any hm ?_
  have k := wpAny_stg (P := P) (Q := Q) hsel hQ st _ a w.drew hst hc0 (by simp) h
  rw [hlen] at k
  have hsz : l.toArray.size = l.length := by simp
  rw [hsz]
  exact k
theorem wpHeld_want {ops : Array Oper} {S : World → Prop} {K : Act → Prop} {a : Act} {o : Oper} {rest : List Oper} (v : Value) (hw : Region.wanted o (yielded ops a.tmps) = true) (h : ∀ w, S w → (execOp a.eval o).run P w = .ok (.value v) w) (hK : wpHeld P ops S K rest (a.put o.dst v)) :
    wpHeld P ops S K (o :: rest) a := ⟨v, .inl ⟨hw, h⟩, hK⟩
theorem wpHeld_skip {ops : Array Oper} {S : World → Prop} {K : Act → Prop} {a : Act} {o : Oper} {rest : List Oper} (hw : Region.wanted o (yielded ops a.tmps) = false) (hK : wpHeld P ops S K rest (a.put o.dst undef)) :
    wpHeld P ops S K (o :: rest) a := ⟨undef, .inr ⟨hw, rfl⟩, hK⟩
end
end Go.Proofs.Ytaicbllfkehhjaa

/- A great region that draws its order, walked in stages one at a time, each with its own small check. Over any program. -/
namespace Go.Proofs.Ytaicbllfkehhjaa
open Go.RowKit

section
variable {P : Program} {ops : Array Oper} {md : Region.Mode} {Q : Exit → Act → World → Prop}

/-- Operation j waits for operation i. -/
def Waits (md : Region.Mode) (ops : Array Oper) (i j : Nat) : Prop := ∀ listed : Array Bool, Closed md ops listed → listed.getD i false = false → listed.getD j false = false ∧ j ∉ Region.ready md ops listed
/-- A table of operations that wait for g: each waits for g itself or for an earlier one of the table. -/
def markB (md : Region.Mode) (ops : Array Oper) (g : Nat) (marks : List Nat) : Bool := marks.all fun t => match ops[t]? with
  | some o => o.after.any fun e => Region.binds md e && decide (e.on < t) && (e.on == g || marks.contains e.on)
  | none => false
theorem mark_waits {g : Nat} {marks : List Nat} (h : markB md ops g marks = true) : ∀ (n t : Nat), t < n → t ∈ marks → Waits md ops g t
  | 0, _, h0, _ => by omega
  | n + 1, t, h0, ht => by
    intro listed hc hg
    have h1 := List.all_eq_true.1 h t ht
    cases ho : ops[t]? with
    | none => rw [ho] at h1; cases h1
    | some o =>
      rw [ho] at h1
      obtain ⟨e, he, hb⟩ := Array.any_eq_true'.1 h1
      simp only [Bool.and_eq_true, Bool.or_eq_true, beq_iff_eq, decide_eq_true_eq] at hb
      have hon : listed.getD e.on false = false := by
        rcases hb.2 with h2 | h2
        · rw [h2]; exact hg
        · exact (mark_waits h n e.on (by omega) (List.contains_iff_mem.1 h2) listed hc hg).1
      refine ⟨?_, fun hr => ?_⟩
      · cases hl : listed.getD t false with
        | false => rfl
        | true => rw [hc t o ho hl e he hb.1.1] at hon; cases hon
      · obtain ⟨_, o', ho', hall⟩ := mem_ready.1 hr
        have : o' = o := Option.some.inj (ho'.symm.trans ho)
        subst this
        rw [hall e he hb.1.1] at hon
        cases hon

theorem wpAnyE_firstW {S : World → Prop} {late : Nat → Bool} {i : Nat} {oi : Oper} {v : Value} (hi : ops[i]? = some oi) (hsel : ∀ (j : Nat) (o : Oper) cs b, ops[j]? = some o → o.op ≠ .select cs b)
    (hQ : ∀ c a w, Q (.panic c) (a.put oi.dst v) w → Q (.panic c) a w) (hlate : ∀ j, late j = true → Waits md ops i j) (hli : late i = false) :
    ∀ (fuel : Nat) (listed : Array Bool) (a : Act) (w : World), Closed md ops listed →
      (∀ j oj, ops[j]? = some oj → j ≠ i → listed.getD j true = false → (∀ e ∈ oj.after, Region.binds md e = true → e.on ≠ i) → oi.apart ops oj = true) →
      i ∈ Region.ready md ops listed → YieldsIf P ops S oi v a → S w →
      wpAnyE P md ops Q S late fuel (listed.setIfInBounds i true) (a.put oi.dst v) w → wpAnyE P md ops Q S late (fuel + 1) listed a w := by
  intro fuel
  induction fuel with
  | zero =>
    intro listed a w hc _ hr hy hS H
    refine ⟨fun h => (by rw [h] at hr; cases hr), fun j hj => ?_⟩
    by_cases hji : j = i
    · subst hji; exact hy.wpOp hi hS ⟨fun _ => hS, H⟩
    · have := ready_mono hj hji
      rw [H.1] at this
      cases this
  | succ fuel ih =>
    intro listed a w hc hfree hr hy hS H
    refine ⟨fun h => (by rw [h] at hr; cases hr), fun j hj => ?_⟩
    by_cases hji : j = i
    · subst hji; exact hy.wpOp hi hS ⟨fun _ => hS, H⟩
    · have h1 := H.2 j (ready_mono hj hji)
      have hun := (mem_ready.1 hr).1
      have hlj : late j = false := by
        cases hl : late j with
        | false => rfl
        | true => exact absurd hj (hlate j hl listed hc (getD_both hun)).2
      obtain ⟨hjun, oj, hoj, hall⟩ := mem_ready.1 hj
      have hnot : ∀ e ∈ oj.after, Region.binds md e = true → e.on ≠ i := fun e he hb heq => by
        have h1 := hall e he hb
        rw [heq, getD_both hun] at h1
        cases h1
      have h2 := wpOp_putIf hoj (hfree j oj hoj hji hjun hnot) (fun cs b => hsel i oi cs b hi) (fun cs b => hsel j oj cs b hoj) hQ hy h1
      have hfree' : ∀ k ok, ops[k]? = some ok → k ≠ i → (listed.setIfInBounds j true).getD k true = false →
          (∀ e ∈ ok.after, Region.binds md e = true → e.on ≠ i) → oi.apart ops ok = true := fun k ok hk hki hun hno => by
        refine hfree k ok hk hki ?_ hno
        by_cases hjk : j = k
        · subst hjk; exact hjun
        · rw [getD_set_ne true hjk] at hun; exact hun
      refine wpOp_mono (fun a' w' h3 => ⟨fun _ => h3.2.1 hlj, ih (listed.setIfInBounds j true) a' w' (hc.set hj) hfree' (ready_mono hr (Ne.symm hji)) h3.1 (h3.2.1 hlj) ?_⟩) h2
      rw [Array.setIfInBounds_comm _ _ hji]
      exact h3.2.2
theorem wpAnyE_heldW {w : World} {l : List Oper} {S : World → Prop} {late : Nat → Bool} {K : Act → Prop} {hs : List Nat} {listed2 : Array Bool} {g : Nat} (hsel : Region.noSelect l.toArray = true) (hQ : ∀ c (d : Option Tmp) (v : Value) a w, Q (.panic c) (a.put d v) w → Q (.panic c) a w)
    (hlate : ∀ j i, i ∈ hs → late j = true → Waits md l.toArray i j) (hln : ∀ i ∈ hs, late i = false) (hS : S w)
    (hK : ∀ a, K a → wpAnyE P md l.toArray Q S late g listed2 a w) :
    ∀ (ks : List Nat) (listed : Array Bool) (a : Act), (∀ k ∈ ks, k ∈ hs) → Closed md l.toArray listed → headB md l.toArray ks listed = some listed2 →
    wpHeld P l.toArray S K (pick l ks) a → wpAnyE P md l.toArray Q S late (ks.length + g) listed a w
  | [], listed, a, _, _, hB, h => by
    simp only [headB, Option.some.injEq] at hB
    subst hB
    rw [List.length_nil, Nat.zero_add]
    exact hK a h
  | k :: ks, listed, a, hk, hc, hB, h => by
    unfold headB at hB
    split at hB
    · rename_i hrf
      simp only [Bool.and_eq_true] at hrf
      have hr' : k ∈ Region.ready md l.toArray listed := by simpa using hrf.1
      obtain ⟨_, o, h0, _⟩ := mem_ready.1 hr'
      have hp : pick l (k :: ks) = o :: pick l ks := by
        have : l[k]? = some o := by simpa using h0
        simp [pick, this]
      rw [hp] at h
      obtain ⟨v, hy, hr⟩ := h
      rw [show (k :: ks).length + g = (ks.length + g) + 1 by simp; omega]
      exact wpAnyE_firstW h0 (Region.noSelect_spec hsel) (fun c a w => hQ c _ _ a w) (fun j => hlate j k (hk k (by simp))) (hln k (hk k (by simp))) _ listed a w hc (Region.free_spec h0 hrf.2) hr' hy hS
        (wpAnyE_heldW hsel hQ hlate hln hS hK ks _ _ (fun k' h' => hk k' (by simp [h'])) (hc.set hr') hB hr)
    · cases hB

/-- The region, walked as far as 'listed'. -/
structure Good (l : List Oper) (listed : Array Bool) : Prop where
  sel : Region.noSelect l.toArray = true
  closed : Closed .any l.toArray listed
  size : listed.size = l.length
def At (P : Program) (l : List Oper) (Q : Exit → Act → World → Prop) (n : Nat) (listed : Array Bool) (a : Act) (w : World) : Prop :=
  (∀ c (d : Option Tmp) (v : Value) a w, Q (.panic c) (a.put d v) w → Q (.panic c) a w) → Good l listed → wpAny P .any l.toArray Q n listed a w
variable {l : List Oper} {listed l2 l3 : Array Bool} {a : Act} {w : World} {n N : Nat}
theorem at_end (hB : Region.ready .any l.toArray listed = []) (h : Q .normal a w) : At P l Q 0 listed a w := fun _ _ => ⟨hB, h⟩
theorem at_free (hs : List Nat) (l2 : Array Bool) (n : Nat) (hN : hs.length + n = N) (hB : headB .any l.toArray hs listed = some l2) (h : wpHeld P l.toArray (fun _ => True) (fun a' => At P l Q n l2 a' w) (pick l hs) a) : At P l Q N listed a w := by
  subst hN
  intro hQ hg
  have hg2 : Good l l2 := ⟨hg.sel, headB_closed _ _ _ hg.closed hB, by rw [← headB_set _ _ _ hB, size_setAll]; exact hg.size⟩
  exact wpAny_of_E _ _ _ _ (wpAnyE_held (P := P) (Q := Q) (md := .any) (w := w) (S := fun _ => True) (late := fun _ => false) (hs := hs) (g := n) hg.sel hQ (fun _ _ _ h => by cases h) (fun _ _ => rfl) trivial
    (fun a' ha' => wpAnyE_any (fun _ => trivial) _ _ _ _ (ha' hQ hg2)) hs listed a (fun k hk => hk) hg.closed hB h)
theorem at_run (ts : List Nat) (l2 : Array Bool) (n : Nat) (hN : ts.length + n = N) (hB : onesB l.toArray ts listed = some l2) (h : wpList P l.toArray (Exit.then (fun a' w' => At P l Q n l2 a' w') Q) (pick l ts) a w) : At P l Q N listed a w := by
  subst hN
  intro hQ hg
  have hg2 : Good l l2 := ⟨hg.sel, onesB_closed _ _ _ hg.closed hB, by rw [← onesB_set _ _ _ hB, size_setAll]; exact hg.size⟩
  exact wpAny_ones (fun a' w' h' => h' hQ hg2) ts listed a w hB h
/-- 'marks': for each read, a table of operations that wait for it; all that is left is in each table. -/
def leftB (m : Nat) (l3 : Array Bool) (hs : List Nat) (marks : List (List Nat)) : Bool := (List.range m).all fun j => l3.getD j false || (!hs.contains j && marks.all fun ms => ms.contains j)
theorem at_hold (S : World → Prop) (hs es : List Nat) (marks : List (List Nat)) (l2 l3 : Array Bool) (n : Nat) (hN : hs.length + (es.length + n) = N) (hB : headB .any l.toArray hs listed = some l2) (hE : onesB l.toArray es l2 = some l3)
    (hM : ((List.zip hs marks).all fun p => markB .any l.toArray p.1 p.2) = true) (hZ : hs.length = marks.length) (hL : leftB l.length l3 hs marks = true) (hS : S w)
    (h : wpHeld P l.toArray S (fun a' => wpEarly P l.toArray S Q (fun a w => At P l Q n l3 a w) (pick l es) a' w) (pick l hs) a) : At P l Q N listed a w := by
  subst hN
  intro hQ hg
  have hc2 := headB_closed _ _ _ hg.closed hB
  have hz2 : l2.size = l.length := by rw [← headB_set _ _ _ hB, size_setAll]; exact hg.size
  have hg3 : Good l l3 := ⟨hg.sel, onesB_closed _ _ _ hc2 hE, by rw [← onesB_set _ _ _ hE, size_setAll]; exact hz2⟩
  have hall : ∀ j, j < l.length → l3.getD j false = false → j ∉ hs ∧ ∀ ms ∈ marks, j ∈ ms := fun j hj hl => by
    have := List.all_eq_true.1 hL j (List.mem_range.2 hj)
    rw [hl] at this
    simp only [Bool.false_or, Bool.and_eq_true, Bool.not_eq_true', List.all_eq_true] at this
    exact ⟨fun hm => (by rw [List.contains_iff_mem.2 hm] at this; exact absurd this.1 (by simp)), fun ms hms => List.contains_iff_mem.1 (this.2 ms hms)⟩
  refine wpAny_of_E _ _ _ _ (wpAnyE_heldW (P := P) (Q := Q) (md := .any) (w := w) (S := S) (late := fun j => decide (j < l.length) && !l3.getD j false) (hs := hs) (g := es.length + n) hg.sel hQ
    (fun j i hi hj => ?_) (fun i hi => ?_) hS
    (fun a' ha' => wpAnyE_ones (fun a2 w2 h2 => wpAnyE_late _ _ _ _ (fun j hj hjl => ?_) (h2 hQ hg3)) es l2 a' w hE ha') hs listed a (fun k hk => hk) hg.closed hB h)
  · simp only [Bool.and_eq_true, decide_eq_true_eq, Bool.not_eq_true'] at hj
    obtain ⟨_, hm⟩ := hall j hj.1 hj.2
    obtain ⟨x, hx⟩ := List.getElem?_of_mem hi
    obtain ⟨hxl, hxe⟩ := List.getElem?_eq_some_iff.1 hx
    have hmx : marks[x]? = some (marks[x]'(by omega)) := List.getElem?_eq_getElem (by omega)
    have hp : (i, marks[x]'(by omega)) ∈ List.zip hs marks := by
      apply List.mem_of_getElem? (i := x)
      rw [List.getElem?_zip_eq_some]
      exact ⟨hx, hmx⟩
    exact mark_waits (List.all_eq_true.1 hM _ hp) (j + 1) j (by omega) (hm _ (List.mem_of_getElem? hmx))
  · cases hq : (decide (i < l.length) && !l3.getD i false) with
    | false => rfl
    | true =>
      simp only [Bool.and_eq_true, decide_eq_true_eq, Bool.not_eq_true'] at hq
      exact absurd hi (hall i hq.1 hq.2).1
  · have hj2 : j < l.length := by simpa using hj
    simp [hj2, hjl]
theorem wp_region_at {id : Nat} (hm : P.follows .mixedOrders = true) (hB : Region.noSelect l.toArray = true) (hQ : ∀ c (d : Option Tmp) (v : Value) a w, Q (.panic c) (a.put d v) w → Q (.panic c) a w) (hN : l.length = N) (l0 : Array Bool) (h0 : Array.replicate l.length false = l0)
    (h : At P l Q N l0 a w.drew) : (Code.region id l.toArray true).wp P Q a w := by
  subst hN h0
  have hc0 : Closed .any l.toArray (Array.replicate l.length false) := fun j oj _ hl => by rw [getD_replicate_false] at hl; cases hl
  refine wp_region_any hm ?_
  have k := h hQ ⟨hB, hc0, by simp⟩
  have hsz : l.toArray.size = l.length := by simp
  rw [hsz]
  exact k
end
end Go.Proofs.Ytaicbllfkehhjaa

/- Words of the laws on pages, without the laws. -/
namespace Go.Proofs.Ytaicbllfkehhjaa
open Go.RowKit

/-- An operation that makes no memory, its value given. -/
theorem wpList_val {P : Program} {ops : Array Oper} {rest : List Oper} {o : Oper} {a : Act} {W : World} {Q : Exit → Act → World → Prop} (hgd : o.guard = none) {op : Op} (_ho : o.op = op) (v : Value) (h : (execOp a.eval o).run P W = .ok (.value v) W)
    (k : wpList P ops Q rest (a.put o.dst v) W) : wpList P ops Q (o :: rest) a W := by
  refine wpList_plain hgd fun _ hK => ?_
  unfold Oper.wp
  rw [h]
  exact hK _ _ k
theorem wpList_valg {P : Program} {ops : Array Oper} {rest : List Oper} {o : Oper} {a : Act} {W : World} {Q : Exit → Act → World → Prop} (hw : Region.wanted o (yielded ops a.tmps) = true) {op : Op} (_ho : o.op = op) (v : Value) (W' : World) (h : (execOp a.eval o).run P W = .ok (.value v) W')
    (k : wpList P ops Q rest (a.put o.dst v) W') : wpList P ops Q (o :: rest) a W := by
  unfold wpList
  rw [if_pos hw]
  refine .inl ?_
  unfold Oper.wp
  rw [h]
  exact k
theorem wpList_new {P : Program} {ops : Array Oper} {rest : List Oper} {o : Oper} {a : Act} {W : World} {Q : Exit → Act → World → Prop} (hgd : o.guard = none) {op : Op} (_ho : o.op = op) (v : Value) (W' : World) (h : (execOp a.eval o).run P W = .ok (.value v) W')
    (k : wpList P ops Q rest (a.put o.dst v) W') : wpList P ops Q (o :: rest) a W := by
  refine wpList_plain hgd fun _ hK => ?_
  unfold Oper.wp
  rw [h]
  exact hK _ _ k
theorem ClsAt.of_blk {w : World} {g B : Nat} {l : List Cl} {t : TypeId} (h : Blk w g t (cls l).toArray) (hB : g < B) : ClsAt w B (some ⟨g, 0, none⟩) l := fun i c hi => ⟨g, 0, rfl, hB, fun k v hv => by
  have hk : k < 20 := by
    have := (List.getElem?_eq_some_iff.1 hv).1
    rwa [encC_len] at this
  rw [Nat.zero_add, h.cell, List.getElem?_toArray]
  exact (flat_at encC_len hi hk).trans hv⟩

theorem below_self_alloc (w : World) (o : Obj) : Below w.heap.size w (w.alloc o) := (Below.refl _ _).alloc (Nat.le_refl _) o
theorem run_max2 {P : Program} (x y z : Int) (h : z = max x y) (ts : Array TypeId) (t : TypeId) (W : World) : (Builtin.max_ ts t #[.int .i64 x, .int .i64 y]).run P W = .ok (.int .i64 z) W := by
  rw [run_max_int2]; congr 2; subst h; split <;> omega
theorem below_drew1 {B : Nat} {a w : World} (h : Below B a w) : Below B a w.drew := ⟨h.os, h.tape, h.output, h.size, h.block⟩
theorem enc_set (c : Cl) : (encC c).set 19 (.bool true) = encC (goneC c) := rfl
theorem cls_set : ∀ {l : List Cl} {k : Nat} {x : Cl}, l[k]? = some x → (cls l).set (k * 20 + 19) (.bool true) = cls (l.set k (goneC x))
  | [], k, x, h => by simp at h
  | c :: l, 0, x, h => by
    simp at h
    subst h
    show (encC c ++ cls l).set _ _ = encC (goneC c) ++ cls l
    rw [List.set_append_left _ _ (by rw [encC_len]; omega), Nat.zero_mul, Nat.zero_add, enc_set]
  | c :: l, k + 1, x, h => by
    have ih := cls_set (l := l) (k := k) (x := x) (by simpa using h)
    show (encC c ++ cls l).set _ _ = encC c ++ cls (l.set k (goneC x))
    rw [List.set_append_right _ _ (by rw [encC_len]; omega), encC_len, ← ih]
    congr 2
    omega
theorem own_some {w : World} {base : Nat} {v : Value} {l : List Cl} (h : OwnCls w base v l) (hl : 0 < l.length) : ∃ g cap, v = .slice (some ⟨g, 0, none⟩) l.length cap ∧ base ≤ g := by
  rcases h.2 with ⟨rfl, h0⟩ | ⟨g, cap, cur, rfl, hb, _⟩
  · omega
  · exact ⟨g, cap, rfl, hb⟩
theorem own_cell {w : World} {base g n cap : Nat} {l : List Cl} (h : w.ownsRow base 56 20 (.slice (some ⟨g, 0, none⟩) n cap) n (cls l)) (hn : l.length = n) {k : Nat} {c : Cl} (hk : l[k]? = some c) {j : Nat} {u : Value} (hu : (encC c)[j]? = some u) :
    w.cell? ⟨g, k * 20 + j, none⟩ = some u ∧ w.frozen? ⟨g, k * 20 + j, none⟩ = false := by
  have hj : j < 20 := by
    have := (List.getElem?_eq_some_iff.1 hu).1
    rwa [encC_len] at this
  have hkl := (List.getElem?_eq_some_iff.1 hk).1
  exact ⟨by rw [h.cellAt (k * 20 + j) (by omega)]; exact (flat_at encC_len hk hj).trans hu, h.frozenAt _⟩
/-- A patch, loaded whole out of a clause of a slice of the call's own. -/
theorem pt_row {W : World} {base g n cap k : Nat} {l : List Cl} (h : W.ownsRow base 56 20 (.slice (some ⟨g, 0, none⟩) n cap) n (cls l)) (hn : l.length = n) {c : Cl} (hk : l[k]? = some c) :
    (loadVar 37 ⟨g, k * 20 + 4, none⟩).run Try.prog W = .ok (.agg (ptA c.pt)) W := by
  have hl : (loadCells ⟨g, k * 20 + 4, none⟩ (ptA c.pt).toList.length).run Try.prog W = .ok (ptA c.pt).toList.toArray W :=
    run_loadCells_list (P := Try.prog) W ⟨g, k * 20 + 4, none⟩ (ptA c.pt).toList (fun j v hv => by
      have hj : j < 15 := by
        have := (List.getElem?_eq_some_iff.1 hv).1
        rwa [Array.length_toList, ptA_size] at this
      have hadd : (⟨g, k * 20 + 4, none⟩ : Addr).add j = ⟨g, k * 20 + (4 + j), none⟩ := by unfold Addr.add; split <;> simp_all [Nat.add_assoc]
      rw [hadd]
      refine (own_cell h hn hk (j := 4 + j) (u := v) ?_).1
      rw [← hv]
      match j, hj with
      | 0, _ | 1, _ | 2, _ | 3, _ | 4, _ | 5, _ | 6, _ | 7, _ | 8, _ | 9, _ | 10, _ | 11, _ | 12, _ | 13, _ | 14, _ => rfl)
  rw [Array.length_toList, Array.toArray_toList, ptA_size] at hl
  have hagg : (isAgg 37).run Try.prog W = .ok true W := by
    unfold isAgg
    rw [Sem.run_bind, run_underlying Try.underlying37 W]
    rfl
  have hsz := Try.sizeOf37 W
  unfold loadVar
  rw [Sem.run_bind, hagg]
  simp only [Result.andThen_ok, if_true]
  rw [Sem.run_bind, hsz]
  simp only [Result.andThen_ok]
  rw [Sem.run_bind, hl]
  rfl
theorem load_pt_row {ops : Array Oper} {rest : List Oper} {o : Oper} {a : Act} {W : World} {Q : Exit → Act → World → Prop} (hgd : o.guard = none) {x : Operand} (ho : o.op = .load 37 x) {base g n cap k : Nat} {l : List Cl} (hx : a.eval x = .pointer (some ⟨g, k * 20 + 4, none⟩))
    (hr : W.ownsRow base 56 20 (.slice (some ⟨g, 0, none⟩) n cap) n (cls l)) (hn : l.length = n) {c : Cl} (hk : l[k]? = some c) (h : wpList Try.prog ops Q rest (a.put o.dst (.agg (ptA c.pt))) W) : wpList Try.prog ops Q (o :: rest) a W := by
  refine wpList_plain hgd fun _ hK => ?_
  unfold Oper.wp execOp
  simp only [ho, hx, Instr.loadAt, Instr.sureAddr, Sem.run_bind, Sem.run_pure, Result.andThen_ok, pt_row hr hn hk]
  exact hK _ _ h
theorem addr_add (g off j : Nat) : (⟨g, off, none⟩ : Addr).add j = ⟨g, off + j, none⟩ := by unfold Addr.add; split <;> simp_all
theorem cls_news {w : World} {B : Nat} {A : Option Addr} {l : List Cl} (h : ClsAt w B A l) : ∀ (j : Nat) (u : Value), (cls l)[j]? = some u → ∃ ad, A = some ad ∧ w.cell? (ad.add j) = some u := fun j u hu => by
  have hj := (List.getElem?_eq_some_iff.1 hu).1
  rw [cls_len] at hj
  have hd : j = j / 20 * 20 + j % 20 := by omega
  obtain ⟨c, hc⟩ : ∃ c, l[j / 20]? = some c := ⟨_, List.getElem?_eq_getElem (by omega)⟩
  obtain ⟨g, off, h1, _, h3⟩ := h _ c hc
  refine ⟨_, h1, ?_⟩
  rw [addr_add]
  have h4 := flat_at encC_len hc (show j % 20 < 20 by omega)
  rw [← hd] at h4
  have h5 := h3 (j % 20) u (by rw [← h4]; exact hu)
  rwa [Nat.add_assoc, ← hd] at h5
set_option maxRecDepth 100000 in
theorem cls_slice_to (g m cap k : Nat) (hk : k ≤ cap) (W : World) : (Instr.slice 41 (.slice (some ⟨g, 0, none⟩) m cap) none (some (.int .i64 (k : Int))) none).run Try.prog W = .ok (.slice (some ⟨g, 0, none⟩) k cap) W := by
  have ht : Try.prog.underlying 41 = some (.slice (Try.prog.elem 41)) := by kernel_rfl
  have he : Try.prog.elem 41 = 56 := by kernel_rfl
  rw [run_slice_h _ _ _ _ _ ht .i64 (k : Int) (by omega) (by omega), he, Try.sizeOf56 W]
  simp only [Result.andThen_ok, sliced]
  congr 1
  simp [Addr.add]
set_option maxRecDepth 100000 in
theorem cls_slice_from (g m cap k : Nat) (hk : k ≤ m) (hm : m ≤ cap) : ∃ A' : Option Addr, (∀ W : World, (Instr.slice 41 (.slice (some ⟨g, 0, none⟩) m cap) (some (.int .i64 (k : Int))) none none).run Try.prog W = .ok (.slice A' (m - k) (cap - k)) W) ∧
    ∀ (W : World) (B : Nat) (l : List Cl), ClsAt W B (some ⟨g, 0, none⟩) l → l.length = m → ClsAt W B A' (l.drop k) := by
  have ht : Try.prog.underlying 41 = some (.slice (Try.prog.elem 41)) := by kernel_rfl
  have he : Try.prog.elem 41 = 56 := by kernel_rfl
  refine ⟨if cap = k then some ⟨g, 0, none⟩ else some ⟨g, k * 20, none⟩, fun W => ?_, fun W B l h hl => ?_⟩
  · rw [run_slice_l _ _ _ _ _ ht .i64 (k : Int) (by omega) (by omega), he, Try.sizeOf56 W]
    simp only [Result.andThen_ok, sliced]
    congr 2
    split
    · rename_i h
      rw [if_pos (by simpa using h)]
    · rename_i h
      rw [if_neg (by simpa using h)]
      simp only [Option.map_some]
      rw [addr_add]
      simp
  · split
    · rename_i h'
      have : l.drop k = [] := List.drop_eq_nil_of_le (by omega)
      rw [this]
      exact ClsAt.nil _ _ _
    · intro i c hi
      rw [List.getElem?_drop] at hi
      obtain ⟨g', off', h1, h2, h3⟩ := h (k + i) c hi
      injection h1 with h1
      injection h1 with hg ho _
      subst hg ho
      refine ⟨g, k * 20, rfl, h2, fun j v hv => ?_⟩
      have := h3 j v hv
      rwa [show 0 + (k + i) * 20 + j = k * 20 + i * 20 + j by omega] at this
theorem exec_load_row {ev : Operand → Value} {o : Oper} {W : World} {x : Operand} (ho : o.op = .load 56 x) {base g n cap k : Nat} {l : List Cl} (hx : ev x = .pointer (some ⟨g, k * 20, none⟩))
    (hr : OwnCls W base (.slice (some ⟨g, 0, none⟩) n cap) l) (hn : l.length = n) {c : Cl} (hk : l[k]? = some c) : (execOp ev o).run Try.prog W = .ok (.value (.agg (clA c))) W := by
  have h2 : W.ownsRow base 56 20 (.slice (some ⟨g, 0, none⟩) n cap) n (cls l) := by
    unfold OwnCls at hr
    rw [hn] at hr
    exact hr
  unfold execOp
  simp only [ho, hx, Instr.loadAt, Instr.sureAddr, Sem.run_bind, Sem.run_pure, Result.andThen_ok, row_load h2 hn hk]
theorem own_cap {w : World} {base g n cap : Nat} {l : List Cl} (h : OwnCls w base (.slice (some ⟨g, 0, none⟩) n cap) l) : n ≤ cap := by
  rcases h.2 with ⟨h0, _⟩ | ⟨g', cap', cur, hv, _, _, hn, hcap, _⟩
  · cases h0
  · injection hv with _ h1 h2
    subst h2
    omega
end Go.Proofs.Ytaicbllfkehhjaa

/- The reference's page: New, first, Drop. -/
namespace Go.Proofs.Ytaicbllfkehhjaa
open Go.RowKit

/-- A page of the reference, at q: its slice v, at most n clauses in the order in which they came. -/
structure RP (w : World) (base q : Nat) (v : Value) (n : Nat) (L : List Cl) : Prop where
  blk : Blk w q 100 #[v]
  own : OwnCls w base v L
  pg : Pg L
  len : L.length ≤ n
section
variable {w w' : World} {base q n : Nat} {v : Value} {L : List Cl}
theorem RP.ne (h : RP w base q v n L) : v.ownBlock ≠ some q := h.own.ne_blk h.blk (by decide)
theorem RP.below (h : RP w base q v n L) (k : Below w.heap.size w w') : RP w' base q v n L := ⟨h.blk.below k h.blk.lt, h.own.below k, h.pg, h.len⟩
theorem RP.only {F : Foot} (h : RP w base q v n L) (k : Only F w w') (h1 : ¬ F q) (h2 : ∀ g, v.ownBlock = some g → ¬ F g) : RP w' base q v n L := ⟨k.blk h.blk h1, k.owns h.own h2, h.pg, h.len⟩
theorem RP.drewN (h : RP w base q v n L) (m : Nat) : RP (w.drewN m) base q v n L := h.below ⟨rfl, rfl, rfl, Nat.le_refl _, fun _ _ => rfl⟩
theorem RP.drew (h : RP w base q v n L) : RP w.drew base q v n L := h.below ⟨rfl, rfl, rfl, Nat.le_refl _, fun _ _ => rfl⟩
/-- A page of the package keeps as one of the reference turns, and the other way round. -/
theorem PP.rp {p b m : Nat} {M : List Cl} {base' : Nat} (h : PP w base p b m M) (k : RP w base' q v n L) (o : Only (fun i => i = q ∨ v.ownBlock = some i) w w') : PP w' base p b m M := h.only o
  (fun e => by
    rcases e with e | e
    · exact (h.at_.blk.ne_ k.blk (by decide)) e
    · exact k.own.ne_blk h.at_.blk (by decide) e)
  (fun e => by
    obtain ⟨L', q1, _⟩ := h.at_.map
    rcases e with e | e
    · exact k.blk.ne_map q1 e.symm
    · exact k.own.ne_map q1 e)
theorem RP.pp {p b m : Nat} {M : List Cl} {base' : Nat} (k : RP w base q v n L) (h : PP w base' p b m M) (o : Only (fun i => i = b) w w') : RP w' base q v n L := by
  obtain ⟨L', q1, _⟩ := h.at_.map
  exact k.only o (fun e => k.blk.ne_map q1 e) fun g hg e => k.own.ne_map q1 (by rw [hg, e])
theorem RP.ppp {p b m : Nat} {M : List Cl} {base' : Nat} (k : RP w base q v n L) (h : PP w base' p b m M) (o : Only (fun i => i = p) w w') : RP w' base q v n L :=
  k.only o (fun e => (h.at_.blk.ne_ k.blk (by decide)) e.symm) fun g hg e => k.own.ne_blk h.at_.blk (by decide) (by rw [hg, e])
end
set_option maxRecDepth 100000 in
theorem rNew_any (w : World) : Calls Try.prog 33 #[] w fun e w' => ∃ q, e = .returned (.pointer (some ⟨q, 0, none⟩)) ∧ RP w' w.heap.size q (.slice none 0 0) 0 [] ∧ w.heap.size ≤ q ∧ Below w.heap.size w w' := by
  have k := Blk.new w 100 #[.slice none 0 0]
  have b := below_self_alloc w (.cells #[.slice none 0 0] 100)
  go_enter Try.func33, Try.ntmps33
  go_wp2
  go_ret
  exact ⟨w.heap.size, rfl, ⟨k, World.ownsRow_nil _ _ _ _, Pg.nil, Nat.le_refl _⟩, Nat.le_refl _, b⟩

def befS (a b : St2) : Bool := decide (b.2 < a.2) || (decide (a.2 = b.2) && decide (b.1 < a.1))
theorem befS_bef (a b : Cl) : befS a.id b.id = bef a b := rfl
set_option maxRecDepth 100000 in
set_option maxHeartbeats 4000000 in
theorem rFirst_any (w : World) (a b : St2) : Calls Try.prog 71 #[.agg (stA a), .agg (stA b)] w fun e w' => e = .returned (.bool (befS a b)) ∧ Below w.heap.size w w' := by
  obtain ⟨a1, a2⟩ := a
  obtain ⟨b1, b2⟩ := b
  have kA : Blk ((w.alloc (.cells (stA (a1, a2)) 33)).alloc (.cells (stA (b1, b2)) 33)) w.heap.size 33 (stA (a1, a2)) := (Blk.new w _ _).alloc _
  have kB := Blk.new1 w (.cells (stA (a1, a2)) 33) 33 (stA (b1, b2))
  have hb : Below w.heap.size w ((w.alloc (.cells (stA (a1, a2)) 33)).alloc (.cells (stA (b1, b2)) 33)) := ((Below.refl w.heap.size w).alloc (Nat.le_refl _) _).alloc (by simp) _
  have c0 := kA.cell 0
  have c1 := kA.cell 1
  have d0 := kB.cell 0
  have d1 := kB.cell 1
  simp only [stA] at c0 c1 d0 d1
  have c0' : ((w.alloc (.cells (stA (a1, a2)) 33)).alloc (.cells (stA (b1, b2)) 33)).cell? ⟨w.heap.size, 0, none⟩ = some (.int .i64 a1) := kA.cell 0
  have c1' : ((w.alloc (.cells (stA (a1, a2)) 33)).alloc (.cells (stA (b1, b2)) 33)).cell? ⟨w.heap.size, 1, none⟩ = some (.int .i64 a2) := kA.cell 1
  have d0' : ((w.alloc (.cells (stA (a1, a2)) 33)).alloc (.cells (stA (b1, b2)) 33)).cell? ⟨w.heap.size + 1, 0, none⟩ = some (.int .i64 b1) := kB.cell 0
  have d1' : ((w.alloc (.cells (stA (a1, a2)) 33)).alloc (.cells (stA (b1, b2)) 33)).cell? ⟨w.heap.size + 1, 1, none⟩ = some (.int .i64 b2) := kB.cell 1
  clear kA kB c0 c1 d0 d1
  unfold befS
  obtain ⟨x1, h1⟩ : ∃ x, decide (b2 < a2) = x := ⟨_, rfl⟩
  obtain ⟨x2, h2⟩ : ∃ x, decide (a2 = b2) = x := ⟨_, rfl⟩
  obtain ⟨x3, h3⟩ : ∃ x, decide (b1 < a1) = x := ⟨_, rfl⟩
  have h2' : (a2 == b2) = x2 := by rw [← h2]; rfl
  simp only
  rw [h1, h2, h3]
  clear h2
  obtain ⟨SA, hSA⟩ : ∃ x, stA (a1, a2) = x := ⟨_, rfl⟩
  obtain ⟨SB, hSB⟩ : ∃ x, stA (b1, b2) = x := ⟨_, rfl⟩
  rw [hSA, hSB] at c0' c1' d0' d1' hb ⊢
  clear hSA hSB
  go_enter Try.func71, Try.ntmps71
  go_upto_region 1 with fail
  generalize (w.alloc (.cells SA 33)).alloc (.cells SB 33) = W at *
  cases x1 with
  | true =>
    go_wp2
    go_ret
    exact ⟨rfl, hb⟩
  | false =>
    cases x2 with
    | false =>
      go_wp2
      go_ret
      exact ⟨rfl, hb⟩
    | true =>
      go_wp2
      go_ret
      exact ⟨by cases x3 <;> rfl, hb⟩

theorem set_at {L : List Cl} (hu : Uq L) {k : Nat} {c : Cl} (hk : L[k]? = some c) (d : Cl) (hd : d.id = c.id) : setC L d = L.set k d := by
  unfold setC
  apply List.ext_getElem?
  intro i
  rw [List.getElem?_map, List.getElem?_set]
  by_cases hi : k = i
  · subst hi
    rw [if_pos rfl, if_pos (List.getElem?_eq_some_iff.1 hk).1, hk]
    show some (repC d c) = _
    unfold repC
    rw [if_pos hd.symm]
  · rw [if_neg hi]
    cases hy : L[i]? with
    | none => rfl
    | some y =>
      show some (repC d y) = some y
      unfold repC
      rw [if_neg]
      intro e
      have hyc : y = c := uq_one hu (List.mem_of_getElem? hy) (List.mem_of_getElem? hk) (e.trans hd)
      obtain ⟨h1, h2⟩ := List.getElem?_eq_some_iff.1 hk
      obtain ⟨h3, h4⟩ := List.getElem?_eq_some_iff.1 hy
      have h5 := List.pairwise_iff_getElem.1 (uq_nodup hu)
      rcases Nat.lt_or_gt_of_ne hi with hlt | hgt
      · exact h5 k i h1 h3 hlt (by rw [h2, h4, hyc])
      · exact h5 i k h3 h1 hgt (by rw [h2, h4, hyc])
set_option maxRecDepth 100000 in
set_option maxHeartbeats 8000000 in
theorem rDrop_any (w : World) {base q n : Nat} {v : Value} {L : List Cl} (h : RP w base q v n L) (hn : n ≤ 100000) (t : St2) :
    Calls Try.prog 38 #[.pointer (some ⟨q, 0, none⟩), .agg (stA t)] w fun e w' => e = .returned (.int .i64 (dropS L t).2) ∧ RP w' base q v n (dropS L t).1 ∧ Only (fun i => v.ownBlock = some i) w w' := by
  obtain ⟨N, hN⟩ : ∃ N, L.length = N := ⟨_, rfl⟩
  obtain ⟨A, cap, hv⟩ := h.own.len
  rw [hN] at hv
  subst hv
  have hNn : N ≤ 100000 := by rw [← hN]; have := h.len; omega
  have HN := Lib.hid hN
  have B0 := Lib.hid (below_self_alloc w (.cells (stA t) 33))
  have K0 := Lib.hid (Blk.new w 33 (stA t))
  have H0 := Lib.hid (h.below B0.out)
  obtain ⟨ST, hST⟩ : ∃ x, stA t = x := ⟨_, rfl⟩
  rw [hST] at B0 K0 H0 ⊢
  have HST := Lib.hid hST
  have HPG := Lib.hid h.pg
  obtain ⟨D, hD⟩ : ∃ D, dropS L t = D := ⟨_, rfl⟩
  rw [hD]
  have HD := Lib.hid hD
  clear h hN hST hD
  go_enter Try.func38, Try.ntmps38
  go_upto_region 3 with fail
  generalize w.alloc (.cells ST 33) = w0 at *
  refine wp_region_stages [.free [0, 1, 2], .hold (fun W => Blk W q 100 #[.slice A N cap] ∧ Blk W w.heap.size 33 ST) [3, 4] [], .run [5, 6]] (by kernel_rfl) (by kernel_rfl) (fun _ d _ _ _ h => by cases d <;> exact h) ?_
  simp only [wpStg, wpRun, wpEarly, pick, List.drop_succ_cons, List.drop_zero, List.head?_cons, Option.toList_some, List.cons_append, List.nil_append, List.append_nil]
  iterate 3 ((first | (refine wpHeld_step ?_ rfl ?_ ?_; rotate_left; · (intro W hW; go_simp; with_reducible rfl)) | (refine wpHeld_want ?_ (by kernel_rfl) ?_ ?_; rotate_left; · (intro W hW; go_simp; with_reducible rfl))); simp only [Act.put, List.setIfInBounds_toArray, List.set_cons_succ, List.set_cons_zero])
  refine wpHeld_nil ?_
  refine ⟨⟨H0.out.blk.drew, K0.out.drew⟩, ?_⟩
  iterate 2 ((refine wpHeld_step ?_ rfl ?_ ?_; rotate_left; · (intro W hW; have g0 : W.cell? ⟨q, 0, none⟩ = some (.slice A N cap) := hW.1.cell 0; have g1 : W.cell? ⟨w.heap.size, 0, none⟩ = some (.int .i64 t.1) := (hW.2.cell 0).trans (by rw [← HST.out]; rfl); have g2 : W.cell? ⟨w.heap.size, 1, none⟩ = some (.int .i64 t.2) := (hW.2.cell 1).trans (by rw [← HST.out]; rfl); go_simp; with_reducible rfl)); simp only [Act.put, List.setIfInBounds_toArray, List.set_cons_succ, List.set_cons_zero])
  refine wpHeld_nil ?_
  have H1 := Lib.hid H0.out.drew
  have B1 := Lib.hid (below_drew1 B0.out)
  have FD := Lib.hid (own_find w0.drew H1.out.own (by rw [HN.out]; omega) t)
  clear H0 B0 K0
  generalize w0.drew = w1 at *
  go_wp2_with fail
  refine FD.out.mono ?_
  rintro e w2 ⟨rfl, b2⟩
  have H2 := Lib.hid (H1.out.below b2)
  have B2 := Lib.hid (B1.out.trans (b2.mono B1.out.size))
  clear H1 B1 FD b2
  rcases find_cases HPG.out.uq t with ⟨h1, h2⟩ | ⟨k, c, h1, h2, h3⟩
  · have hd : dropS L t = (L, 11) := by unfold dropS; rw [h1]
    obtain rfl : D = (L, 11) := HD.out.symm.trans hd
    rw [h2]
    clear hd h1 h2 HD
    go_wp2
    go_ret
    exact ⟨rfl, H2.out, Only.of_below (B2.out) _⟩
  · have hd : dropS L t = (setC L (goneC c), 0) := by unfold dropS; rw [h1]; rfl
    have hcid := (getC_mem h1).2
    have hset := set_at HPG.out.uq h2 (goneC c) rfl
    have hkN : k < N := by rw [← HN.out]; exact (List.getElem?_eq_some_iff.1 h2).1
    obtain rfl : D = (setC L (goneC c), 0) := HD.out.symm.trans hd
    rw [h3]
    clear HD
    have HPG' := Lib.hid (show Pg (setC L (goneC c)) from by have := HPG.out.drop t; rw [hd] at this; exact this)
    obtain ⟨g, cq, hv, -⟩ := own_some H2.out.own (by rw [HN.out]; omega)
    injection hv with hv q1 q2
    subst hv
    clear q1 q2
    have hrow : w2.ownsRow base 56 20 (.slice (some ⟨g, 0, none⟩) N cap) N (cls L) := by
      have := H2.out.own
      unfold OwnCls at this
      rw [HN.out] at this
      exact this
    obtain ⟨c19, f19⟩ := own_cell hrow HN.out h2 (j := 19) rfl
    have g0 : w2.cell? ⟨q, 0, none⟩ = some (.slice (some ⟨g, 0, none⟩) N cap) := H2.out.blk.cell 0
    have st := (hrow.stored (k * 20 + 19) (.bool true)).1
    rw [cls_set h2, ← hset] at st
    have hne := H2.out.ne
    have HR := Lib.hid (show RP (w2.setCell ⟨g, k * 20 + 19, none⟩ (.bool true)) base q (.slice (some ⟨g, 0, none⟩) N cap) n (setC L (goneC c)) from
      ⟨H2.out.blk.far (p := ⟨g, k * 20 + 19, none⟩) (fun e => hne (by rw [e]; rfl)) _, by
        unfold OwnCls
        have hl : (setC L (goneC c)).length = N := by unfold setC; rw [List.length_map, HN.out]
        rw [hl]
        exact st, HPG'.out, by unfold setC; rw [List.length_map]; exact H2.out.len⟩)
    have HO := Lib.hid (show Only (fun i => (Value.slice (some ⟨g, 0, none⟩) N cap).ownBlock = some i) w (w2.setCell ⟨g, k * 20 + 19, none⟩ (.bool true)) from Only.setCell (F := fun i => (Value.slice (some ⟨g, 0, none⟩) N cap).ownBlock = some i) (Only.of_below B2.out _) (p := ⟨g, k * 20 + 19, none⟩) (.inl rfl) _)
    clear hd h1 h2 h3 hset hrow st hne B2 H2 HPG HPG'
    go_wp2
    go_ret
    exact ⟨rfl, HR.out, HO.out⟩
end Go.Proofs.Ytaicbllfkehhjaa

/- The reference's Put. -/
namespace Go.Proofs.Ytaicbllfkehhjaa
open Go.RowKit

theorem enc_setG (c : Cl) (g : Bool) : (encC c).set 19 (.bool g) = encC (setG c g) := rfl
theorem cls_setG {g : Bool} : ∀ {l : List Cl} {k : Nat} {x : Cl}, l[k]? = some x → (cls l).set (k * 20 + 19) (.bool g) = cls (l.set k (setG x g))
  | [], k, x, h => by simp at h
  | c :: l, 0, x, h => by
    simp at h
    subst h
    show (encC c ++ cls l).set _ _ = encC (setG c g) ++ cls l
    rw [List.set_append_left _ _ (by rw [encC_len]; omega), Nat.zero_mul, Nat.zero_add, enc_setG]
  | c :: l, k + 1, x, h => by
    have ih := cls_setG (g := g) (l := l) (k := k) (x := x) (by simpa using h)
    show (encC c ++ cls l).set _ _ = encC c ++ cls (l.set k (setG x g))
    rw [List.set_append_right _ _ (by rw [encC_len]; omega), encC_len, ← ih]
    congr 2
    omega
theorem own_row {w : World} {base n cap : Nat} {A : Option Addr} {l : List Cl} (h : OwnCls w base (.slice A n cap) l) (hn : l.length = n) : w.ownsRow base 56 20 (.slice A n cap) n (cls l) := by
  unfold OwnCls at h
  rw [hn] at h
  exact h
/-- What a Put leaves of a page of the reference. -/
def RPut (w w' : World) (base q : Nat) (v : Value) (n : Nat) (L : List Cl) : Prop :=
  ∃ v', RP w' base q v' n L ∧ (v'.ownBlock = v.ownBlock ∨ ∃ g, v'.ownBlock = some g ∧ w.heap.size ≤ g) ∧ Only (fun i => i = q ∨ v.ownBlock = some i) w w'
set_option maxRecDepth 100000 in
set_option maxHeartbeats 16000000 in
theorem rPut_any (w : World) {base q n : Nat} {v : Value} {L : List Cl} (h : RP w base q v n L) (hn : n ≤ 100000) (hbase : base ≤ w.heap.size) (c : Cl) :
    Calls Try.prog 36 #[.pointer (some ⟨q, 0, none⟩), .agg (clA c)] w fun e w' => e = .returned (.int .i64 (putS L c).2) ∧ RPut w w' base q v (n + 1) (putS L c).1 := by
  obtain ⟨N, hN⟩ : ∃ N, L.length = N := ⟨_, rfl⟩
  obtain ⟨A, cap, hv⟩ := h.own.len
  rw [hN] at hv
  subst hv
  have hNn : N ≤ 100000 := by rw [← hN]; have := h.len; omega
  have HN := Lib.hid hN
  have B0 := Lib.hid (below_self_alloc w (.cells (clA c) 56))
  have K0 := Lib.hid (Blk.new w 56 (clA c))
  have H0 := Lib.hid (h.below B0.out)
  obtain ⟨CX, hCX⟩ : ∃ x, clA c = x := ⟨_, rfl⟩
  have PR := Lib.hid (rProper_any (c := c))
  rw [hCX] at B0 K0 H0 PR ⊢
  have HCX := Lib.hid hCX
  have HPG := Lib.hid h.pg
  have HLN := Lib.hid h.len
  obtain ⟨D, hD⟩ : ∃ D, putS L c = D := ⟨_, rfl⟩
  rw [hD]
  have HD := Lib.hid hD
  have HPD := Lib.hid (show Pg D.1 from by rw [← hD]; exact h.pg.put c)
  have HBASE := Lib.hid hbase
  obtain ⟨i1, hi1, hy0, hy1, hy2⟩ := info_parts Try.infoCl
  have hQ0 := Lib.hid h.ne
  clear h hN hCX hD hn hbase
  go_enter Try.func36, Try.ntmps36
  go_wp2_with (refine load_clg (by kernel_rfl) (x := .tmp 3) rfl rfl (c := c) (by rw [HCX.out]; exact K0.out) ?_; rw [HCX.out])
  generalize w.alloc (.cells CX 56) = w0 at *
  refine (PR.out _).mono ?_
  rintro e w1 ⟨rfl, b1⟩
  have H1 := Lib.hid (H0.out.below b1)
  have K1 := Lib.hid (K0.out.below b1 K0.out.lt)
  have B1 := Lib.hid (B0.out.trans (b1.mono B0.out.size))
  clear H0 K0 B0 b1 PR
  have stay : ∀ W, Below w.heap.size w W → RP W base q (.slice A N cap) n L → RPut w W base q (.slice A N cap) (n + 1) L := fun W hb hr => ⟨_, ⟨hr.blk, hr.own, hr.pg, Nat.le_succ_of_le hr.len⟩, .inl rfl, Only.of_below hb _⟩
  have STAY := Lib.hid stay
  clear stay
  cases hp : properC c with
  | false =>
    obtain rfl : D = (L, 1) := by rw [← HD.out]; unfold putS; rw [if_pos hp]
    clear hp HD
    go_wp2
    go_ret
    exact ⟨rfl, STAY.out _ B1.out H1.out⟩
  | true =>
  have HP := Lib.hid hp
  clear hp
  go_upto_region 3 with fail
  refine wp_region_stages [.free [0, 1, 2, 4], .hold (fun W => Blk W q 100 #[.slice A N cap] ∧ Blk W w.heap.size 56 CX) [3, 5] [], .run [6, 7]] (by kernel_rfl) (by kernel_rfl) (fun _ d _ _ _ h => by cases d <;> exact h) ?_
  simp only [wpStg, wpRun, wpEarly, pick, List.drop_succ_cons, List.drop_zero, List.head?_cons, Option.toList_some, List.cons_append, List.nil_append, List.append_nil]
  iterate 4 ((first | (refine wpHeld_step ?_ rfl ?_ ?_; rotate_left; · (intro W hW; go_simp; with_reducible rfl)) | (refine wpHeld_want ?_ (by kernel_rfl) ?_ ?_; rotate_left; · (intro W hW; go_simp; with_reducible rfl))); simp only [Act.put, List.setIfInBounds_toArray, List.set_cons_succ, List.set_cons_zero])
  refine wpHeld_nil ?_
  refine ⟨⟨H1.out.blk.drew, K1.out.drew⟩, ?_⟩
  iterate 2 ((refine wpHeld_step ?_ rfl ?_ ?_; rotate_left; · (intro W hW; have g0 : W.cell? ⟨q, 0, none⟩ = some (.slice A N cap) := hW.1.cell 0; have g1 : W.cell? ⟨w.heap.size, 0, none⟩ = some (.int .i64 c.id.1) := (hW.2.cell 0).trans (by rw [← HCX.out]; rfl); have g2 : W.cell? ⟨w.heap.size, 1, none⟩ = some (.int .i64 c.id.2) := (hW.2.cell 1).trans (by rw [← HCX.out]; rfl); go_simp; with_reducible rfl)); simp only [Act.put, List.setIfInBounds_toArray, List.set_cons_succ, List.set_cons_zero])
  refine wpHeld_nil ?_
  have H2 := Lib.hid H1.out.drew
  have B2 := Lib.hid (below_drew1 B1.out)
  have K2 := Lib.hid K1.out.drew
  have FD := Lib.hid (own_find w1.drew H2.out.own (by rw [HN.out]; omega) c.id)
  clear H1 B1 K1
  generalize w1.drew = w2 at *
  go_wp2_with fail
  refine FD.out.mono ?_
  rintro e w3 ⟨rfl, b3⟩
  have H3 := Lib.hid (H2.out.below b3)
  have K3 := Lib.hid (K2.out.below b3 K2.out.lt)
  have B3 := Lib.hid (B2.out.trans (b3.mono B2.out.size))
  clear H2 B2 K2 FD b3
  rcases find_cases HPG.out.uq c.id with ⟨h1, h2⟩ | ⟨k, old, h1, h2, h3⟩
  · have hd : putS L c = if c.after ≠ z2 ∧ getC L c.after = none then (L, 11) else if c.gone = false ∧ 64 ≤ openN L then (L, 27) else (L ++ [c], 0) := by
      unfold putS
      rw [if_neg (by rw [HP.out]; simp), h1]
    rw [h2]
    have HDD := Lib.hid (HD.out.symm.trans hd)
    have HNEW := Lib.hid h1
    clear hd h1 h2 HD
    have hez : ∀ W : World, (Op.equalIn 10000 33 (.agg #[.int .i64 c.after.1, .int .i64 c.after.2]) (.agg #[.int .i64 0, .int .i64 0])).run Try.prog W = .ok (decide (c.after = z2)) W := eq_st c.after z2
    obtain ⟨bz, hbz⟩ : ∃ q, decide (c.after = z2) = q := ⟨_, rfl⟩
    rw [hbz] at hez
    have HBZ := Lib.hid hbz
    clear hbz
    go_upto_region 9 with fail
    refine wp_region_stages [.free [0, 2], .hold (fun W => RP W base q (.slice A N cap) n L ∧ Blk W w.heap.size 56 CX) [1] [], .run [3, 4], .free [5, 6, 7, 9], .hold (fun W => RP W base q (.slice A N cap) n L ∧ Blk W w.heap.size 56 CX) [8, 10] [], .run [11, 12, 13]] (by kernel_rfl) (by kernel_rfl) (fun _ d _ _ _ h => by cases d <;> exact h) ?_
    simp only [wpStg, wpRun, wpEarly, pick, List.drop_succ_cons, List.drop_zero, List.head?_cons, Option.toList_some, List.cons_append, List.nil_append, List.append_nil]
    iterate 2 ((first | (refine wpHeld_step ?_ rfl ?_ ?_; rotate_left; · (intro W hW; go_simp; with_reducible rfl)) | (refine wpHeld_want ?_ (by kernel_rfl) ?_ ?_; rotate_left; · (intro W hW; go_simp; with_reducible rfl))); simp only [Act.put, List.setIfInBounds_toArray, List.set_cons_succ, List.set_cons_zero])
    refine wpHeld_nil ?_
    refine ⟨⟨H3.out.drew, K3.out.drew⟩, ?_⟩
    iterate 1 ((refine wpHeld_step ?_ rfl ?_ ?_; rotate_left; · (intro W hW; have g1 : W.cell? ⟨w.heap.size, 2, none⟩ = some (.int .i64 c.after.1) := (hW.2.cell 2).trans (by rw [← HCX.out]; rfl); have g2 : W.cell? ⟨w.heap.size, 3, none⟩ = some (.int .i64 c.after.2) := (hW.2.cell 3).trans (by rw [← HCX.out]; rfl); go_simp; with_reducible rfl)); simp only [Act.put, List.setIfInBounds_toArray, List.set_cons_succ, List.set_cons_zero])
    refine wpHeld_nil ?_
    have H4 := Lib.hid H3.out.drew
    have B4 := Lib.hid (below_drew1 B3.out)
    have K4 := Lib.hid K3.out.drew
    clear H3 B3 K3
    generalize w3.drew = w4 at *
    cases bz
    case' false =>
      have HNZ := Lib.hid (of_decide_eq_false HBZ.out)
      clear HBZ
      go_wp2_with fail
      iterate 4 ((first | (refine wpHeld_step ?_ rfl ?_ ?_; rotate_left; · (intro W hW; go_simp; with_reducible rfl)) | (refine wpHeld_want ?_ (by kernel_rfl) ?_ ?_; rotate_left; · (intro W hW; go_simp; with_reducible rfl))); simp only [Act.put, List.setIfInBounds_toArray, List.set_cons_succ, List.set_cons_zero])
      refine wpHeld_nil ?_
      refine ⟨⟨H4.out, K4.out⟩, ?_⟩
      iterate 2 ((refine wpHeld_want ?_ (by kernel_rfl) ?_ ?_; rotate_left; · (intro W hW; have g0 : W.cell? ⟨q, 0, none⟩ = some (.slice A N cap) := hW.1.blk.cell 0; have g1 : W.cell? ⟨w.heap.size, 2, none⟩ = some (.int .i64 c.after.1) := (hW.2.cell 2).trans (by rw [← HCX.out]; rfl); have g2 : W.cell? ⟨w.heap.size, 3, none⟩ = some (.int .i64 c.after.2) := (hW.2.cell 3).trans (by rw [← HCX.out]; rfl); go_simp; with_reducible rfl)); simp only [Act.put, List.setIfInBounds_toArray, List.set_cons_succ, List.set_cons_zero])
      refine wpHeld_nil ?_
      have FD := Lib.hid (own_find w4 H4.out.own (by rw [HN.out]; omega) c.after)
      go_wp2_with fail
      refine FD.out.mono ?_
      rintro e w5 ⟨rfl, b5⟩
      have H5 := Lib.hid (H4.out.below b5)
      have K5 := Lib.hid (K4.out.below b5 K4.out.lt)
      have B5 := Lib.hid (B4.out.trans (b5.mono B4.out.size))
      clear H4 B4 K4 FD b5
      rcases find_cases HPG.out.uq c.after with ⟨h1, h2⟩ | ⟨k, old, h1, h2, h3⟩
      · obtain rfl : D = (L, 11) := by rw [HDD.out, if_pos ⟨HNZ.out, h1⟩]
        rw [h2]
        clear h1 h2 HDD
        go_wp2
        go_ret
        exact ⟨rfl, STAY.out _ B5.out H5.out⟩
      have hno : ¬ (c.after ≠ z2 ∧ getC L c.after = none) := fun hh => by rw [h1] at hh; cases hh.2
      have HNO := Lib.hid hno
      rw [h3]
      clear h1 h2 h3 hno HNZ hez
      go_upto_region 11 with fail
    case' true =>
      have hno : ¬ (c.after ≠ z2 ∧ getC L c.after = none) := fun hh => hh.1 (of_decide_eq_true HBZ.out)
      have HNO := Lib.hid hno
      clear HBZ hno
      go_wp2_with fail
      iterate 4 (refine wpHeld_skip (by kernel_rfl) ?_; simp only [Act.put, List.setIfInBounds_toArray, List.set_cons_succ, List.set_cons_zero])
      refine wpHeld_nil ?_
      refine ⟨⟨H4.out, K4.out⟩, ?_⟩
      iterate 2 (refine wpHeld_skip (by kernel_rfl) ?_; simp only [Act.put, List.setIfInBounds_toArray, List.set_cons_succ, List.set_cons_zero])
      refine wpHeld_nil ?_
      have H5 := H4
      have B5 := B4
      have K5 := K4
      clear H4 B4 K4 hez
      generalize w4 = w5 at *
      go_upto_region 11 with fail
    all_goals
      have HDE := Lib.hid (HDD.out.trans (if_neg HNO.out))
      have c19 : w5.cell? ⟨w.heap.size, 19, none⟩ = some (.bool c.gone) := (K5.out.cell 19).trans (by rw [← HCX.out]; rfl)
      have g0 : w5.cell? ⟨q, 0, none⟩ = some (.slice A N cap) := H5.out.blk.cell 0
      clear HDD HNO
      cases hgo : c.gone
      case' true =>
        rw [hgo] at c19
        have HE2 := Lib.hid (HDE.out.trans (if_neg (fun hh => by rw [hgo] at hh; exact absurd hh.1 (by simp))))
        clear HDE hgo
        go_upto_region 13 with fail
      case' false =>
        rw [hgo] at c19
        have OP := Lib.hid (own_open w5 H5.out.own (by rw [HN.out]; omega))
        obtain ⟨O, hO⟩ : ∃ O, openN L = O := ⟨_, rfl⟩
        rw [hO] at OP
        rw [hgo] at HDE
        have HO2 := Lib.hid hO
        clear hO
        go_wp2_with fail
        refine OP.out.mono ?_
        rintro e w6 ⟨rfl, h6⟩
        rw [h6]
        clear OP h6 w6
        by_cases ho : 64 ≤ O
        · have e1 : decide ((64 : Int) ≤ (O : Int)) = true := decide_eq_true (by omega)
          obtain rfl : D = (L, 27) := HDE.out.trans (if_pos ⟨by trivial, by rw [HO2.out]; exact ho⟩)
          clear ho HDE HO2 hgo
          go_wp2
          go_ret
          exact ⟨rfl, STAY.out _ B5.out H5.out⟩
        have e1 : decide ((64 : Int) ≤ (O : Int)) = false := decide_eq_false (by omega)
        have HE2 := Lib.hid (HDE.out.trans (if_neg (fun hh => ho (by rw [← HO2.out]; exact hh.2))))
        clear ho HDE HO2 hgo
        go_upto_region 13 with fail
    all_goals
      obtain rfl := HE2.out
      clear HE2
      refine wp_region_stages [.free [0, 1, 2, 3], .hold (fun W => RP W base q (.slice A N cap) n L ∧ Blk W w.heap.size 56 CX) [4, 5] [6], .run [7, 8, 9, 10]] (by kernel_rfl) (by kernel_rfl) (fun _ d _ _ _ h => by cases d <;> exact h) ?_
      simp only [wpStg, wpRun, wpEarly, pick, List.drop_succ_cons, List.drop_zero, List.head?_cons, Option.toList_some, List.cons_append, List.nil_append, List.append_nil]
      iterate 4 ((first | (refine wpHeld_step ?_ rfl ?_ ?_; rotate_left; · (intro W hW; go_simp; with_reducible rfl)) | (refine wpHeld_want ?_ (by kernel_rfl) ?_ ?_; rotate_left; · (intro W hW; go_simp; with_reducible rfl))); simp only [Act.put, List.setIfInBounds_toArray, List.set_cons_succ, List.set_cons_zero])
      refine wpHeld_nil ?_
      refine ⟨⟨H5.out.drew, K5.out.drew⟩, ?_⟩
      refine wpHeld_step (.slice A N cap) rfl ?_ ?_
      · intro W hW
        have g0 : W.cell? ⟨q, 0, none⟩ = some (.slice A N cap) := hW.1.blk.cell 0
        go_simp
      refine wpHeld_step (.agg CX) rfl ?_ ?_
      · intro W hW; rw [← HCX.out]; refine exec_load_cl (x := .tmp 3) ?_ ?_ (by rw [HCX.out]; exact hW.2) <;> rfl
      simp only [Act.put, List.setIfInBounds_toArray, List.set_cons_succ, List.set_cons_zero]
      refine wpHeld_nil ?_
      have H6 := Lib.hid H5.out.drew
      have B6 := Lib.hid (below_drew1 B5.out)
      have K6 := Lib.hid K5.out.drew
      clear H5 B5 K5 STAY g0 c19
      generalize w5.drew = w6 at *
      have HOWN := Lib.hid ((own_row H6.out.own HN.out).alloc (.cells CX 56))
      have HKC := Lib.hid (Blk.new w6 56 CX)
      have HENC := Lib.hid (show encC c = CX.toList by rw [← HCX.out]; rfl)
      have HONE := Lib.hid (encC_one c)
      have HQB := Lib.hid (H6.out.blk.alloc (.cells CX 56))
      have hs6 := B6.out.size
      have hb0 := HBASE.out
      go_wp2_with (refine wpList_new rfl (op := .buildSlice 41 1 #[(0, .tmp 81)]) rfl (.slice (some ⟨w6.heap.size, 0, none⟩) 1 1) (w6.alloc (.cells CX 56)) (by rw [← HCX.out]; kernel_rfl) ?_)
      refine ⟨⟨H6.out.below (below_self_alloc w6 _), K6.out.alloc _⟩, ?_⟩
      go_wp2_with (at_builtin; refine wpList_append_lies _ rfl _ _ 41 rfl base 56 i1 _ 20 248 Try.underlying41 hi1 hy0 hy1 hy2 rfl (by omega) (.slice A N cap) N (cls L) rfl HOWN.out ⟨w6.heap.size, 0, none⟩ 1 1 (encC c) rfl rfl (by rw [HENC.out]; exact World.news_of_block HKC.out) HONE.out (by omega) (by unfold maxLen; omega) (by omega) (by simp; omega) (w6.heap.size + 1) (by simp) ?_; intro g9 cap9 w9 o9 gr9 l9 z9; have HQ9 := Lib.hid (HQB.out.grown gr9 (fun e => hQ0.out e.symm)); have c90 := HQ9.out.cell 0; have f90 := HQ9.out.frozen 0; have HO9 := Lib.hid o9; have HG9 := Lib.hid gr9; have HL9 := Lib.hid l9; clear o9 gr9 l9)
      go_ret
      have hg9q : g9 ≠ q := by
        intro e
        have := (own_snoc HN.out HO9.out).ne_blk (g := q) (t := 100) HQ9.out (by decide)
        exact this (by rw [← e]; rfl)
      have hset := Only.setCell (F := fun i => i = q) (Only.refl _ w9) (p := ⟨q, 0, none⟩) (.inl rfl) (.slice (some ⟨g9, 0, none⟩) (N + 1) cap9)
      have hown : OwnCls (w9.setCell ⟨q, 0, none⟩ (.slice (some ⟨g9, 0, none⟩) (N + 1) cap9)) base (.slice (some ⟨g9, 0, none⟩) (N + 1) cap9) (L ++ [c]) :=
        hset.owns (own_snoc HN.out HO9.out) fun g hg e => by
          injection hg with hg
          exact hg9q (hg.trans e)
      refine ⟨rfl, _, ⟨HQ9.out.set_ 0 _, hown, HPD.out, by rw [List.length_append]; exact Nat.succ_le_succ HLN.out⟩, ?_, ?_⟩
      · rcases HL9.out with h9 | h9
        · exact .inl h9.symm
        · exact .inr ⟨g9, rfl, by omega⟩
      · exact ((((Only.of_below B6.out _).alloc _).trans ((Only.of_grown HG9.out).mono fun i hi => .inr hi) fun i hi => .inl hi).trans (hset.mono fun i hi => .inl hi) fun i hi => .inl hi)
  · have hd : putS L c = if sameC old c then (setC L (mrgC old c), 0) else (L, 9) := by
      unfold putS
      rw [if_neg (by rw [HP.out]; simp), h1]
    have hid := (getC_mem h1).2
    have hset := set_at HPG.out.uq h2 (mrgC old c) rfl
    have hkN : k < N := by rw [← HN.out]; exact (List.getElem?_eq_some_iff.1 h2).1
    rw [h3]
    have HDD := Lib.hid (HD.out.symm.trans hd)
    have HOLD := Lib.hid h2
    have HSET := Lib.hid hset
    obtain ⟨g, cq, hv, -⟩ := own_some H3.out.own (by rw [HN.out]; omega)
    injection hv with hv q1 q2
    subst hv
    clear hd h1 h2 h3 hset q1 q2 HD
    go_upto_region 5 with fail
    refine wp_region_stages [.free [0, 1, 2, 4], .hold (fun W => RP W base q (.slice (some ⟨g, 0, none⟩) N cap) n L ∧ Blk W w.heap.size 56 CX) [3, 5, 6, 7] [], .run [8, 9]] (by kernel_rfl) (by kernel_rfl) (fun _ d _ _ _ h => by cases d <;> exact h) ?_
    simp only [wpStg, wpRun, wpEarly, pick, List.drop_succ_cons, List.drop_zero, List.head?_cons, Option.toList_some, List.cons_append, List.nil_append, List.append_nil]
    iterate 4 ((first | (refine wpHeld_step ?_ rfl ?_ ?_; rotate_left; · (intro W hW; go_simp; with_reducible rfl)) | (refine wpHeld_want ?_ (by kernel_rfl) ?_ ?_; rotate_left; · (intro W hW; go_simp; with_reducible rfl))); simp only [Act.put, List.setIfInBounds_toArray, List.set_cons_succ, List.set_cons_zero])
    refine wpHeld_nil ?_
    refine ⟨⟨H3.out.drew, K3.out.drew⟩, ?_⟩
    iterate 2 ((refine wpHeld_step ?_ rfl ?_ ?_; rotate_left; · (intro W hW; have g0 : W.cell? ⟨q, 0, none⟩ = some (.slice (some ⟨g, 0, none⟩) N cap) := hW.1.blk.cell 0; go_simp; with_reducible rfl)); simp only [Act.put, List.setIfInBounds_toArray, List.set_cons_succ, List.set_cons_zero])
    refine wpHeld_step (.agg (clA old)) rfl ?_ ?_
    · intro W hW; refine exec_load_row (x := .tmp 27) ?_ ?_ hW.1.own HN.out HOLD.out <;> rfl
    refine wpHeld_step (.agg CX) rfl ?_ ?_
    · intro W hW; rw [← HCX.out]; refine exec_load_cl (x := .tmp 3) ?_ ?_ (by rw [HCX.out]; exact hW.2) <;> rfl
    simp only [Act.put, List.setIfInBounds_toArray, List.set_cons_succ, List.set_cons_zero]
    refine wpHeld_nil ?_
    have H4 := Lib.hid H3.out.drew
    have B4 := Lib.hid (below_drew1 B3.out)
    have K4 := Lib.hid K3.out.drew
    have CT := Lib.hid (rContent_any w3.drew old c)
    rw [HCX.out] at CT
    clear H3 B3 K3
    obtain ⟨CO, hCO⟩ : ∃ x, clA old = x := ⟨_, rfl⟩
    rw [hCO] at CT ⊢
    clear hCO
    generalize w3.drew = w4 at *
    go_wp2_with fail
    refine CT.out.mono ?_
    rintro e w5 ⟨rfl, b5⟩
    have H5 := Lib.hid (H4.out.below b5)
    have K5 := Lib.hid (K4.out.below b5 K4.out.lt)
    have B5 := Lib.hid (B4.out.trans (b5.mono B4.out.size))
    clear H4 B4 K4 CT b5
    cases hs : sameC old c with
    | false =>
      obtain rfl : D = (L, 9) := by rw [HDD.out, hs]; rfl
      clear hs HDD
      go_wp2
      go_ret
      exact ⟨rfl, STAY.out _ B5.out H5.out⟩
    | true =>
      obtain rfl : D = (setC L (mrgC old c), 0) := by rw [HDD.out, if_pos hs]
      clear hs HDD
      have rw5 := own_row H5.out.own HN.out
      obtain ⟨G, hG⟩ : ∃ x, (old.gone || c.gone) = x := ⟨_, rfl⟩
      have st := (rw5.stored (k * 20 + 19) (.bool G)).1
      have hmg : mrgC old c = setG old G := by rw [← hG]; rfl
      rw [cls_setG HOLD.out, ← hmg, ← HSET.out] at st
      have hne := H5.out.ne
      have HPG' := Lib.hid (show Pg (setC L (mrgC old c)) from HPG.out.set (c := mrgC old c) (old := old) (by
        obtain ⟨_, q9⟩ := find_cases HPG.out.uq (mrgC old c).id |>.resolve_left (fun hh => by
          have := getC_none.1 hh.1 old (List.mem_of_getElem? HOLD.out)
          exact this rfl)
        obtain ⟨c9, q1, q2, _⟩ := q9
        have : c9 = old := uq_one HPG.out.uq (getC_mem q1).1 (List.mem_of_getElem? HOLD.out) ((getC_mem q1).2.trans rfl)
        rw [this] at q1
        exact q1) rfl (fun hh => by show (old.gone || c.gone) = true; rw [hh]; rfl))
      have HR := Lib.hid (show RP ((w5.drew).setCell ⟨g, k * 20 + 19, none⟩ (.bool G)) base q (.slice (some ⟨g, 0, none⟩) N cap) (n + 1) (setC L (mrgC old c)) from
        ⟨H5.out.blk.drew.far (p := ⟨g, k * 20 + 19, none⟩) (fun e => hne (by rw [e]; rfl)) _, by
          unfold OwnCls
          have hl : (setC L (mrgC old c)).length = N := by unfold setC; rw [List.length_map, HN.out]
          rw [hl]
          exact st, HPG'.out, by unfold setC; rw [List.length_map]; exact Nat.le_succ_of_le HLN.out⟩)
      have HO := Lib.hid (show Only (fun i => i = q ∨ (Value.slice (some ⟨g, 0, none⟩) N cap).ownBlock = some i) w ((w5.drew).setCell ⟨g, k * 20 + 19, none⟩ (.bool G)) from
        Only.setCell (F := fun i => i = q ∨ (Value.slice (some ⟨g, 0, none⟩) N cap).ownBlock = some i) (Only.of_below (below_drew1 B5.out) _) (p := ⟨g, k * 20 + 19, none⟩) (.inl (.inr rfl)) _)
      clear st hmg hne HPG' B5
      cases hgo : old.gone with
      | true =>
        have HGO := Lib.hid hgo
        rw [hgo] at hG
        have HG := Lib.hid hG
        clear hgo hG
        have c19 := (own_cell rw5 HN.out HOLD.out (j := 19) rfl)
        have c19' : w5.drew.cell? ⟨g, k * 20 + 19, none⟩ = some (.bool old.gone) := c19.1
        have f19' : w5.drew.frozen? ⟨g, k * 20 + 19, none⟩ = false := c19.2
        clear c19
        go_upto_region 7 with fail
        refine wp_region_stages [.free [0, 1, 2, 4, 5, 6, 7, 9], .hold (fun W => RP W base q (.slice (some ⟨g, 0, none⟩) N cap) n L ∧ Blk W w.heap.size 56 CX) [3, 8, 10, 11, 12, 13, 14, 15, 16, 17, 18] [], .run [19]] (by kernel_rfl) (by kernel_rfl) (fun _ d _ _ _ h => by cases d <;> exact h) ?_
        simp only [wpStg, wpRun, wpEarly, pick, List.drop_succ_cons, List.drop_zero, List.head?_cons, Option.toList_some, List.cons_append, List.nil_append, List.append_nil]
        iterate 8 ((first | (refine wpHeld_step ?_ rfl ?_ ?_; rotate_left; · (intro W hW; go_simp; with_reducible rfl)) | (refine wpHeld_want ?_ (by kernel_rfl) ?_ ?_; rotate_left; · (intro W hW; go_simp; with_reducible rfl))); simp only [Act.put, List.setIfInBounds_toArray, List.set_cons_succ, List.set_cons_zero])
        refine wpHeld_nil ?_
        refine ⟨⟨H5.out.drew, K5.out.drew⟩, ?_⟩
        iterate 6 ((refine wpHeld_step ?_ rfl ?_ ?_; rotate_left; · (intro W hW; have g0 : W.cell? ⟨q, 0, none⟩ = some (.slice (some ⟨g, 0, none⟩) N cap) := hW.1.blk.cell 0; have g1 := (own_cell (own_row hW.1.own HN.out) HN.out HOLD.out (j := 19) rfl).1; rw [HGO.out] at g1; go_simp; with_reducible rfl)); simp only [Act.put, List.setIfInBounds_toArray, List.set_cons_succ, List.set_cons_zero])
        iterate 2 (refine wpHeld_skip (by kernel_rfl) ?_; simp only [Act.put, List.setIfInBounds_toArray, List.set_cons_succ, List.set_cons_zero])
        iterate 3 ((first | (refine wpHeld_step ?_ rfl ?_ ?_; rotate_left; · (intro W hW; go_simp; with_reducible rfl)) | (refine wpHeld_want ?_ (by kernel_rfl) ?_ ?_; rotate_left; · (intro W hW; go_simp; with_reducible rfl))); simp only [Act.put, List.setIfInBounds_toArray, List.set_cons_succ, List.set_cons_zero])
        refine wpHeld_nil ?_
        have hG2 : G = true := by rw [← HG.out]; rfl
        subst hG2
        clear HG H5 K5 rw5
        go_wp2
        go_ret
        exact ⟨rfl, _, HR.out, .inl rfl, HO.out⟩
      | false =>
        have HGO := Lib.hid hgo
        rw [hgo] at hG
        have HG := Lib.hid hG
        clear hgo hG
        have c19 := (own_cell rw5 HN.out HOLD.out (j := 19) rfl)
        have c19' : w5.drew.cell? ⟨g, k * 20 + 19, none⟩ = some (.bool old.gone) := c19.1
        have f19' : w5.drew.frozen? ⟨g, k * 20 + 19, none⟩ = false := c19.2
        clear c19
        go_upto_region 7 with fail
        refine wp_region_stages [.free [0, 1, 2, 4, 5, 6, 7, 9], .hold (fun W => RP W base q (.slice (some ⟨g, 0, none⟩) N cap) n L ∧ Blk W w.heap.size 56 CX) [3, 8, 10, 11, 12, 13, 14, 15, 16, 17, 18] [], .run [19]] (by kernel_rfl) (by kernel_rfl) (fun _ d _ _ _ h => by cases d <;> exact h) ?_
        simp only [wpStg, wpRun, wpEarly, pick, List.drop_succ_cons, List.drop_zero, List.head?_cons, Option.toList_some, List.cons_append, List.nil_append, List.append_nil]
        iterate 8 ((first | (refine wpHeld_step ?_ rfl ?_ ?_; rotate_left; · (intro W hW; go_simp; with_reducible rfl)) | (refine wpHeld_want ?_ (by kernel_rfl) ?_ ?_; rotate_left; · (intro W hW; go_simp; with_reducible rfl))); simp only [Act.put, List.setIfInBounds_toArray, List.set_cons_succ, List.set_cons_zero])
        refine wpHeld_nil ?_
        refine ⟨⟨H5.out.drew, K5.out.drew⟩, ?_⟩
        iterate 6 ((refine wpHeld_step ?_ rfl ?_ ?_; rotate_left; · (intro W hW; have g0 : W.cell? ⟨q, 0, none⟩ = some (.slice (some ⟨g, 0, none⟩) N cap) := hW.1.blk.cell 0; have g1 := (own_cell (own_row hW.1.own HN.out) HN.out HOLD.out (j := 19) rfl).1; rw [HGO.out] at g1; go_simp; with_reducible rfl)); simp only [Act.put, List.setIfInBounds_toArray, List.set_cons_succ, List.set_cons_zero])
        iterate 2 ((refine wpHeld_want ?_ (by kernel_rfl) ?_ ?_; rotate_left; · (intro W hW; have g2 : W.cell? ⟨w.heap.size, 19, none⟩ = some (.bool c.gone) := (hW.2.cell 19).trans (by rw [← HCX.out]; rfl); go_simp; with_reducible rfl)); simp only [Act.put, List.setIfInBounds_toArray, List.set_cons_succ, List.set_cons_zero])
        iterate 3 ((first | (refine wpHeld_step ?_ rfl ?_ ?_; rotate_left; · (intro W hW; go_simp; with_reducible rfl)) | (refine wpHeld_want ?_ (by kernel_rfl) ?_ ?_; rotate_left; · (intro W hW; go_simp; with_reducible rfl))); simp only [Act.put, List.setIfInBounds_toArray, List.set_cons_succ, List.set_cons_zero])
        refine wpHeld_nil ?_
        have hG2 : G = c.gone := by rw [← HG.out]; rfl
        subst hG2
        clear HG H5 K5 rw5
        go_wp2
        go_ret
        exact ⟨rfl, _, HR.out, .inl rfl, HO.out⟩
end Go.Proofs.Ytaicbllfkehhjaa
