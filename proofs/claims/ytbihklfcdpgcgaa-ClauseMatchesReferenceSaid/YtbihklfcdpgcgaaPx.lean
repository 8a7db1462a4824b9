/- A region that draws its order, walked in stages: reads whose values hang on no world; reads that hold as long as S does, with calls that keep S behind them; operations that come up one at a time. Over any program. -/
import Derived.Test.YtbihklfcdpgcgaaBu
namespace Go.Proofs.Ytbihklfcdpgcgaa
open Go.RowKit

inductive Stg where
  /-- reads whose values hang on no world -/
  | free (hs : List Nat)
  /-- reads that hold as long as S does; then operations, one at a time, behind each of which S holds; all others wait for all the reads -/
  | hold (S : World → Prop) (hs es : List Nat)
  /-- one at a time -/
  | run (ts : List Nat)

section
variable {P : Program} {Q : Exit → Act → World → Prop}

def onesB (ops : Array Oper) : List Nat → Array Bool → Option (Array Bool)
  | [], listed => some listed
  | t :: ts, listed => if Region.ready .any ops listed = [t] then onesB ops ts (listed.setIfInBounds t true) else none
def leftOver (n : Nat) (listed : Array Bool) (hs es : List Nat) : List Nat := (List.range n).filter fun j => !listed.getD j false && !hs.contains j && !es.contains j
def stgB (l : List Oper) : List Stg → Array Bool → Bool
  | [], listed => (Region.ready .any l.toArray listed).isEmpty
  | .free hs :: r, listed => match headB .any l.toArray hs listed with
    | none => false
    | some l2 => stgB l r l2
  | .hold _ hs es :: r, listed => match headB .any l.toArray hs listed with
    | none => false
    | some l2 => waitB .any l.toArray (leftOver l.length listed hs es) hs && match onesB l.toArray es l2 with
      | none => false
      | some l3 => stgB l r l3
  | .run ts :: r, listed => match onesB l.toArray ts listed with
    | none => false
    | some l2 => stgB l r l2
def cnt : List Stg → Nat
  | [] => 0
  | .free hs :: r => hs.length + cnt r
  | .hold _ hs es :: r => hs.length + (es.length + cnt r)
  | .run ts :: r => ts.length + cnt r
def wpRun (P : Program) (l : List Oper) (Q : Exit → Act → World → Prop) (K : Act → World → Prop) (ts : List Nat) (a : Act) (w : World) : Prop := wpList P l.toArray (Exit.then K Q) (pick l ts) a w
def wpStg (P : Program) (l : List Oper) (Q : Exit → Act → World → Prop) : List Stg → Act → World → Prop
  | [], a, w => Q .normal a w
  | .free hs :: r, a, w => wpHeld P l.toArray (fun _ => True) (fun a' => wpStg P l Q r a' w) (pick l hs) a
  | .hold S hs es :: r, a, w => S w ∧ wpHeld P l.toArray S (fun a' => wpEarly P l.toArray S Q (fun a w => wpStg P l Q r a w) (pick l es) a' w) (pick l hs) a
  | .run ts :: r, a, w => wpRun P l Q (fun a' w' => wpStg P l Q r a' w') ts a w

theorem wpOp_of_cons {ops : Array Oper} {w : World} {i : Nat} {o : Oper} {rest : List Oper} {K : Act → World → Prop} {a : Act} (hi : ops[i]? = some o) (h : wpList P ops (Exit.then K Q) (o :: rest) a w) : wpOp P ops Q i (fun a' w' => wpList P ops (Exit.then K Q) rest a' w') a w := by
  unfold wpOp
  simp only [hi]
  unfold wpList at h
  split
  · rename_i hw
    rw [if_pos hw] at h
    rcases h with h | ⟨h1, a0, w0, h2⟩
    · left
      unfold Oper.wp at *
      generalize (execOp a.eval o).run P w = r at *
      cases r with
      | ok n w' =>
        cases n <;> simp only [Oper.upon] at h ⊢ <;>
          first
            | exact h
            | exact Calls.mono h (fun e w'' he => by cases e <;> first | exact he | (obtain ⟨a1, w1, h1⟩ := he; exact ⟨a1, w1, h1⟩))
            | exact Rows.mono h (fun _ _ he => he)
      | halt x w' => cases x <;> simp only [Oper.upon] at h ⊢ <;> exact h
    · exact .inr ⟨h1, a0, w0, h2⟩
  · rename_i hw
    rw [if_neg hw] at h
    exact h

theorem onesB_closed {l : List Oper} : ∀ (ts : List Nat) (listed l2 : Array Bool), Closed .any l.toArray listed → onesB l.toArray ts listed = some l2 → Closed .any l.toArray l2
  | [], _, _, hc, h => by simp only [onesB, Option.some.injEq] at h; subst h; exact hc
  | t :: ts, listed, l2, hc, h => by
    unfold onesB at h
    split at h
    · rename_i hr
      exact onesB_closed ts _ _ (hc.set (by rw [hr]; simp)) h
    · cases h
theorem wpAny_ones {l : List Oper} {K : Act → World → Prop} {g : Nat} {l2 : Array Bool} (hK : ∀ a w, K a w → wpAny P .any l.toArray Q g l2 a w) : ∀ (ts : List Nat) (listed : Array Bool) (a : Act) (w : World), onesB l.toArray ts listed = some l2 →
    wpList P l.toArray (Exit.then K Q) (pick l ts) a w → wpAny P .any l.toArray Q (ts.length + g) listed a w
  | [], listed, a, w, h, hw => by
    simp only [onesB, Option.some.injEq] at h
    subst h
    rw [List.length_nil, Nat.zero_add]
    exact hK a w hw
  | t :: ts, listed, a, w, h, hw => by
    unfold onesB at h
    split at h
    · rename_i hr
      have hr' : t ∈ Region.ready .any l.toArray listed := by rw [hr]; simp
      obtain ⟨_, o, h0, _⟩ := mem_ready.1 hr'
      have hp : pick l (t :: ts) = o :: pick l ts := by
        have : l[t]? = some o := by simpa using h0
        simp [pick, this]
      rw [hp] at hw
      rw [show (t :: ts).length + g = (ts.length + g) + 1 by simp; omega]
      refine ⟨fun h1 => (by rw [hr] at h1; cases h1), fun i hi => ?_⟩
      rw [hr] at hi
      obtain rfl : i = t := by simpa using hi
      exact wpOp_mono (fun a' w' h' => wpAny_ones hK ts _ a' w' h h') (wpOp_of_cons h0 hw)
    · cases h
theorem wpAnyE_ones {l : List Oper} {S : World → Prop} {late : Nat → Bool} {K : Act → World → Prop} {g : Nat} {l2 : Array Bool} (hK : ∀ a w, K a w → wpAnyE P .any l.toArray Q S late g l2 a w) : ∀ (es : List Nat) (listed : Array Bool) (a : Act) (w : World), onesB l.toArray es listed = some l2 →
    wpEarly P l.toArray S Q K (pick l es) a w → wpAnyE P .any l.toArray Q S late (es.length + g) listed a w
  | [], listed, a, w, h, hw => by
    simp only [onesB, Option.some.injEq] at h
    subst h
    rw [List.length_nil, Nat.zero_add]
    exact hK a w hw
  | t :: ts, listed, a, w, h, hw => by
    unfold onesB at h
    split at h
    · rename_i hr
      have hr' : t ∈ Region.ready .any l.toArray listed := by rw [hr]; simp
      obtain ⟨_, o, h0, _⟩ := mem_ready.1 hr'
      have hp : pick l (t :: ts) = o :: pick l ts := by
        have : l[t]? = some o := by simpa using h0
        simp [pick, this]
      rw [hp] at hw
      rw [show (t :: ts).length + g = (ts.length + g) + 1 by simp; omega]
      refine ⟨fun h1 => (by rw [hr] at h1; cases h1), fun i hi => ?_⟩
      rw [hr] at hi
      obtain rfl : i = t := by simpa using hi
      exact wpOp_mono (fun a' w' h' => ⟨fun _ => h'.1, wpAnyE_ones hK ts _ a' w' h h'.2⟩) (wpOp_of_one h0 hw)
    · cases h
theorem onesB_set {ops : Array Oper} : ∀ (ts : List Nat) (listed l2 : Array Bool), onesB ops ts listed = some l2 → setAll ts listed = l2
  | [], _, _, h => by simp only [onesB, Option.some.injEq] at h; exact h
  | t :: ts, listed, l2, h => by
    unfold onesB at h
    split at h
    · exact onesB_set ts _ _ h
    · cases h
theorem setAll_of {j : Nat} : ∀ (ts : List Nat) (listed : Array Bool), j < listed.size → (setAll ts listed).getD j false = false → listed.getD j false = false ∧ j ∉ ts
  | [], _, _, h => ⟨h, by simp⟩
  | t :: ts, listed, hj, h => by
    have h' : (setAll ts (listed.setIfInBounds t true)).getD j false = false := h
    obtain ⟨h1, h2⟩ := setAll_of ts (listed.setIfInBounds t true) (by simpa using hj) h'
    by_cases htj : t = j
    · subst htj
      simp [Array.getD, hj] at h1
    · rw [getD_set_ne false htj] at h1
      exact ⟨h1, by simp [h2, Ne.symm htj]⟩
theorem size_setAll : ∀ (ts : List Nat) (listed : Array Bool), (setAll ts listed).size = listed.size
  | [], _ => rfl
  | t :: ts, listed => by
    show (setAll ts (listed.setIfInBounds t true)).size = _
    rw [size_setAll ts, Array.size_setIfInBounds]
theorem wpAny_stg {l : List Oper} (hsel : Region.noSelect l.toArray = true) (hQ : ∀ c (d : Option Tmp) (v : Value) a w, Q (.panic c) (a.put d v) w → Q (.panic c) a w) :
    ∀ (st : List Stg) (listed : Array Bool) (a : Act) (w : World), stgB l st listed = true → Closed .any l.toArray listed → listed.size = l.length → wpStg P l Q st a w → wpAny P .any l.toArray Q (cnt st) listed a w
  | [], listed, a, w, hB, _, _, h => ⟨by simpa [stgB] using hB, h⟩
  | .free hs :: r, listed, a, w, hB, hc, hz, h => by
    unfold stgB at hB
    cases h2 : headB .any l.toArray hs listed with
    | none => rw [h2] at hB; cases hB
    | some l2 =>
      rw [h2] at hB
      have hz2 : l2.size = l.length := by rw [← headB_set _ _ _ h2, size_setAll]; exact hz
      exact wpAny_of_E _ _ _ _ (wpAnyE_held (P := P) (Q := Q) (md := .any) (w := w) (S := fun _ => True) (late := fun _ => false) (hs := hs) (g := cnt r) hsel hQ (fun _ _ _ h => by cases h) (fun _ _ => rfl) trivial
        (fun a' ha' => wpAnyE_any (fun _ => trivial) _ _ _ _ (wpAny_stg hsel hQ r l2 a' w hB (headB_closed _ _ _ hc h2) hz2 ha')) hs listed a (fun k hk => hk) hc h2 h)
  | .hold S hs es :: r, listed, a, w, hB, hc, hz, h => by
    unfold stgB at hB
    cases h2 : headB .any l.toArray hs listed with
    | none => rw [h2] at hB; cases hB
    | some l2 =>
      rw [h2] at hB
      simp only [Bool.and_eq_true] at hB
      obtain ⟨hw, hB⟩ := hB
      cases h3 : onesB l.toArray es l2 with
      | none => rw [h3] at hB; cases hB
      | some l3 =>
        rw [h3] at hB
        simp only at hB
        have hc2 := headB_closed _ _ _ hc h2
        have hs2 := headB_set _ _ _ h2
        have hs3 := onesB_set _ _ _ h3
        have hz2 : l2.size = l.length := by rw [← hs2, size_setAll]; exact hz
        have hz3 : l3.size = l.length := by rw [← hs3, size_setAll]; exact hz2
        refine wpAny_of_E _ _ _ _ (wpAnyE_held (P := P) (Q := Q) (md := .any) (w := w) (S := S) (late := fun j => (leftOver l.length listed hs es).contains j) (hs := hs) (g := es.length + cnt r) hsel hQ
          (fun j i hi hj => List.all_eq_true.1 (List.all_eq_true.1 hw j (List.contains_iff_mem.1 hj)) i hi) (fun i hi => ?_) h.1
          (fun a' ha' => wpAnyE_ones (fun a2 w2 h2 => wpAnyE_late _ _ _ _ (fun j hj hjl => ?_) (wpAny_stg hsel hQ r l3 a2 w2 hB (onesB_closed _ _ _ hc2 h3) hz3 h2)) es l2 a' w h3 ha') hs listed a (fun k hk => hk) hc h2 h.2)
        · cases hq : (leftOver l.length listed hs es).contains i with
          | false => rfl
          | true =>
            have := List.mem_filter.1 (List.contains_iff_mem.1 hq)
            simp [hi] at this
        · have hjl2 : j < l.length := by simpa using hj
          rw [← hs3] at hjl
          obtain ⟨g1, g2⟩ := setAll_of es l2 (by omega) hjl
          rw [← hs2] at g1
          obtain ⟨g3, g4⟩ := setAll_of hs listed (by omega) g1
          refine List.contains_iff_mem.2 (List.mem_filter.2 ⟨List.mem_range.2 hjl2, ?_⟩)
          simp [g2, g4]
          simpa using g3
  | .run ts :: r, listed, a, w, hB, hc, hz, h => by
    unfold stgB at hB
    cases h2 : onesB l.toArray ts listed with
    | none => rw [h2] at hB; cases hB
    | some l2 =>
      rw [h2] at hB
      have hz2 : l2.size = l.length := by rw [← onesB_set _ _ _ h2, size_setAll]; exact hz
      exact wpAny_ones (fun a' w' h' => wpAny_stg hsel hQ r l2 a' w' hB (onesB_closed _ _ _ hc h2) hz2 h') ts listed a w h2 h

/-- A REGION THAT DRAWS ITS ORDER, IN STAGES. -/
theorem wp_region_stages {id : Nat} {l : List Oper} {a : Act} {w : World} (st : List Stg) (hm : P.follows .mixedOrders = true) (hB : (Region.noSelect l.toArray && decide (cnt st = l.length) && stgB l st (Array.replicate l.length false)) = true)
    (hQ : ∀ c (d : Option Tmp) (v : Value) a w, Q (.panic c) (a.put d v) w → Q (.panic c) a w) (h : wpStg P l Q st a w.drew) : (Code.region id l.toArray true).wp P Q a w := by
  simp only [Bool.and_eq_true, decide_eq_true_eq] at hB
  obtain ⟨⟨hsel, hlen⟩, hst⟩ := hB
  have hc0 : Closed .any l.toArray (Array.replicate l.length false) := fun j oj _ hl => by rw [getD_replicate_false] at hl; cases hl
  refine wp_region_any hm ?_
  have k := wpAny_stg (P := P) (Q := Q) hsel hQ st _ a w.drew hst hc0 (by simp) h
  rw [hlen] at k
  have hsz : l.toArray.size = l.length := by simp
  rw [hsz]
  exact k
theorem wpHeld_want {ops : Array Oper} {S : World → Prop} {K : Act → Prop} {a : Act} {o : Oper} {rest : List Oper} (v : Value) (hw : Region.wanted o (yielded ops a.tmps) = true) (h : ∀ w, S w → (execOp a.eval o).run P w = .ok (.value v) w) (hK : wpHeld P ops S K rest (a.put o.dst v)) :
    wpHeld P ops S K (o :: rest) a := ⟨v, .inl ⟨hw, h⟩, hK⟩
theorem wpHeld_skip {ops : Array Oper} {S : World → Prop} {K : Act → Prop} {a : Act} {o : Oper} {rest : List Oper} (hw : Region.wanted o (yielded ops a.tmps) = false) (hK : wpHeld P ops S K rest (a.put o.dst undef)) :
    wpHeld P ops S K (o :: rest) a := ⟨undef, .inr ⟨hw, rfl⟩, hK⟩
end
end Go.Proofs.Ytbihklfcdpgcgaa
