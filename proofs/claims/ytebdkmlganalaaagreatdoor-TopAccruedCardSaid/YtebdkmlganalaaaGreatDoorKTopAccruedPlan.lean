/- A region that draws its order, walked by a plan: some moves first, then operations that only read, in the order of the text, then operations that come up one at a time. Over any program. -/
import Derived.Test.YtebdkmlganalaaaGreatDoorKTopAccruedGAA
import Derived.StillTailTactics
import Derived.Deep.QuietTactic
import Derived.BigQuiet
import Derived.OrdersHeld
namespace Go.Proofs.YtebdkmlganalaaaGreatDoor
open Go.RowKit

section
variable {P : Program} {ops : Array Oper} {md : Region.Mode} {Q : Exit → Act → World → Prop} {w : World}

/-- Operation t waits for operation g, through others if need be. -/
def reachB (md : Region.Mode) (ops : Array Oper) : Nat → Nat → Nat → Bool
  | 0, _, _ => false
  | f + 1, t, g => match ops[t]? with
    | some o => o.after.any fun e => Region.binds md e && (e.on == g || reachB md ops f e.on g)
    | none => false

def Closed (md : Region.Mode) (ops : Array Oper) (listed : Array Bool) : Prop :=
  ∀ j oj, ops[j]? = some oj → listed.getD j false = true → ∀ e ∈ oj.after, Region.binds md e = true → listed.getD e.on false = true

theorem reach_not {listed : Array Bool} (hc : Closed md ops listed) {g : Nat} (hg : listed.getD g false = false) :
    ∀ (f t : Nat), reachB md ops f t g = true → listed.getD t false = false ∧ t ∉ Region.ready md ops listed := by
  intro f
  induction f with
  | zero => intro t h; cases h
  | succ f ih =>
    intro t h
    unfold reachB at h
    cases ho : ops[t]? with
    | none => rw [ho] at h; cases h
    | some o =>
      rw [ho] at h
      obtain ⟨e, he, hb⟩ := Array.any_eq_true'.1 h
      simp only [Bool.and_eq_true, Bool.or_eq_true, beq_iff_eq] at hb
      have hon : listed.getD e.on false = false := by
        rcases hb.2 with h1 | h1
        · rw [h1]; exact hg
        · exact (ih e.on h1).1
      refine ⟨?_, fun hr => ?_⟩
      · cases hl : listed.getD t false with
        | false => rfl
        | true => rw [hc t o ho hl e he hb.1] at hon; cases hon
      · obtain ⟨_, o', ho', hall⟩ := mem_ready.1 hr
        have : o' = o := Option.some.inj (ho'.symm.trans ho)
        subst this
        rw [hall e he hb.1] at hon
        cases hon

theorem Closed.set {i : Nat} {listed : Array Bool} (hc : Closed md ops listed) (hi : i ∈ Region.ready md ops listed) : Closed md ops (listed.setIfInBounds i true) := by
  obtain ⟨_, oi, hoi, hall⟩ := mem_ready.1 hi
  intro j oj hoj hl e he hb
  by_cases hij : i = j
  · subst hij
    have : oj = oi := Option.some.inj (hoj.symm.trans hoi)
    subst this
    exact getD_set_true (hall e he hb)
  · rw [getD_set_ne false hij] at hl
    exact getD_set_true (hc j oj hoj hl e he hb)

/-- Each operation is listed, or of G, or waits for all of G. -/
def AllWait (md : Region.Mode) (ops : Array Oper) (G : List Nat) (listed : Array Bool) : Prop :=
  ∀ t, t ∈ Region.ready md ops listed → t ∈ G ∨ ∀ g ∈ G, listed.getD g false = true

def wpAnyG (P : Program) (md : Region.Mode) (ops : Array Oper) (w : World) (L : Array Bool → Act → Prop) : Nat → Array Bool → Act → Prop
  | 0, listed, a => L listed a
  | f + 1, listed, a => Region.ready md ops listed ≠ [] ∧ ∀ i ∈ Region.ready md ops listed, stOp P ops w i (wpAnyG P md ops w L f (listed.setIfInBounds i true)) a

theorem wpAny_of_G {g : Nat} {L : Array Bool → Act → Prop} (hL : ∀ listed a, L listed a → wpAny P md ops Q g listed a w) :
    ∀ (f : Nat) (listed : Array Bool) (a : Act), wpAnyG P md ops w L f listed a → wpAny P md ops Q (f + g) listed a w
  | 0, listed, a, h => by rw [Nat.zero_add]; exact hL _ _ h
  | f + 1, listed, a, h => by
    rw [show f + 1 + g = (f + g) + 1 by omega]
    exact ⟨fun h0 => absurd h0 h.1, fun i hi => wpOp_of_stOp (fun a' h' => wpAny_of_G hL f _ a' h') (h.2 i hi)⟩

/-- What an operation outside the group must wait for. -/
def waitB (md : Region.Mode) (ops : Array Oper) (rest : List Nat) (hs : List Nat) : Bool := rest.all fun t => hs.all fun g => reachB md ops ops.size t g

theorem wpAnyG_first {i : Nat} {oi : Oper} {v : Value} {L : Array Bool → Act → Prop} {hs rest : List Nat} (hi : ops[i]? = some oi) (hsel : ∀ (j : Nat) (o : Oper) cs b, ops[j]? = some o → o.op ≠ .select cs b)
    (hin : i ∈ hs) (hw : waitB md ops rest hs = true)
    (hdone : ∀ listed a, L listed a → ∀ j ∈ Region.ready md ops listed, j ∈ rest) :
    ∀ (f : Nat) (listed : Array Bool) (a : Act), Closed md ops listed →
      (∀ j oj, ops[j]? = some oj → j ≠ i → listed.getD j true = false → (∀ e ∈ oj.after, Region.binds md e = true → e.on ≠ i) → oi.apart ops oj = true) →
      i ∈ Region.ready md ops listed → YieldsAt P ops w oi v a →
      wpAnyG P md ops w L f (listed.setIfInBounds i true) (a.put oi.dst v) → wpAnyG P md ops w L (f + 1) listed a := by
  intro f
  induction f with
  | zero =>
    intro listed a hc _ hr hy H
    have hun := (mem_ready.1 hr).1
    refine ⟨fun h => (by rw [h] at hr; cases hr), fun j hj => ?_⟩
    by_cases hji : j = i
    · subst hji; exact hy.stOp hi H
    · have h1 := hdone _ _ H j (ready_mono hj hji)
      have h2 : reachB md ops ops.size j i = true := List.all_eq_true.1 (List.all_eq_true.1 hw j h1) i hin
      exact absurd hj (reach_not hc (getD_both hun) _ _ h2).2
  | succ f ih =>
    intro listed a hc hfree hr hy H
    have hun := (mem_ready.1 hr).1
    refine ⟨fun h => (by rw [h] at hr; cases hr), fun j hj => ?_⟩
    by_cases hji : j = i
    · subst hji; exact hy.stOp hi H
    · have h1 := H.2 j (ready_mono hj hji)
      obtain ⟨hjun, oj, hoj, hall⟩ := mem_ready.1 hj
      have hnot : ∀ e ∈ oj.after, Region.binds md e = true → e.on ≠ i := fun e he hb heq => by
        have h1 := hall e he hb
        rw [heq, getD_both hun] at h1
        cases h1
      have h2 := stOp_put hoj (hfree j oj hoj hji hjun hnot) (fun cs b => hsel i oi cs b hi) (fun cs b => hsel j oj cs b hoj) hy h1
      have hfree' : ∀ k ok, ops[k]? = some ok → k ≠ i → (listed.setIfInBounds j true).getD k true = false →
          (∀ e ∈ ok.after, Region.binds md e = true → e.on ≠ i) → oi.apart ops ok = true := fun k ok hk hki hun hno => by
        refine hfree k ok hk hki ?_ hno
        by_cases hjk : j = k
        · subst hjk; exact hjun
        · rw [getD_set_ne true hjk] at hun; exact hun
      refine stOp_mono (fun a' h3 => ih (listed.setIfInBounds j true) a' (hc.set hj) hfree' (ready_mono hr (Ne.symm hji)) h3.1 ?_) h2
      rw [Array.setIfInBounds_comm _ _ hji]
      exact h3.2

/-- Some operations of a list. -/
def pick (l : List Oper) : List Nat → List Oper
  | [] => []
  | i :: is => (l.drop i).head?.toList ++ pick l is

def headB (md : Region.Mode) (ops : Array Oper) : List Nat → Array Bool → Option (Array Bool)
  | [], listed => some listed
  | k :: ks, listed => if (Region.ready md ops listed).contains k && Region.free md ops listed k then headB md ops ks (listed.setIfInBounds k true) else none

theorem drop_head (l : List Oper) (i : Nat) : (l.drop i).head? = l[i]? := by simp [List.head?_drop]

theorem wpAnyG_lex {l : List Oper} {Lq : Act → Prop} {hs rest : List Nat} {listed2 : Array Bool} (hsel : Region.noSelect l.toArray = true) (hw : waitB md l.toArray rest hs = true)
    (hend : ∀ j ∈ Region.ready md l.toArray listed2, j ∈ rest) :
    ∀ (ks : List Nat) (listed : Array Bool) (a : Act), (∀ k ∈ ks, k ∈ hs) → Closed md l.toArray listed → headB md l.toArray ks listed = some listed2 →
    wpStill P l.toArray w Lq (pick l ks) a → wpAnyG P md l.toArray w (fun listed' a' => listed' = listed2 ∧ Lq a') ks.length listed a
  | [], listed, a, _, _, hB, h => by
    simp only [headB, Option.some.injEq] at hB
    exact ⟨hB, h⟩
  | k :: ks, listed, a, hk, hc, hB, h => by
    unfold headB at hB
    split at hB
    · rename_i hrf
      simp only [Bool.and_eq_true] at hrf
      have hr' : k ∈ Region.ready md l.toArray listed := by simpa using hrf.1
      obtain ⟨_, o, h0, _⟩ := mem_ready.1 hr'
      have hp : pick l (k :: ks) = o :: pick l ks := by
        have : l[k]? = some o := by simpa using h0
        simp [pick, this]
      rw [hp] at h
      have hst : stOp P l.toArray w k (wpStill P l.toArray w Lq (pick l ks)) a := by unfold stOp; simp only [h0]; exact h
      obtain ⟨v, hy, hK⟩ := yieldsAt_of_stOp h0 hst
      exact wpAnyG_first (hs := hs) (rest := rest) h0 (Region.noSelect_spec hsel) (hk k (by simp)) hw (fun listed' a' hL => by rw [hL.1]; exact hend) ks.length listed a hc (Region.free_spec h0 hrf.2) hr' hy
        (wpAnyG_lex hsel hw hend ks _ _ (fun k' h' => hk k' (by simp [h'])) (hc.set hr') hB hK)
    · cases hB

def isMove : Option Oper → Bool
  | some ⟨_, .move _, _, _, _, none⟩ => true
  | _ => false
theorem isMove_spec {o : Oper} (h : isMove (some o) = true) : ∃ x, o.op = .move x ∧ o.guard = none := by
  obtain ⟨d, op, ty, pos, after, guard⟩ := o
  unfold isMove at h
  split at h
  · rename_i heq
    injection heq with heq
    injection heq with _ h1 _ _ _ h2
    exact ⟨_, h1, h2⟩
  · cases h
/-- The moves that are done first. -/
def preB (md : Region.Mode) (l : List Oper) : List Nat → Array Bool → Option (Array Bool)
  | [], listed => some listed
  | k :: ks, listed => if (Region.ready md l.toArray listed).contains k && Region.free md l.toArray listed k && isMove l[k]? then preB md l ks (listed.setIfInBounds k true) else none
def putMoves (l : List Oper) : List Nat → Act → Act
  | [], a => a
  | k :: ks, a => match (l.drop k).head? with
    | some ⟨d, .move x, _, _, _, _⟩ => putMoves l ks (a.put d (a.eval x))
    | _ => putMoves l ks a

theorem wpAny_pre {l : List Oper} (hsel : Region.noSelect l.toArray = true) (hQ : ∀ c (d : Option Tmp) (v : Value) a w, Q (.panic c) (a.put d v) w → Q (.panic c) a w) {listed1 : Array Bool} {g : Nat} :
    ∀ (ks : List Nat) (listed : Array Bool) (a : Act), preB md l ks listed = some listed1 → wpAny P md l.toArray Q g listed1 (putMoves l ks a) w → wpAny P md l.toArray Q (ks.length + g) listed a w
  | [], listed, a, hB, h => by
    simp only [preB, Option.some.injEq] at hB
    subst hB
    simpa [putMoves] using h
  | k :: ks, listed, a, hB, h => by
    unfold preB at hB
    split at hB
    · rename_i hrf
      simp only [Bool.and_eq_true] at hrf
      obtain ⟨⟨hr, hf⟩, hm⟩ := hrf
      have hr' : k ∈ Region.ready md l.toArray listed := by simpa using hr
      obtain ⟨_, o, h0, _⟩ := mem_ready.1 hr'
      have h0' : l[k]? = some o := by simpa using h0
      rw [h0'] at hm
      obtain ⟨x, hop, hgd⟩ := isMove_spec hm
      rw [show (k :: ks).length + g = (ks.length + g) + 1 by simp; omega]
      refine wpAny_take h0 hsel hf hr (fun c a w => hQ c _ _ a w) (v := a.eval x) (.inl ⟨by simp [Region.wanted, hgd], fun w' => by unfold execOp; rw [hop]; rfl⟩) ?_
      refine wpAny_pre hsel hQ ks _ _ hB ?_
      have : putMoves l (k :: ks) a = putMoves l ks (a.put o.dst (a.eval x)) := by
        obtain ⟨d, op, ty, pos, after, guard⟩ := o
        simp only at hop
        subst hop
        simp [putMoves, h0']
      rw [this] at h
      exact h
    · cases hB

/-- What comes up one at a time. -/
def tailB (md : Region.Mode) (ops : Array Oper) : List Nat → Array Bool → Bool
  | [], listed => (Region.ready md ops listed).isEmpty
  | t :: ts, listed => decide (Region.ready md ops listed = [t]) && tailB md ops ts (listed.setIfInBounds t true)

theorem wpAny_tail {l : List Oper} : ∀ (ts : List Nat) (listed : Array Bool) (a : Act) (w : World), tailB md l.toArray ts listed = true → wpList P l.toArray Q (pick l ts) a w →
    wpAny P md l.toArray Q ts.length listed a w
  | [], _, _, _, hB, h => ⟨by simpa [tailB] using hB, h⟩
  | t :: ts, listed, a, w, hB, h => by
    simp only [tailB, Bool.and_eq_true, decide_eq_true_eq] at hB
    have hr' : t ∈ Region.ready md l.toArray listed := by rw [hB.1]; simp
    obtain ⟨_, o, h0, _⟩ := mem_ready.1 hr'
    have hp : pick l (t :: ts) = o :: pick l ts := by
      have : l[t]? = some o := by simpa using h0
      simp [pick, this]
    rw [hp] at h
    refine ⟨fun h1 => (by rw [hB.1] at h1; cases h1), fun i hi => ?_⟩
    rw [hB.1] at hi
    obtain rfl : i = t := by simpa using hi
    have hw : wpOp P l.toArray Q i (wpList P l.toArray Q (pick l ts)) a w := by unfold wpOp; simp only [h0]; exact h
    exact wpOp_mono (fun a' w' h' => wpAny_tail ts _ a' w' hB.2 h') hw

def planB (l : List Oper) (pre hs ts : List Nat) : Bool :=
  Region.noSelect l.toArray && decide (pre.length + hs.length + ts.length = l.length) && waitB .any l.toArray ts hs &&
  match preB .any l pre (Array.replicate l.length false) with
  | none => false
  | some l1 => match headB .any l.toArray hs l1 with
    | none => false
    | some l2 => ((Region.ready .any l.toArray l2).all fun j => ts.contains j) && tailB .any l.toArray ts l2

theorem preB_closed {l : List Oper} : ∀ (ks : List Nat) (listed listed1 : Array Bool), Closed md l.toArray listed → preB md l ks listed = some listed1 → Closed md l.toArray listed1
  | [], _, _, hc, hB => by simp only [preB, Option.some.injEq] at hB; subst hB; exact hc
  | k :: ks, listed, listed1, hc, hB => by
    unfold preB at hB
    split at hB
    · rename_i hrf
      simp only [Bool.and_eq_true] at hrf
      exact preB_closed ks _ _ (hc.set (by simpa using hrf.1.1)) hB
    · cases hB

/-- A REGION THAT DRAWS ITS ORDER, BY A PLAN: the moves 'pre' first, then the operations 'hs', which only read, then 'ts', which come up one at a time. -/
theorem wp_region_plan {id : Nat} {l : List Oper} {a : Act} (pre hs ts : List Nat) (hm : P.follows .mixedOrders = true) (hB : planB l pre hs ts = true)
    (hQ : ∀ c (d : Option Tmp) (v : Value) a w, Q (.panic c) (a.put d v) w → Q (.panic c) a w)
    (h : wpStill P l.toArray w.drew (fun a' => wpList P l.toArray Q (pick l ts) a' w.drew) (pick l hs) (putMoves l pre a)) : (Code.region id l.toArray true).wp P Q a w := by
  simp only [planB, Bool.and_eq_true, decide_eq_true_eq] at hB
  obtain ⟨⟨⟨hsel, hlen⟩, hw⟩, hrest⟩ := hB
  cases h1 : preB .any l pre (Array.replicate l.length false) with
  | none => rw [h1] at hrest; cases hrest
  | some l1 =>
    rw [h1] at hrest
    simp only at hrest
    cases h2 : headB .any l.toArray hs l1 with
    | none => rw [h2] at hrest; cases hrest
    | some l2 =>
      rw [h2] at hrest
      simp only [Bool.and_eq_true] at hrest
      have hc0 : Closed .any l.toArray (Array.replicate l.length false) := fun j oj _ hl => by rw [getD_replicate_false] at hl; cases hl
      have hc1 := preB_closed pre _ _ hc0 h1
      refine wp_region_any hm ?_
      have hsz : l.toArray.size = pre.length + (hs.length + ts.length) := by simp; omega
      rw [hsz, show pre.length + (hs.length + ts.length) = l.length by omega, show l.length = pre.length + (hs.length + ts.length) by omega]
      have key := wpAnyG_lex (P := P) (w := w.drew) (Lq := fun a' => wpList P l.toArray Q (pick l ts) a' w.drew) hsel hw (fun j hj => by simpa using List.all_eq_true.1 hrest.1 j hj) hs l1 (putMoves l pre a) (fun k hk => hk) hc1 h2 h
      have k2 := wpAny_of_G (Q := Q) (g := ts.length) (fun listed' a' hL => by
        obtain ⟨rfl, hL⟩ := hL
        exact wpAny_tail ts _ _ _ hrest.2 hL) hs.length l1 _ key
      have k3 := wpAny_pre (Q := Q) hsel hQ pre _ a h1 k2
      have : l.length = pre.length + (hs.length + ts.length) := by omega
      rw [← this] at k3 ⊢
      exact k3

/-! ### Reads that hold as long as S does, taken first; calls that keep S; then the rest -/
def wpAnyE (P : Program) (md : Region.Mode) (ops : Array Oper) (Q : Exit → Act → World → Prop) (S : World → Prop) (late : Nat → Bool) : Nat → Array Bool → Act → World → Prop
  | 0, listed, a, w => Region.ready md ops listed = [] ∧ Q .normal a w
  | fuel + 1, listed, a, w =>
    (Region.ready md ops listed = [] → Q .normal a w) ∧
    ∀ i ∈ Region.ready md ops listed, wpOp P ops Q i (fun a' w' => (late i = false → S w') ∧ wpAnyE P md ops Q S late fuel (listed.setIfInBounds i true) a' w') a w

theorem wpAny_of_E {S : World → Prop} {late : Nat → Bool} : ∀ (fuel : Nat) (listed : Array Bool) (a : Act) (w : World), wpAnyE P md ops Q S late fuel listed a w → wpAny P md ops Q fuel listed a w
  | 0, _, _, _, h => h
  | fuel + 1, _, _, _, h => ⟨h.1, fun i hi => wpOp_mono (fun a' w' h' => wpAny_of_E fuel _ a' w' h'.2) (h.2 i hi)⟩

theorem wpAnyE_first {S : World → Prop} {late : Nat → Bool} {i : Nat} {oi : Oper} {v : Value} (hi : ops[i]? = some oi) (hsel : ∀ (j : Nat) (o : Oper) cs b, ops[j]? = some o → o.op ≠ .select cs b)
    (hQ : ∀ c a w, Q (.panic c) (a.put oi.dst v) w → Q (.panic c) a w) (hlate : ∀ j, late j = true → reachB md ops ops.size j i = true) (hli : late i = false) :
    ∀ (fuel : Nat) (listed : Array Bool) (a : Act) (w : World), Closed md ops listed →
      (∀ j oj, ops[j]? = some oj → j ≠ i → listed.getD j true = false → (∀ e ∈ oj.after, Region.binds md e = true → e.on ≠ i) → oi.apart ops oj = true) →
      i ∈ Region.ready md ops listed → YieldsIf P ops S oi v a → S w →
      wpAnyE P md ops Q S late fuel (listed.setIfInBounds i true) (a.put oi.dst v) w → wpAnyE P md ops Q S late (fuel + 1) listed a w := by
  intro fuel
  induction fuel with
  | zero =>
    intro listed a w hc _ hr hy hS H
    refine ⟨fun h => (by rw [h] at hr; cases hr), fun j hj => ?_⟩
    by_cases hji : j = i
    · subst hji; exact hy.wpOp hi hS ⟨fun _ => hS, H⟩
    · have := ready_mono hj hji
      rw [H.1] at this
      cases this
  | succ fuel ih =>
    intro listed a w hc hfree hr hy hS H
    refine ⟨fun h => (by rw [h] at hr; cases hr), fun j hj => ?_⟩
    by_cases hji : j = i
    · subst hji; exact hy.wpOp hi hS ⟨fun _ => hS, H⟩
    · have h1 := H.2 j (ready_mono hj hji)
      have hun := (mem_ready.1 hr).1
      have hlj : late j = false := by
        cases hl : late j with
        | false => rfl
        | true => exact absurd hj (reach_not hc (getD_both hun) _ _ (hlate j hl)).2
      obtain ⟨hjun, oj, hoj, hall⟩ := mem_ready.1 hj
      have hnot : ∀ e ∈ oj.after, Region.binds md e = true → e.on ≠ i := fun e he hb heq => by
        have h1 := hall e he hb
        rw [heq, getD_both hun] at h1
        cases h1
      have h2 := wpOp_putIf hoj (hfree j oj hoj hji hjun hnot) (fun cs b => hsel i oi cs b hi) (fun cs b => hsel j oj cs b hoj) hQ hy h1
      have hfree' : ∀ k ok, ops[k]? = some ok → k ≠ i → (listed.setIfInBounds j true).getD k true = false →
          (∀ e ∈ ok.after, Region.binds md e = true → e.on ≠ i) → oi.apart ops ok = true := fun k ok hk hki hun hno => by
        refine hfree k ok hk hki ?_ hno
        by_cases hjk : j = k
        · subst hjk; exact hjun
        · rw [getD_set_ne true hjk] at hun; exact hun
      refine wpOp_mono (fun a' w' h3 => ⟨fun _ => h3.2.1 hlj, ih (listed.setIfInBounds j true) a' w' (hc.set hj) hfree' (ready_mono hr (Ne.symm hji)) h3.1 (h3.2.1 hlj) ?_⟩) h2
      rw [Array.setIfInBounds_comm _ _ hji]
      exact h3.2.2

/-- The reads, one behind the other: each yields in every world that meets S. -/
def wpHeld (P : Program) (ops : Array Oper) (S : World → Prop) (K : Act → Prop) : List Oper → Act → Prop
  | [], a => K a
  | o :: rest, a => ∃ v, YieldsIf P ops S o v a ∧ wpHeld P ops S K rest (a.put o.dst v)

theorem wpHeld_nil {S : World → Prop} {K : Act → Prop} {a : Act} (h : K a) : wpHeld P ops S K [] a := h
theorem wpHeld_step {S : World → Prop} {K : Act → Prop} {a : Act} {o : Oper} {rest : List Oper} (v : Value) (hg : o.guard = none) (h : ∀ w, S w → (execOp a.eval o).run P w = .ok (.value v) w) (hK : wpHeld P ops S K rest (a.put o.dst v)) :
    wpHeld P ops S K (o :: rest) a := ⟨v, .inl ⟨by simp [Region.wanted, hg], h⟩, hK⟩

/-- What may come between the reads: behind each S holds. -/
def wpEarly (P : Program) (ops : Array Oper) (S : World → Prop) (Q : Exit → Act → World → Prop) (K : Act → World → Prop) : List Oper → Act → World → Prop
  | [], a, w => K a w
  | o :: rest, a, w => wpList P ops (Exit.then (fun a' w' => S w' ∧ wpEarly P ops S Q K rest a' w') Q) [o] a w

theorem wpOp_of_one {i : Nat} {o : Oper} {K : Act → World → Prop} {a : Act} (hi : ops[i]? = some o) (h : wpList P ops (Exit.then K Q) [o] a w) : wpOp P ops Q i K a w := by
  unfold wpOp
  simp only [hi]
  unfold wpList at h
  split
  · rename_i hw
    rw [if_pos hw] at h
    rcases h with h | ⟨h1, a0, w0, h2⟩
    · left
      unfold Oper.wp at *
      generalize (execOp a.eval o).run P w = r at *
      cases r with
      | ok n w' =>
        cases n <;> simp only [Oper.upon] at h ⊢ <;>
          first
            | exact h
            | exact Calls.mono h (fun e w'' he => by cases e <;> first | exact he | (obtain ⟨a1, w1, h1⟩ := he; exact ⟨a1, w1, h1⟩))
            | exact Rows.mono h (fun _ _ he => he)
      | halt x w' => cases x <;> simp only [Oper.upon] at h ⊢ <;> exact h
    · exact .inr ⟨h1, a0, w0, h2⟩
  · rename_i hw
    rw [if_neg hw] at h
    exact h

def heldB (l : List Oper) (hs es fs : List Nat) : Bool :=
  Region.noSelect l.toArray && decide (hs.length + es.length + fs.length = l.length) && waitB .any l.toArray fs hs && (hs.all fun i => !fs.contains i) &&
  match headB .any l.toArray hs (Array.replicate l.length false) with
  | none => false
  | some l2 => tailB .any l.toArray (es ++ fs) l2

theorem wpAnyE_tail {l : List Oper} {S : World → Prop} {late : Nat → Bool} : ∀ (ts : List Nat) (listed : Array Bool) (a : Act) (w : World), (∀ t ∈ ts, late t = true) → tailB md l.toArray ts listed = true → wpList P l.toArray Q (pick l ts) a w →
    wpAnyE P md l.toArray Q S late ts.length listed a w
  | [], _, _, _, _, hB, h => ⟨by simpa [tailB] using hB, h⟩
  | t :: ts, listed, a, w, hl, hB, h => by
    simp only [tailB, Bool.and_eq_true, decide_eq_true_eq] at hB
    have hr' : t ∈ Region.ready md l.toArray listed := by rw [hB.1]; simp
    obtain ⟨_, o, h0, _⟩ := mem_ready.1 hr'
    have hp : pick l (t :: ts) = o :: pick l ts := by
      have : l[t]? = some o := by simpa using h0
      simp [pick, this]
    rw [hp] at h
    refine ⟨fun h1 => (by rw [hB.1] at h1; cases h1), fun i hi => ?_⟩
    rw [hB.1] at hi
    obtain rfl : i = t := by simpa using hi
    have hw : wpOp P l.toArray Q i (wpList P l.toArray Q (pick l ts)) a w := by unfold wpOp; simp only [h0]; exact h
    exact wpOp_mono (fun a' w' h' => ⟨fun h2 => (by rw [hl i (by simp)] at h2; cases h2), wpAnyE_tail ts _ a' w' (fun t ht => hl t (by simp [ht])) hB.2 h'⟩) hw

theorem wpAnyE_early {l : List Oper} {S : World → Prop} {late : Nat → Bool} {fs : List Nat} (hl : ∀ t ∈ fs, late t = true) : ∀ (es : List Nat) (listed : Array Bool) (a : Act) (w : World), tailB md l.toArray (es ++ fs) listed = true →
    wpEarly P l.toArray S Q (fun a w => wpList P l.toArray Q (pick l fs) a w) (pick l es) a w → wpAnyE P md l.toArray Q S late (es.length + fs.length) listed a w
  | [], listed, a, w, hB, h => by
    rw [List.length_nil, Nat.zero_add]
    exact wpAnyE_tail fs listed a w hl hB h
  | t :: ts, listed, a, w, hB, h => by
    simp only [List.cons_append, tailB, Bool.and_eq_true, decide_eq_true_eq] at hB
    have hr' : t ∈ Region.ready md l.toArray listed := by rw [hB.1]; simp
    obtain ⟨_, o, h0, _⟩ := mem_ready.1 hr'
    have hp : pick l (t :: ts) = o :: pick l ts := by
      have : l[t]? = some o := by simpa using h0
      simp [pick, this]
    rw [hp] at h
    rw [show (t :: ts).length + fs.length = (ts.length + fs.length) + 1 by simp; omega]
    refine ⟨fun h1 => (by rw [hB.1] at h1; cases h1), fun i hi => ?_⟩
    rw [hB.1] at hi
    obtain rfl : i = t := by simpa using hi
    exact wpOp_mono (fun a' w' h' => ⟨fun _ => h'.1, wpAnyE_early hl ts _ a' w' hB.2 h'.2⟩) (wpOp_of_one h0 h)

theorem wpAnyE_held {l : List Oper} {S : World → Prop} {late : Nat → Bool} {K : Act → Prop} {hs : List Nat} {listed2 : Array Bool} {g : Nat} (hsel : Region.noSelect l.toArray = true) (hQ : ∀ c (d : Option Tmp) (v : Value) a w, Q (.panic c) (a.put d v) w → Q (.panic c) a w)
    (hlate : ∀ j i, i ∈ hs → late j = true → reachB md l.toArray l.toArray.size j i = true) (hln : ∀ i ∈ hs, late i = false) (hS : S w)
    (hK : ∀ a, K a → wpAnyE P md l.toArray Q S late g listed2 a w) :
    ∀ (ks : List Nat) (listed : Array Bool) (a : Act), (∀ k ∈ ks, k ∈ hs) → Closed md l.toArray listed → headB md l.toArray ks listed = some listed2 →
    wpHeld P l.toArray S K (pick l ks) a → wpAnyE P md l.toArray Q S late (ks.length + g) listed a w
  | [], listed, a, _, _, hB, h => by
    simp only [headB, Option.some.injEq] at hB
    subst hB
    rw [List.length_nil, Nat.zero_add]
    exact hK a h
  | k :: ks, listed, a, hk, hc, hB, h => by
    unfold headB at hB
    split at hB
    · rename_i hrf
      simp only [Bool.and_eq_true] at hrf
      have hr' : k ∈ Region.ready md l.toArray listed := by simpa using hrf.1
      obtain ⟨_, o, h0, _⟩ := mem_ready.1 hr'
      have hp : pick l (k :: ks) = o :: pick l ks := by
        have : l[k]? = some o := by simpa using h0
        simp [pick, this]
      rw [hp] at h
      obtain ⟨v, hy, hr⟩ := h
      rw [show (k :: ks).length + g = (ks.length + g) + 1 by simp; omega]
      exact wpAnyE_first h0 (Region.noSelect_spec hsel) (fun c a w => hQ c _ _ a w) (fun j => hlate j k (hk k (by simp))) (hln k (hk k (by simp))) _ listed a w hc (Region.free_spec h0 hrf.2) hr' hy hS
        (wpAnyE_held hsel hQ hlate hln hS hK ks _ _ (fun k' h' => hk k' (by simp [h'])) (hc.set hr') hB hr)
    · cases hB

/-- A REGION THAT DRAWS ITS ORDER: the reads 'hs', whose values hold as long as S does, first; then 'es', behind each of which S holds; then 'fs', which wait for all reads. -/
theorem wp_region_hold {id : Nat} {l : List Oper} {a : Act} (S : World → Prop) (hs es fs : List Nat) (hm : P.follows .mixedOrders = true) (hB : heldB l hs es fs = true)
    (hQ : ∀ c (d : Option Tmp) (v : Value) a w, Q (.panic c) (a.put d v) w → Q (.panic c) a w) (hS : S w.drew)
    (h : wpHeld P l.toArray S (fun a' => wpEarly P l.toArray S Q (fun a w => wpList P l.toArray Q (pick l fs) a w) (pick l es) a' w.drew) (pick l hs) a) : (Code.region id l.toArray true).wp P Q a w := by
  simp only [heldB, Bool.and_eq_true, decide_eq_true_eq] at hB
  obtain ⟨⟨⟨⟨hsel, hlen⟩, hw⟩, hnf⟩, hrest⟩ := hB
  cases h2 : headB .any l.toArray hs (Array.replicate l.length false) with
  | none => rw [h2] at hrest; cases hrest
  | some l2 =>
    rw [h2] at hrest
    simp only at hrest
    have hc0 : Closed .any l.toArray (Array.replicate l.length false) := fun j oj _ hl => by rw [getD_replicate_false] at hl; cases hl
    refine wp_region_any hm ?_
    have key := wpAnyE_held (P := P) (Q := Q) (md := .any) (w := w.drew) (S := S) (late := fun j => fs.contains j) (hs := hs) (g := es.length + fs.length) hsel hQ
      (fun j i hi hj => List.all_eq_true.1 (List.all_eq_true.1 hw j (by simpa using hj)) i hi) (fun i hi => by simpa using List.all_eq_true.1 hnf i hi) hS
      (fun a' ha' => wpAnyE_early (fun t ht => by simpa using ht) es l2 a' w.drew hrest ha') hs (Array.replicate l.length false) a (fun k hk => hk) hc0 h2 h
    have k3 := wpAny_of_E _ _ _ _ key
    have : l.length = hs.length + (es.length + fs.length) := by omega
    rw [← this] at k3
    have hsz : l.toArray.size = l.length := by simp
    rw [hsz]
    exact k3
end
end Go.Proofs.YtebdkmlganalaaaGreatDoor
