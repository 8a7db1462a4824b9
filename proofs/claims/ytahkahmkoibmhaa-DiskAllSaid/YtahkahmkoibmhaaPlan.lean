/- A region that draws its order, walked by a plan: some moves first, then operations that only read, in the order of the text, then operations that come up one at a time. Over any program. -/
import Derived.Test.YtahkahmkoibmhaaBase
import Derived.StillTailTactics
import Derived.Deep.QuietTactic
import Derived.BigQuiet
namespace Go.Proofs.Ytahkahmkoibmhaa
open Go.RowKit

section
variable {P : Program} {ops : Array Oper} {md : Region.Mode} {Q : Exit → Act → World → Prop} {w : World}

/-- Operation t waits for operation g, through others if need be. -/
def reachB (md : Region.Mode) (ops : Array Oper) : Nat → Nat → Nat → Bool
  | 0, _, _ => false
  | f + 1, t, g => match ops[t]? with
    | some o => o.after.any fun e => Region.binds md e && (e.on == g || reachB md ops f e.on g)
    | none => false

def Closed (md : Region.Mode) (ops : Array Oper) (listed : Array Bool) : Prop :=
  ∀ j oj, ops[j]? = some oj → listed.getD j false = true → ∀ e ∈ oj.after, Region.binds md e = true → listed.getD e.on false = true

theorem reach_not {listed : Array Bool} (hc : Closed md ops listed) {g : Nat} (hg : listed.getD g false = false) :
    ∀ (f t : Nat), reachB md ops f t g = true → listed.getD t false = false ∧ t ∉ Region.ready md ops listed := by
  intro f
  induction f with
  | zero => intro t h; cases h
  | succ f ih =>
    intro t h
    unfold reachB at h
    cases ho : ops[t]? with
    | none => rw [ho] at h; cases h
    | some o =>
      rw [ho] at h
      obtain ⟨e, he, hb⟩ := Array.any_eq_true'.1 h
      simp only [Bool.and_eq_true, Bool.or_eq_true, beq_iff_eq] at hb
      have hon : listed.getD e.on false = false := by
        rcases hb.2 with h1 | h1
        · rw [h1]; exact hg
        · exact (ih e.on h1).1
      refine ⟨?_, fun hr => ?_⟩
      · cases hl : listed.getD t false with
        | false => rfl
        | true => rw [hc t o ho hl e he hb.1] at hon; cases hon
      · obtain ⟨_, o', ho', hall⟩ := mem_ready.1 hr
        have : o' = o := Option.some.inj (ho'.symm.trans ho)
        subst this
        rw [hall e he hb.1] at hon
        cases hon

theorem Closed.set {i : Nat} {listed : Array Bool} (hc : Closed md ops listed) (hi : i ∈ Region.ready md ops listed) : Closed md ops (listed.setIfInBounds i true) := by
  obtain ⟨_, oi, hoi, hall⟩ := mem_ready.1 hi
  intro j oj hoj hl e he hb
  by_cases hij : i = j
  · subst hij
    have : oj = oi := Option.some.inj (hoj.symm.trans hoi)
    subst this
    exact getD_set_true (hall e he hb)
  · rw [getD_set_ne false hij] at hl
    exact getD_set_true (hc j oj hoj hl e he hb)

/-- Each operation is listed, or of G, or waits for all of G. -/
def AllWait (md : Region.Mode) (ops : Array Oper) (G : List Nat) (listed : Array Bool) : Prop :=
  ∀ t, t ∈ Region.ready md ops listed → t ∈ G ∨ ∀ g ∈ G, listed.getD g false = true

def wpAnyG (P : Program) (md : Region.Mode) (ops : Array Oper) (w : World) (L : Array Bool → Act → Prop) : Nat → Array Bool → Act → Prop
  | 0, listed, a => L listed a
  | f + 1, listed, a => Region.ready md ops listed ≠ [] ∧ ∀ i ∈ Region.ready md ops listed, stOp P ops w i (wpAnyG P md ops w L f (listed.setIfInBounds i true)) a

theorem wpAny_of_G {g : Nat} {L : Array Bool → Act → Prop} (hL : ∀ listed a, L listed a → wpAny P md ops Q g listed a w) :
    ∀ (f : Nat) (listed : Array Bool) (a : Act), wpAnyG P md ops w L f listed a → wpAny P md ops Q (f + g) listed a w
  | 0, listed, a, h => by rw [Nat.zero_add]; exact hL _ _ h
  | f + 1, listed, a, h => by
    rw [show f + 1 + g = (f + g) + 1 by omega]
    exact ⟨fun h0 => absurd h0 h.1, fun i hi => wpOp_of_stOp (fun a' h' => wpAny_of_G hL f _ a' h') (h.2 i hi)⟩

/-- What an operation outside the group must wait for. -/
def waitB (md : Region.Mode) (ops : Array Oper) (rest : List Nat) (hs : List Nat) : Bool := rest.all fun t => hs.all fun g => reachB md ops ops.size t g

theorem wpAnyG_first {i : Nat} {oi : Oper} {v : Value} {L : Array Bool → Act → Prop} {hs rest : List Nat} (hi : ops[i]? = some oi) (hsel : ∀ (j : Nat) (o : Oper) cs b, ops[j]? = some o → o.op ≠ .select cs b)
    (hin : i ∈ hs) (hw : waitB md ops rest hs = true)
    (hdone : ∀ listed a, L listed a → ∀ j ∈ Region.ready md ops listed, j ∈ rest) :
    ∀ (f : Nat) (listed : Array Bool) (a : Act), Closed md ops listed →
      (∀ j oj, ops[j]? = some oj → j ≠ i → listed.getD j true = false → (∀ e ∈ oj.after, Region.binds md e = true → e.on ≠ i) → oi.apart ops oj = true) →
      i ∈ Region.ready md ops listed → YieldsAt P ops w oi v a →
      wpAnyG P md ops w L f (listed.setIfInBounds i true) (a.put oi.dst v) → wpAnyG P md ops w L (f + 1) listed a := by
  intro f
  induction f with
  | zero =>
    intro listed a hc _ hr hy H
    have hun := (mem_ready.1 hr).1
    refine ⟨fun h => (by rw [h] at hr; cases hr), fun j hj => ?_⟩
    by_cases hji : j = i
    · subst hji; exact hy.stOp hi H
    · have h1 := hdone _ _ H j (ready_mono hj hji)
      have h2 : reachB md ops ops.size j i = true := List.all_eq_true.1 (List.all_eq_true.1 hw j h1) i hin
      exact absurd hj (reach_not hc (getD_both hun) _ _ h2).2
  | succ f ih =>
    intro listed a hc hfree hr hy H
    have hun := (mem_ready.1 hr).1
    refine ⟨fun h => (by rw [h] at hr; cases hr), fun j hj => ?_⟩
    by_cases hji : j = i
    · subst hji; exact hy.stOp hi H
    · have h1 := H.2 j (ready_mono hj hji)
      obtain ⟨hjun, oj, hoj, hall⟩ := mem_ready.1 hj
      have hnot : ∀ e ∈ oj.after, Region.binds md e = true → e.on ≠ i := fun e he hb heq => by
        have h1 := hall e he hb
        rw [heq, getD_both hun] at h1
        cases h1
      have h2 := stOp_put hoj (hfree j oj hoj hji hjun hnot) (fun cs b => hsel i oi cs b hi) (fun cs b => hsel j oj cs b hoj) hy h1
      have hfree' : ∀ k ok, ops[k]? = some ok → k ≠ i → (listed.setIfInBounds j true).getD k true = false →
          (∀ e ∈ ok.after, Region.binds md e = true → e.on ≠ i) → oi.apart ops ok = true := fun k ok hk hki hun hno => by
        refine hfree k ok hk hki ?_ hno
        by_cases hjk : j = k
        · subst hjk; exact hjun
        · rw [getD_set_ne true hjk] at hun; exact hun
      refine stOp_mono (fun a' h3 => ih (listed.setIfInBounds j true) a' (hc.set hj) hfree' (ready_mono hr (Ne.symm hji)) h3.1 ?_) h2
      rw [Array.setIfInBounds_comm _ _ hji]
      exact h3.2

/-- Some operations of a list. -/
def pick (l : List Oper) : List Nat → List Oper
  | [] => []
  | i :: is => (l.drop i).head?.toList ++ pick l is

def headB (md : Region.Mode) (ops : Array Oper) : List Nat → Array Bool → Option (Array Bool)
  | [], listed => some listed
  | k :: ks, listed => if (Region.ready md ops listed).contains k && Region.free md ops listed k then headB md ops ks (listed.setIfInBounds k true) else none

theorem drop_head (l : List Oper) (i : Nat) : (l.drop i).head? = l[i]? := by simp [List.head?_drop]

theorem wpAnyG_lex {l : List Oper} {Lq : Act → Prop} {hs rest : List Nat} {listed2 : Array Bool} (hsel : Region.noSelect l.toArray = true) (hw : waitB md l.toArray rest hs = true)
    (hend : ∀ j ∈ Region.ready md l.toArray listed2, j ∈ rest) :
    ∀ (ks : List Nat) (listed : Array Bool) (a : Act), (∀ k ∈ ks, k ∈ hs) → Closed md l.toArray listed → headB md l.toArray ks listed = some listed2 →
    wpStill P l.toArray w Lq (pick l ks) a → wpAnyG P md l.toArray w (fun listed' a' => listed' = listed2 ∧ Lq a') ks.length listed a
  | [], listed, a, _, _, hB, h => by
    simp only [headB, Option.some.injEq] at hB
    exact ⟨hB, h⟩
  | k :: ks, listed, a, hk, hc, hB, h => by
    unfold headB at hB
    split at hB
    · rename_i hrf
      simp only [Bool.and_eq_true] at hrf
      have hr' : k ∈ Region.ready md l.toArray listed := by simpa using hrf.1
      obtain ⟨_, o, h0, _⟩ := mem_ready.1 hr'
      have hp : pick l (k :: ks) = o :: pick l ks := by
        have : l[k]? = some o := by simpa using h0
        simp [pick, this]
      rw [hp] at h
      have hst : stOp P l.toArray w k (wpStill P l.toArray w Lq (pick l ks)) a := by unfold stOp; simp only [h0]; exact h
      obtain ⟨v, hy, hK⟩ := yieldsAt_of_stOp h0 hst
      exact wpAnyG_first (hs := hs) (rest := rest) h0 (Region.noSelect_spec hsel) (hk k (by simp)) hw (fun listed' a' hL => by rw [hL.1]; exact hend) ks.length listed a hc (Region.free_spec h0 hrf.2) hr' hy
        (wpAnyG_lex hsel hw hend ks _ _ (fun k' h' => hk k' (by simp [h'])) (hc.set hr') hB hK)
    · cases hB

def isMove : Option Oper → Bool
  | some ⟨_, .move _, _, _, _, none⟩ => true
  | _ => false
theorem isMove_spec {o : Oper} (h : isMove (some o) = true) : ∃ x, o.op = .move x ∧ o.guard = none := by
  obtain ⟨d, op, ty, pos, after, guard⟩ := o
  unfold isMove at h
  split at h
  · rename_i heq
    injection heq with heq
    injection heq with _ h1 _ _ _ h2
    exact ⟨_, h1, h2⟩
  · cases h
/-- The moves that are done first. -/
def preB (md : Region.Mode) (l : List Oper) : List Nat → Array Bool → Option (Array Bool)
  | [], listed => some listed
  | k :: ks, listed => if (Region.ready md l.toArray listed).contains k && Region.free md l.toArray listed k && isMove l[k]? then preB md l ks (listed.setIfInBounds k true) else none
def putMoves (l : List Oper) : List Nat → Act → Act
  | [], a => a
  | k :: ks, a => match (l.drop k).head? with
    | some ⟨d, .move x, _, _, _, _⟩ => putMoves l ks (a.put d (a.eval x))
    | _ => putMoves l ks a

theorem wpAny_pre {l : List Oper} (hsel : Region.noSelect l.toArray = true) (hQ : ∀ c (d : Option Tmp) (v : Value) a w, Q (.panic c) (a.put d v) w → Q (.panic c) a w) {listed1 : Array Bool} {g : Nat} :
    ∀ (ks : List Nat) (listed : Array Bool) (a : Act), preB md l ks listed = some listed1 → wpAny P md l.toArray Q g listed1 (putMoves l ks a) w → wpAny P md l.toArray Q (ks.length + g) listed a w
  | [], listed, a, hB, h => by
    simp only [preB, Option.some.injEq] at hB
    subst hB
    simpa [putMoves] using h
  | k :: ks, listed, a, hB, h => by
    unfold preB at hB
    split at hB
    · rename_i hrf
      simp only [Bool.and_eq_true] at hrf
      obtain ⟨⟨hr, hf⟩, hm⟩ := hrf
      have hr' : k ∈ Region.ready md l.toArray listed := by simpa using hr
      obtain ⟨_, o, h0, _⟩ := mem_ready.1 hr'
      have h0' : l[k]? = some o := by simpa using h0
      rw [h0'] at hm
      obtain ⟨x, hop, hgd⟩ := isMove_spec hm
      rw [show (k :: ks).length + g = (ks.length + g) + 1 by simp; omega]
      refine wpAny_take h0 hsel hf hr (fun c a w => hQ c _ _ a w) (v := a.eval x) (.inl ⟨by simp [Region.wanted, hgd], fun w' => by unfold execOp; rw [hop]; rfl⟩) ?_
      refine wpAny_pre hsel hQ ks _ _ hB ?_
      have : putMoves l (k :: ks) a = putMoves l ks (a.put o.dst (a.eval x)) := by
        obtain ⟨d, op, ty, pos, after, guard⟩ := o
        simp only at hop
        subst hop
        simp [putMoves, h0']
      rw [this] at h
      exact h
    · cases hB

/-- What comes up one at a time. -/
def tailB (md : Region.Mode) (ops : Array Oper) : List Nat → Array Bool → Bool
  | [], listed => (Region.ready md ops listed).isEmpty
  | t :: ts, listed => decide (Region.ready md ops listed = [t]) && tailB md ops ts (listed.setIfInBounds t true)

theorem wpAny_tail {l : List Oper} : ∀ (ts : List Nat) (listed : Array Bool) (a : Act) (w : World), tailB md l.toArray ts listed = true → wpList P l.toArray Q (pick l ts) a w →
    wpAny P md l.toArray Q ts.length listed a w
  | [], _, _, _, hB, h => ⟨by simpa [tailB] using hB, h⟩
  | t :: ts, listed, a, w, hB, h => by
    simp only [tailB, Bool.and_eq_true, decide_eq_true_eq] at hB
    have hr' : t ∈ Region.ready md l.toArray listed := by rw [hB.1]; simp
    obtain ⟨_, o, h0, _⟩ := mem_ready.1 hr'
    have hp : pick l (t :: ts) = o :: pick l ts := by
      have : l[t]? = some o := by simpa using h0
      simp [pick, this]
    rw [hp] at h
    refine ⟨fun h1 => (by rw [hB.1] at h1; cases h1), fun i hi => ?_⟩
    rw [hB.1] at hi
    obtain rfl : i = t := by simpa using hi
    have hw : wpOp P l.toArray Q i (wpList P l.toArray Q (pick l ts)) a w := by unfold wpOp; simp only [h0]; exact h
    exact wpOp_mono (fun a' w' h' => wpAny_tail ts _ a' w' hB.2 h') hw

def planB (l : List Oper) (pre hs ts : List Nat) : Bool :=
  Region.noSelect l.toArray && decide (pre.length + hs.length + ts.length = l.length) && waitB .any l.toArray ts hs &&
  match preB .any l pre (Array.replicate l.length false) with
  | none => false
  | some l1 => match headB .any l.toArray hs l1 with
    | none => false
    | some l2 => ((Region.ready .any l.toArray l2).all fun j => ts.contains j) && tailB .any l.toArray ts l2

theorem preB_closed {l : List Oper} : ∀ (ks : List Nat) (listed listed1 : Array Bool), Closed md l.toArray listed → preB md l ks listed = some listed1 → Closed md l.toArray listed1
  | [], _, _, hc, hB => by simp only [preB, Option.some.injEq] at hB; subst hB; exact hc
  | k :: ks, listed, listed1, hc, hB => by
    unfold preB at hB
    split at hB
    · rename_i hrf
      simp only [Bool.and_eq_true] at hrf
      exact preB_closed ks _ _ (hc.set (by simpa using hrf.1.1)) hB
    · cases hB

/-- A REGION THAT DRAWS ITS ORDER, BY A PLAN: the moves 'pre' first, then the operations 'hs', which only read, then 'ts', which come up one at a time. -/
theorem wp_region_plan {id : Nat} {l : List Oper} {a : Act} (pre hs ts : List Nat) (hm : P.follows .mixedOrders = true) (hB : planB l pre hs ts = true)
    (hQ : ∀ c (d : Option Tmp) (v : Value) a w, Q (.panic c) (a.put d v) w → Q (.panic c) a w)
    (h : wpStill P l.toArray w.drew (fun a' => wpList P l.toArray Q (pick l ts) a' w.drew) (pick l hs) (putMoves l pre a)) : (Code.region id l.toArray true).wp P Q a w := by
  simp only [planB, Bool.and_eq_true, decide_eq_true_eq] at hB
  obtain ⟨⟨⟨hsel, hlen⟩, hw⟩, hrest⟩ := hB
  cases h1 : preB .any l pre (Array.replicate l.length false) with
  | none => rw [h1] at hrest; cases hrest
  | some l1 =>
    rw [h1] at hrest
    simp only at hrest
    cases h2 : headB .any l.toArray hs l1 with
    | none => rw [h2] at hrest; cases hrest
    | some l2 =>
      rw [h2] at hrest
      simp only [Bool.and_eq_true] at hrest
      have hc0 : Closed .any l.toArray (Array.replicate l.length false) := fun j oj _ hl => by rw [getD_replicate_false] at hl; cases hl
      have hc1 := preB_closed pre _ _ hc0 h1
      refine wp_region_any hm ?_
      have hsz : l.toArray.size = pre.length + (hs.length + ts.length) := by simp; omega
      rw [hsz, show pre.length + (hs.length + ts.length) = l.length by omega, show l.length = pre.length + (hs.length + ts.length) by omega]
      have key := wpAnyG_lex (P := P) (w := w.drew) (Lq := fun a' => wpList P l.toArray Q (pick l ts) a' w.drew) hsel hw (fun j hj => by simpa using List.all_eq_true.1 hrest.1 j hj) hs l1 (putMoves l pre a) (fun k hk => hk) hc1 h2 h
      have k2 := wpAny_of_G (Q := Q) (g := ts.length) (fun listed' a' hL => by
        obtain ⟨rfl, hL⟩ := hL
        exact wpAny_tail ts _ _ _ hrest.2 hL) hs.length l1 _ key
      have k3 := wpAny_pre (Q := Q) hsel hQ pre _ a h1 k2
      have : l.length = pre.length + (hs.length + ts.length) := by omega
      rw [← this] at k3 ⊢
      exact k3
end
end Go.Proofs.Ytahkahmkoibmhaa
