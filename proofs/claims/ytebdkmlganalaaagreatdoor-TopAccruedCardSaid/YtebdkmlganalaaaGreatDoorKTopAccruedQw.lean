/- In a round inside the wide fence: a region that draws its order: operations that only read, then a tail that comes up one at a time. Over any program. -/
import Derived.Test.YtebdkmlganalaaaGreatDoorKTopAccruedPlan
import Derived.OrdersIn
import Derived.TacticsIn
import Derived.RangeFuncNested
namespace Go.Proofs.YtebdkmlganalaaaGreatDoor
open Go.RowKit

section
variable {P : Program} {n l0 : Nat} {md : Region.Mode} {ops : Array Oper} {Q : Exit → Act → World → Prop}
/-- No operation defers. -/
def noDef (l : List Oper) : Bool := l.all fun o => match o.op with
  | .defer _ => false
  | _ => true
theorem noDef_at {l : List Oper} (h : noDef l = true) {o : Oper} (ho : o ∈ l) : ∀ c, o.op ≠ .defer c := fun c hc => by
  have := List.all_eq_true.1 h o ho
  rw [hc] at this
  cases this
theorem wpOpIn_of_stOpR (hnd : noDef ops.toList = true) {w : World} {i : Nat} {a : Act} {K : Act → Prop} {K' : Act → World → Prop} (h : ∀ a, K a → K' a w) (hh : stOp P ops w i K a) : wpOpIn (Fence.wide.inRound l0) n P ops Q i K' a w := by
  unfold stOp at hh
  unfold wpOpIn
  split
  · rename_i ho; simp only [ho] at hh; exact h _ hh
  · rename_i o ho
    simp only [ho] at hh
    split
    · rename_i hw
      simp only [hw, if_true] at hh
      refine ⟨fun _ _ => trivial, ?_⟩
      have e : (o.semAt (Fence.wide.inRound l0).round a.eval).run P w = (execOp a.eval o).run P w := by
        have hm : o ∈ ops.toList := by
          obtain ⟨hlt, he⟩ := Array.getElem?_eq_some_iff.1 ho
          rw [← he]
          exact Array.getElem_mem_toList hlt
        have := Oper.semAt_some l0 a.eval o (noDef_at hnd hm)
        exact congrArg (fun x => Sem.run P x w) this
      rw [e]
      unfold Oper.still at hh
      generalize (execOp a.eval o).run P w = r at *
      cases r with
      | ok x w' =>
        cases x <;> simp only [Oper.stillUpon] at hh <;> simp only [Oper.uponIn]
        case enter f args =>
          obtain ⟨rfl, v, hc, hn⟩ := hh
          exact ⟨fun hd => (by cases hd), (CallsIn.inRound l0 (callsIn_wide.2 hc)).mono fun e w'' ⟨he, hw⟩ => by subst he; subst hw; exact h _ hn⟩
        all_goals (obtain ⟨rfl, h2⟩ := hh; exact h _ h2)
      | halt x w' => cases x <;> simp only [Oper.stillUpon] at hh
    · rename_i hw; simp only [hw] at hh; exact ⟨fun _ _ => trivial, h _ hh⟩
theorem wpAnyIn_of_GR (hnd : noDef ops.toList = true) {w : World} {g : Nat} {L : Array Bool → Act → Prop} (hL : ∀ listed a, L listed a → wpAnyIn (Fence.wide.inRound l0) n P md ops Q g listed a w) :
    ∀ (f : Nat) (listed : Array Bool) (a : Act), wpAnyG P md ops w L f listed a → wpAnyIn (Fence.wide.inRound l0) n P md ops Q (f + g) listed a w
  | 0, listed, a, h => by rw [Nat.zero_add]; exact hL _ _ h
  | f + 1, listed, a, h => by
    rw [show f + 1 + g = (f + g) + 1 by omega]
    exact ⟨fun h0 => absurd h0 h.1, fun i hi => wpOpIn_of_stOpR hnd (fun a' h' => wpAnyIn_of_GR hnd hL f _ a' h') (h.2 i hi)⟩
theorem wpAnyIn_tailR {l : List Oper} : ∀ (ts : List Nat) (listed : Array Bool) (a : Act) (w : World), tailB md l.toArray ts listed = true → wpListIn (Fence.wide.inRound l0) n P l.toArray Q (pick l ts) a w →
    wpAnyIn (Fence.wide.inRound l0) n P md l.toArray Q ts.length listed a w
  | [], _, _, _, hB, h => ⟨by simpa [tailB] using hB, h⟩
  | t :: ts, listed, a, w, hB, h => by
    simp only [tailB, Bool.and_eq_true, decide_eq_true_eq] at hB
    have hr' : t ∈ Region.ready md l.toArray listed := by rw [hB.1]; simp
    obtain ⟨_, o, h0, _⟩ := mem_ready.1 hr'
    have hp : pick l (t :: ts) = o :: pick l ts := by
      have : l[t]? = some o := by simpa using h0
      simp [pick, this]
    rw [hp] at h
    refine ⟨fun h1 => (by rw [hB.1] at h1; cases h1), fun i hi => ?_⟩
    rw [hB.1] at hi
    obtain rfl : i = t := by simpa using hi
    have hw : wpOpIn (Fence.wide.inRound l0) n P l.toArray Q i (wpListIn (Fence.wide.inRound l0) n P l.toArray Q (pick l ts)) a w := by unfold wpOpIn; simp only [h0]; exact h
    exact wpOpIn_mono (fun a' w' h' => wpAnyIn_tailR ts _ a' w' hB.2 h') hw
def planInBR (l : List Oper) (hs ts : List Nat) : Bool :=
  noDef l && Region.noSelect l.toArray && decide (hs.length + ts.length = l.length) && waitB .any l.toArray ts hs &&
  match headB .any l.toArray hs (Array.replicate l.length false) with
  | none => false
  | some l2 => ((Region.ready .any l.toArray l2).all fun j => ts.contains j) && tailB .any l.toArray ts l2
/-- A REGION THAT DRAWS ITS ORDER: the operations 'hs', which only read, then 'ts', one at a time. -/
theorem wpIn_region_planR {id : Nat} {l : List Oper} {a : Act} {w : World} (hs ts : List Nat) (hm : P.follows .mixedOrders = true) (hB : planInBR l hs ts = true)
    (h : wpStill P l.toArray w.drew (fun a' => wpListIn (Fence.wide.inRound l0) n P l.toArray Q (pick l ts) a' w.drew) (pick l hs) a) : (Code.region id l.toArray true).wpIn (Fence.wide.inRound l0) n P Q a w := by
  simp only [planInBR, Bool.and_eq_true, decide_eq_true_eq] at hB
  obtain ⟨⟨⟨⟨hnd, hsel⟩, hlen⟩, hw⟩, hrest⟩ := hB
  cases h2 : headB .any l.toArray hs (Array.replicate l.length false) with
  | none => rw [h2] at hrest; cases hrest
  | some l2 =>
    rw [h2] at hrest
    simp only [Bool.and_eq_true] at hrest
    have hc0 : Closed .any l.toArray (Array.replicate l.length false) := fun j oj _ hl => by rw [getD_replicate_false] at hl; cases hl
    refine wpIn_region_any hm ?_
    have key := wpAnyG_lex (P := P) (w := w.drew) (Lq := fun a' => wpListIn (Fence.wide.inRound l0) n P l.toArray Q (pick l ts) a' w.drew) hsel hw (fun j hj => by simpa using List.all_eq_true.1 hrest.1 j hj) hs _ a (fun k hk => hk) hc0 h2 h
    have k2 := wpAnyIn_of_GR (Q := Q) (l0 := l0) (show noDef l.toArray.toList = true from hnd) (n := n) (g := ts.length) (fun listed' a' hL => by
      obtain ⟨rfl, hL⟩ := hL
      exact wpAnyIn_tailR ts _ _ _ hrest.2 hL) hs.length _ _ key
    have hsz : l.toArray.size = hs.length + ts.length := by simp; omega
    rw [hlen] at k2
    have hsz2 : l.toArray.size = l.length := by simp
    rw [hsz2]
    exact k2
/-- wpStill behind a wall: nothing unfolds it by itself (a guarded operation at the head would be reckoned out). -/
structure WS (P : Program) (ops : Array Oper) (w : World) (K : Act → Prop) (l : List Oper) (a : Act) : Prop where
  out : wpStill P ops w K l a
theorem ws_nil {w : World} {K : Act → Prop} {a : Act} (h : K a) : WS P ops w K [] a := ⟨h⟩
theorem ws_val {w : World} {K : Act → Prop} {a : Act} {o : Oper} {rest : List Oper} (v : Value) (hg : o.guard = none) (h : (execOp a.eval o).run P w = .ok (.value v) w) (hK : WS P ops w K rest (a.put o.dst v)) : WS P ops w K (o :: rest) a := by
  refine ⟨?_⟩
  unfold wpStill
  rw [if_pos (by simp [Region.wanted, hg])]
  unfold Oper.still
  rw [h, Oper.stillUpon_value]
  exact hK.out
theorem ws_want {w : World} {K : Act → Prop} {a : Act} {o : Oper} {rest : List Oper} (v : Value) (hw : Region.wanted o (yielded ops a.tmps) = true) (h : (execOp a.eval o).run P w = .ok (.value v) w) (hK : WS P ops w K rest (a.put o.dst v)) : WS P ops w K (o :: rest) a := by
  refine ⟨?_⟩
  unfold wpStill
  rw [if_pos hw]
  unfold Oper.still
  rw [h, Oper.stillUpon_value]
  exact hK.out
theorem ws_skip {w : World} {K : Act → Prop} {a : Act} {o : Oper} {rest : List Oper} (hw : Region.wanted o (yielded ops a.tmps) = false) (hK : WS P ops w K rest (a.put o.dst undef)) : WS P ops w K (o :: rest) a := by
  refine ⟨?_⟩
  unfold wpStill
  rw [if_neg (by rw [hw]; decide)]
  exact hK.out
theorem wpIn_region_wsR {id : Nat} {l : List Oper} {a : Act} {w : World} (hs ts : List Nat) (hm : P.follows .mixedOrders = true) (hB : planInBR l hs ts = true)
    (h : WS P l.toArray w.drew (fun a' => wpListIn (Fence.wide.inRound l0) n P l.toArray Q (pick l ts) a' w.drew) (pick l hs) a) : (Code.region id l.toArray true).wpIn (Fence.wide.inRound l0) n P Q a w := wpIn_region_planR hs ts hm hB h.out
end
end Go.Proofs.YtebdkmlganalaaaGreatDoor
