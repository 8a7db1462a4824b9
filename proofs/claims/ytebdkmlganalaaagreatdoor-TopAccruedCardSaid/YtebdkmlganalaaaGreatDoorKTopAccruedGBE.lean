/- A region that draws its order, by what each operation relies on and what it leaves: no order is looked at. Over any program. The law of XZa, laid out: what each operation's value is known by, in a list. Over any program. -/
import Derived.Test.YtebdkmlganalaaaGreatDoorKTopAccruedPlan
namespace Go.Proofs.YtebdkmlganalaaaGreatDoor
open Go.RowKit

def upd (u : Nat → Value) (i : Nat) (v : Value) : Nat → Value := fun j => if j = i then v else u j
theorem upd_same (u : Nat → Value) (i : Nat) (v : Value) : upd u i v i = v := if_pos rfl
theorem upd_ne (u : Nat → Value) {i j : Nat} (v : Value) (h : j ≠ i) : upd u i v j = u j := if_neg h
section
variable {P : Program} {Q : Exit → Act → World → Prop}
/-- An order in which all come up. -/
def topoB (ops : Array Oper) : List Nat → Array Bool → Bool
  | [], listed => listed.all id
  | t :: ts, listed => ((ops[t]?).map (·.after.all fun e => !Region.binds .any e || listed.getD e.on false)).getD false && topoB ops ts (listed.setIfInBounds t true)
theorem getD_lt {a : Array Bool} {j : Nat} (h : a.getD j false = true) : j < a.size := by
  rcases Nat.lt_or_ge j a.size with h' | h'
  · exact h'
  · rw [Array.getD_eq_getD_getElem?, Array.getElem?_eq_none h'] at h
    cases h
theorem getD_or {a : Array Bool} {j : Nat} (hj : j < a.size) : a.getD j true = a.getD j false := by
  rw [Array.getD_eq_getD_getElem?, Array.getD_eq_getD_getElem?, Array.getElem?_eq_getElem hj]
  rfl
theorem topo_all {ops : Array Oper} {listed : Array Bool} (hz : listed.size = ops.size) (hr : Region.ready .any ops listed = []) : ∀ (ts : List Nat) (l0 : Array Bool), l0.size = listed.size → (∀ j, l0.getD j false = true → listed.getD j false = true) → topoB ops ts l0 = true → ∀ j, j < listed.size → listed.getD j false = true
  | [], l0, hs, hle, h, j, hj => by
    refine hle j ?_
    have h' : l0.all id = true := h
    rw [Array.all_eq_true] at h'
    have := h' j (by omega)
    rw [Array.getD_eq_getD_getElem?, Array.getElem?_eq_getElem (by omega)]
    exact this
  | t :: ts, l0, hs, hle, h, j, hj => by
    unfold topoB at h
    rw [Bool.and_eq_true] at h
    refine topo_all hz hr ts _ (by rw [Array.size_setIfInBounds]; exact hs) (fun k hk => ?_) h.2 j hj
    by_cases hkt : t = k
    · subst hkt
      cases hl : listed.getD t false with
      | true => rfl
      | false =>
        exfalso
        cases ho : ops[t]? with
        | none => rw [ho] at h; cases h.1
        | some o =>
          rw [ho] at h
          have h1 : (o.after.all fun e => !Region.binds .any e || l0.getD e.on false) = true := h.1
          have hlt : t < ops.size := (Array.getElem?_eq_some_iff.1 ho).1
          have hmem : t ∈ Region.ready .any ops listed := mem_ready.2 ⟨by rw [getD_or (by omega)]; exact hl, o, ho, fun e he hb => by
            have h2 := Array.all_eq_true_iff_forall_mem.1 h1 e he
            rw [hb] at h2
            exact hle _ (by simpa using h2)⟩
          rw [hr] at hmem
          cases hmem
    · rw [getD_set_ne false hkt] at hk
      exact hle k hk
theorem wpAny_rg {l : List Oper} (F : (Nat → Value) → Act) (u0 : Nat → Value) (S : World → Prop) (R : World → World → Prop) (Φ : Nat → (Nat → Value) → World → Prop) (ts : List Nat)
    (hB : topoB l.toArray ts (Array.replicate l.length false) = true) (hR : ∀ i u w w', R w w' → Φ i u w → Φ i u w') (hdep : ∀ i u u' w, (∀ k, (k = i ∨ reachB .any l.toArray l.length i k = true) → u' k = u k) → Φ i u w → Φ i u' w)
    (hstep : ∀ i o u w, l[i]? = some o → S w → (∀ e ∈ o.after, Region.binds .any e = true → Φ e.on u w) → (∀ j, (j = i ∨ reachB .any l.toArray l.length j i = true) → u j = u0 j) →
      wpList P l.toArray (Exit.then (fun a' w' => ∃ v, a' = F (upd u i v) ∧ Φ i (upd u i v) w' ∧ S w' ∧ R w w') Q) [o] (F u) w)
    (hend : ∀ u w, S w → (∀ i, i < l.length → Φ i u w) → Q .normal (F u) w) :
    ∀ (n : Nat) (listed : Array Bool) (u : Nat → Value) (w : World), listed.size = l.length → listed.toList.count false = n → Closed .any l.toArray listed → S w → (∀ i, listed.getD i false = true → Φ i u w) → (∀ i, listed.getD i false = false → u i = u0 i) → wpAny P .any l.toArray Q n listed (F u) w := by
  have hfin : ∀ (listed : Array Bool) (u : Nat → Value) (w : World), listed.size = l.length → S w → (∀ i, listed.getD i false = true → Φ i u w) → Region.ready .any l.toArray listed = [] → Q .normal (F u) w := fun listed u w hz hS hΦ hr =>
    hend u w hS fun i hi => hΦ i (topo_all (by simpa using hz) hr ts (Array.replicate l.length false) (by simpa using hz.symm) (fun j hj => by rw [getD_replicate_false] at hj; cases hj) hB i (by omega))
  intro n
  induction n with
  | zero =>
    intro listed u w hz hn hc hS hΦ hu
    have hall : ∀ j, j < listed.size → listed.getD j false = true := fun j hj => by
      have h1 := List.count_eq_zero.1 hn
      cases hl : listed.getD j false with
      | true => rfl
      | false =>
        exfalso
        refine h1 ?_
        rw [Array.getD_eq_getD_getElem?, Array.getElem?_eq_getElem hj] at hl
        have hl' : listed[j] = false := hl
        rw [← hl']
        exact Array.mem_toList_iff.2 (Array.getElem_mem hj)
    have hr : Region.ready .any l.toArray listed = [] := by
      cases he : Region.ready .any l.toArray listed with
      | nil => rfl
      | cons i r =>
        exfalso
        obtain ⟨h1, o, ho, _⟩ := mem_ready.1 (show i ∈ Region.ready .any l.toArray listed by rw [he]; simp)
        have hlt : i < l.toArray.size := (Array.getElem?_eq_some_iff.1 ho).1
        have hlt' : i < listed.size := by rw [hz]; simpa using hlt
        rw [getD_or hlt', hall i hlt'] at h1
        cases h1
    exact ⟨hr, hfin listed u w hz hS hΦ hr⟩
  | succ n ih =>
    intro listed u w hz hn hc hS hΦ hu
    refine ⟨hfin listed u w hz hS hΦ, fun i hi => ?_⟩
    obtain ⟨hun, o, ho, hall⟩ := mem_ready.1 hi
    have hlt : i < listed.size := by
      have : i < l.toArray.size := (Array.getElem?_eq_some_iff.1 ho).1
      rw [hz]; simpa using this
    rw [getD_or hlt] at hun
    have hol : l[i]? = some o := by simpa using ho
    refine wpOp_mono ?_ (wpOp_of_one ho (hstep i o u w hol hS (fun e he hb => hΦ _ (hall e he hb)) (fun j hj => hu j ?_)))
    · rintro a' w' ⟨v, rfl, h1, h2, h3⟩
      refine ih (listed.setIfInBounds i true) (upd u i v) w' (by rw [Array.size_setIfInBounds]; exact hz) ?_ (hc.set hi) h2 (fun j hj => ?_) (fun j hj => ?_)
      · rw [Array.toList_setIfInBounds, List.count_set (by simpa using hlt), hn]
        have hl' : listed[i] = false := by
          rw [Array.getD_eq_getD_getElem?, Array.getElem?_eq_getElem hlt] at hun
          exact hun
        have : listed.toList[i]'(by simpa using hlt) = false := by simpa using hl'
        rw [this]
        simp
      · by_cases hij : j = i
        · subst hij
          exact h1
        · rw [getD_set_ne false (Ne.symm hij)] at hj
          refine hdep j u _ w' (fun k hk => ?_) (hR _ _ _ _ h3 (hΦ j hj))
          refine upd_ne _ _ ?_
          rintro rfl
          rcases hk with rfl | hk
          · exact hij rfl
          · rw [(reach_not hc hun _ _ hk).1] at hj
            cases hj
      · by_cases hij : j = i
        · subst hij
          have : (listed.setIfInBounds j true).getD j false = true := by
            rw [Array.getD_eq_getD_getElem?, Array.getElem?_setIfInBounds]
            simp [hlt]
          rw [this] at hj
          cases hj
        · rw [upd_ne _ _ hij]
          rw [getD_set_ne false (Ne.symm hij)] at hj
          exact hu j hj
    · rcases hj with rfl | hj
      · exact hun
      · exact (reach_not hc hun _ _ hj).1
/-- A REGION THAT DRAWS ITS ORDER: a value in each slot, each operation by itself. -/
theorem wp_region_rg {id : Nat} {l : List Oper} {a : Act} {w : World} (F : (Nat → Value) → Act) (u0 : Nat → Value) (S : World → Prop) (R : World → World → Prop) (Φ : Nat → (Nat → Value) → World → Prop) (ts : List Nat)
    (hm : P.follows .mixedOrders = true) (hB : topoB l.toArray ts (Array.replicate l.length false) = true) (ha : F u0 = a) (hS : S w.drew) (hR : ∀ i u w w', R w w' → Φ i u w → Φ i u w') (hdep : ∀ i u u' w, (∀ k, (k = i ∨ reachB .any l.toArray l.length i k = true) → u' k = u k) → Φ i u w → Φ i u' w)
    (hstep : ∀ i o u w, l[i]? = some o → S w → (∀ e ∈ o.after, Region.binds .any e = true → Φ e.on u w) → (∀ j, (j = i ∨ reachB .any l.toArray l.length j i = true) → u j = u0 j) →
      wpList P l.toArray (Exit.then (fun a' w' => ∃ v, a' = F (upd u i v) ∧ Φ i (upd u i v) w' ∧ S w' ∧ R w w') Q) [o] (F u) w)
    (hend : ∀ u w, S w → (∀ i, i < l.length → Φ i u w) → Q .normal (F u) w) : (Code.region id l.toArray true).wp P Q a w := by
  subst ha
  refine wp_region_any hm ?_
  have hsz : l.toArray.size = l.length := by simp
  rw [hsz]
  exact wpAny_rg F u0 S R Φ ts hB hR hdep hstep hend l.length (Array.replicate l.length false) u0 w.drew (by simp) (by simp) (fun j oj _ hl => by rw [getD_replicate_false] at hl; cases hl) hS (fun i hi => by rw [getD_replicate_false] at hi; cases hi) (fun _ _ => rfl)
end
end Go.Proofs.YtebdkmlganalaaaGreatDoor

namespace Go.Proofs.YtebdkmlganalaaaGreatDoor
open Go.RowKit

def putAll : List (Option Tmp) → Nat → (Nat → Value) → Act → Act
  | [], _, _, a => a
  | d :: ds, i, u, a => putAll ds (i + 1) u (a.put d (u i))
def getAll (l : List Oper) (a : Act) (i : Nat) : Value :=
  match l[i]? with
  | some o => match o.dst with
    | some d => a.tmps.getD d undef
    | none => undef
  | none => undef
def ownAt (a : Act) : Option Tmp → Value
  | some d => a.tmps.getD d undef
  | none => undef
theorem put_self (a : Act) (d : Option Tmp) : a.put d (ownAt a d) = a := by
  cases d with
  | none => rfl
  | some d =>
    obtain ⟨t, ds⟩ := a
    have e : t.setIfInBounds d (t.getD d undef) = t := by
      apply Array.ext_getElem?
      intro i
      rw [Array.getElem?_setIfInBounds]
      split
      · rename_i h
        subst h
        split
        · rename_i h
          rw [Array.getElem?_eq_getElem h]
          rfl
        · rename_i h
          rw [Array.getElem?_eq_none (by omega)]
      · rfl
    show (⟨t.setIfInBounds d (t.getD d undef), ds⟩ : Act) = ⟨t, ds⟩
    rw [e]
theorem putAll_self : ∀ (ds : List (Option Tmp)) (i : Nat) (u : Nat → Value) (a : Act), (∀ k d, ds[k]? = some d → u (i + k) = ownAt a d) → putAll ds i u a = a
  | [], _, _, _, _ => rfl
  | d :: ds, i, u, a, h => by
    show putAll ds (i + 1) u (a.put d (u i)) = a
    have h0 : u i = ownAt a d := h 0 d rfl
    rw [h0, put_self]
    exact putAll_self ds (i + 1) u a fun k e hk => by
      have := h (k + 1) e (by simpa using hk)
      rw [show i + 1 + k = i + (k + 1) by omega]
      exact this
theorem putAll_own (l : List Oper) (a : Act) : putAll (l.map (·.dst)) 0 (getAll l a) a = a := putAll_self _ 0 _ a fun k d hk => by
  rw [List.getElem?_map] at hk
  obtain ⟨o, ho, rfl⟩ := Option.map_eq_some_iff.1 hk
  unfold getAll
  rw [Nat.zero_add, ho]
  show (match o.dst with | some d => a.tmps.getD d undef | none => undef) = _
  cases o.dst <;> rfl
/-- What a value is known by: the value itself, and the value of one operation that came before. -/
structure Phi where
  d : Option Nat
  p : Value → Value → World → Prop
def phiAt (ps : List Phi) (i : Nat) (u : Nat → Value) (w : World) : Prop :=
  match ps[i]? with
  | some φ => φ.p (u (φ.d.getD i)) (u i) w
  | none => True
def depB (ops : Array Oper) (n : Nat) (ps : List Phi) : Bool := (List.range ps.length).all fun i => match ps[i]? with
  | some φ => (match φ.d with | some d => reachB .any ops n i d | none => true)
  | none => true
theorem phi_dep {ops : Array Oper} {n : Nat} {ps : List Phi} (hB : depB ops n ps = true) (i : Nat) (u u' : Nat → Value) (w : World) (h : ∀ k, (k = i ∨ reachB .any ops n i k = true) → u' k = u k) (hp : phiAt ps i u w) : phiAt ps i u' w := by
  unfold phiAt at hp ⊢
  cases hi : ps[i]? with
  | none => trivial
  | some φ =>
    rw [hi] at hp
    have hl : i < ps.length := (List.getElem?_eq_some_iff.1 hi).1
    have h1 := List.all_eq_true.1 hB i (List.mem_range.2 hl)
    rw [hi] at h1
    show φ.p (u' (φ.d.getD i)) (u' i) w
    rw [h i (.inl rfl)]
    cases hd : φ.d with
    | none =>
      have hp' : φ.p (u (φ.d.getD i)) (u i) w := hp
      rw [hd] at hp'
      rw [show (none : Option Nat).getD i = i from rfl, h i (.inl rfl)]
      exact hp'
    | some d =>
      have hp' : φ.p (u (φ.d.getD i)) (u i) w := hp
      rw [hd] at hp'
      simp only [hd] at h1
      rw [show (some d : Option Nat).getD i = d from rfl, h d (.inr h1)]
      exact hp'
def depsP (ps : List Phi) (u : Nat → Value) (w : World) : List Edge → Prop
  | [] => True
  | e :: r => (Region.binds .any e = true → phiAt ps e.on u w) ∧ depsP ps u w r
theorem depsP_of {ps : List Phi} {u : Nat → Value} {w : World} : ∀ (l : List Edge), (∀ e ∈ l, Region.binds .any e = true → phiAt ps e.on u w) → depsP ps u w l
  | [], _ => trivial
  | e :: r, h => ⟨h e List.mem_cons_self, depsP_of r fun x hx => h x (List.mem_cons_of_mem _ hx)⟩
section
variable (P : Program) (Q : Exit → Act → World → Prop) (l : List Oper) (a : Act) (F : (Nat → Value) → Act) (S : World → Prop) (R : World → World → Prop) (ps : List Phi)
def RgStep (i : Nat) (o : Oper) : Prop := ∀ u w, S w → depsP ps u w o.after.toList → (∀ j, (j = i ∨ reachB .any l.toArray l.length j i = true) → u j = getAll l a j) →
  wpList P l.toArray (Exit.then (fun a' w' => ∃ v, a' = F (upd u i v) ∧ phiAt ps i (upd u i v) w' ∧ S w' ∧ R w w') Q) [o] (F u) w
def RgAll : List Oper → Nat → Prop
  | [], _ => True
  | o :: r, i => RgStep P Q l a F S R ps i o ∧ RgAll r (i + 1)
def MonoAll : List Phi → Prop
  | [] => True
  | p :: r => (∀ x v w w', R w w' → p.p x v w → p.p x v w') ∧ MonoAll r
end
theorem rgAll_at {P : Program} {Q : Exit → Act → World → Prop} {l : List Oper} {a : Act} {F : (Nat → Value) → Act} {S : World → Prop} {R : World → World → Prop} {ps : List Phi} : ∀ (r : List Oper) (k : Nat), RgAll P Q l a F S R ps r k → ∀ i o, r[i]? = some o → RgStep P Q l a F S R ps (k + i) o
  | [], _, _, i, o, h => by simp at h
  | x :: r, k, hh, 0, o, h => by
    simp at h
    subst h
    exact hh.1
  | x :: r, k, hh, i + 1, o, h => by
    have := rgAll_at r (k + 1) hh.2 i o (by simpa using h)
    rw [show k + (i + 1) = k + 1 + i by omega]
    exact this
theorem monoAll_at {R : World → World → Prop} : ∀ (ps : List Phi), MonoAll R ps → ∀ (i : Nat) (φ : Phi), ps[i]? = some φ → ∀ x v w w', R w w' → φ.p x v w → φ.p x v w'
  | [], _, i, φ, h, _, _, _, _, _, _ => by simp at h
  | p :: r, h, 0, φ, hi, x, v, w, w', hr, hp => by
    simp at hi
    subst hi
    exact h.1 x v w w' hr hp
  | p :: r, h, i + 1, φ, hi, x, v, w, w', hr, hp => monoAll_at r h.2 i φ (by simpa using hi) x v w w' hr hp
theorem phi_mono {R : World → World → Prop} {ps : List Phi} (h : MonoAll R ps) (i : Nat) (u : Nat → Value) (w w' : World) (hr : R w w') (hp : phiAt ps i u w) : phiAt ps i u w' := by
  unfold phiAt at hp ⊢
  cases hi : ps[i]? with
  | none => trivial
  | some φ =>
    rw [hi] at hp
    exact monoAll_at ps h i φ hi _ _ _ _ hr hp
/-- A REGION THAT DRAWS ITS ORDER: each operation by itself. -/
theorem wp_region_rg2 {P : Program} {Q : Exit → Act → World → Prop} {id : Nat} {l : List Oper} {a : Act} {w : World} (S : World → Prop) (R : World → World → Prop) (ps : List Phi) (ts : List Nat)
    (hm : P.follows .mixedOrders = true) (hB : topoB l.toArray ts (Array.replicate l.length false) = true) (hD : depB l.toArray l.length ps = true) (hS : S w.drew) (hR : MonoAll R ps)
    (h : ∀ F : (Nat → Value) → Act, (∀ u, F u = putAll (l.map (·.dst)) 0 u a) → (∀ Q', RgAll P Q' l a F S R ps l 0) ∧ ∀ u w, S w → (∀ i, i < l.length → phiAt ps i u w) → Q .normal (F u) w) : (Code.region id l.toArray true).wp P Q a w := by
  obtain ⟨h1, h2⟩ := h (fun u => putAll (l.map (·.dst)) 0 u a) (fun _ => rfl)
  refine wp_region_rg (fun u => putAll (l.map (·.dst)) 0 u a) (getAll l a) S R (phiAt ps) ts hm hB (putAll_own l a) hS (phi_mono hR) (phi_dep hD) (fun i o u w ho hS hd hp => ?_) h2
  have := rgAll_at l 0 (h1 Q) i o ho
  rw [Nat.zero_add] at this
  exact this u w hS (depsP_of _ fun e he => hd e (by simpa using he)) hp
/-! What a value is known by. -/
def isV (c : Value) : Phi := ⟨none, fun _ v _ => v = c⟩
def anyV : Phi := ⟨none, fun _ _ _ => True⟩
def rowV (base : Nat) (t : TypeId) (cs : Array Value) (n c : Nat) : Phi := ⟨none, fun _ v w => ∃ g, v = .slice (some ⟨g, 0, none⟩) n c ∧ base ≤ g ∧ Blk w g t cs⟩
def boxV (base : Nat) (t : TypeId) (cs : Array Value) : Phi := ⟨none, fun _ v w => ∃ g, v = .pointer (some ⟨g, 0, none⟩) ∧ base ≤ g ∧ Blk w g t cs⟩
def RB (w w' : World) : Prop := Below w.heap.size w w'
theorem isV_mono (c : Value) {R : World → World → Prop} : ∀ x v w w', R w w' → (isV c).p x v w → (isV c).p x v w' := fun _ _ _ _ _ h => h
theorem anyV_mono {R : World → World → Prop} : ∀ x v w w', R w w' → anyV.p x v w → anyV.p x v w' := fun _ _ _ _ _ h => h
theorem rowV_mono (base : Nat) (t : TypeId) (cs : Array Value) (n c : Nat) : ∀ x v w w', RB w w' → (rowV base t cs n c).p x v w → (rowV base t cs n c).p x v w' := fun _ _ _ _ hr ⟨g, h1, h2, h3⟩ => ⟨g, h1, h2, h3.below hr h3.lt⟩
theorem boxV_mono (base : Nat) (t : TypeId) (cs : Array Value) : ∀ x v w w', RB w w' → (boxV base t cs).p x v w → (boxV base t cs).p x v w' := fun _ _ _ _ hr ⟨g, h1, h2, h3⟩ => ⟨g, h1, h2, h3.below hr h3.lt⟩
end Go.Proofs.YtebdkmlganalaaaGreatDoor
