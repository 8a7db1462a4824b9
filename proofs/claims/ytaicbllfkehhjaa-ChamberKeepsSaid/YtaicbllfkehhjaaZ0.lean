/- Part 0 of what the laws of this seat stand on: Base, Plan, Bu, Hb, Ea. -/
import Derived.WalkKit
import Derived.Outline
import Derived.WalkSpells
import Derived.WalkLawsBesides
import Derived.Below
import Derived.Laws.OwnMore
import Derived.Deep.AppendLies
import Derived.Deep.Draws
import Derived.Laws.Rows
import Derived.Lib.Hide
import Derived.StillTailTactics
import Derived.Deep.QuietTactic
import Derived.BigQuiet
import Derived.OrdersHeld
import Derived.Maps.AppendAt
import Derived.Room.AppendOnto

/- Small words on memory, without any program: a slice that reads as a list, a block that is known whole, a call that has turned only some blocks. -/
namespace Go.Proofs.Ytaicbllfkehhjaa
open Go.RowKit

theorem block_of_add (a : Addr) (n : Nat) : (a.add n).block = a.block := by unfold Addr.add; split <;> rfl
theorem add_of_add (a : Addr) (i j : Nat) : (a.add i).add j = a.add (i + j) := by
  unfold Addr.add
  by_cases hi : i = 0 <;> by_cases hj : j = 0 <;> simp [hi, hj, Nat.add_assoc]

/-- Block g is known whole. -/
def Blk (w : World) (g : Nat) (t : TypeId) (cs : Array Value) : Prop := w.heap[g]? = some (.cells cs t (0, 0))

section
variable {w w' : World} {g : Nat} {t : TypeId} {cs : Array Value}
theorem Blk.lt (h : Blk w g t cs) : g < w.heap.size := by
  rcases Nat.lt_or_ge g w.heap.size with hlt | hge
  · exact hlt
  · unfold Blk at h; rw [Array.getElem?_eq_none hge] at h; cases h
theorem Blk.cell (h : Blk w g t cs) (i : Nat) : w.cell? ⟨g, i, none⟩ = cs[i]? := cell_of_row w g i cs t (0, 0) h
theorem Blk.frozen (h : Blk w g t cs) (i : Nat) : w.frozen? ⟨g, i, none⟩ = false := by
  unfold Blk at h
  simp [World.frozen?, h]
theorem Blk.all (h : Blk w g t cs) : (∀ i, w.cell? ⟨g, i, none⟩ = cs[i]?) ∧ (∀ i, w.frozen? ⟨g, i, none⟩ = false) ∧ g < w.heap.size := ⟨h.cell, h.frozen, h.lt⟩
theorem Blk.new (w : World) (t : TypeId) (cs : Array Value) : Blk (w.alloc (.cells cs t)) w.heap.size t cs := heap_alloc_new w _
theorem Blk.new1 (w : World) (o : Obj) (t : TypeId) (cs : Array Value) : Blk ((w.alloc o).alloc (.cells cs t)) (w.heap.size + 1) t cs := by
  have := Blk.new (w.alloc o) t cs
  have e : (w.alloc o).heap.size = w.heap.size + 1 := by simp
  rwa [e] at this
theorem Blk.new2 (w : World) (o o' : Obj) (t : TypeId) (cs : Array Value) : Blk (((w.alloc o).alloc o').alloc (.cells cs t)) (w.heap.size + 1 + 1) t cs := by
  have := Blk.new ((w.alloc o).alloc o') t cs
  have e : ((w.alloc o).alloc o').heap.size = w.heap.size + 1 + 1 := by simp
  rwa [e] at this
theorem Blk.drew (h : Blk w g t cs) : Blk w.drew g t cs := h
theorem Blk.drewN (h : Blk w g t cs) (n : Nat) : Blk (w.drewN n) g t cs := h
theorem Blk.alloc (h : Blk w g t cs) (o : Obj) : Blk (w.alloc o) g t cs := (Below.heap_alloc w o g h.lt).trans h
theorem Blk.set_ (h : Blk w g t cs) (i : Nat) (u : Value) : Blk (w.setCell ⟨g, i, none⟩ u) g t (cs.setIfInBounds i u) := by
  unfold Blk at h ⊢
  simp [World.setCell, Array.getElem?_modify, h]
theorem Blk.far (h : Blk w g t cs) {p : Addr} (hp : g ≠ p.block) (u : Value) : Blk (w.setCell p u) g t cs := (Below.heap_setCell w p u g hp).trans h
theorem Blk.below {B : Nat} (h : Blk w g t cs) (hb : Below B w w') (hg : g < B) : Blk w' g t cs := (hb.block g hg).trans h
theorem Blk.grown {row : Option Nat} (h : Blk w g t cs) (hb : w.grownBy w' row) (hg : some g ≠ row) : Blk w' g t cs := (hb.block g h.lt hg).trans h
theorem Blk.ne_ {g' : Nat} {t' : TypeId} {cs' : Array Value} (h : Blk w g t cs) (h' : Blk w g' t' cs') (hne : t ≠ t') : g ≠ g' := by
  rintro rfl
  unfold Blk at h h'
  rw [h] at h'
  injection h' with h'
  injection h' with _ ht
  exact hne ht
end

/-- A set of blocks. -/
abbrev Foot := Nat → Prop

/-- Of the old blocks only those of F have turned. -/
structure Only (F : Foot) (w w' : World) : Prop where
  os : w'.os = w.os
  tape : w'.tape = w.tape
  output : w'.output = w.output
  size : w.heap.size ≤ w'.heap.size
  block : ∀ i, i < w.heap.size → ¬ F i → w'.heap[i]? = w.heap[i]?

namespace Only
variable {F G : Foot} {a w w' w'' : World}
theorem refl (F : Foot) (w : World) : Only F w w := ⟨rfl, rfl, rfl, Nat.le_refl _, fun _ _ _ => rfl⟩
theorem trans (h : Only F a w) (k : Only G w w') (hG : ∀ i, G i → F i ∨ a.heap.size ≤ i) : Only F a w' :=
  ⟨k.os.trans h.os, k.tape.trans h.tape, k.output.trans h.output, Nat.le_trans h.size k.size,
   fun i hi hn => (k.block i (Nat.lt_of_lt_of_le hi h.size) (fun hg => by rcases hG i hg with h1 | h1; exact hn h1; omega)).trans (h.block i hi hn)⟩
theorem mono (h : Only F w w') (hG : ∀ i, F i → G i) : Only G w w' := ⟨h.os, h.tape, h.output, h.size, fun i hi hn => h.block i hi (fun hf => hn (hG i hf))⟩
theorem of_below (h : Below w.heap.size w w') (F : Foot) : Only F w w' := ⟨h.os, h.tape, h.output, h.size, fun i hi _ => h.block i hi⟩
theorem below (h : Only F w w') {B : Nat} (hB : B ≤ w.heap.size) (hF : ∀ i, F i → B ≤ i) : Below B w w' :=
  ⟨h.os, h.tape, h.output, h.size, fun i hi => h.block i (by omega) (fun hf => by have := hF i hf; omega)⟩
theorem drew (h : Only F a w) : Only F a w.drew := ⟨h.os, h.tape, h.output, h.size, h.block⟩
theorem drewN (h : Only F a w) (n : Nat) : Only F a (w.drewN n) := ⟨h.os, h.tape, h.output, h.size, h.block⟩
theorem alloc (h : Only F a w) (o : Obj) : Only F a (w.alloc o) :=
  ⟨h.os, h.tape, h.output, Nat.le_trans h.size (by simp), fun i hi hn => (Below.heap_alloc w o i (Nat.lt_of_lt_of_le hi h.size)).trans (h.block i hi hn)⟩
theorem setCell (h : Only F a w) {p : Addr} (hp : F p.block ∨ a.heap.size ≤ p.block) (u : Value) : Only F a (w.setCell p u) :=
  ⟨h.os, h.tape, h.output, by simpa [World.setCell] using h.size, fun i hi hn => (Below.heap_setCell w p u i (by
    rintro rfl
    rcases hp with hp | hp
    · exact hn hp
    · omega)).trans (h.block i hi hn)⟩
theorem blk {g : Nat} {t : TypeId} {cs : Array Value} (h : Only F w w') (hb : Blk w g t cs) (hg : ¬ F g) : Blk w' g t cs := (h.block g hb.lt hg).trans hb
theorem owns {base : Nat} {e : TypeId} {size : Nat} {v : Value} {n : Nat} {xs : List Value} (h : Only F w w') (ho : w.ownsRow base e size v n xs) (hn : ∀ g, v.ownBlock = some g → ¬ F g) : w'.ownsRow base e size v n xs := by
  refine ⟨ho.1, ?_⟩
  rcases ho.2 with h0 | ⟨g, cap, cur, hv, hb, hh, hr⟩
  · exact .inl h0
  · refine .inr ⟨g, cap, cur, hv, hb, ?_, hr⟩
    have hlt : g < w.heap.size := by
      rcases Nat.lt_or_ge g w.heap.size with hlt | hge
      · exact hlt
      · rw [Array.getElem?_eq_none hge] at hh; cases hh
    exact (h.block g hlt (hn g (by rw [hv]; rfl))).trans hh
theorem undrew (h : Only F w.drew w') : Only F w w' := ⟨h.os, h.tape, h.output, h.size, h.block⟩
theorem undrewN {n : Nat} (h : Only F (w.drewN n) w') : Only F w w' := ⟨h.os, h.tape, h.output, h.size, h.block⟩
theorem of_grown {row : Option Nat} (h : w.grownBy w' row) : Only (fun i => row = some i) w w' := ⟨h.os, h.tape, h.output, h.size, fun i hi hn => h.block i hi (fun e => hn e.symm)⟩
end Only
theorem own_blk_ne {w : World} {g : Nat} {t : TypeId} {cs : Array Value} {base : Nat} {e : TypeId} {size n : Nat} {v : Value} {xs : List Value} (h : w.ownsRow base e size v n xs) (hg : Blk w g t cs) (hne : e ≠ t) : v.ownBlock ≠ some g := by
  rcases h.2 with ⟨rfl, _⟩ | ⟨g', cap, cur, rfl, _, hh, _⟩
  · simp [Value.ownBlock]
  · intro he
    have : g' = g := by simpa [Value.ownBlock] using he
    subst this
    exact Blk.ne_ (t := e) hh hg hne rfl

theorem below_alloc {w w1 : World} {o : Obj} (hb : Below (w.alloc o).heap.size (w.alloc o) w1) : Below w.heap.size w w1 :=
  ((Below.refl _ _).alloc (Nat.le_refl _) _).trans (hb.mono (by simp))
theorem below_drew {w w1 : World} (hb : Below w.heap.size w.drew w1) : Below w.heap.size w w1 := ⟨hb.os, hb.tape, hb.output, hb.size, hb.block⟩

/-- A slice value whose elements are the cells xs ('size' cells each), read out of blocks of F. -/
def Reads (w : World) (F : Foot) (size : Nat) (A : Option Addr) (n : Nat) (xs : List Value) : Prop :=
  xs.length = n * size ∧ (0 < n → ∃ ad, A = some ad ∧ F ad.block ∧ ad.block < w.heap.size ∧ ∀ j u, xs[j]? = some u → w.cell? (ad.add j) = some u)

end Go.Proofs.Ytaicbllfkehhjaa

/- A region that draws its order, walked by a plan: some moves first, then operations that only read, in the order of the text, then operations that come up one at a time. Over any program. -/
namespace Go.Proofs.Ytaicbllfkehhjaa
open Go.RowKit

section
variable {P : Program} {ops : Array Oper} {md : Region.Mode} {Q : Exit → Act → World → Prop} {w : World}

/-- Operation t waits for operation g, through others if need be. -/
def reachB (md : Region.Mode) (ops : Array Oper) : Nat → Nat → Nat → Bool
  | 0, _, _ => false
  | f + 1, t, g => match ops[t]? with
    | some o => o.after.any fun e => Region.binds md e && (e.on == g || reachB md ops f e.on g)
    | none => false

def Closed (md : Region.Mode) (ops : Array Oper) (listed : Array Bool) : Prop :=
  ∀ j oj, ops[j]? = some oj → listed.getD j false = true → ∀ e ∈ oj.after, Region.binds md e = true → listed.getD e.on false = true

theorem reach_not {listed : Array Bool} (hc : Closed md ops listed) {g : Nat} (hg : listed.getD g false = false) :
    ∀ (f t : Nat), reachB md ops f t g = true → listed.getD t false = false ∧ t ∉ Region.ready md ops listed := by
  intro f
  induction f with
  | zero => intro t h; cases h
  | succ f ih =>
    intro t h
    unfold reachB at h
    cases ho : ops[t]? with
    | none => rw [ho] at h; cases h
    | some o =>
      rw [ho] at h
      obtain ⟨e, he, hb⟩ := Array.any_eq_true'.1 h
      simp only [Bool.and_eq_true, Bool.or_eq_true, beq_iff_eq] at hb
      have hon : listed.getD e.on false = false := by
        rcases hb.2 with h1 | h1
        · rw [h1]; exact hg
        · exact (ih e.on h1).1
      refine ⟨?_, fun hr => ?_⟩
      · cases hl : listed.getD t false with
        | false => rfl
        | true => rw [hc t o ho hl e he hb.1] at hon; cases hon
      · obtain ⟨_, o', ho', hall⟩ := mem_ready.1 hr
        have : o' = o := Option.some.inj (ho'.symm.trans ho)
        subst this
        rw [hall e he hb.1] at hon
        cases hon

theorem Closed.set {i : Nat} {listed : Array Bool} (hc : Closed md ops listed) (hi : i ∈ Region.ready md ops listed) : Closed md ops (listed.setIfInBounds i true) := by
  obtain ⟨_, oi, hoi, hall⟩ := mem_ready.1 hi
  intro j oj hoj hl e he hb
  by_cases hij : i = j
  · subst hij
    have : oj = oi := Option.some.inj (hoj.symm.trans hoi)
    subst this
    exact getD_set_true (hall e he hb)
  · rw [getD_set_ne false hij] at hl
    exact getD_set_true (hc j oj hoj hl e he hb)

/-- Each operation is listed, or of G, or waits for all of G. -/
def AllWait (md : Region.Mode) (ops : Array Oper) (G : List Nat) (listed : Array Bool) : Prop :=
  ∀ t, t ∈ Region.ready md ops listed → t ∈ G ∨ ∀ g ∈ G, listed.getD g false = true

def wpAnyG (P : Program) (md : Region.Mode) (ops : Array Oper) (w : World) (L : Array Bool → Act → Prop) : Nat → Array Bool → Act → Prop
  | 0, listed, a => L listed a
  | f + 1, listed, a => Region.ready md ops listed ≠ [] ∧ ∀ i ∈ Region.ready md ops listed, stOp P ops w i (wpAnyG P md ops w L f (listed.setIfInBounds i true)) a

theorem wpAny_of_G {g : Nat} {L : Array Bool → Act → Prop} (hL : ∀ listed a, L listed a → wpAny P md ops Q g listed a w) :
    ∀ (f : Nat) (listed : Array Bool) (a : Act), wpAnyG P md ops w L f listed a → wpAny P md ops Q (f + g) listed a w
  | 0, listed, a, h => by rw [Nat.zero_add]; exact hL _ _ h
  | f + 1, listed, a, h => by
    rw [show f + 1 + g = (f + g) + 1 by omega]
    exact ⟨fun h0 => absurd h0 h.1, fun i hi => wpOp_of_stOp (fun a' h' => wpAny_of_G hL f _ a' h') (h.2 i hi)⟩

/-- What an operation outside the group must wait for. -/
def waitB (md : Region.Mode) (ops : Array Oper) (rest : List Nat) (hs : List Nat) : Bool := rest.all fun t => hs.all fun g => reachB md ops ops.size t g

theorem wpAnyG_first {i : Nat} {oi : Oper} {v : Value} {L : Array Bool → Act → Prop} {hs rest : List Nat} (hi : ops[i]? = some oi) (hsel : ∀ (j : Nat) (o : Oper) cs b, ops[j]? = some o → o.op ≠ .select cs b)
    (hin : i ∈ hs) (hw : waitB md ops rest hs = true)
    (hdone : ∀ listed a, L listed a → ∀ j ∈ Region.ready md ops listed, j ∈ rest) :
    ∀ (f : Nat) (listed : Array Bool) (a : Act), Closed md ops listed →
      (∀ j oj, ops[j]? = some oj → j ≠ i → listed.getD j true = false → (∀ e ∈ oj.after, Region.binds md e = true → e.on ≠ i) → oi.apart ops oj = true) →
      i ∈ Region.ready md ops listed → YieldsAt P ops w oi v a →
      wpAnyG P md ops w L f (listed.setIfInBounds i true) (a.put oi.dst v) → wpAnyG P md ops w L (f + 1) listed a := by
  intro f
  induction f with
  | zero =>
    intro listed a hc _ hr hy H
    have hun := (mem_ready.1 hr).1
    refine ⟨fun h => (by rw [h] at hr; cases hr), fun j hj => ?_⟩
    by_cases hji : j = i
    · subst hji; exact hy.stOp hi H
    · have h1 := hdone _ _ H j (ready_mono hj hji)
      have h2 : reachB md ops ops.size j i = true := List.all_eq_true.1 (List.all_eq_true.1 hw j h1) i hin
      exact absurd hj (reach_not hc (getD_both hun) _ _ h2).2
  | succ f ih =>
    intro listed a hc hfree hr hy H
    have hun := (mem_ready.1 hr).1
    refine ⟨fun h => (by rw [h] at hr; cases hr), fun j hj => ?_⟩
    by_cases hji : j = i
    · subst hji; exact hy.stOp hi H
    · have h1 := H.2 j (ready_mono hj hji)
      obtain ⟨hjun, oj, hoj, hall⟩ := mem_ready.1 hj
      have hnot : ∀ e ∈ oj.after, Region.binds md e = true → e.on ≠ i := fun e he hb heq => by
        have h1 := hall e he hb
        rw [heq, getD_both hun] at h1
        cases h1
      have h2 := stOp_put hoj (hfree j oj hoj hji hjun hnot) (fun cs b => hsel i oi cs b hi) (fun cs b => hsel j oj cs b hoj) hy h1
      have hfree' : ∀ k ok, ops[k]? = some ok → k ≠ i → (listed.setIfInBounds j true).getD k true = false →
          (∀ e ∈ ok.after, Region.binds md e = true → e.on ≠ i) → oi.apart ops ok = true := fun k ok hk hki hun hno => by
        refine hfree k ok hk hki ?_ hno
        by_cases hjk : j = k
        · subst hjk; exact hjun
        · rw [getD_set_ne true hjk] at hun; exact hun
      refine stOp_mono (fun a' h3 => ih (listed.setIfInBounds j true) a' (hc.set hj) hfree' (ready_mono hr (Ne.symm hji)) h3.1 ?_) h2
      rw [Array.setIfInBounds_comm _ _ hji]
      exact h3.2

/-- Some operations of a list. -/
def pick (l : List Oper) : List Nat → List Oper
  | [] => []
  | i :: is => (l.drop i).head?.toList ++ pick l is

def headB (md : Region.Mode) (ops : Array Oper) : List Nat → Array Bool → Option (Array Bool)
  | [], listed => some listed
  | k :: ks, listed => if (Region.ready md ops listed).contains k && Region.free md ops listed k then headB md ops ks (listed.setIfInBounds k true) else none

theorem drop_head (l : List Oper) (i : Nat) : (l.drop i).head? = l[i]? := by simp [List.head?_drop]

theorem wpAnyG_lex {l : List Oper} {Lq : Act → Prop} {hs rest : List Nat} {listed2 : Array Bool} (hsel : Region.noSelect l.toArray = true) (hw : waitB md l.toArray rest hs = true)
    (hend : ∀ j ∈ Region.ready md l.toArray listed2, j ∈ rest) :
    ∀ (ks : List Nat) (listed : Array Bool) (a : Act), (∀ k ∈ ks, k ∈ hs) → Closed md l.toArray listed → headB md l.toArray ks listed = some listed2 →
    wpStill P l.toArray w Lq (pick l ks) a → wpAnyG P md l.toArray w (fun listed' a' => listed' = listed2 ∧ Lq a') ks.length listed a
  | [], listed, a, _, _, hB, h => by
    simp only [headB, Option.some.injEq] at hB
    exact ⟨hB, h⟩
  | k :: ks, listed, a, hk, hc, hB, h => by
    unfold headB at hB
    split at hB
    · rename_i hrf
      simp only [Bool.and_eq_true] at hrf
      have hr' : k ∈ Region.ready md l.toArray listed := by simpa using hrf.1
      obtain ⟨_, o, h0, _⟩ := mem_ready.1 hr'
      have hp : pick l (k :: ks) = o :: pick l ks := by
        have : l[k]? = some o := by simpa using h0
        simp [pick, this]
      rw [hp] at h
      have hst : stOp P l.toArray w k (wpStill P l.toArray w Lq (pick l ks)) a := by unfold stOp; simp only [h0]; exact h
      obtain ⟨v, hy, hK⟩ := yieldsAt_of_stOp h0 hst
      exact wpAnyG_first (hs := hs) (rest := rest) h0 (Region.noSelect_spec hsel) (hk k (by simp)) hw (fun listed' a' hL => by rw [hL.1]; exact hend) ks.length listed a hc (Region.free_spec h0 hrf.2) hr' hy
        (wpAnyG_lex hsel hw hend ks _ _ (fun k' h' => hk k' (by simp [h'])) (hc.set hr') hB hK)
    · cases hB

def isMove : Option Oper → Bool
  | some ⟨_, .move _, _, _, _, none⟩ => true
  | _ => false
theorem isMove_spec {o : Oper} (h : isMove (some o) = true) : ∃ x, o.op = .move x ∧ o.guard = none := by
  obtain ⟨d, op, ty, pos, after, guard⟩ := o
  unfold isMove at h
  split at h
  · rename_i heq
    injection heq with heq
    injection heq with _ h1 _ _ _ h2
    exact ⟨_, h1, h2⟩
  · cases h
/-- The moves that are done first. -/
def preB (md : Region.Mode) (l : List Oper) : List Nat → Array Bool → Option (Array Bool)
  | [], listed => some listed
  | k :: ks, listed => if (Region.ready md l.toArray listed).contains k && Region.free md l.toArray listed k && isMove l[k]? then preB md l ks (listed.setIfInBounds k true) else none
def putMoves (l : List Oper) : List Nat → Act → Act
  | [], a => a
  | k :: ks, a => match (l.drop k).head? with
    | some ⟨d, .move x, _, _, _, _⟩ => putMoves l ks (a.put d (a.eval x))
    | _ => putMoves l ks a

theorem wpAny_pre {l : List Oper} (hsel : Region.noSelect l.toArray = true) (hQ : ∀ c (d : Option Tmp) (v : Value) a w, Q (.panic c) (a.put d v) w → Q (.panic c) a w) {listed1 : Array Bool} {g : Nat} :
    ∀ (ks : List Nat) (listed : Array Bool) (a : Act), preB md l ks listed = some listed1 → wpAny P md l.toArray Q g listed1 (putMoves l ks a) w → wpAny P md l.toArray Q (ks.length + g) listed a w
  | [], listed, a, hB, h => by
    simp only [preB, Option.some.injEq] at hB
    subst hB
    simpa [putMoves] using h
  | k :: ks, listed, a, hB, h => by
    unfold preB at hB
    split at hB
    · rename_i hrf
      simp only [Bool.and_eq_true] at hrf
      obtain ⟨⟨hr, hf⟩, hm⟩ := hrf
      have hr' : k ∈ Region.ready md l.toArray listed := by simpa using hr
      obtain ⟨_, o, h0, _⟩ := mem_ready.1 hr'
      have h0' : l[k]? = some o := by simpa using h0
      rw [h0'] at hm
      obtain ⟨x, hop, hgd⟩ := isMove_spec hm
      rw [show (k :: ks).length + g = (ks.length + g) + 1 by simp; omega]
      refine wpAny_take h0 hsel hf hr (fun c a w => hQ c _ _ a w) (v := a.eval x) (.inl ⟨by simp [Region.wanted, hgd], fun w' => by unfold execOp; rw [hop]; rfl⟩) ?_
      refine wpAny_pre hsel hQ ks _ _ hB ?_
      have : putMoves l (k :: ks) a = putMoves l ks (a.put o.dst (a.eval x)) := by
        obtain ⟨d, op, ty, pos, after, guard⟩ := o
        simp only at hop
        subst hop
        simp [putMoves, h0']
      rw [this] at h
      exact h
    · cases hB

/-- What comes up one at a time. -/
def tailB (md : Region.Mode) (ops : Array Oper) : List Nat → Array Bool → Bool
  | [], listed => (Region.ready md ops listed).isEmpty
  | t :: ts, listed => decide (Region.ready md ops listed = [t]) && tailB md ops ts (listed.setIfInBounds t true)

theorem wpAny_tail {l : List Oper} : ∀ (ts : List Nat) (listed : Array Bool) (a : Act) (w : World), tailB md l.toArray ts listed = true → wpList P l.toArray Q (pick l ts) a w →
    wpAny P md l.toArray Q ts.length listed a w
  | [], _, _, _, hB, h => ⟨by simpa [tailB] using hB, h⟩
  | t :: ts, listed, a, w, hB, h => by
    simp only [tailB, Bool.and_eq_true, decide_eq_true_eq] at hB
    have hr' : t ∈ Region.ready md l.toArray listed := by rw [hB.1]; simp
    obtain ⟨_, o, h0, _⟩ := mem_ready.1 hr'
    have hp : pick l (t :: ts) = o :: pick l ts := by
      have : l[t]? = some o := by simpa using h0
      simp [pick, this]
    rw [hp] at h
    refine ⟨fun h1 => (by rw [hB.1] at h1; cases h1), fun i hi => ?_⟩
    rw [hB.1] at hi
    obtain rfl : i = t := by simpa using hi
    have hw : wpOp P l.toArray Q i (wpList P l.toArray Q (pick l ts)) a w := by unfold wpOp; simp only [h0]; exact h
    exact wpOp_mono (fun a' w' h' => wpAny_tail ts _ a' w' hB.2 h') hw

def planB (l : List Oper) (pre hs ts : List Nat) : Bool :=
  Region.noSelect l.toArray && decide (pre.length + hs.length + ts.length = l.length) && waitB .any l.toArray ts hs &&
  match preB .any l pre (Array.replicate l.length false) with
  | none => false
  | some l1 => match headB .any l.toArray hs l1 with
    | none => false
    | some l2 => ((Region.ready .any l.toArray l2).all fun j => ts.contains j) && tailB .any l.toArray ts l2

theorem preB_closed {l : List Oper} : ∀ (ks : List Nat) (listed listed1 : Array Bool), Closed md l.toArray listed → preB md l ks listed = some listed1 → Closed md l.toArray listed1
  | [], _, _, hc, hB => by simp only [preB, Option.some.injEq] at hB; subst hB; exact hc
  | k :: ks, listed, listed1, hc, hB => by
    unfold preB at hB
    split at hB
    · rename_i hrf
      simp only [Bool.and_eq_true] at hrf
      exact preB_closed ks _ _ (hc.set (by simpa using hrf.1.1)) hB
    · cases hB

/-- A REGION THAT DRAWS ITS ORDER, BY A PLAN: the moves 'pre' first, then the operations 'hs', which only read, then 'ts', which come up one at a time. -/
theorem wp_region_plan {id : Nat} {l : List Oper} {a : Act} (pre hs ts : List Nat) (hm : P.follows .mixedOrders = true) (hB : planB l pre hs ts = true)
    (hQ : ∀ c (d : Option Tmp) (v : Value) a w, Q (.panic c) (a.put d v) w → Q (.panic c) a w)
    (h : wpStill P l.toArray w.drew (fun a' => wpList P l.toArray Q (pick l ts) a' w.drew) (pick l hs) (putMoves l pre a)) : (Code.region id l.toArray true).wp P Q a w := by
  simp only [planB, Bool.and_eq_true, decide_eq_true_eq] at hB
  obtain ⟨⟨⟨hsel, hlen⟩, hw⟩, hrest⟩ := hB
  cases h1 : preB .any l pre (Array.replicate l.length false) with
  | none => rw [h1] at hrest; cases hrest
  | some l1 =>
    rw [h1] at hrest
    simp only at hrest
    cases h2 : headB .any l.toArray hs l1 with
    | none => rw [h2] at hrest; cases hrest
    | some l2 =>
      rw [h2] at hrest
      simp only [Bool.and_eq_true] at hrest
      have hc0 : Closed .any l.toArray (Array.replicate l.length false) := fun j oj _ hl => by rw [getD_replicate_false] at hl; cases hl
      have hc1 := preB_closed pre _ _ hc0 h1
      refine wp_region_any hm ?_
      have hsz : l.toArray.size = pre.length + (hs.length + ts.length) := by simp; omega
      rw [hsz, show pre.length + (hs.length + ts.length) = l.length by omega, show l.length = pre.length + (hs.length + ts.length) by omega]
      have key := wpAnyG_lex (P := P) (w := w.drew) (Lq := fun a' => wpList P l.toArray Q (pick l ts) a' w.drew) hsel hw (fun j hj => by simpa using List.all_eq_true.1 hrest.1 j hj) hs l1 (putMoves l pre a) (fun k hk => hk) hc1 h2 h
      have k2 := wpAny_of_G (Q := Q) (g := ts.length) (fun listed' a' hL => by
        obtain ⟨rfl, hL⟩ := hL
        exact wpAny_tail ts _ _ _ hrest.2 hL) hs.length l1 _ key
      have k3 := wpAny_pre (Q := Q) hsel hQ pre _ a h1 k2
      have : l.length = pre.length + (hs.length + ts.length) := by omega
      rw [← this] at k3 ⊢
      exact k3

/-! ### Reads that hold as long as S does, taken first; calls that keep S; then the rest -/
def wpAnyE (P : Program) (md : Region.Mode) (ops : Array Oper) (Q : Exit → Act → World → Prop) (S : World → Prop) (late : Nat → Bool) : Nat → Array Bool → Act → World → Prop
  | 0, listed, a, w => Region.ready md ops listed = [] ∧ Q .normal a w
  | fuel + 1, listed, a, w =>
    (Region.ready md ops listed = [] → Q .normal a w) ∧
    ∀ i ∈ Region.ready md ops listed, wpOp P ops Q i (fun a' w' => (late i = false → S w') ∧ wpAnyE P md ops Q S late fuel (listed.setIfInBounds i true) a' w') a w

theorem wpAny_of_E {S : World → Prop} {late : Nat → Bool} : ∀ (fuel : Nat) (listed : Array Bool) (a : Act) (w : World), wpAnyE P md ops Q S late fuel listed a w → wpAny P md ops Q fuel listed a w
  | 0, _, _, _, h => h
  | fuel + 1, _, _, _, h => ⟨h.1, fun i hi => wpOp_mono (fun a' w' h' => wpAny_of_E fuel _ a' w' h'.2) (h.2 i hi)⟩

theorem wpAnyE_first {S : World → Prop} {late : Nat → Bool} {i : Nat} {oi : Oper} {v : Value} (hi : ops[i]? = some oi) (hsel : ∀ (j : Nat) (o : Oper) cs b, ops[j]? = some o → o.op ≠ .select cs b)
    (hQ : ∀ c a w, Q (.panic c) (a.put oi.dst v) w → Q (.panic c) a w) (hlate : ∀ j, late j = true → reachB md ops ops.size j i = true) (hli : late i = false) :
    ∀ (fuel : Nat) (listed : Array Bool) (a : Act) (w : World), Closed md ops listed →
      (∀ j oj, ops[j]? = some oj → j ≠ i → listed.getD j true = false → (∀ e ∈ oj.after, Region.binds md e = true → e.on ≠ i) → oi.apart ops oj = true) →
      i ∈ Region.ready md ops listed → YieldsIf P ops S oi v a → S w →
      wpAnyE P md ops Q S late fuel (listed.setIfInBounds i true) (a.put oi.dst v) w → wpAnyE P md ops Q S late (fuel + 1) listed a w := by
  intro fuel
  induction fuel with
  | zero =>
    intro listed a w hc _ hr hy hS H
    refine ⟨fun h => (by rw [h] at hr; cases hr), fun j hj => ?_⟩
    by_cases hji : j = i
    · subst hji; exact hy.wpOp hi hS ⟨fun _ => hS, H⟩
    · have := ready_mono hj hji
      rw [H.1] at this
      cases this
  | succ fuel ih =>
    intro listed a w hc hfree hr hy hS H
    refine ⟨fun h => (by rw [h] at hr; cases hr), fun j hj => ?_⟩
    by_cases hji : j = i
    · subst hji; exact hy.wpOp hi hS ⟨fun _ => hS, H⟩
    · have h1 := H.2 j (ready_mono hj hji)
      have hun := (mem_ready.1 hr).1
      have hlj : late j = false := by
        cases hl : late j with
        | false => rfl
        | true => exact absurd hj (reach_not hc (getD_both hun) _ _ (hlate j hl)).2
      obtain ⟨hjun, oj, hoj, hall⟩ := mem_ready.1 hj
      have hnot : ∀ e ∈ oj.after, Region.binds md e = true → e.on ≠ i := fun e he hb heq => by
        have h1 := hall e he hb
        rw [heq, getD_both hun] at h1
        cases h1
      have h2 := wpOp_putIf hoj (hfree j oj hoj hji hjun hnot) (fun cs b => hsel i oi cs b hi) (fun cs b => hsel j oj cs b hoj) hQ hy h1
      have hfree' : ∀ k ok, ops[k]? = some ok → k ≠ i → (listed.setIfInBounds j true).getD k true = false →
          (∀ e ∈ ok.after, Region.binds md e = true → e.on ≠ i) → oi.apart ops ok = true := fun k ok hk hki hun hno => by
        refine hfree k ok hk hki ?_ hno
        by_cases hjk : j = k
        · subst hjk; exact hjun
        · rw [getD_set_ne true hjk] at hun; exact hun
      refine wpOp_mono (fun a' w' h3 => ⟨fun _ => h3.2.1 hlj, ih (listed.setIfInBounds j true) a' w' (hc.set hj) hfree' (ready_mono hr (Ne.symm hji)) h3.1 (h3.2.1 hlj) ?_⟩) h2
      rw [Array.setIfInBounds_comm _ _ hji]
      exact h3.2.2

/-- The reads, one behind the other: each yields in every world that meets S. -/
def wpHeld (P : Program) (ops : Array Oper) (S : World → Prop) (K : Act → Prop) : List Oper → Act → Prop
  | [], a => K a
  | o :: rest, a => ∃ v, YieldsIf P ops S o v a ∧ wpHeld P ops S K rest (a.put o.dst v)

theorem wpHeld_nil {S : World → Prop} {K : Act → Prop} {a : Act} (h : K a) : wpHeld P ops S K [] a := h
theorem wpHeld_step {S : World → Prop} {K : Act → Prop} {a : Act} {o : Oper} {rest : List Oper} (v : Value) (hg : o.guard = none) (h : ∀ w, S w → (execOp a.eval o).run P w = .ok (.value v) w) (hK : wpHeld P ops S K rest (a.put o.dst v)) :
    wpHeld P ops S K (o :: rest) a := ⟨v, .inl ⟨by simp [Region.wanted, hg], h⟩, hK⟩

/-- What may come between the reads: behind each S holds. -/
def wpEarly (P : Program) (ops : Array Oper) (S : World → Prop) (Q : Exit → Act → World → Prop) (K : Act → World → Prop) : List Oper → Act → World → Prop
  | [], a, w => K a w
  | o :: rest, a, w => wpList P ops (Exit.then (fun a' w' => S w' ∧ wpEarly P ops S Q K rest a' w') Q) [o] a w

theorem wpOp_of_one {i : Nat} {o : Oper} {K : Act → World → Prop} {a : Act} (hi : ops[i]? = some o) (h : wpList P ops (Exit.then K Q) [o] a w) : wpOp P ops Q i K a w := by
  unfold wpOp
  simp only [hi]
  unfold wpList at h
  split
  · rename_i hw
    rw [if_pos hw] at h
    rcases h with h | ⟨h1, a0, w0, h2⟩
    · left
      unfold Oper.wp at *
      generalize (execOp a.eval o).run P w = r at *
      cases r with
      | ok n w' =>
        cases n <;> simp only [Oper.upon] at h ⊢ <;>
          first
            | exact h
            | exact Calls.mono h (fun e w'' he => by cases e <;> first | exact he | (obtain ⟨a1, w1, h1⟩ := he; exact ⟨a1, w1, h1⟩))
            | exact Rows.mono h (fun _ _ he => he)
      | halt x w' => cases x <;> simp only [Oper.upon] at h ⊢ <;> exact h
    · exact .inr ⟨h1, a0, w0, h2⟩
  · rename_i hw
    rw [if_neg hw] at h
    exact h

def heldB (l : List Oper) (hs es fs : List Nat) : Bool :=
  Region.noSelect l.toArray && decide (hs.length + es.length + fs.length = l.length) && waitB .any l.toArray fs hs && (hs.all fun i => !fs.contains i) &&
  match headB .any l.toArray hs (Array.replicate l.length false) with
  | none => false
  | some l2 => tailB .any l.toArray (es ++ fs) l2

theorem wpAnyE_tail {l : List Oper} {S : World → Prop} {late : Nat → Bool} : ∀ (ts : List Nat) (listed : Array Bool) (a : Act) (w : World), (∀ t ∈ ts, late t = true) → tailB md l.toArray ts listed = true → wpList P l.toArray Q (pick l ts) a w →
    wpAnyE P md l.toArray Q S late ts.length listed a w
  | [], _, _, _, _, hB, h => ⟨by simpa [tailB] using hB, h⟩
  | t :: ts, listed, a, w, hl, hB, h => by
    simp only [tailB, Bool.and_eq_true, decide_eq_true_eq] at hB
    have hr' : t ∈ Region.ready md l.toArray listed := by rw [hB.1]; simp
    obtain ⟨_, o, h0, _⟩ := mem_ready.1 hr'
    have hp : pick l (t :: ts) = o :: pick l ts := by
      have : l[t]? = some o := by simpa using h0
      simp [pick, this]
    rw [hp] at h
    refine ⟨fun h1 => (by rw [hB.1] at h1; cases h1), fun i hi => ?_⟩
    rw [hB.1] at hi
    obtain rfl : i = t := by simpa using hi
    have hw : wpOp P l.toArray Q i (wpList P l.toArray Q (pick l ts)) a w := by unfold wpOp; simp only [h0]; exact h
    exact wpOp_mono (fun a' w' h' => ⟨fun h2 => (by rw [hl i (by simp)] at h2; cases h2), wpAnyE_tail ts _ a' w' (fun t ht => hl t (by simp [ht])) hB.2 h'⟩) hw

theorem wpAnyE_early {l : List Oper} {S : World → Prop} {late : Nat → Bool} {fs : List Nat} (hl : ∀ t ∈ fs, late t = true) : ∀ (es : List Nat) (listed : Array Bool) (a : Act) (w : World), tailB md l.toArray (es ++ fs) listed = true →
    wpEarly P l.toArray S Q (fun a w => wpList P l.toArray Q (pick l fs) a w) (pick l es) a w → wpAnyE P md l.toArray Q S late (es.length + fs.length) listed a w
  | [], listed, a, w, hB, h => by
    rw [List.length_nil, Nat.zero_add]
    exact wpAnyE_tail fs listed a w hl hB h
  | t :: ts, listed, a, w, hB, h => by
    simp only [List.cons_append, tailB, Bool.and_eq_true, decide_eq_true_eq] at hB
    have hr' : t ∈ Region.ready md l.toArray listed := by rw [hB.1]; simp
    obtain ⟨_, o, h0, _⟩ := mem_ready.1 hr'
    have hp : pick l (t :: ts) = o :: pick l ts := by
      have : l[t]? = some o := by simpa using h0
      simp [pick, this]
    rw [hp] at h
    rw [show (t :: ts).length + fs.length = (ts.length + fs.length) + 1 by simp; omega]
    refine ⟨fun h1 => (by rw [hB.1] at h1; cases h1), fun i hi => ?_⟩
    rw [hB.1] at hi
    obtain rfl : i = t := by simpa using hi
    exact wpOp_mono (fun a' w' h' => ⟨fun _ => h'.1, wpAnyE_early hl ts _ a' w' hB.2 h'.2⟩) (wpOp_of_one h0 h)

theorem wpAnyE_held {l : List Oper} {S : World → Prop} {late : Nat → Bool} {K : Act → Prop} {hs : List Nat} {listed2 : Array Bool} {g : Nat} (hsel : Region.noSelect l.toArray = true) (hQ : ∀ c (d : Option Tmp) (v : Value) a w, Q (.panic c) (a.put d v) w → Q (.panic c) a w)
    (hlate : ∀ j i, i ∈ hs → late j = true → reachB md l.toArray l.toArray.size j i = true) (hln : ∀ i ∈ hs, late i = false) (hS : S w)
    (hK : ∀ a, K a → wpAnyE P md l.toArray Q S late g listed2 a w) :
    ∀ (ks : List Nat) (listed : Array Bool) (a : Act), (∀ k ∈ ks, k ∈ hs) → Closed md l.toArray listed → headB md l.toArray ks listed = some listed2 →
    wpHeld P l.toArray S K (pick l ks) a → wpAnyE P md l.toArray Q S late (ks.length + g) listed a w
  | [], listed, a, _, _, hB, h => by
    simp only [headB, Option.some.injEq] at hB
    subst hB
    rw [List.length_nil, Nat.zero_add]
    exact hK a h
  | k :: ks, listed, a, hk, hc, hB, h => by
    unfold headB at hB
    split at hB
    · rename_i hrf
      simp only [Bool.and_eq_true] at hrf
      have hr' : k ∈ Region.ready md l.toArray listed := by simpa using hrf.1
      obtain ⟨_, o, h0, _⟩ := mem_ready.1 hr'
      have hp : pick l (k :: ks) = o :: pick l ks := by
        have : l[k]? = some o := by simpa using h0
        simp [pick, this]
      rw [hp] at h
      obtain ⟨v, hy, hr⟩ := h
      rw [show (k :: ks).length + g = (ks.length + g) + 1 by simp; omega]
      exact wpAnyE_first h0 (Region.noSelect_spec hsel) (fun c a w => hQ c _ _ a w) (fun j => hlate j k (hk k (by simp))) (hln k (hk k (by simp))) _ listed a w hc (Region.free_spec h0 hrf.2) hr' hy hS
        (wpAnyE_held hsel hQ hlate hln hS hK ks _ _ (fun k' h' => hk k' (by simp [h'])) (hc.set hr') hB hr)
    · cases hB

/-- A REGION THAT DRAWS ITS ORDER: the reads 'hs', whose values hold as long as S does, first; then 'es', behind each of which S holds; then 'fs', which wait for all reads. -/
theorem wp_region_hold {id : Nat} {l : List Oper} {a : Act} (S : World → Prop) (hs es fs : List Nat) (hm : P.follows .mixedOrders = true) (hB : heldB l hs es fs = true)
    (hQ : ∀ c (d : Option Tmp) (v : Value) a w, Q (.panic c) (a.put d v) w → Q (.panic c) a w) (hS : S w.drew)
    (h : wpHeld P l.toArray S (fun a' => wpEarly P l.toArray S Q (fun a w => wpList P l.toArray Q (pick l fs) a w) (pick l es) a' w.drew) (pick l hs) a) : (Code.region id l.toArray true).wp P Q a w := by
  simp only [heldB, Bool.and_eq_true, decide_eq_true_eq] at hB
  obtain ⟨⟨⟨⟨hsel, hlen⟩, hw⟩, hnf⟩, hrest⟩ := hB
  cases h2 : headB .any l.toArray hs (Array.replicate l.length false) with
  | none => rw [h2] at hrest; cases hrest
  | some l2 =>
    rw [h2] at hrest
    simp only at hrest
    have hc0 : Closed .any l.toArray (Array.replicate l.length false) := fun j oj _ hl => by rw [getD_replicate_false] at hl; cases hl
    refine wp_region_any hm ?_
    have key := wpAnyE_held (P := P) (Q := Q) (md := .any) (w := w.drew) (S := S) (late := fun j => fs.contains j) (hs := hs) (g := es.length + fs.length) hsel hQ
      (fun j i hi hj => List.all_eq_true.1 (List.all_eq_true.1 hw j (by simpa using hj)) i hi) (fun i hi => by simpa using List.all_eq_true.1 hnf i hi) hS
      (fun a' ha' => wpAnyE_early (fun t ht => by simpa using ht) es l2 a' w.drew hrest ha') hs (Array.replicate l.length false) a (fun k hk => hk) hc0 h2 h
    have k3 := wpAny_of_E _ _ _ _ key
    have : l.length = hs.length + (es.length + fs.length) := by omega
    rw [← this] at k3
    have hsz : l.toArray.size = l.length := by simp
    rw [hsz]
    exact k3
end
end Go.Proofs.Ytaicbllfkehhjaa

/- A region that draws its order, over any program: reads that hold as long as S does, first; then operations that come up in any order, behind each of which S holds; then the rest, one at a time. And append of a slice that may be nil. -/
namespace Go.Proofs.Ytaicbllfkehhjaa
open Go.RowKit

section
variable {P : Program} {md : Region.Mode} {ops : Array Oper} {Q : Exit → Act → World → Prop}

def setAll (ks : List Nat) (listed : Array Bool) : Array Bool := ks.foldl (fun b k => b.setIfInBounds k true) listed
theorem headB_set {ops : Array Oper} : ∀ (ks : List Nat) (listed l2 : Array Bool), headB md ops ks listed = some l2 → setAll ks listed = l2
  | [], _, _, h => by simp only [headB, Option.some.injEq] at h; exact h
  | k :: ks, listed, l2, h => by
    unfold headB at h
    split at h
    · exact headB_set ks _ _ h
    · cases h
/-- What is not listed is among the late ones. -/
def lateB (n : Nat) (fs : List Nat) (listed : Array Bool) : Bool := (List.range n).all fun j => listed.getD j false || fs.contains j

/-- What may come up in any order, f operations; behind each S holds; then the reads gs, and ts, one at a time. -/
def wpBush (P : Program) (l : List Oper) (S : World → Prop) (Q : Exit → Act → World → Prop) (gs ts : List Nat) : Nat → Array Bool → Act → World → Prop
  | 0, listed, a, w => lateB l.toArray.size (gs ++ ts) listed = true ∧ (headB .any l.toArray gs listed).isSome = true ∧ tailB .any l.toArray ts (setAll gs listed) = true ∧
      wpHeld P l.toArray (fun _ => True) (fun a' => wpList P l.toArray Q (pick l ts) a' w) (pick l gs) a
  | f + 1, listed, a, w => Region.ready .any l.toArray listed ≠ [] ∧ ∀ i ∈ Region.ready .any l.toArray listed,
      wpList P l.toArray (Exit.then (fun a' w' => S w' ∧ wpBush P l S Q gs ts f (listed.setIfInBounds i true) a' w') Q) (pick l [i]) a w

section
variable {l : List Oper} {S : World → Prop} {gs ts : List Nat} {listed : Array Bool} {a : Act} {w : World} {f : Nat}
theorem wpBush_end (hL : lateB l.toArray.size (gs ++ ts) listed = true) (hG : (headB .any l.toArray gs listed).isSome = true) (hB : tailB .any l.toArray ts (setAll gs listed) = true) (h : wpHeld P l.toArray (fun _ => True) (fun a' => wpList P l.toArray Q (pick l ts) a' w) (pick l gs) a) : wpBush P l S Q gs ts 0 listed a w := ⟨hL, hG, hB, h⟩
theorem wpBush_one (i : Nat) (hr : Region.ready .any l.toArray listed = [i])
    (h : wpList P l.toArray (Exit.then (fun a' w' => S w' ∧ wpBush P l S Q gs ts f (listed.setIfInBounds i true) a' w') Q) (pick l [i]) a w) : wpBush P l S Q gs ts (f + 1) listed a w :=
  ⟨by rw [hr]; simp, fun j hj => by rw [hr] at hj; simp at hj; subst hj; exact h⟩
theorem wpBush_two (i k : Nat) (hr : Region.ready .any l.toArray listed = [i, k])
    (h : wpList P l.toArray (Exit.then (fun a' w' => S w' ∧ wpBush P l S Q gs ts f (listed.setIfInBounds i true) a' w') Q) (pick l [i]) a w)
    (h2 : wpList P l.toArray (Exit.then (fun a' w' => S w' ∧ wpBush P l S Q gs ts f (listed.setIfInBounds k true) a' w') Q) (pick l [k]) a w) : wpBush P l S Q gs ts (f + 1) listed a w :=
  ⟨by rw [hr]; simp, fun j hj => by
    rw [hr] at hj
    simp only [List.mem_cons, List.not_mem_nil, or_false] at hj
    rcases hj with rfl | rfl <;> assumption⟩
theorem wpBush_three (i k m : Nat) (hr : Region.ready .any l.toArray listed = [i, k, m])
    (h : wpList P l.toArray (Exit.then (fun a' w' => S w' ∧ wpBush P l S Q gs ts f (listed.setIfInBounds i true) a' w') Q) (pick l [i]) a w)
    (h2 : wpList P l.toArray (Exit.then (fun a' w' => S w' ∧ wpBush P l S Q gs ts f (listed.setIfInBounds k true) a' w') Q) (pick l [k]) a w)
    (h3 : wpList P l.toArray (Exit.then (fun a' w' => S w' ∧ wpBush P l S Q gs ts f (listed.setIfInBounds m true) a' w') Q) (pick l [m]) a w) : wpBush P l S Q gs ts (f + 1) listed a w :=
  ⟨by rw [hr]; simp, fun j hj => by
    rw [hr] at hj
    simp only [List.mem_cons, List.not_mem_nil, or_false] at hj
    rcases hj with rfl | rfl | rfl <;> assumption⟩
end

theorem wpAnyE_any {ops : Array Oper} {S : World → Prop} {late : Nat → Bool} (hS : ∀ w, S w) : ∀ (f : Nat) (listed : Array Bool) (a : Act) (w : World), wpAny P md ops Q f listed a w → wpAnyE P md ops Q S late f listed a w
  | 0, _, _, _, h => h
  | f + 1, _, _, _, h => ⟨h.1, fun i hi => wpOp_mono (fun a' w' h' => ⟨fun _ => hS w', wpAnyE_any hS f _ a' w' h'⟩) (h.2 i hi)⟩

/-- What can still come is late. -/
theorem wpAnyE_late {ops : Array Oper} {S : World → Prop} {late : Nat → Bool} : ∀ (f : Nat) (listed : Array Bool) (a : Act) (w : World), (∀ j, j < ops.size → listed.getD j false = false → late j = true) → wpAny P md ops Q f listed a w → wpAnyE P md ops Q S late f listed a w
  | 0, _, _, _, _, h => h
  | f + 1, listed, _, _, hl, h => by
    refine ⟨h.1, fun i hi => wpOp_mono (fun a' w' h' => ⟨fun hf => ?_, ?_⟩) (h.2 i hi)⟩
    · obtain ⟨hn, o, ho, _⟩ := mem_ready.1 hi
      have hlt : i < ops.size := by
        rcases Nat.lt_or_ge i ops.size with h1 | h1
        · exact h1
        · rw [Array.getElem?_eq_none h1] at ho; cases ho
      rw [hl i hlt (getD_both hn)] at hf
      cases hf
    · refine wpAnyE_late f _ a' w' (fun j hj hjl => hl j hj ?_) h'
      by_cases hij : i = j
      · subst hij
        obtain ⟨hn, _⟩ := mem_ready.1 hi
        exact getD_both hn
      · rw [getD_set_ne false hij] at hjl; exact hjl

theorem wpAnyE_bush {l : List Oper} {S : World → Prop} {gs ts : List Nat} (hsel : Region.noSelect l.toArray = true) (hQ : ∀ c (d : Option Tmp) (v : Value) a w, Q (.panic c) (a.put d v) w → Q (.panic c) a w) :
    ∀ (f : Nat) (listed : Array Bool) (a : Act) (w : World), Closed .any l.toArray listed →
    wpBush P l S Q gs ts f listed a w → wpAnyE P .any l.toArray Q S (fun j => (gs ++ ts).contains j) (f + (gs.length + ts.length)) listed a w
  | 0, listed, a, w, hc, h => by
    rw [Nat.zero_add]
    obtain ⟨hb, h1, h2, h3⟩ := h
    cases h4 : headB .any l.toArray gs listed with
    | none => rw [h4] at h1; cases h1
    | some l2 =>
      have hl2 := headB_set _ _ _ h4
      rw [hl2] at h2
      refine wpAnyE_late _ _ _ _ (fun j hj hjl => ?_) ?_
      · have := List.all_eq_true.1 hb j (by simpa using hj)
        rw [hjl, Bool.false_or] at this
        exact this
      refine wpAny_of_E (S := fun _ => True) (late := fun _ => false) _ _ _ _ ?_
      refine wpAnyE_held (P := P) (Q := Q) (md := .any) (w := w) (S := fun _ => True) (late := fun _ => false) (K := fun a' => wpList P l.toArray Q (pick l ts) a' w) (hs := gs) (g := ts.length) hsel hQ
        (fun j i hi hj => by cases hj) (fun i hi => rfl) trivial
        (fun a' ha' => wpAnyE_any (fun _ => trivial) _ _ _ _ (wpAny_tail ts l2 a' w h2 ha')) gs listed a (fun k hk => hk) hc h4 h3
  | f + 1, listed, a, w, hc, h => by
    rw [show f + 1 + (gs.length + ts.length) = (f + (gs.length + ts.length)) + 1 by omega]
    refine ⟨fun h0 => absurd h0 h.1, fun i hi => ?_⟩
    obtain ⟨_, o, h0, _⟩ := mem_ready.1 hi
    have hp : pick l [i] = [o] := by
      have : l[i]? = some o := by simpa using h0
      simp [pick, this]
    have h2 := h.2 i hi
    rw [hp] at h2
    exact wpOp_mono (fun a' w' h' => ⟨fun _ => h'.1, wpAnyE_bush hsel hQ f _ a' w' (hc.set hi) h'.2⟩) (wpOp_of_one h0 h2)

def bushB (l : List Oper) (hs fs : List Nat) (n : Nat) : Bool :=
  Region.noSelect l.toArray && decide (hs.length + n + fs.length = l.length) && waitB .any l.toArray fs hs && (hs.all fun i => !fs.contains i) && (headB .any l.toArray hs (Array.replicate l.length false)).isSome

/-- The reads of a region, taken first, keep the state closed. -/
theorem headB_closed {l : List Oper} : ∀ (ks : List Nat) (listed l2 : Array Bool), Closed md l.toArray listed → headB md l.toArray ks listed = some l2 → Closed md l.toArray l2
  | [], _, _, hc, h => by simp only [headB, Option.some.injEq] at h; subst h; exact hc
  | k :: ks, listed, l2, hc, h => by
    unfold headB at h
    split at h
    · rename_i hrf
      simp only [Bool.and_eq_true] at hrf
      exact headB_closed ks _ _ (hc.set (by simpa using hrf.1)) h
    · cases h

/-- A REGION THAT DRAWS ITS ORDER: the reads 'hs', whose values hold as long as S does; then n operations in any order, behind each of which S holds; then the reads 'gs' and 'ts', one at a time: these wait for all of 'hs'. -/
theorem wp_region_bush {id : Nat} {l : List Oper} {a : Act} {w : World} (S : World → Prop) (hs : List Nat) (n : Nat) (gs ts : List Nat) (hm : P.follows .mixedOrders = true) (hB : bushB l hs (gs ++ ts) n = true)
    (hQ : ∀ c (d : Option Tmp) (v : Value) a w, Q (.panic c) (a.put d v) w → Q (.panic c) a w) (hS : S w.drew)
    (h : wpHeld P l.toArray S (fun a' => wpBush P l S Q gs ts n (setAll hs (Array.replicate l.length false)) a' w.drew) (pick l hs) a) : (Code.region id l.toArray true).wp P Q a w := by
  simp only [bushB, Bool.and_eq_true, decide_eq_true_eq] at hB
  obtain ⟨⟨⟨⟨hsel, hlen⟩, hw⟩, hnf⟩, hrest⟩ := hB
  cases h2 : headB .any l.toArray hs (Array.replicate l.length false) with
  | none => rw [h2] at hrest; cases hrest
  | some l2 =>
    have hl2 := headB_set _ _ _ h2
    rw [hl2] at h
    have hc0 : Closed .any l.toArray (Array.replicate l.length false) := fun j oj _ hl => by rw [getD_replicate_false] at hl; cases hl
    have hc2 := headB_closed _ _ _ hc0 h2
    refine wp_region_any hm ?_
    have key := wpAnyE_held (P := P) (Q := Q) (md := .any) (w := w.drew) (S := S) (late := fun j => (gs ++ ts).contains j) (hs := hs) (g := n + (gs.length + ts.length)) hsel hQ
      (fun j i hi hj => List.all_eq_true.1 (List.all_eq_true.1 hw j (List.contains_iff_mem.1 hj)) i hi) (fun i hi => by have := List.all_eq_true.1 hnf i hi; cases hc : (gs ++ ts).contains i; rfl; rw [hc] at this; cases this) hS
      (fun a' ha' => wpAnyE_bush hsel hQ n l2 a' w.drew hc2 ha') hs (Array.replicate l.length false) a (fun k hk => hk) hc0 h2 h
    have k3 := wpAny_of_E _ _ _ _ key
    rw [List.length_append] at hlen
    have : l.length = hs.length + (n + (gs.length + ts.length)) := by omega
    rw [← this] at k3
    have hsz : l.toArray.size = l.length := by simp
    rw [hsz]
    exact k3

/-- The library's law, its world written as the walk wants it. -/
theorem wp_region_tailB {id : Nat} {l : List Oper} {a : Act} {w : World} (n : Nat) (hm : P.follows .mixedOrders = true) (hB : Region.lexTailB .any l.toArray n = true)
    (h : wpStill P l.toArray w.drew (fun a' => wpList P l.toArray Q (l.drop n) a' w.drew) (l.take n) a) : (Code.region id l.toArray true).wp P Q a w :=
  wp_region_still_tail n hm hB h

/-- append(v, x...): v the call's own, x a slice that may be nil. -/
theorem wpList_append_any {w : World} {rest : List Oper} {o : Oper} {a : Act} (hgd : o.guard = none) (s x : Operand) (t : TypeId)
    (ho : o.op = .call { callee := .builtin .append, args := #[s, x], argTypes := #[t, t] })
    (base : Nat) (e : TypeId) (i : TypeInfo) (z : Value) (size bytes : Nat) (ht : P.underlying t = some (.slice e)) (hi : P.info? e = some i) (hz : i.zero = some z)
    (hsize : i.size = size) (hby : i.bytes = bytes) (hzs : z.cells.size = size) (hsz : 0 < size)
    (v : Value) (n : Nat) (xs : List Value) (hs : a.eval s = v) (hown : w.ownsRow base e size v n xs)
    (A : Option Addr) (m c : Nat) (news : List Value) (hx : a.eval x = .slice A m c) (hl : news.length = m * size) (hnews : ∀ j u, news[j]? = some u → ∃ ad, A = some ad ∧ w.cell? (ad.add j) = some u) (h1 : ∀ u ∈ news, u.oneCell' = true)
    (h63 : n + m ≤ maxLen) (hbytes : (n + m) * bytes ≤ 140737488355328) (hbase : base ≤ w.heap.size)
    (h : ∀ v' w', w'.ownsRow base e size v' (n + m) (xs ++ news) → w.grownBy w' v.ownBlock → (v'.ownBlock = v.ownBlock ∨ v'.ownBlock = some w.heap.size) → wpList P ops Q rest (a.put o.dst v') w') :
    wpList P ops Q (o :: rest) a w := by
  cases A with
  | some ad =>
    refine wpList_append_own_at w hgd s x t ho base e i z size bytes ht hi hz hsize hby hzs hsz v n xs hs hown ad m c news hx hl (fun j u hj => ?_) h1 h63 hbytes hbase (fun v' w' h2 h3 _ h5 => h v' w' h2 h3 h5)
    obtain ⟨ad', e1, e2⟩ := hnews j u hj
    injection e1 with e1
    rw [e1]
    exact e2
  | none =>
    have hn : news = [] := by
      match news, hnews with
      | [], _ => rfl
      | u :: us, hnews => obtain ⟨_, e1, _⟩ := hnews 0 u rfl; cases e1
    subst hn
    have hm : m = 0 := by
      rcases Nat.eq_zero_or_pos m with h0 | h0
      · exact h0
      · have := Nat.mul_pos h0 hsz
        simp at hl
        omega
    subst hm
    refine wpList_plain hgd fun K hK => ?_
    have hr : (Builtin.append_ #[t, t] o.type #[v, .slice none 0 c]).run P w = .ok v w := by
      rcases hown.2 with ⟨rfl, rfl⟩ | ⟨g, cap, cur, rfl, _, _, hnc, _⟩
      · simp [Builtin.append_, run_underlying ht, sizeOf, typeInfo, hi, Builtin.lenOf, Builtin.firstCells]
      · simp [Builtin.append_, run_underlying ht, sizeOf, typeInfo, hi, Builtin.lenOf, Builtin.firstCells, hnc, storeCells]
    unfold Oper.wp execOp
    simp only [ho, resolve, invoke, builtin, Sem.run_bind, Sem.run_pure, Result.andThen_ok, List.map_toArray, List.map_cons, List.map_nil, hs, hx, hr]
    exact hK _ _ (h v w (by simpa using hown) ⟨rfl, rfl, rfl, Nat.le_refl _, fun _ _ _ => rfl⟩ (.inl rfl))
end
end Go.Proofs.Ytaicbllfkehhjaa

/- A slice of one-cell elements at any offset (it was cut at its head), one element more. Over any program. -/
namespace Go.Proofs.Ytaicbllfkehhjaa
open Go.RowKit

/-- v reads as l: nil, or a piece of a block that is known whole. -/
def Row1 (w : World) (e : TypeId) (v : Value) (l : List Value) : Prop :=
  (v = .slice none 0 0 ∧ l = []) ∨ ∃ b off cap cs, v = .slice (some ⟨b, off, none⟩) l.length cap ∧ Blk w b e cs ∧ off + cap ≤ cs.size ∧ l.length ≤ cap ∧ ∀ j u, l[j]? = some u → cs[off + j]? = some u
section
variable {w w' : World} {e : TypeId} {v : Value} {l : List Value}
theorem Row1.nil (w : World) (e : TypeId) : Row1 w e (.slice none 0 0) [] := .inl ⟨rfl, rfl⟩
theorem Row1.only {F : Foot} (h : Row1 w e v l) (k : Only F w w') (hF : ∀ g, v.ownBlock = some g → ¬ F g) : Row1 w' e v l := by
  rcases h with h | ⟨b, off, cap, cs, h1, h2, h3, h4, h6⟩
  · exact .inl h
  · exact .inr ⟨b, off, cap, cs, h1, k.blk h2 (hF b (by rw [h1]; rfl)), h3, h4, h6⟩
theorem Row1.form (h : Row1 w e v l) : ∃ A cap, v = .slice A l.length cap := by
  rcases h with ⟨rfl, rfl⟩ | ⟨b, off, cap, cs, h1, _⟩
  · exact ⟨_, _, rfl⟩
  · exact ⟨_, _, h1⟩
theorem Row1.ltb (h : Row1 w e v l) : ∀ g, v.ownBlock = some g → g < w.heap.size := by
  intro g hg
  rcases h with ⟨rfl, rfl⟩ | ⟨b, off, cap, cs, rfl, h2, _⟩
  · cases hg
  · have : b = g := by simpa [Value.ownBlock] using hg
    exact this ▸ h2.lt
theorem Row1.ne_blk {t : TypeId} {g : Nat} {cs : Array Value} (h : Row1 w e v l) (hg : Blk w g t cs) (hne : e ≠ t) : v.ownBlock ≠ some g := by
  rcases h with ⟨rfl, rfl⟩ | ⟨b, off, cap, ds, rfl, h2, _⟩
  · simp [Value.ownBlock]
  · intro he
    have : b = g := by simpa [Value.ownBlock] using he
    subst this
    exact h2.ne_ hg hne rfl
end

section
variable {P : Program}
/-- The value after one element more, and what has turned: the slice's own block, or none. -/
theorem run_append_row1 (w : World) (t ty e : TypeId) (i : TypeInfo) (z : Value) (ht : P.underlying t = some (.slice e)) (hi : P.info? e = some i) (hz : i.zero = some z) (hsize : i.size = 1) (hby : i.bytes = 24) (hzs : z.cells.size = 1)
    {v : Value} {l : List Value} (h : Row1 w e v l) (hlen : l.length ≤ 1000000) (ad : Addr) (c : Nat) (x : Value) (hx : w.cell? (ad.add 0) = some x) (h1 : x.oneCell' = true) :
    (∃ v' w', (Builtin.append_ #[t, t] ty #[v, .slice (some ad) 1 c]).run P w = .ok v' w' ∧ Row1 w' e v' (l ++ [x]) ∧ Only (fun g => v.ownBlock = some g) w w' ∧ (v'.ownBlock = v.ownBlock ∨ v'.ownBlock = some w.heap.size)) := by
  have hs : Src P i.size t (.slice (some ad) 1 c) 1 [x] w := Src.ofSlice w ht ad 1 c [x] (by simp [hsize]) (fun j u hu => by
    cases j with
    | zero => simp at hu; subst hu; exact hx
    | succ j => simp at hu) (fun u hu => by simp at hu; subst hu; exact h1)
  have grow : ∀ (base : Option Addr) (k : Nat), v = .slice base l.length k → k = l.length → (Builtin.firstCells i.size l.length (.slice base l.length k)).run P w.drew = .ok l.toArray w.drew →
      (∃ v' w', (Builtin.append_ #[t, t] ty #[v, .slice (some ad) 1 c]).run P w = .ok v' w' ∧ Row1 w' e v' (l ++ [x]) ∧ Only (fun g => v.ownBlock = some g) w w' ∧ (v'.ownBlock = v.ownBlock ∨ v'.ownBlock = some w.heap.size)) := by
    intro base k hv hk hold
    subst hk
    have hp : Builtin.nextslicecap (l.length + 1) l.length * i.bytes ≤ 281474976710656 := growslice_fits_succ (by rw [hby]; omega) (by omega)
    have hnb : (l.length + 1) * i.bytes ≤ 281474976710656 := Nat.le_trans (Nat.mul_le_mul_right _ (le_nextslicecap (by omega))) hp
    have h63 : ((l.length + 1 : Nat) : Int) ≤ 9223372036854775807 := by
      rw [hby] at hnb
      omega
    have hr := run_append_grow_src (P := P) w t t ty e i z ht hi hz base l.length l.length l hold _ 1 [x] hs (by omega) h63 hp
    refine ⟨_, _, by rw [hv]; exact hr, .inr ⟨w.heap.size, 0, grownCap w (l.length + 1) l.length e, _, by rw [List.length_append]; rfl, Blk.new w.drew e _, ?_, ?_, ?_⟩, ((Only.refl _ w).drew).alloc _, .inr rfl⟩
    · have hge := grownCap_ge w (l.length + 1) l.length e
      simp [Builtin.zeroCells, hzs]
      try omega
    · rw [List.length_append]
      exact grownCap_ge w (l.length + 1) l.length e
    · intro j u hu
      have hj : j < (l ++ [x]).length := by
        rcases Nat.lt_or_ge j (l ++ [x]).length with h0 | h0
        · exact h0
        · rw [List.getElem?_eq_none h0] at hu; cases hu
      rw [Nat.zero_add, Array.getElem?_append_left (by simpa using hj)]
      simpa using hu
  rcases h with ⟨rfl, rfl⟩ | ⟨b, off, cap, cs, hv, h2, h3, h4, h6⟩
  · exact grow none 0 rfl rfl (run_firstCells_none w.drew _ 0 0 0)
  · by_cases hroom : l.length + 1 ≤ cap
    · subst hv
      have hr := run_append_room_src (P := P) w t t ty e i ht hi b off l.length cap _ 1 [x] hs hroom
        (fun j hj => by
          have hj0 : j = 0 := by simpa using hj
          subst hj0
          rw [hsize, h2.cell, Array.getElem?_eq_getElem (by omega)]; rfl)
        (fun j _ => h2.frozen _)
      rw [hsize] at hr
      refine ⟨_, _, hr, .inr ⟨b, off, cap, cs.setIfInBounds (off + l.length) x, by rw [List.length_append]; rfl, ?_, by simpa using h3, by rw [List.length_append]; exact hroom, ?_⟩, ?_, .inl rfl⟩
      · have := h2.set_ (off + l.length * 1) x
        rw [Nat.mul_one] at this
        simpa [World.setCells] using this
      · intro j u hu
        rcases Nat.lt_or_ge j l.length with h0 | h0
        · rw [List.getElem?_append_left h0] at hu
          rw [Array.getElem?_setIfInBounds_ne (by omega)]
          exact h6 j u hu
        · rw [List.getElem?_append_right h0] at hu
          have hj0 : j = l.length := by
            rcases Nat.eq_zero_or_pos (j - l.length) with h7 | h7
            · omega
            · rw [List.getElem?_eq_none (by simp; omega)] at hu; cases hu
          subst hj0
          simp at hu
          subst hu
          rw [Array.getElem?_setIfInBounds_self_of_lt (by omega)]
      · have := (Only.refl (fun g => Value.ownBlock (.slice (some ⟨b, off, none⟩) l.length cap) = some g) w).setCell (p := ⟨b, off + l.length * 1, none⟩) (.inl rfl) x
        simpa [World.setCells] using this
    · have hc : cap = l.length := by omega
      refine grow (some ⟨b, off, none⟩) cap hv hc ?_
      refine run_firstCells_some w.drew i.size l.length ⟨b, off, none⟩ l.length cap l (by rw [hsize, Nat.mul_one]) (fun j u hu => ?_)
      rw [Addr.add_lit]
      show w.cell? ⟨b, off + j, none⟩ = some u
      rw [h2.cell]
      exact h6 j u hu

/-- THE SAME FOR THE WALK. -/
theorem wpList_append_row1 {w : World} {ops : Array Oper} {rest : List Oper} {o : Oper} {a : Act} {Q : Exit → Act → World → Prop} (hgd : o.guard = none) (s x : Operand) (t : TypeId)
    (ho : o.op = .call { callee := .builtin .append, args := #[s, x], argTypes := #[t, t] })
    (e : TypeId) (i : TypeInfo) (z : Value) (ht : P.underlying t = some (.slice e)) (hi : P.info? e = some i) (hz : i.zero = some z) (hsize : i.size = 1) (hby : i.bytes = 24) (hzs : z.cells.size = 1)
    {v : Value} {l : List Value} (hs : a.eval s = v) (h : Row1 w e v l) (hlen : l.length ≤ 1000000) (ad : Addr) (c : Nat) (u : Value) (hx : a.eval x = .slice (some ad) 1 c) (hu : w.cell? (ad.add 0) = some u) (h1 : u.oneCell' = true)
    (hK : ∀ v' w', Row1 w' e v' (l ++ [u]) → Only (fun g => v.ownBlock = some g) w w' → (v'.ownBlock = v.ownBlock ∨ v'.ownBlock = some w.heap.size) → wpList P ops Q rest (a.put o.dst v') w') : wpList P ops Q (o :: rest) a w := by
  obtain ⟨v', w', hrun, h2, h3, h4⟩ := run_append_row1 (P := P) w t o.type e i z ht hi hz hsize hby hzs h hlen ad c u hu h1
  refine wpList_plain hgd fun K hK' => ?_
  unfold Oper.wp
  simp [execOp, ho, resolve, invoke, builtin, hs, hx, hrun, Result.andThen]
  exact hK' _ _ (hK v' w' h2 h3 h4)
end
end Go.Proofs.Ytaicbllfkehhjaa

/- Clauses on a page, in plain words: Put, Drop, Join. No program in sight. -/
namespace Go.Proofs.Ytaicbllfkehhjaa

abbrev St2 := Int × Int
abbrev Itm := Int × ByteArray × ByteArray × ByteArray × ByteArray × ByteArray × Bool
abbrev Pt := Int × ByteArray × ByteArray × ByteArray × ByteArray × Itm × Int × ByteArray × ByteArray
instance : DecidableEq (ByteArray × ByteArray × ByteArray × Bool) := inferInstance
instance : DecidableEq (ByteArray × ByteArray × ByteArray × ByteArray × ByteArray × Bool) := inferInstance
instance : DecidableEq Itm := inferInstance
instance : DecidableEq (Itm × Int × ByteArray × ByteArray) := inferInstance
instance : DecidableEq (ByteArray × ByteArray × Itm × Int × ByteArray × ByteArray) := inferInstance
instance : DecidableEq (ByteArray × ByteArray × ByteArray × ByteArray × Itm × Int × ByteArray × ByteArray) := inferInstance
instance : DecidableEq Pt := inferInstance
structure Cl where
  id : St2
  after : St2
  pt : Pt
  gone : Bool
theorem Cl.ext' {a b : Cl} (h1 : a.id = b.id) (h2 : a.after = b.after) (h3 : a.pt = b.pt) (h4 : a.gone = b.gone) : a = b := by
  cases a; cases b; simp only at h1 h2 h3 h4; subst h1 h2 h3 h4; rfl
instance : DecidableEq Cl := fun a b =>
  decidable_of_iff (a.id = b.id ∧ a.after = b.after ∧ a.pt = b.pt ∧ a.gone = b.gone) ⟨fun h => Cl.ext' h.1 h.2.1 h.2.2.1 h.2.2.2, fun h => h ▸ ⟨rfl, rfl, rfl, rfl⟩⟩

def z2 : St2 := (0, 0)
def properT (s : St2) : Bool := decide (0 ≤ s.1) && (decide (s.1 < 200) && (decide (1 ≤ s.2) && decide (s.2 ≤ 1000000)))
def properC (c : Cl) : Bool := properT c.id && (decide (c.after = z2) || (properT c.after && decide (c.after.2 < c.id.2)))
def getC (L : List Cl) (t : St2) : Option Cl := L.find? fun c => decide (c.id = t)
def openN (L : List Cl) : Nat := L.countP fun c => !c.gone
def sameC (a b : Cl) : Bool := decide (a.id = b.id ∧ a.after = b.after ∧ a.pt = b.pt)
def mrgC (a b : Cl) : Cl := { a with gone := a.gone || b.gone }
def repC (c x : Cl) : Cl := if x.id = c.id then c else x
def setC (L : List Cl) (c : Cl) : List Cl := L.map (repC c)
def putS (L : List Cl) (c : Cl) : List Cl × Int :=
  if properC c = false then (L, 1) else
  match getC L c.id with
  | some old => if sameC old c then (setC L (mrgC old c), 0) else (L, 9)
  | none => if c.after ≠ z2 ∧ getC L c.after = none then (L, 11) else if c.gone = false ∧ 64 ≤ openN L then (L, 27) else (L ++ [c], 0)
def dropS (L : List Cl) (t : St2) : List Cl × Int :=
  match getC L t with
  | none => (L, 11)
  | some c => (setC L { c with gone := true }, 0)
def addS (L : List Cl) (c : Cl) : Option (List Cl) :=
  match getC L c.id with
  | none => some (L ++ [c])
  | some old => if sameC old c then some (setC L (mrgC old c)) else none
def addAll : List Cl → List Cl → Option (List Cl)
  | L, [] => some L
  | L, c :: M => (addS L c).bind fun L' => addAll L' M
def joinS (L M : List Cl) : List Cl × Int :=
  match addAll L M with
  | none => (L, 9)
  | some A => if 64 < openN A then (L, 27) else (A, 0)

/-! ### looking up -/
def Uq (L : List Cl) : Prop := L.Pairwise fun a b => a.id ≠ b.id
theorem getC_mem {L : List Cl} {t : St2} {c : Cl} (h : getC L t = some c) : c ∈ L ∧ c.id = t := by
  have h1 := List.mem_of_find?_eq_some h
  have h2 := List.find?_some h
  exact ⟨h1, by simpa using h2⟩
theorem getC_none {L : List Cl} {t : St2} : getC L t = none ↔ ∀ c ∈ L, c.id ≠ t := by
  unfold getC
  rw [List.find?_eq_none]
  simp
theorem uq_one {L : List Cl} (h : Uq L) {a b : Cl} (ha : a ∈ L) (hb : b ∈ L) (e : a.id = b.id) : a = b := by
  induction L with
  | nil => cases ha
  | cons x L ih =>
    obtain ⟨h1, h2⟩ := List.pairwise_cons.1 h
    rcases List.mem_cons.1 ha with ea | ha
    · rcases List.mem_cons.1 hb with eb | hb
      · rw [ea, eb]
      · exact absurd e (by rw [ea]; exact h1 b hb)
    · rcases List.mem_cons.1 hb with eb | hb
      · exact absurd e.symm (by rw [eb]; exact h1 a ha)
      · exact ih h2 ha hb
theorem getC_of {L : List Cl} (h : Uq L) {c : Cl} (hc : c ∈ L) : getC L c.id = some c := by
  cases hg : getC L c.id with
  | none => exact absurd rfl (getC_none.1 hg c hc)
  | some d =>
    obtain ⟨h1, h2⟩ := getC_mem hg
    rw [uq_one h h1 hc h2]
theorem getC_iff {L : List Cl} (h : Uq L) {t : St2} {c : Cl} : getC L t = some c ↔ c ∈ L ∧ c.id = t :=
  ⟨getC_mem, fun ⟨h1, h2⟩ => h2 ▸ getC_of h h1⟩
theorem uq_nodup {L : List Cl} (h : Uq L) : L.Nodup := h.imp fun h e => h (by rw [e])
theorem Uq.perm {L M : List Cl} (h : Uq L) (p : L.Perm M) : Uq M := (p.pairwise_iff fun {_ _} h => Ne.symm h).1 h
theorem getC_perm {L M : List Cl} (h : Uq L) (p : L.Perm M) (t : St2) : getC L t = getC M t := by
  cases hg : getC M t with
  | none => exact getC_none.2 fun c hc => getC_none.1 hg c (p.mem_iff.1 hc)
  | some c =>
    obtain ⟨h1, h2⟩ := getC_mem hg
    exact (getC_iff h).2 ⟨p.mem_iff.2 h1, h2⟩
theorem perm_of_mem : ∀ {L M : List Cl}, L.Nodup → M.Nodup → (∀ c, c ∈ L ↔ c ∈ M) → L.Perm M := fun {L M} h1 h2 h => by
  rw [List.perm_iff_count]
  intro a
  by_cases ha : a ∈ L
  · rw [h1.count, h2.count, if_pos ha, if_pos ((h a).1 ha)]
  · rw [h1.count, h2.count, if_neg ha, if_neg fun hb => ha ((h a).2 hb)]
theorem perm_of_getC {L M : List Cl} (h1 : Uq L) (h2 : Uq M) (h : ∀ t, getC L t = getC M t) : L.Perm M :=
  perm_of_mem (uq_nodup h1) (uq_nodup h2) fun c => by
    have a := getC_iff h1 (t := c.id) (c := c)
    have b := getC_iff h2 (t := c.id) (c := c)
    rw [h] at a
    simp only [and_true] at a b
    exact a.symm.trans b
theorem openN_perm {L M : List Cl} (p : L.Perm M) : openN L = openN M := p.countP_eq _

/-! ### what a step leaves -/
theorem repC_id (c x : Cl) : (repC c x).id = x.id := by unfold repC; split <;> simp_all
theorem setC_uq {L : List Cl} (h : Uq L) (c : Cl) : Uq (setC L c) := by
  unfold Uq setC
  rw [List.pairwise_map]
  exact h.imp fun h => by rw [repC_id, repC_id]; exact h
theorem getC_set {L : List Cl} {c : Cl} {t : St2} : getC (setC L c) t = if t = c.id then (getC L t).map fun _ => c else getC L t := by
  unfold setC
  induction L with
  | nil => simp [getC]
  | cons x L ih =>
    have e : ∀ M : List Cl, ∀ y : Cl, getC (y :: M) t = if y.id = t then some y else getC M t := fun M y => by
      unfold getC
      rw [List.find?_cons]
      by_cases hy : y.id = t <;> simp [hy]
    rw [List.map_cons, e, e, ih, repC_id]
    by_cases hx : x.id = t
    · rw [if_pos hx, if_pos hx]
      unfold repC
      by_cases ht : t = c.id
      · simp [hx, ht]
      · simp [hx, ht]
    · rw [if_neg hx, if_neg hx]
theorem uq_snoc {L : List Cl} (h : Uq L) {c : Cl} (hc : getC L c.id = none) : Uq (L ++ [c]) := by
  unfold Uq
  rw [List.pairwise_append]
  exact ⟨h, by simp, fun a ha b hb => by simp at hb; subst hb; exact getC_none.1 hc a ha⟩
theorem getC_snoc {L : List Cl} {c : Cl} (hc : getC L c.id = none) (t : St2) : getC (L ++ [c]) t = if t = c.id then some c else getC L t := by
  unfold getC at *
  rw [List.find?_append]
  by_cases ht : t = c.id
  · subst ht
    rw [hc]
    simp
  · rw [if_neg ht]
    cases List.find? (fun c => decide (c.id = t)) L with
    | some d => rfl
    | none => simp [Ne.symm ht]

/-- What one entry of a page and one of another become. -/
def mrgO : Option Cl → Option Cl → Option Cl
  | none, y => y
  | some a, none => some a
  | some a, some b => some (mrgC a b)
def okO : Option Cl → Option Cl → Bool
  | some a, some b => sameC a b
  | _, _ => true
theorem mrgC_id (a b : Cl) : (mrgC a b).id = a.id := rfl
theorem addS_some {L A : List Cl} {c : Cl} (hu : Uq L) (h : addS L c = some A) : Uq A ∧ okO (getC L c.id) (some c) = true ∧ ∀ t, getC A t = if t = c.id then mrgO (getC L t) (some c) else getC L t := by
  unfold addS at h
  split at h
  · rename_i hg
    simp only [Option.some.injEq] at h
    subst h
    refine ⟨uq_snoc hu hg, by rw [hg]; rfl, fun t => ?_⟩
    rw [getC_snoc hg]
    by_cases ht : t = c.id
    · rw [if_pos ht, if_pos ht, ht, hg]; rfl
    · rw [if_neg ht, if_neg ht]
  · rename_i old hg
    split at h
    · rename_i hs
      simp only [Option.some.injEq] at h
      subst h
      have hid := (getC_mem hg).2
      refine ⟨setC_uq hu _, by rw [hg]; exact hs, fun t => ?_⟩
      rw [getC_set, mrgC_id, hid]
      by_cases ht : t = c.id
      · rw [if_pos ht, if_pos ht, ht, hg]; rfl
      · rw [if_neg ht, if_neg ht]
    · cases h
theorem addS_none {L : List Cl} {c : Cl} : addS L c = none ↔ okO (getC L c.id) (some c) = false := by
  unfold addS
  cases hg : getC L c.id with
  | none => simp [okO]
  | some old => cases hs : sameC old c <;> simp [okO, hs]
theorem addAll_some : ∀ {M L A : List Cl}, Uq L → Uq M → addAll L M = some A → Uq A ∧ ∀ t, okO (getC L t) (getC M t) = true ∧ getC A t = mrgO (getC L t) (getC M t)
  | [], L, A, hu, _, h => by
    simp only [addAll, Option.some.injEq] at h
    subst h
    refine ⟨hu, fun t => ?_⟩
    have e : getC [] t = none := rfl
    rw [e]
    cases getC L t <;> exact ⟨rfl, rfl⟩
  | c :: M, L, A, hu, hm, h => by
    obtain ⟨hc, hm2⟩ := List.pairwise_cons.1 hm
    simp only [addAll] at h
    cases h1 : addS L c with
    | none => rw [h1] at h; cases h
    | some L' =>
      rw [h1] at h
      obtain ⟨k1, k2, k3⟩ := addS_some hu h1
      obtain ⟨k4, k5⟩ := addAll_some k1 hm2 h
      refine ⟨k4, fun t => ?_⟩
      have e : getC (c :: M) t = if t = c.id then some c else getC M t := by
        unfold getC
        rw [List.find?_cons]
        by_cases hy : c.id = t
        · simp [hy]
        · simp [hy, Ne.symm hy]
      have h5 := k5 t
      rw [k3] at h5
      rw [e]
      by_cases ht : t = c.id
      · rw [if_pos ht] at h5 ⊢
        have hn : getC M t = none := getC_none.2 fun d hd => by rw [ht]; exact (hc d hd).symm
        rw [hn] at h5
        rw [← ht] at k2
        refine ⟨k2, h5.2.trans ?_⟩
        cases getC L t <;> rfl
      · rw [if_neg ht] at h5 ⊢
        exact h5
theorem addAll_none : ∀ {M L : List Cl}, Uq L → Uq M → (addAll L M = none ↔ ∃ t, okO (getC L t) (getC M t) = false)
  | [], L, hu, _ => by
    simp only [addAll, reduceCtorEq, false_iff, not_exists]
    intro t
    have e : getC [] t = none := rfl
    rw [e]
    cases getC L t <;> simp [okO]
  | c :: M, L, hu, hm => by
    obtain ⟨hc, hm2⟩ := List.pairwise_cons.1 hm
    have e : ∀ t, getC (c :: M) t = if t = c.id then some c else getC M t := fun t => by
      unfold getC
      rw [List.find?_cons]
      by_cases hy : c.id = t
      · simp [hy]
      · simp [hy, Ne.symm hy]
    have hn : getC M c.id = none := getC_none.2 fun d hd => (hc d hd).symm
    simp only [addAll]
    cases h1 : addS L c with
    | none =>
      simp only [Option.bind_none, true_iff]
      exact ⟨c.id, by rw [e, if_pos rfl]; exact addS_none.1 h1⟩
    | some L' =>
      obtain ⟨k1, k2, k3⟩ := addS_some hu h1
      simp only [Option.bind_some]
      rw [addAll_none k1 hm2]
      constructor
      · rintro ⟨t, ht⟩
        rw [k3] at ht
        by_cases htc : t = c.id
        · subst htc
          rw [hn] at ht
          revert ht
          cases (if c.id = c.id then mrgO (getC L c.id) (some c) else getC L c.id) <;> simp [okO]
        · rw [if_neg htc] at ht
          exact ⟨t, by rw [e, if_neg htc]; exact ht⟩
      · rintro ⟨t, ht⟩
        rw [e] at ht
        by_cases htc : t = c.id
        · rw [if_pos htc, htc] at ht
          rw [ht] at k2
          cases k2
        · rw [if_neg htc] at ht
          exact ⟨t, by rw [k3, if_neg htc]; exact ht⟩

theorem sameC_comm (a b : Cl) : sameC a b = sameC b a := by
  unfold sameC
  rw [decide_eq_decide]
  constructor <;> rintro ⟨h1, h2, h3⟩ <;> exact ⟨h1.symm, h2.symm, h3.symm⟩
theorem okO_comm (x y : Option Cl) : okO x y = okO y x := by
  cases x <;> cases y <;> first | rfl | exact sameC_comm _ _
theorem sameC_iff {a b : Cl} : sameC a b = true ↔ a.id = b.id ∧ a.after = b.after ∧ a.pt = b.pt := by simp [sameC]
theorem mrgO_comm {x y : Option Cl} (h : okO x y = true) : mrgO x y = mrgO y x := by
  cases x <;> cases y <;> try rfl
  rename_i a b
  obtain ⟨h1, h2, h3⟩ := sameC_iff.1 h
  show some (mrgC a b) = some (mrgC b a)
  congr 1
  exact Cl.ext' h1 h2 h3 (Bool.or_comm _ _)

/-! ### a page -/
structure Pg (L : List Cl) : Prop where
  proper : ∀ c ∈ L, properC c = true
  uq : Uq L
  link : ∀ c ∈ L, c.after = z2 ∨ ∃ d ∈ L, d.id = c.after
  few : openN L ≤ 64
theorem Pg.nil : Pg [] := ⟨by simp, List.Pairwise.nil, by simp, by simp [openN]⟩
theorem Pg.perm {L M : List Cl} (h : Pg L) (p : L.Perm M) : Pg M where
  proper c hc := h.proper c (p.mem_iff.2 hc)
  uq := h.uq.perm p
  link c hc := (h.link c (p.mem_iff.2 hc)).imp id fun ⟨d, hd, e⟩ => ⟨d, p.mem_iff.1 hd, e⟩
  few := by rw [← openN_perm p]; exact h.few
theorem openN_set {L : List Cl} {c old : Cl} (hu : Uq L) (ho : getC L c.id = some old) (hg : old.gone = true → c.gone = true) : openN (setC L c) ≤ openN L := by
  unfold openN setC
  rw [List.countP_map]
  apply List.countP_mono_left
  intro x hx hp
  simp only [Function.comp_apply, repC, Bool.not_eq_true'] at hp ⊢
  split at hp
  · rename_i e
    have : x = old := uq_one hu hx (getC_mem ho).1 (e.trans (getC_mem ho).2.symm)
    subst this
    cases hx2 : x.gone with
    | false => rfl
    | true => rw [hg hx2] at hp; cases hp
  · exact hp
theorem mem_set {L : List Cl} {c x : Cl} (h : x ∈ setC L c) : x ∈ L ∨ (x = c ∧ ∃ y ∈ L, y.id = c.id) := by
  obtain ⟨y, hy, rfl⟩ := List.mem_map.1 h
  unfold repC
  split
  · exact .inr ⟨rfl, y, hy, ‹_›⟩
  · exact .inl hy
theorem Pg.set {L : List Cl} (h : Pg L) {c old : Cl} (ho : getC L c.id = some old) (ha : c.after = old.after) (hg : old.gone = true → c.gone = true) : Pg (setC L c) := by
  obtain ⟨ho1, ho2⟩ := getC_mem ho
  have hp : properC c = true := by
    have := h.proper old ho1
    unfold properC at *
    rw [ha, ← ho2]
    exact this
  refine ⟨fun x hx => ?_, setC_uq h.uq c, fun x hx => ?_, Nat.le_trans (openN_set h.uq ho hg) h.few⟩
  · rcases mem_set hx with hx | ⟨rfl, _⟩
    · exact h.proper x hx
    · exact hp
  · have hxa : ∃ y ∈ L, x.after = y.after := by
      rcases mem_set hx with hx | ⟨rfl, _⟩
      · exact ⟨x, hx, rfl⟩
      · exact ⟨old, ho1, ha⟩
    obtain ⟨y, hy, e⟩ := hxa
    rw [e]
    rcases h.link y hy with h0 | ⟨d, hd, ed⟩
    · exact .inl h0
    · exact .inr ⟨repC c d, List.mem_map.2 ⟨d, hd, rfl⟩, by rw [repC_id, ed]⟩
theorem Pg.put {L : List Cl} (h : Pg L) (c : Cl) : Pg (putS L c).1 := by
  unfold putS
  split
  · exact h
  rename_i hp
  split
  · rename_i old ho
    split
    · rename_i hs
      obtain ⟨_, h2, _⟩ := sameC_iff.1 hs
      exact h.set (c := mrgC old c) (old := old) (by rw [mrgC_id, (getC_mem ho).2]; exact ho) rfl (fun hg => by simp [mrgC, hg])
    · exact h
  · rename_i hn
    split
    · exact h
    rename_i hl
    split
    · exact h
    rename_i hf
    refine ⟨fun x hx => ?_, uq_snoc h.uq hn, fun x hx => ?_, ?_⟩
    · rcases List.mem_append.1 hx with hx | hx
      · exact h.proper x hx
      · simp at hx; subst hx; simpa using hp
    · rcases List.mem_append.1 hx with hx | hx
      · exact (h.link x hx).imp id fun ⟨d, hd, e⟩ => ⟨d, List.mem_append_left _ hd, e⟩
      · simp at hx
        subst hx
        by_cases hz : x.after = z2
        · exact .inl hz
        · right
          cases hg : getC L x.after with
          | none => exact absurd ⟨hz, hg⟩ hl
          | some d => exact ⟨d, List.mem_append_left _ (getC_mem hg).1, (getC_mem hg).2⟩
    · unfold openN at *
      rw [List.countP_append]
      have := h.few
      unfold openN at this
      cases hg : c.gone with
      | true => simp [hg]; exact this
      | false =>
        have : ¬ 64 ≤ L.countP fun c => !c.gone := fun h64 => hf ⟨hg, h64⟩
        simp [hg]
        omega
theorem Pg.drop {L : List Cl} (h : Pg L) (t : St2) : Pg (dropS L t).1 := by
  unfold dropS
  split
  · exact h
  · rename_i c hc
    exact h.set (c := { c with gone := true }) (old := c) (by show getC L c.id = _; rw [(getC_mem hc).2]; exact hc) rfl fun _ => rfl
theorem mrgO_after {x y : Option Cl} {c : Cl} (h : mrgO x y = some c) : ∃ d, (x = some d ∨ y = some d) ∧ c.id = d.id ∧ c.after = d.after := by
  cases x with
  | none => exact ⟨c, .inr h, rfl, rfl⟩
  | some a =>
    cases y with
    | none => exact ⟨a, .inl rfl, by simp [mrgO] at h; subst h; exact ⟨rfl, rfl⟩⟩
    | some b => exact ⟨a, .inl rfl, by simp [mrgO] at h; subst h; exact ⟨rfl, rfl⟩⟩
theorem Pg.all {L M A : List Cl} (h : Pg L) (hm : Pg M) (ha : addAll L M = some A) (hf : openN A ≤ 64) : Pg A := by
  obtain ⟨k1, k2⟩ := addAll_some h.uq hm.uq ha
  have hin : ∀ c ∈ A, ∃ d, (d ∈ L ∨ d ∈ M) ∧ c.id = d.id ∧ c.after = d.after := fun c hc => by
    have := (k2 c.id).2.symm.trans (getC_of k1 hc)
    obtain ⟨d, hd, h1, h2⟩ := mrgO_after this
    exact ⟨d, hd.imp (fun h => (getC_mem h).1) (fun h => (getC_mem h).1), h1, h2⟩
  have hid : ∀ d, (d ∈ L ∨ d ∈ M) → ∃ c ∈ A, c.id = d.id := fun d hd => by
    have h3 := (k2 d.id).2
    cases hx : mrgO (getC L d.id) (getC M d.id) with
    | some c => rw [hx] at h3; exact ⟨c, (getC_mem h3).1, (getC_mem h3).2⟩
    | none =>
      rcases hd with hd | hd
      · rw [getC_of h.uq hd] at hx
        revert hx
        cases getC M d.id <;> simp [mrgO]
      · rw [getC_of hm.uq hd] at hx
        revert hx
        cases getC L d.id <;> simp [mrgO]
  refine ⟨fun c hc => ?_, k1, fun c hc => ?_, hf⟩
  · obtain ⟨d, hd, h1, h2⟩ := hin c hc
    have : properC d = true := hd.elim (h.proper d) (hm.proper d)
    unfold properC at *
    rw [h1, h2]
    exact this
  · obtain ⟨d, hd, h1, h2⟩ := hin c hc
    rw [h2]
    have : d.after = z2 ∨ ∃ e, (e ∈ L ∨ e ∈ M) ∧ e.id = d.after := by
      rcases hd with hd | hd
      · exact (h.link d hd).imp id fun ⟨e, he, h3⟩ => ⟨e, .inl he, h3⟩
      · exact (hm.link d hd).imp id fun ⟨e, he, h3⟩ => ⟨e, .inr he, h3⟩
    rcases this with h3 | ⟨e, he, h3⟩
    · exact .inl h3
    · obtain ⟨c', hc', h4⟩ := hid e he
      exact .inr ⟨c', hc', h4.trans h3⟩
theorem Pg.join {L M : List Cl} (h : Pg L) (hm : Pg M) : Pg (joinS L M).1 := by
  unfold joinS
  split
  · exact h
  · rename_i A hA
    split
    · exact h
    · exact h.all hm hA (Nat.le_of_not_lt ‹_›)
/-- A Join does not hang on the order. -/
theorem join_perm {L L' M M' : List Cl} (h : Uq L) (hm : Uq M) (p : L.Perm L') (q : M.Perm M') : (joinS L' M').2 = (joinS L M).2 ∧ (joinS L M).1.Perm (joinS L' M').1 := by
  have h' := h.perm p
  have hm' := hm.perm q
  unfold joinS
  cases hA : addAll L M with
  | none =>
    obtain ⟨t, ht⟩ := (addAll_none h hm).1 hA
    rw [getC_perm h p, getC_perm hm q] at ht
    rw [(addAll_none h' hm').2 ⟨t, ht⟩]
    exact ⟨rfl, p⟩
  | some A =>
    cases hB : addAll L' M' with
    | none =>
      obtain ⟨t, ht⟩ := (addAll_none h' hm').1 hB
      rw [← getC_perm h p, ← getC_perm hm q, ((addAll_some h hm hA).2 t).1] at ht
      cases ht
    | some B =>
      obtain ⟨k1, k2⟩ := addAll_some h hm hA
      obtain ⟨k3, k4⟩ := addAll_some h' hm' hB
      have pq : A.Perm B := perm_of_getC k1 k3 fun t => by rw [(k2 t).2, (k4 t).2, getC_perm h p, getC_perm hm q]
      have ho := openN_perm pq
      simp only
      rw [ho]
      split
      · exact ⟨rfl, p⟩
      · exact ⟨rfl, pq⟩
theorem put_perm {L L' : List Cl} (h : Uq L) (p : L.Perm L') (c : Cl) : (putS L' c).2 = (putS L c).2 ∧ (putS L c).1.Perm (putS L' c).1 := by
  unfold putS
  rw [getC_perm h p, getC_perm h p, openN_perm p]
  split
  · exact ⟨rfl, p⟩
  split
  · split
    · exact ⟨rfl, p.map _⟩
    · exact ⟨rfl, p⟩
  · split
    · exact ⟨rfl, p⟩
    · split
      · exact ⟨rfl, p⟩
      · exact ⟨rfl, p.append_right _⟩
theorem drop_perm {L L' : List Cl} (h : Uq L) (p : L.Perm L') (t : St2) : (dropS L' t).2 = (dropS L t).2 ∧ (dropS L t).1.Perm (dropS L' t).1 := by
  unfold dropS
  rw [getC_perm h p]
  split
  · exact ⟨rfl, p⟩
  · exact ⟨rfl, p.map _⟩
end Go.Proofs.Ytaicbllfkehhjaa
