/- Part 0 of what the laws of this seat stand on: Base, Ea, Eb, Plan, Ec. -/
import Derived.WalkKit
import Derived.Outline
import Derived.WalkSpells
import Derived.WalkLawsBesides
import Derived.Below
import Derived.Laws.OwnMore
import Derived.Deep.AppendLies
import Derived.Deep.Draws
import Derived.Laws.Rows
import Derived.Lib.Hide
import Derived.StillTailTactics
import Derived.Deep.QuietTactic
import Derived.BigQuiet
import Derived.OrdersHeld
import Derived.Test.YtaicbllfkehhjaaProg
import Derived.Lib.Strings
import Derived.Deep.WholeRow

/- Small words on memory, without any program: a slice that reads as a list, a block that is known whole, a call that has turned only some blocks. -/
namespace Go.Proofs.Ytaicbllfkehhjaa
open Go.RowKit

theorem block_of_add (a : Addr) (n : Nat) : (a.add n).block = a.block := by unfold Addr.add; split <;> rfl
theorem add_of_add (a : Addr) (i j : Nat) : (a.add i).add j = a.add (i + j) := by
  unfold Addr.add
  by_cases hi : i = 0 <;> by_cases hj : j = 0 <;> simp [hi, hj, Nat.add_assoc]

/-- Block g is known whole. -/
def Blk (w : World) (g : Nat) (t : TypeId) (cs : Array Value) : Prop := w.heap[g]? = some (.cells cs t (0, 0))

section
variable {w w' : World} {g : Nat} {t : TypeId} {cs : Array Value}
theorem Blk.lt (h : Blk w g t cs) : g < w.heap.size := by
  rcases Nat.lt_or_ge g w.heap.size with hlt | hge
  · exact hlt
  · unfold Blk at h; rw [Array.getElem?_eq_none hge] at h; cases h
theorem Blk.cell (h : Blk w g t cs) (i : Nat) : w.cell? ⟨g, i, none⟩ = cs[i]? := cell_of_row w g i cs t (0, 0) h
theorem Blk.frozen (h : Blk w g t cs) (i : Nat) : w.frozen? ⟨g, i, none⟩ = false := by
  unfold Blk at h
  simp [World.frozen?, h]
theorem Blk.all (h : Blk w g t cs) : (∀ i, w.cell? ⟨g, i, none⟩ = cs[i]?) ∧ (∀ i, w.frozen? ⟨g, i, none⟩ = false) ∧ g < w.heap.size := ⟨h.cell, h.frozen, h.lt⟩
theorem Blk.new (w : World) (t : TypeId) (cs : Array Value) : Blk (w.alloc (.cells cs t)) w.heap.size t cs := heap_alloc_new w _
theorem Blk.new1 (w : World) (o : Obj) (t : TypeId) (cs : Array Value) : Blk ((w.alloc o).alloc (.cells cs t)) (w.heap.size + 1) t cs := by
  have := Blk.new (w.alloc o) t cs
  have e : (w.alloc o).heap.size = w.heap.size + 1 := by simp
  rwa [e] at this
theorem Blk.new2 (w : World) (o o' : Obj) (t : TypeId) (cs : Array Value) : Blk (((w.alloc o).alloc o').alloc (.cells cs t)) (w.heap.size + 1 + 1) t cs := by
  have := Blk.new ((w.alloc o).alloc o') t cs
  have e : ((w.alloc o).alloc o').heap.size = w.heap.size + 1 + 1 := by simp
  rwa [e] at this
theorem Blk.drew (h : Blk w g t cs) : Blk w.drew g t cs := h
theorem Blk.drewN (h : Blk w g t cs) (n : Nat) : Blk (w.drewN n) g t cs := h
theorem Blk.alloc (h : Blk w g t cs) (o : Obj) : Blk (w.alloc o) g t cs := (Below.heap_alloc w o g h.lt).trans h
theorem Blk.set_ (h : Blk w g t cs) (i : Nat) (u : Value) : Blk (w.setCell ⟨g, i, none⟩ u) g t (cs.setIfInBounds i u) := by
  unfold Blk at h ⊢
  simp [World.setCell, Array.getElem?_modify, h]
theorem Blk.far (h : Blk w g t cs) {p : Addr} (hp : g ≠ p.block) (u : Value) : Blk (w.setCell p u) g t cs := (Below.heap_setCell w p u g hp).trans h
theorem Blk.below {B : Nat} (h : Blk w g t cs) (hb : Below B w w') (hg : g < B) : Blk w' g t cs := (hb.block g hg).trans h
theorem Blk.grown {row : Option Nat} (h : Blk w g t cs) (hb : w.grownBy w' row) (hg : some g ≠ row) : Blk w' g t cs := (hb.block g h.lt hg).trans h
theorem Blk.ne_ {g' : Nat} {t' : TypeId} {cs' : Array Value} (h : Blk w g t cs) (h' : Blk w g' t' cs') (hne : t ≠ t') : g ≠ g' := by
  rintro rfl
  unfold Blk at h h'
  rw [h] at h'
  injection h' with h'
  injection h' with _ ht
  exact hne ht
end

/-- A set of blocks. -/
abbrev Foot := Nat → Prop

/-- Of the old blocks only those of F have turned. -/
structure Only (F : Foot) (w w' : World) : Prop where
  os : w'.os = w.os
  tape : w'.tape = w.tape
  output : w'.output = w.output
  size : w.heap.size ≤ w'.heap.size
  block : ∀ i, i < w.heap.size → ¬ F i → w'.heap[i]? = w.heap[i]?

namespace Only
variable {F G : Foot} {a w w' w'' : World}
theorem refl (F : Foot) (w : World) : Only F w w := ⟨rfl, rfl, rfl, Nat.le_refl _, fun _ _ _ => rfl⟩
theorem trans (h : Only F a w) (k : Only G w w') (hG : ∀ i, G i → F i ∨ a.heap.size ≤ i) : Only F a w' :=
  ⟨k.os.trans h.os, k.tape.trans h.tape, k.output.trans h.output, Nat.le_trans h.size k.size,
   fun i hi hn => (k.block i (Nat.lt_of_lt_of_le hi h.size) (fun hg => by rcases hG i hg with h1 | h1; exact hn h1; omega)).trans (h.block i hi hn)⟩
theorem mono (h : Only F w w') (hG : ∀ i, F i → G i) : Only G w w' := ⟨h.os, h.tape, h.output, h.size, fun i hi hn => h.block i hi (fun hf => hn (hG i hf))⟩
theorem of_below (h : Below w.heap.size w w') (F : Foot) : Only F w w' := ⟨h.os, h.tape, h.output, h.size, fun i hi _ => h.block i hi⟩
theorem below (h : Only F w w') {B : Nat} (hB : B ≤ w.heap.size) (hF : ∀ i, F i → B ≤ i) : Below B w w' :=
  ⟨h.os, h.tape, h.output, h.size, fun i hi => h.block i (by omega) (fun hf => by have := hF i hf; omega)⟩
theorem drew (h : Only F a w) : Only F a w.drew := ⟨h.os, h.tape, h.output, h.size, h.block⟩
theorem drewN (h : Only F a w) (n : Nat) : Only F a (w.drewN n) := ⟨h.os, h.tape, h.output, h.size, h.block⟩
theorem alloc (h : Only F a w) (o : Obj) : Only F a (w.alloc o) :=
  ⟨h.os, h.tape, h.output, Nat.le_trans h.size (by simp), fun i hi hn => (Below.heap_alloc w o i (Nat.lt_of_lt_of_le hi h.size)).trans (h.block i hi hn)⟩
theorem setCell (h : Only F a w) {p : Addr} (hp : F p.block ∨ a.heap.size ≤ p.block) (u : Value) : Only F a (w.setCell p u) :=
  ⟨h.os, h.tape, h.output, by simpa [World.setCell] using h.size, fun i hi hn => (Below.heap_setCell w p u i (by
    rintro rfl
    rcases hp with hp | hp
    · exact hn hp
    · omega)).trans (h.block i hi hn)⟩
theorem blk {g : Nat} {t : TypeId} {cs : Array Value} (h : Only F w w') (hb : Blk w g t cs) (hg : ¬ F g) : Blk w' g t cs := (h.block g hb.lt hg).trans hb
theorem owns {base : Nat} {e : TypeId} {size : Nat} {v : Value} {n : Nat} {xs : List Value} (h : Only F w w') (ho : w.ownsRow base e size v n xs) (hn : ∀ g, v.ownBlock = some g → ¬ F g) : w'.ownsRow base e size v n xs := by
  refine ⟨ho.1, ?_⟩
  rcases ho.2 with h0 | ⟨g, cap, cur, hv, hb, hh, hr⟩
  · exact .inl h0
  · refine .inr ⟨g, cap, cur, hv, hb, ?_, hr⟩
    have hlt : g < w.heap.size := by
      rcases Nat.lt_or_ge g w.heap.size with hlt | hge
      · exact hlt
      · rw [Array.getElem?_eq_none hge] at hh; cases hh
    exact (h.block g hlt (hn g (by rw [hv]; rfl))).trans hh
theorem undrew (h : Only F w.drew w') : Only F w w' := ⟨h.os, h.tape, h.output, h.size, h.block⟩
theorem undrewN {n : Nat} (h : Only F (w.drewN n) w') : Only F w w' := ⟨h.os, h.tape, h.output, h.size, h.block⟩
theorem of_grown {row : Option Nat} (h : w.grownBy w' row) : Only (fun i => row = some i) w w' := ⟨h.os, h.tape, h.output, h.size, fun i hi hn => h.block i hi (fun e => hn e.symm)⟩
end Only
theorem own_blk_ne {w : World} {g : Nat} {t : TypeId} {cs : Array Value} {base : Nat} {e : TypeId} {size n : Nat} {v : Value} {xs : List Value} (h : w.ownsRow base e size v n xs) (hg : Blk w g t cs) (hne : e ≠ t) : v.ownBlock ≠ some g := by
  rcases h.2 with ⟨rfl, _⟩ | ⟨g', cap, cur, rfl, _, hh, _⟩
  · simp [Value.ownBlock]
  · intro he
    have : g' = g := by simpa [Value.ownBlock] using he
    subst this
    exact Blk.ne_ (t := e) hh hg hne rfl

theorem below_alloc {w w1 : World} {o : Obj} (hb : Below (w.alloc o).heap.size (w.alloc o) w1) : Below w.heap.size w w1 :=
  ((Below.refl _ _).alloc (Nat.le_refl _) _).trans (hb.mono (by simp))
theorem below_drew {w w1 : World} (hb : Below w.heap.size w.drew w1) : Below w.heap.size w w1 := ⟨hb.os, hb.tape, hb.output, hb.size, hb.block⟩

/-- A slice value whose elements are the cells xs ('size' cells each), read out of blocks of F. -/
def Reads (w : World) (F : Foot) (size : Nat) (A : Option Addr) (n : Nat) (xs : List Value) : Prop :=
  xs.length = n * size ∧ (0 < n → ∃ ad, A = some ad ∧ F ad.block ∧ ad.block < w.heap.size ∧ ∀ j u, xs[j]? = some u → w.cell? (ad.add j) = some u)

end Go.Proofs.Ytaicbllfkehhjaa

/- Clauses on a page, in plain words: Put, Drop, Join. No program in sight. -/
namespace Go.Proofs.Ytaicbllfkehhjaa

abbrev St2 := Int × Int
abbrev Itm := Int × ByteArray × ByteArray × ByteArray × ByteArray × ByteArray × Bool
abbrev Pt := Int × ByteArray × ByteArray × ByteArray × ByteArray × Itm × Int × ByteArray × ByteArray
instance : DecidableEq (ByteArray × ByteArray × ByteArray × Bool) := inferInstance
instance : DecidableEq (ByteArray × ByteArray × ByteArray × ByteArray × ByteArray × Bool) := inferInstance
instance : DecidableEq Itm := inferInstance
instance : DecidableEq (Itm × Int × ByteArray × ByteArray) := inferInstance
instance : DecidableEq (ByteArray × ByteArray × Itm × Int × ByteArray × ByteArray) := inferInstance
instance : DecidableEq (ByteArray × ByteArray × ByteArray × ByteArray × Itm × Int × ByteArray × ByteArray) := inferInstance
instance : DecidableEq Pt := inferInstance
structure Cl where
  id : St2
  after : St2
  pt : Pt
  gone : Bool
theorem Cl.ext' {a b : Cl} (h1 : a.id = b.id) (h2 : a.after = b.after) (h3 : a.pt = b.pt) (h4 : a.gone = b.gone) : a = b := by
  cases a; cases b; simp only at h1 h2 h3 h4; subst h1 h2 h3 h4; rfl
instance : DecidableEq Cl := fun a b =>
  decidable_of_iff (a.id = b.id ∧ a.after = b.after ∧ a.pt = b.pt ∧ a.gone = b.gone) ⟨fun h => Cl.ext' h.1 h.2.1 h.2.2.1 h.2.2.2, fun h => h ▸ ⟨rfl, rfl, rfl, rfl⟩⟩

def z2 : St2 := (0, 0)
def properT (s : St2) : Bool := decide (0 ≤ s.1) && (decide (s.1 < 200) && (decide (1 ≤ s.2) && decide (s.2 ≤ 1000000)))
def properC (c : Cl) : Bool := properT c.id && (decide (c.after = z2) || (properT c.after && decide (c.after.2 < c.id.2)))
def getC (L : List Cl) (t : St2) : Option Cl := L.find? fun c => decide (c.id = t)
def openN (L : List Cl) : Nat := L.countP fun c => !c.gone
def sameC (a b : Cl) : Bool := decide (a.id = b.id ∧ a.after = b.after ∧ a.pt = b.pt)
def mrgC (a b : Cl) : Cl := { a with gone := a.gone || b.gone }
def repC (c x : Cl) : Cl := if x.id = c.id then c else x
def setC (L : List Cl) (c : Cl) : List Cl := L.map (repC c)
def putS (L : List Cl) (c : Cl) : List Cl × Int :=
  if properC c = false then (L, 1) else
  match getC L c.id with
  | some old => if sameC old c then (setC L (mrgC old c), 0) else (L, 9)
  | none => if c.after ≠ z2 ∧ getC L c.after = none then (L, 11) else if c.gone = false ∧ 64 ≤ openN L then (L, 27) else (L ++ [c], 0)
def dropS (L : List Cl) (t : St2) : List Cl × Int :=
  match getC L t with
  | none => (L, 11)
  | some c => (setC L { c with gone := true }, 0)
def addS (L : List Cl) (c : Cl) : Option (List Cl) :=
  match getC L c.id with
  | none => some (L ++ [c])
  | some old => if sameC old c then some (setC L (mrgC old c)) else none
def addAll : List Cl → List Cl → Option (List Cl)
  | L, [] => some L
  | L, c :: M => (addS L c).bind fun L' => addAll L' M
def joinS (L M : List Cl) : List Cl × Int :=
  match addAll L M with
  | none => (L, 9)
  | some A => if 64 < openN A then (L, 27) else (A, 0)

/-! ### looking up -/
def Uq (L : List Cl) : Prop := L.Pairwise fun a b => a.id ≠ b.id
theorem getC_mem {L : List Cl} {t : St2} {c : Cl} (h : getC L t = some c) : c ∈ L ∧ c.id = t := by
  have h1 := List.mem_of_find?_eq_some h
  have h2 := List.find?_some h
  exact ⟨h1, by simpa using h2⟩
theorem getC_none {L : List Cl} {t : St2} : getC L t = none ↔ ∀ c ∈ L, c.id ≠ t := by
  unfold getC
  rw [List.find?_eq_none]
  simp
theorem uq_one {L : List Cl} (h : Uq L) {a b : Cl} (ha : a ∈ L) (hb : b ∈ L) (e : a.id = b.id) : a = b := by
  induction L with
  | nil => cases ha
  | cons x L ih =>
    obtain ⟨h1, h2⟩ := List.pairwise_cons.1 h
    rcases List.mem_cons.1 ha with ea | ha
    · rcases List.mem_cons.1 hb with eb | hb
      · rw [ea, eb]
      · exact absurd e (by rw [ea]; exact h1 b hb)
    · rcases List.mem_cons.1 hb with eb | hb
      · exact absurd e.symm (by rw [eb]; exact h1 a ha)
      · exact ih h2 ha hb
theorem getC_of {L : List Cl} (h : Uq L) {c : Cl} (hc : c ∈ L) : getC L c.id = some c := by
  cases hg : getC L c.id with
  | none => exact absurd rfl (getC_none.1 hg c hc)
  | some d =>
    obtain ⟨h1, h2⟩ := getC_mem hg
    rw [uq_one h h1 hc h2]
theorem getC_iff {L : List Cl} (h : Uq L) {t : St2} {c : Cl} : getC L t = some c ↔ c ∈ L ∧ c.id = t :=
  ⟨getC_mem, fun ⟨h1, h2⟩ => h2 ▸ getC_of h h1⟩
theorem uq_nodup {L : List Cl} (h : Uq L) : L.Nodup := h.imp fun h e => h (by rw [e])
theorem Uq.perm {L M : List Cl} (h : Uq L) (p : L.Perm M) : Uq M := (p.pairwise_iff fun {_ _} h => Ne.symm h).1 h
theorem getC_perm {L M : List Cl} (h : Uq L) (p : L.Perm M) (t : St2) : getC L t = getC M t := by
  cases hg : getC M t with
  | none => exact getC_none.2 fun c hc => getC_none.1 hg c (p.mem_iff.1 hc)
  | some c =>
    obtain ⟨h1, h2⟩ := getC_mem hg
    exact (getC_iff h).2 ⟨p.mem_iff.2 h1, h2⟩
theorem perm_of_mem : ∀ {L M : List Cl}, L.Nodup → M.Nodup → (∀ c, c ∈ L ↔ c ∈ M) → L.Perm M := fun {L M} h1 h2 h => by
  rw [List.perm_iff_count]
  intro a
  by_cases ha : a ∈ L
  · rw [h1.count, h2.count, if_pos ha, if_pos ((h a).1 ha)]
  · rw [h1.count, h2.count, if_neg ha, if_neg fun hb => ha ((h a).2 hb)]
theorem perm_of_getC {L M : List Cl} (h1 : Uq L) (h2 : Uq M) (h : ∀ t, getC L t = getC M t) : L.Perm M :=
  perm_of_mem (uq_nodup h1) (uq_nodup h2) fun c => by
    have a := getC_iff h1 (t := c.id) (c := c)
    have b := getC_iff h2 (t := c.id) (c := c)
    rw [h] at a
    simp only [and_true] at a b
    exact a.symm.trans b
theorem openN_perm {L M : List Cl} (p : L.Perm M) : openN L = openN M := p.countP_eq _

/-! ### what a step leaves -/
theorem repC_id (c x : Cl) : (repC c x).id = x.id := by unfold repC; split <;> simp_all
theorem setC_uq {L : List Cl} (h : Uq L) (c : Cl) : Uq (setC L c) := by
  unfold Uq setC
  rw [List.pairwise_map]
  exact h.imp fun h => by rw [repC_id, repC_id]; exact h
theorem getC_set {L : List Cl} {c : Cl} {t : St2} : getC (setC L c) t = if t = c.id then (getC L t).map fun _ => c else getC L t := by
  unfold setC
  induction L with
  | nil => simp [getC]
  | cons x L ih =>
    have e : ∀ M : List Cl, ∀ y : Cl, getC (y :: M) t = if y.id = t then some y else getC M t := fun M y => by
      unfold getC
      rw [List.find?_cons]
      by_cases hy : y.id = t <;> simp [hy]
    rw [List.map_cons, e, e, ih, repC_id]
    by_cases hx : x.id = t
    · rw [if_pos hx, if_pos hx]
      unfold repC
      by_cases ht : t = c.id
      · simp [hx, ht]
      · simp [hx, ht]
    · rw [if_neg hx, if_neg hx]
theorem uq_snoc {L : List Cl} (h : Uq L) {c : Cl} (hc : getC L c.id = none) : Uq (L ++ [c]) := by
  unfold Uq
  rw [List.pairwise_append]
  exact ⟨h, by simp, fun a ha b hb => by simp at hb; subst hb; exact getC_none.1 hc a ha⟩
theorem getC_snoc {L : List Cl} {c : Cl} (hc : getC L c.id = none) (t : St2) : getC (L ++ [c]) t = if t = c.id then some c else getC L t := by
  unfold getC at *
  rw [List.find?_append]
  by_cases ht : t = c.id
  · subst ht
    rw [hc]
    simp
  · rw [if_neg ht]
    cases List.find? (fun c => decide (c.id = t)) L with
    | some d => rfl
    | none => simp [Ne.symm ht]

/-- What one entry of a page and one of another become. -/
def mrgO : Option Cl → Option Cl → Option Cl
  | none, y => y
  | some a, none => some a
  | some a, some b => some (mrgC a b)
def okO : Option Cl → Option Cl → Bool
  | some a, some b => sameC a b
  | _, _ => true
theorem mrgC_id (a b : Cl) : (mrgC a b).id = a.id := rfl
theorem addS_some {L A : List Cl} {c : Cl} (hu : Uq L) (h : addS L c = some A) : Uq A ∧ okO (getC L c.id) (some c) = true ∧ ∀ t, getC A t = if t = c.id then mrgO (getC L t) (some c) else getC L t := by
  unfold addS at h
  split at h
  · rename_i hg
    simp only [Option.some.injEq] at h
    subst h
    refine ⟨uq_snoc hu hg, by rw [hg]; rfl, fun t => ?_⟩
    rw [getC_snoc hg]
    by_cases ht : t = c.id
    · rw [if_pos ht, if_pos ht, ht, hg]; rfl
    · rw [if_neg ht, if_neg ht]
  · rename_i old hg
    split at h
    · rename_i hs
      simp only [Option.some.injEq] at h
      subst h
      have hid := (getC_mem hg).2
      refine ⟨setC_uq hu _, by rw [hg]; exact hs, fun t => ?_⟩
      rw [getC_set, mrgC_id, hid]
      by_cases ht : t = c.id
      · rw [if_pos ht, if_pos ht, ht, hg]; rfl
      · rw [if_neg ht, if_neg ht]
    · cases h
theorem addS_none {L : List Cl} {c : Cl} : addS L c = none ↔ okO (getC L c.id) (some c) = false := by
  unfold addS
  cases hg : getC L c.id with
  | none => simp [okO]
  | some old => cases hs : sameC old c <;> simp [okO, hs]
theorem addAll_some : ∀ {M L A : List Cl}, Uq L → Uq M → addAll L M = some A → Uq A ∧ ∀ t, okO (getC L t) (getC M t) = true ∧ getC A t = mrgO (getC L t) (getC M t)
  | [], L, A, hu, _, h => by
    simp only [addAll, Option.some.injEq] at h
    subst h
    refine ⟨hu, fun t => ?_⟩
    have e : getC [] t = none := rfl
    rw [e]
    cases getC L t <;> exact ⟨rfl, rfl⟩
  | c :: M, L, A, hu, hm, h => by
    obtain ⟨hc, hm2⟩ := List.pairwise_cons.1 hm
    simp only [addAll] at h
    cases h1 : addS L c with
    | none => rw [h1] at h; cases h
    | some L' =>
      rw [h1] at h
      obtain ⟨k1, k2, k3⟩ := addS_some hu h1
      obtain ⟨k4, k5⟩ := addAll_some k1 hm2 h
      refine ⟨k4, fun t => ?_⟩
      have e : getC (c :: M) t = if t = c.id then some c else getC M t := by
        unfold getC
        rw [List.find?_cons]
        by_cases hy : c.id = t
        · simp [hy]
        · simp [hy, Ne.symm hy]
      have h5 := k5 t
      rw [k3] at h5
      rw [e]
      by_cases ht : t = c.id
      · rw [if_pos ht] at h5 ⊢
        have hn : getC M t = none := getC_none.2 fun d hd => by rw [ht]; exact (hc d hd).symm
        rw [hn] at h5
        rw [← ht] at k2
        refine ⟨k2, h5.2.trans ?_⟩
        cases getC L t <;> rfl
      · rw [if_neg ht] at h5 ⊢
        exact h5
theorem addAll_none : ∀ {M L : List Cl}, Uq L → Uq M → (addAll L M = none ↔ ∃ t, okO (getC L t) (getC M t) = false)
  | [], L, hu, _ => by
    simp only [addAll, reduceCtorEq, false_iff, not_exists]
    intro t
    have e : getC [] t = none := rfl
    rw [e]
    cases getC L t <;> simp [okO]
  | c :: M, L, hu, hm => by
    obtain ⟨hc, hm2⟩ := List.pairwise_cons.1 hm
    have e : ∀ t, getC (c :: M) t = if t = c.id then some c else getC M t := fun t => by
      unfold getC
      rw [List.find?_cons]
      by_cases hy : c.id = t
      · simp [hy]
      · simp [hy, Ne.symm hy]
    have hn : getC M c.id = none := getC_none.2 fun d hd => (hc d hd).symm
    simp only [addAll]
    cases h1 : addS L c with
    | none =>
      simp only [Option.bind_none, true_iff]
      exact ⟨c.id, by rw [e, if_pos rfl]; exact addS_none.1 h1⟩
    | some L' =>
      obtain ⟨k1, k2, k3⟩ := addS_some hu h1
      simp only [Option.bind_some]
      rw [addAll_none k1 hm2]
      constructor
      · rintro ⟨t, ht⟩
        rw [k3] at ht
        by_cases htc : t = c.id
        · subst htc
          rw [hn] at ht
          revert ht
          cases (if c.id = c.id then mrgO (getC L c.id) (some c) else getC L c.id) <;> simp [okO]
        · rw [if_neg htc] at ht
          exact ⟨t, by rw [e, if_neg htc]; exact ht⟩
      · rintro ⟨t, ht⟩
        rw [e] at ht
        by_cases htc : t = c.id
        · rw [if_pos htc, htc] at ht
          rw [ht] at k2
          cases k2
        · rw [if_neg htc] at ht
          exact ⟨t, by rw [k3, if_neg htc]; exact ht⟩

theorem sameC_comm (a b : Cl) : sameC a b = sameC b a := by
  unfold sameC
  rw [decide_eq_decide]
  constructor <;> rintro ⟨h1, h2, h3⟩ <;> exact ⟨h1.symm, h2.symm, h3.symm⟩
theorem okO_comm (x y : Option Cl) : okO x y = okO y x := by
  cases x <;> cases y <;> first | rfl | exact sameC_comm _ _
theorem sameC_iff {a b : Cl} : sameC a b = true ↔ a.id = b.id ∧ a.after = b.after ∧ a.pt = b.pt := by simp [sameC]
theorem mrgO_comm {x y : Option Cl} (h : okO x y = true) : mrgO x y = mrgO y x := by
  cases x <;> cases y <;> try rfl
  rename_i a b
  obtain ⟨h1, h2, h3⟩ := sameC_iff.1 h
  show some (mrgC a b) = some (mrgC b a)
  congr 1
  exact Cl.ext' h1 h2 h3 (Bool.or_comm _ _)

/-! ### a page -/
structure Pg (L : List Cl) : Prop where
  proper : ∀ c ∈ L, properC c = true
  uq : Uq L
  link : ∀ c ∈ L, c.after = z2 ∨ ∃ d ∈ L, d.id = c.after
  few : openN L ≤ 64
theorem Pg.nil : Pg [] := ⟨by simp, List.Pairwise.nil, by simp, by simp [openN]⟩
theorem Pg.perm {L M : List Cl} (h : Pg L) (p : L.Perm M) : Pg M where
  proper c hc := h.proper c (p.mem_iff.2 hc)
  uq := h.uq.perm p
  link c hc := (h.link c (p.mem_iff.2 hc)).imp id fun ⟨d, hd, e⟩ => ⟨d, p.mem_iff.1 hd, e⟩
  few := by rw [← openN_perm p]; exact h.few
theorem openN_set {L : List Cl} {c old : Cl} (hu : Uq L) (ho : getC L c.id = some old) (hg : old.gone = true → c.gone = true) : openN (setC L c) ≤ openN L := by
  unfold openN setC
  rw [List.countP_map]
  apply List.countP_mono_left
  intro x hx hp
  simp only [Function.comp_apply, repC, Bool.not_eq_true'] at hp ⊢
  split at hp
  · rename_i e
    have : x = old := uq_one hu hx (getC_mem ho).1 (e.trans (getC_mem ho).2.symm)
    subst this
    cases hx2 : x.gone with
    | false => rfl
    | true => rw [hg hx2] at hp; cases hp
  · exact hp
theorem mem_set {L : List Cl} {c x : Cl} (h : x ∈ setC L c) : x ∈ L ∨ (x = c ∧ ∃ y ∈ L, y.id = c.id) := by
  obtain ⟨y, hy, rfl⟩ := List.mem_map.1 h
  unfold repC
  split
  · exact .inr ⟨rfl, y, hy, ‹_›⟩
  · exact .inl hy
theorem Pg.set {L : List Cl} (h : Pg L) {c old : Cl} (ho : getC L c.id = some old) (ha : c.after = old.after) (hg : old.gone = true → c.gone = true) : Pg (setC L c) := by
  obtain ⟨ho1, ho2⟩ := getC_mem ho
  have hp : properC c = true := by
    have := h.proper old ho1
    unfold properC at *
    rw [ha, ← ho2]
    exact this
  refine ⟨fun x hx => ?_, setC_uq h.uq c, fun x hx => ?_, Nat.le_trans (openN_set h.uq ho hg) h.few⟩
  · rcases mem_set hx with hx | ⟨rfl, _⟩
    · exact h.proper x hx
    · exact hp
  · have hxa : ∃ y ∈ L, x.after = y.after := by
      rcases mem_set hx with hx | ⟨rfl, _⟩
      · exact ⟨x, hx, rfl⟩
      · exact ⟨old, ho1, ha⟩
    obtain ⟨y, hy, e⟩ := hxa
    rw [e]
    rcases h.link y hy with h0 | ⟨d, hd, ed⟩
    · exact .inl h0
    · exact .inr ⟨repC c d, List.mem_map.2 ⟨d, hd, rfl⟩, by rw [repC_id, ed]⟩
theorem Pg.put {L : List Cl} (h : Pg L) (c : Cl) : Pg (putS L c).1 := by
  unfold putS
  split
  · exact h
  rename_i hp
  split
  · rename_i old ho
    split
    · rename_i hs
      obtain ⟨_, h2, _⟩ := sameC_iff.1 hs
      exact h.set (c := mrgC old c) (old := old) (by rw [mrgC_id, (getC_mem ho).2]; exact ho) rfl (fun hg => by simp [mrgC, hg])
    · exact h
  · rename_i hn
    split
    · exact h
    rename_i hl
    split
    · exact h
    rename_i hf
    refine ⟨fun x hx => ?_, uq_snoc h.uq hn, fun x hx => ?_, ?_⟩
    · rcases List.mem_append.1 hx with hx | hx
      · exact h.proper x hx
      · simp at hx; subst hx; simpa using hp
    · rcases List.mem_append.1 hx with hx | hx
      · exact (h.link x hx).imp id fun ⟨d, hd, e⟩ => ⟨d, List.mem_append_left _ hd, e⟩
      · simp at hx
        subst hx
        by_cases hz : x.after = z2
        · exact .inl hz
        · right
          cases hg : getC L x.after with
          | none => exact absurd ⟨hz, hg⟩ hl
          | some d => exact ⟨d, List.mem_append_left _ (getC_mem hg).1, (getC_mem hg).2⟩
    · unfold openN at *
      rw [List.countP_append]
      have := h.few
      unfold openN at this
      cases hg : c.gone with
      | true => simp [hg]; exact this
      | false =>
        have : ¬ 64 ≤ L.countP fun c => !c.gone := fun h64 => hf ⟨hg, h64⟩
        simp [hg]
        omega
theorem Pg.drop {L : List Cl} (h : Pg L) (t : St2) : Pg (dropS L t).1 := by
  unfold dropS
  split
  · exact h
  · rename_i c hc
    exact h.set (c := { c with gone := true }) (old := c) (by show getC L c.id = _; rw [(getC_mem hc).2]; exact hc) rfl fun _ => rfl
theorem mrgO_after {x y : Option Cl} {c : Cl} (h : mrgO x y = some c) : ∃ d, (x = some d ∨ y = some d) ∧ c.id = d.id ∧ c.after = d.after := by
  cases x with
  | none => exact ⟨c, .inr h, rfl, rfl⟩
  | some a =>
    cases y with
    | none => exact ⟨a, .inl rfl, by simp [mrgO] at h; subst h; exact ⟨rfl, rfl⟩⟩
    | some b => exact ⟨a, .inl rfl, by simp [mrgO] at h; subst h; exact ⟨rfl, rfl⟩⟩
theorem Pg.all {L M A : List Cl} (h : Pg L) (hm : Pg M) (ha : addAll L M = some A) (hf : openN A ≤ 64) : Pg A := by
  obtain ⟨k1, k2⟩ := addAll_some h.uq hm.uq ha
  have hin : ∀ c ∈ A, ∃ d, (d ∈ L ∨ d ∈ M) ∧ c.id = d.id ∧ c.after = d.after := fun c hc => by
    have := (k2 c.id).2.symm.trans (getC_of k1 hc)
    obtain ⟨d, hd, h1, h2⟩ := mrgO_after this
    exact ⟨d, hd.imp (fun h => (getC_mem h).1) (fun h => (getC_mem h).1), h1, h2⟩
  have hid : ∀ d, (d ∈ L ∨ d ∈ M) → ∃ c ∈ A, c.id = d.id := fun d hd => by
    have h3 := (k2 d.id).2
    cases hx : mrgO (getC L d.id) (getC M d.id) with
    | some c => rw [hx] at h3; exact ⟨c, (getC_mem h3).1, (getC_mem h3).2⟩
    | none =>
      rcases hd with hd | hd
      · rw [getC_of h.uq hd] at hx
        revert hx
        cases getC M d.id <;> simp [mrgO]
      · rw [getC_of hm.uq hd] at hx
        revert hx
        cases getC L d.id <;> simp [mrgO]
  refine ⟨fun c hc => ?_, k1, fun c hc => ?_, hf⟩
  · obtain ⟨d, hd, h1, h2⟩ := hin c hc
    have : properC d = true := hd.elim (h.proper d) (hm.proper d)
    unfold properC at *
    rw [h1, h2]
    exact this
  · obtain ⟨d, hd, h1, h2⟩ := hin c hc
    rw [h2]
    have : d.after = z2 ∨ ∃ e, (e ∈ L ∨ e ∈ M) ∧ e.id = d.after := by
      rcases hd with hd | hd
      · exact (h.link d hd).imp id fun ⟨e, he, h3⟩ => ⟨e, .inl he, h3⟩
      · exact (hm.link d hd).imp id fun ⟨e, he, h3⟩ => ⟨e, .inr he, h3⟩
    rcases this with h3 | ⟨e, he, h3⟩
    · exact .inl h3
    · obtain ⟨c', hc', h4⟩ := hid e he
      exact .inr ⟨c', hc', h4.trans h3⟩
theorem Pg.join {L M : List Cl} (h : Pg L) (hm : Pg M) : Pg (joinS L M).1 := by
  unfold joinS
  split
  · exact h
  · rename_i A hA
    split
    · exact h
    · exact h.all hm hA (Nat.le_of_not_lt ‹_›)
/-- A Join does not hang on the order. -/
theorem join_perm {L L' M M' : List Cl} (h : Uq L) (hm : Uq M) (p : L.Perm L') (q : M.Perm M') : (joinS L' M').2 = (joinS L M).2 ∧ (joinS L M).1.Perm (joinS L' M').1 := by
  have h' := h.perm p
  have hm' := hm.perm q
  unfold joinS
  cases hA : addAll L M with
  | none =>
    obtain ⟨t, ht⟩ := (addAll_none h hm).1 hA
    rw [getC_perm h p, getC_perm hm q] at ht
    rw [(addAll_none h' hm').2 ⟨t, ht⟩]
    exact ⟨rfl, p⟩
  | some A =>
    cases hB : addAll L' M' with
    | none =>
      obtain ⟨t, ht⟩ := (addAll_none h' hm').1 hB
      rw [← getC_perm h p, ← getC_perm hm q, ((addAll_some h hm hA).2 t).1] at ht
      cases ht
    | some B =>
      obtain ⟨k1, k2⟩ := addAll_some h hm hA
      obtain ⟨k3, k4⟩ := addAll_some h' hm' hB
      have pq : A.Perm B := perm_of_getC k1 k3 fun t => by rw [(k2 t).2, (k4 t).2, getC_perm h p, getC_perm hm q]
      have ho := openN_perm pq
      simp only
      rw [ho]
      split
      · exact ⟨rfl, p⟩
      · exact ⟨rfl, pq⟩
theorem put_perm {L L' : List Cl} (h : Uq L) (p : L.Perm L') (c : Cl) : (putS L' c).2 = (putS L c).2 ∧ (putS L c).1.Perm (putS L' c).1 := by
  unfold putS
  rw [getC_perm h p, getC_perm h p, openN_perm p]
  split
  · exact ⟨rfl, p⟩
  split
  · split
    · exact ⟨rfl, p.map _⟩
    · exact ⟨rfl, p⟩
  · split
    · exact ⟨rfl, p⟩
    · split
      · exact ⟨rfl, p⟩
      · exact ⟨rfl, p.append_right _⟩
theorem drop_perm {L L' : List Cl} (h : Uq L) (p : L.Perm L') (t : St2) : (dropS L' t).2 = (dropS L t).2 ∧ (dropS L t).1.Perm (dropS L' t).1 := by
  unfold dropS
  rw [getC_perm h p]
  split
  · exact ⟨rfl, p⟩
  · exact ⟨rfl, p.map _⟩
end Go.Proofs.Ytaicbllfkehhjaa

/- Clauses in order, in plain words: the tree of a page, walked. No program in sight. -/
namespace Go.Proofs.Ytaicbllfkehhjaa

/-- a comes before b among children. -/
def bef (a b : Cl) : Bool := decide (b.id.2 < a.id.2) || (decide (a.id.2 = b.id.2) && decide (b.id.1 < a.id.1))
theorem bef_iff {a b : Cl} : bef a b = true ↔ b.id.2 < a.id.2 ∨ (a.id.2 = b.id.2 ∧ b.id.1 < a.id.1) := by simp [bef]
theorem bef_asymm {a b : Cl} (h : bef a b = true) (h' : bef b a = true) : False := by
  rw [bef_iff] at h h'; omega
theorem bef_trans {a b c : Cl} (h : bef a b = true) (h' : bef b c = true) : bef a c = true := by
  rw [bef_iff] at *; omega
theorem bef_total {a b : Cl} (h : a.id ≠ b.id) : bef a b = true ∨ bef b a = true := by
  rw [bef_iff, bef_iff]
  have : ¬ (a.id.1 = b.id.1 ∧ a.id.2 = b.id.2) := fun ⟨h1, h2⟩ => h (Prod.ext h1 h2)
  omega
def insC (x : Cl) : List Cl → List Cl
  | [] => [x]
  | y :: l => if bef y x then y :: insC x l else x :: y :: l
def sortC (l : List Cl) : List Cl := l.foldl (fun a x => insC x a) []
theorem insC_perm (x : Cl) : ∀ l, (insC x l).Perm (x :: l)
  | [] => List.Perm.refl _
  | y :: l => by
    unfold insC
    split
    · exact ((insC_perm x l).cons y).trans (List.Perm.swap _ _ _)
    · exact List.Perm.refl _
theorem insC_sorted {x : Cl} : ∀ {l : List Cl}, l.Pairwise (fun a b => bef a b = true) → (∀ y ∈ l, y.id ≠ x.id) → (insC x l).Pairwise (fun a b => bef a b = true)
  | [], _, _ => by simp [insC]
  | y :: l, h, hx => by
    obtain ⟨h1, h2⟩ := List.pairwise_cons.1 h
    unfold insC
    split
    · rename_i hb
      refine List.pairwise_cons.2 ⟨fun z hz => ?_, insC_sorted h2 fun z hz => hx z (List.mem_cons_of_mem _ hz)⟩
      rcases List.mem_cons.1 ((insC_perm x l).mem_iff.1 hz) with rfl | hz
      · exact hb
      · exact h1 z hz
    · rename_i hb
      have hxy : bef x y = true := (bef_total (hx y List.mem_cons_self)).resolve_left hb
      refine List.pairwise_cons.2 ⟨fun z hz => ?_, h⟩
      rcases List.mem_cons.1 hz with rfl | hz
      · exact hxy
      · exact bef_trans hxy (h1 z hz)
theorem insC_split (x : Cl) : ∀ l, ∃ a b, l = a ++ b ∧ insC x l = a ++ x :: b
  | [] => ⟨[], [], rfl, rfl⟩
  | y :: l => by
    unfold insC
    split
    · obtain ⟨a, b, h1, h2⟩ := insC_split x l
      exact ⟨y :: a, b, by rw [h1]; rfl, by rw [h2]; rfl⟩
    · exact ⟨[], y :: l, rfl, rfl⟩
theorem sortC_fold : ∀ (l a : List Cl), (l.foldl (fun a x => insC x a) a).Perm (l ++ a)
  | [], _ => List.Perm.refl _
  | x :: l, a => (sortC_fold l (insC x a)).trans (((insC_perm x a).append_left l).trans List.perm_middle)
theorem sortC_perm (l : List Cl) : (sortC l).Perm l := by
  have := sortC_fold l []
  rwa [List.append_nil] at this
theorem sortC_sorted_fold : ∀ (l a : List Cl), (l ++ a).Pairwise (fun a b => a.id ≠ b.id) → a.Pairwise (fun a b => bef a b = true) → (l.foldl (fun a x => insC x a) a).Pairwise (fun a b => bef a b = true)
  | [], a, _, h => h
  | x :: l, a, hu, h => by
    obtain ⟨h1, h2⟩ := List.pairwise_cons.1 hu
    refine sortC_sorted_fold l (insC x a) ?_ (insC_sorted h fun y hy => Ne.symm (h1 y (List.mem_append_right _ hy)))
    have hp : (x :: (l ++ a)).Perm (l ++ insC x a) := (List.perm_middle.symm).trans ((insC_perm x a).symm.append_left l)
    exact (hp.pairwise_iff fun {_ _} h => Ne.symm h).1 hu
theorem sortC_sorted {l : List Cl} (h : Uq l) : (sortC l).Pairwise (fun a b => bef a b = true) := sortC_sorted_fold l [] (by rw [List.append_nil]; exact h) List.Pairwise.nil
theorem sort_one {l m : List Cl} (h1 : l.Pairwise (fun a b => bef a b = true)) (h2 : m.Pairwise (fun a b => bef a b = true)) (p : l.Perm m) : l = m :=
  p.eq_of_pairwise (fun _ _ _ _ h h' => (bef_asymm h h').elim) h1 h2

/-! ### the tree -/
def kids (L : List Cl) (t : St2) : List Cl := sortC (L.filter fun c => decide (c.after = t))
def walkN : Nat → List Cl → St2 → List Cl
  | 0, _, _ => []
  | n + 1, L, t => (kids L t).flatMap fun c => c :: walkN n L c.id
theorem walkN_succ (n : Nat) (L : List Cl) (t : St2) : walkN (n + 1) L t = (kids L t).flatMap fun c => c :: walkN n L c.id := rfl
def walkS (L : List Cl) : List Cl := walkN (L.length + 1) L z2
def rank (L : List Cl) (t : St2) : Nat := L.countP fun c => decide (t.2 < c.id.2)
structure Tr (L : List Cl) : Prop where
  uq : Uq L
  up : ∀ c ∈ L, c.after.2 < c.id.2
  pos : ∀ c ∈ L, 0 < c.id.2
  link : ∀ c ∈ L, c.after = z2 ∨ ∃ d ∈ L, d.id = c.after
theorem properC_iff {c : Cl} : properC c = true ↔ (0 ≤ c.id.1 ∧ c.id.1 < 200 ∧ 1 ≤ c.id.2 ∧ c.id.2 ≤ 1000000) ∧ (c.after = z2 ∨ ((0 ≤ c.after.1 ∧ c.after.1 < 200 ∧ 1 ≤ c.after.2 ∧ c.after.2 ≤ 1000000) ∧ c.after.2 < c.id.2)) := by
  simp [properC, properT]
theorem Pg.tr {L : List Cl} (h : Pg L) : Tr L where
  uq := h.uq
  up c hc := by
    rcases (properC_iff.1 (h.proper c hc)) with ⟨h1, h2 | h2⟩
    · rw [h2]; show (0 : Int) < _; omega
    · exact h2.2
  pos c hc := by have := (properC_iff.1 (h.proper c hc)).1; omega
  link := h.link
theorem kids_mem {L : List Cl} {t : St2} {c : Cl} : c ∈ kids L t ↔ c ∈ L ∧ c.after = t := by
  unfold kids
  rw [(sortC_perm _).mem_iff, List.mem_filter]
  simp
theorem kids_sorted {L : List Cl} (h : Uq L) (t : St2) : (kids L t).Pairwise (fun a b => bef a b = true) := sortC_sorted (List.Pairwise.filter _ h)
theorem kids_perm {L M : List Cl} (h : Uq L) (p : L.Perm M) (t : St2) : kids L t = kids M t :=
  sort_one (kids_sorted h t) (kids_sorted (h.perm p) t) ((sortC_perm _).trans ((p.filter _).trans (sortC_perm _).symm))
theorem flatMap_congr' {f g : Cl → List Cl} : ∀ {l : List Cl}, (∀ c ∈ l, f c = g c) → l.flatMap f = l.flatMap g
  | [], _ => rfl
  | x :: l, h => by
    rw [List.flatMap_cons, List.flatMap_cons, h x List.mem_cons_self, flatMap_congr' fun c hc => h c (List.mem_cons_of_mem _ hc)]
theorem walkN_perm {L M : List Cl} (h : Uq L) (p : L.Perm M) : ∀ n t, walkN n L t = walkN n M t
  | 0, _ => rfl
  | n + 1, t => by
    unfold walkN
    rw [kids_perm h p]
    exact flatMap_congr' fun c _ => by rw [walkN_perm h p n]
theorem walkS_perm {L M : List Cl} (h : Uq L) (p : L.Perm M) : walkS L = walkS M := by
  unfold walkS
  rw [p.length_eq]
  exact walkN_perm h p _ _
theorem rank_le (L : List Cl) (t : St2) : rank L t ≤ L.length := List.countP_le_length
theorem countP_lt {α : Type} {p q : α → Bool} {x : α} : ∀ {l : List α}, (∀ a ∈ l, p a = true → q a = true) → x ∈ l → p x = false → q x = true → l.countP p < l.countP q
  | y :: l, h, hx, h1, h2 => by
    have hle : l.countP p ≤ l.countP q := List.countP_mono_left fun a ha hp => h a (List.mem_cons_of_mem _ ha) hp
    rw [List.countP_cons, List.countP_cons]
    rcases List.mem_cons.1 hx with rfl | hx
    · rw [h1, h2]
      simp
      omega
    · have := countP_lt (fun a ha => h a (List.mem_cons_of_mem _ ha)) hx h1 h2
      by_cases hy : p y = true
      · rw [hy, h y List.mem_cons_self hy]; simp; omega
      · simp [hy]; omega
theorem rank_kid {L : List Cl} (h : Tr L) {t : St2} {c : Cl} (hc : c ∈ kids L t) : rank L c.id < rank L t := by
  obtain ⟨h1, h2⟩ := kids_mem.1 hc
  have h3 := h.up c h1
  rw [h2] at h3
  unfold rank
  exact countP_lt (x := c) (fun a _ ha => by simp at ha ⊢; omega) h1 (by simp) (by simpa using h3)
theorem walkN_fuel {L : List Cl} (h : Tr L) : ∀ n m t, rank L t < n → rank L t < m → walkN n L t = walkN m L t
  | 0, _, _, h1, _ => by omega
  | _, 0, _, _, h2 => by omega
  | n + 1, m + 1, t, h1, h2 => by
    unfold walkN
    exact flatMap_congr' fun c hc => by
      have := rank_kid h hc
      rw [walkN_fuel h n m c.id (by omega) (by omega)]

/-! ### one leaf more -/
structure Leaf (L' L : List Cl) (x : Cl) : Prop where
  tr : Tr L'
  perm : L'.Perm (x :: L)
  leaf : ∀ c ∈ L, c.after ≠ x.id
section
variable {L' L : List Cl} {x : Cl}
theorem Leaf.ne (h : Leaf L' L x) {c : Cl} (hc : c ∈ L) : c.id ≠ x.id := by
  have := h.tr.uq.perm h.perm
  exact Ne.symm ((List.pairwise_cons.1 this).1 c hc)
theorem Leaf.uq (h : Leaf L' L x) : Uq L := (List.pairwise_cons.1 (h.tr.uq.perm h.perm)).2
theorem Leaf.mem (h : Leaf L' L x) {c : Cl} (hc : c ∈ L) : c ∈ L' := h.perm.mem_iff.2 (List.mem_cons_of_mem _ hc)
theorem Leaf.self (h : Leaf L' L x) : x.after ≠ x.id := fun e => by
  have := h.tr.up x (h.perm.mem_iff.2 List.mem_cons_self)
  rw [e] at this
  omega
theorem Leaf.kids (h : Leaf L' L x) (t : St2) : kids L' t = if x.after = t then insC x (kids L t) else kids L t := by
  rw [kids_perm h.tr.uq h.perm]
  split
  · rename_i e
    refine sort_one (kids_sorted (h.tr.uq.perm h.perm) t) (insC_sorted (kids_sorted h.uq t) fun y hy => h.ne (kids_mem.1 hy).1) ?_
    have e1 : (x :: L).filter (fun c => decide (c.after = t)) = x :: L.filter (fun c => decide (c.after = t)) := List.filter_cons_of_pos (by simpa using e)
    refine (sortC_perm _).trans ?_
    rw [e1]
    exact ((sortC_perm (L.filter fun c => decide (c.after = t))).symm.cons x).trans (insC_perm x _).symm
  · rename_i e
    have e1 : (x :: L).filter (fun c => decide (c.after = t)) = L.filter (fun c => decide (c.after = t)) := List.filter_cons_of_neg (by simpa using e)
    unfold Proofs.Ytaicbllfkehhjaa.kids
    rw [e1]
theorem Leaf.none (h : Leaf L' L x) (n : Nat) : walkN n L' x.id = [] := by
  cases n with
  | zero => rfl
  | succ n =>
    have : Proofs.Ytaicbllfkehhjaa.kids L' x.id = [] := by
      rw [List.eq_nil_iff_forall_not_mem]
      intro c hc
      obtain ⟨h1, h2⟩ := kids_mem.1 hc
      rcases List.mem_cons.1 (h.perm.mem_iff.1 h1) with rfl | h1
      · exact h.self h2
      · exact h.leaf c h1 h2
    unfold walkN
    rw [this]
    rfl
theorem Leaf.filter (h : Leaf L' L x) : ∀ n t, (walkN n L' t).filter (fun c => decide (c ≠ x)) = walkN n L t
  | 0, _ => rfl
  | n + 1, t => by
    have hk : ∀ K : List Cl, (∀ c ∈ K, c ∈ L) → (K.flatMap fun c => c :: walkN n L' c.id).filter (fun c => decide (c ≠ x)) = K.flatMap fun c => c :: walkN n L c.id := fun K hK => by
      rw [List.filter_flatMap]
      refine flatMap_congr' fun c hc => ?_
      have hne : c ≠ x := fun e => h.ne (hK c hc) (by rw [e])
      rw [List.filter_cons_of_pos (by simpa using hne), h.filter n c.id]
    show ((Proofs.Ytaicbllfkehhjaa.kids L' t).flatMap fun c => c :: walkN n L' c.id).filter _ = (Proofs.Ytaicbllfkehhjaa.kids L t).flatMap fun c => c :: walkN n L c.id
    rw [h.kids]
    have hm : ∀ c ∈ Proofs.Ytaicbllfkehhjaa.kids L t, c ∈ L := fun c hc => (kids_mem.1 hc).1
    split
    · obtain ⟨a, b, h1, h2⟩ := insC_split x (Proofs.Ytaicbllfkehhjaa.kids L t)
      rw [h2, h1, List.flatMap_append, List.flatMap_cons, h.none n, List.filter_append, List.filter_append, hk a (fun c hc => hm c (by rw [h1]; exact List.mem_append_left _ hc)), hk b (fun c hc => hm c (by rw [h1]; exact List.mem_append_right _ hc)), List.flatMap_append]
      simp
    · exact hk _ hm
theorem Leaf.count (h : Leaf L' L x) : ∀ n t, rank L' t < n → (walkN n L' t).count x = (if x.after = t then 1 else 0) + (walkN n L t).countP fun c => decide (c.id = x.after)
  | 0, _, hr => by omega
  | n + 1, t, hr => by
    have hk : ∀ K : List Cl, (∀ c ∈ K, c ∈ L ∧ rank L' c.id < n) → (K.flatMap fun c => c :: walkN n L' c.id).count x = (K.flatMap fun c => c :: walkN n L c.id).countP fun c => decide (c.id = x.after) := fun K hK => by
      induction K with
      | nil => rfl
      | cons c K ih =>
        obtain ⟨h1, h2⟩ := hK c List.mem_cons_self
        have hne : c ≠ x := fun e => h.ne h1 (by rw [e])
        rw [List.flatMap_cons, List.flatMap_cons, List.count_append, List.countP_append, ih fun c hc => hK c (List.mem_cons_of_mem _ hc), List.count_cons_of_ne hne, h.count n c.id h2, List.countP_cons]
        by_cases e : c.id = x.after
        · rw [if_pos e.symm]; simp [e]; omega
        · rw [if_neg (Ne.symm e)]; simp [e]
    show ((Proofs.Ytaicbllfkehhjaa.kids L' t).flatMap fun c => c :: walkN n L' c.id).count x = _ + ((Proofs.Ytaicbllfkehhjaa.kids L t).flatMap fun c => c :: walkN n L c.id).countP _
    have hm : ∀ c ∈ Proofs.Ytaicbllfkehhjaa.kids L t, c ∈ L ∧ rank L' c.id < n := fun c hc => by
      obtain ⟨h1, h2⟩ := kids_mem.1 hc
      have := rank_kid h.tr (kids_mem.2 ⟨h.mem h1, h2⟩)
      exact ⟨h1, by omega⟩
    rw [h.kids]
    split
    · obtain ⟨a, b, h1, h2⟩ := insC_split x (Proofs.Ytaicbllfkehhjaa.kids L t)
      have ha := hk a fun c hc => hm c (by rw [h1]; exact List.mem_append_left _ hc)
      have hb := hk b fun c hc => hm c (by rw [h1]; exact List.mem_append_right _ hc)
      rw [h2, h1, List.flatMap_append, List.flatMap_cons, h.none n, List.count_append, List.count_append, ha, hb, List.flatMap_append, List.countP_append, List.count_cons_self]
      simp only [List.count_nil]
      omega
    · rw [hk _ hm, Nat.zero_add]
end
theorem exists_max : ∀ {L : List Cl}, L ≠ [] → ∃ x ∈ L, ∀ c ∈ L, c.id.2 ≤ x.id.2
  | [], h => absurd rfl h
  | [x], _ => ⟨x, List.mem_cons_self, fun c hc => by simp at hc; subst hc; exact Int.le_refl _⟩
  | x :: y :: L, _ => by
    obtain ⟨m, hm, hM⟩ := exists_max (L := y :: L) (by simp)
    by_cases h : x.id.2 ≤ m.id.2
    · refine ⟨m, List.mem_cons_of_mem _ hm, fun c hc => ?_⟩
      rcases List.mem_cons.1 hc with rfl | hc
      · exact h
      · exact hM c hc
    · refine ⟨x, List.mem_cons_self, fun c hc => ?_⟩
      rcases List.mem_cons.1 hc with rfl | hc
      · exact Int.le_refl _
      · have := hM c hc; omega
theorem countP_id {L : List Cl} (h : Uq L) {d : Cl} (hd : d ∈ L) : (L.countP fun c => decide (c.id = d.id)) = 1 := by
  induction L with
  | nil => cases hd
  | cons y L ih =>
    obtain ⟨h1, h2⟩ := List.pairwise_cons.1 h
    rw [List.countP_cons]
    rcases List.mem_cons.1 hd with rfl | hd
    · have : (L.countP fun c => decide (c.id = d.id)) = 0 := List.countP_eq_zero.2 fun c hc => by simpa using Ne.symm (h1 c hc)
      rw [this]; simp
    · rw [ih h2 hd]
      simp [h1 d hd]
theorem walk_leaf {L' L : List Cl} {x : Cl} (h : Leaf L' L x) (ht : Tr L) (hp : (walkS L).Perm L) : (walkS L').count x = 1 ∧ (walkS L').filter (fun c => decide (c ≠ x)) = walkS L := by
  have hlen : L'.length = L.length + 1 := h.perm.length_eq
  have hr := rank_le L' z2
  have hr2 := rank_le L z2
  have hx : x ∈ L' := h.perm.mem_iff.2 List.mem_cons_self
  have e : walkN (L'.length + 1) L z2 = walkS L := walkN_fuel ht _ _ _ (by omega) (by omega)
  refine ⟨?_, ?_⟩
  · unfold walkS
    rw [h.count _ _ (by omega), e, hp.countP_eq]
    rcases h.tr.link x hx with h0 | ⟨d, hd, hde⟩
    · rw [if_pos h0]
      have : (L.countP fun c => decide (c.id = x.after)) = 0 := List.countP_eq_zero.2 fun c hc => by
        have := ht.pos c hc
        simp only [decide_eq_true_eq]
        intro e2
        rw [e2, h0] at this
        exact absurd this (by decide)
      rw [this]
    · have hne : x.after ≠ z2 := fun e2 => by
        have := h.tr.pos d hd
        rw [hde, e2] at this
        exact absurd this (by decide)
      rw [if_neg hne]
      rcases List.mem_cons.1 (h.perm.mem_iff.1 hd) with rfl | hd
      · exact absurd hde.symm h.self
      · rw [← hde, countP_id h.uq hd]
  · unfold walkS
    rw [h.filter, e]
    rfl
theorem walk_perm_len : ∀ (n : Nat) {L : List Cl}, L.length = n → Tr L → (walkS L).Perm L
  | 0, L, hn, _ => by
    obtain rfl : L = [] := List.length_eq_zero_iff.1 hn
    exact List.Perm.refl _
  | n + 1, L, hn, ht => by
    obtain ⟨x, hx, hmax⟩ := exists_max (L := L) (by intro e; rw [e] at hn; cases hn)
    have hp := List.perm_cons_erase hx
    have hle := hp.length_eq
    simp only [List.length_cons] at hle
    have hsub : ∀ {c}, c ∈ L.erase x → c ∈ L := fun hc => List.mem_of_mem_erase hc
    have hl : Leaf L (L.erase x) x := ⟨ht, hp, fun c hc e => by
      have h1 := ht.up c (hsub hc)
      have h2 := hmax c (hsub hc)
      rw [e] at h1
      omega⟩
    have ht0 : Tr (L.erase x) := ⟨hl.uq, fun c hc => ht.up c (hsub hc), fun c hc => ht.pos c (hsub hc), fun c hc => (ht.link c (hsub hc)).imp id fun ⟨d, hd, e⟩ => by
      rcases List.mem_cons.1 (hp.mem_iff.1 hd) with rfl | hd
      · exact absurd e.symm (hl.leaf c hc)
      · exact ⟨d, hd, e⟩⟩
    have ih := walk_perm_len n (L := L.erase x) (by omega) ht0
    obtain ⟨k1, k2⟩ := walk_leaf hl ht0 ih
    rw [List.perm_iff_count]
    intro a
    by_cases ha : a = x
    · subst ha
      rw [k1, (uq_nodup ht.uq).count, if_pos hx]
    · have h1 : (walkS L).count a = ((walkS L).filter fun c => decide (c ≠ x)).count a := (List.count_filter (by simpa using ha)).symm
      rw [h1, k2, ih.count_eq, hp.count_eq, List.count_cons_of_ne (Ne.symm ha)]
theorem walk_perm {L : List Cl} (h : Tr L) : (walkS L).Perm L := walk_perm_len _ rfl h
theorem walk_uq {L : List Cl} (h : Tr L) : Uq (walkS L) := h.uq.perm (walk_perm h).symm

/-! ### clauses turned in place -/
theorem insC_map {f : Cl → Cl} (hf : ∀ x, (f x).id = x.id) (x : Cl) : ∀ l, insC (f x) (l.map f) = (insC x l).map f
  | [] => rfl
  | y :: l => by
    have e : bef (f y) (f x) = bef y x := by unfold bef; rw [hf, hf]
    rw [List.map_cons]
    unfold insC
    rw [e]
    split
    · rw [List.map_cons, insC_map hf x l]
    · rfl
theorem sortC_map {f : Cl → Cl} (hf : ∀ x, (f x).id = x.id) : ∀ (l a : List Cl), (l.map f).foldl (fun a x => insC x a) (a.map f) = (l.foldl (fun a x => insC x a) a).map f
  | [], a => rfl
  | x :: l, a => by
    rw [List.map_cons, List.foldl_cons, List.foldl_cons, insC_map hf, sortC_map hf l]
theorem kids_map {f : Cl → Cl} (hf : ∀ x, (f x).id = x.id) {L : List Cl} (ha : ∀ x ∈ L, (f x).after = x.after) (t : St2) : kids (L.map f) t = (kids L t).map f := by
  unfold kids sortC
  rw [List.filter_map]
  have e : L.filter ((fun c => decide (c.after = t)) ∘ f) = L.filter (fun c => decide (c.after = t)) := List.filter_congr fun x hx => by simp [ha x hx]
  rw [e]
  exact sortC_map hf _ []
theorem walkN_map {f : Cl → Cl} (hf : ∀ x, (f x).id = x.id) {L : List Cl} (ha : ∀ x ∈ L, (f x).after = x.after) : ∀ n t, walkN n (L.map f) t = (walkN n L t).map f
  | 0, _ => rfl
  | n + 1, t => by
    unfold walkN
    rw [kids_map hf ha, List.flatMap_map, List.map_flatMap]
    refine flatMap_congr' fun c _ => ?_
    rw [hf, walkN_map hf ha n, List.map_cons]
theorem walkS_map {f : Cl → Cl} (hf : ∀ x, (f x).id = x.id) {L : List Cl} (ha : ∀ x ∈ L, (f x).after = x.after) : walkS (L.map f) = (walkS L).map f := by
  unfold walkS
  rw [List.length_map]
  exact walkN_map hf ha _ _

/-! ### where a clause stands -/
theorem walk_below {L : List Cl} : ∀ {n : Nat} {t : St2} {x : Cl}, x ∈ walkN n L t → x.after = t ∨ ∃ A d B, walkN n L t = A ++ d :: B ∧ d.id = x.after ∧ x ∈ B
  | 0, _, _, h => by cases h
  | n + 1, t, x, h => by
    have h' := h
    unfold walkN at h
    obtain ⟨e, he, hx⟩ := List.mem_flatMap.1 h
    obtain ⟨a, b, hab⟩ := List.append_of_mem he
    have hsp : walkN (n + 1) L t = (a.flatMap fun c => c :: walkN n L c.id) ++ (e :: (walkN n L e.id ++ b.flatMap fun c => c :: walkN n L c.id)) := by
      rw [walkN_succ, hab, List.flatMap_append, List.flatMap_cons, List.cons_append]
    rcases List.mem_cons.1 hx with rfl | hx
    · exact .inl (kids_mem.1 he).2
    · right
      rcases walk_below hx with h1 | ⟨A, d, B, h1, h2, h3⟩
      · exact ⟨_, e, _, hsp, h1.symm, List.mem_append_left _ hx⟩
      · rw [h1] at hsp
        refine ⟨(a.flatMap fun c => c :: walkN n L c.id) ++ e :: A, d, B ++ b.flatMap fun c => c :: walkN n L c.id, ?_, h2, List.mem_append_left _ h3⟩
        rw [hsp]
        simp
theorem kids_first {L : List Cl} (hu : Uq L) {x : Cl} (hx : x ∈ L) (hg : ∀ c ∈ L, c ≠ x → c.id.2 < x.id.2) : ∃ K, kids L x.after = x :: K := by
  have hm : x ∈ kids L x.after := kids_mem.2 ⟨hx, rfl⟩
  have hs := kids_sorted hu x.after
  cases hk : kids L x.after with
  | nil => rw [hk] at hm; cases hm
  | cons y K =>
    rw [hk] at hm hs
    rcases List.mem_cons.1 hm with rfl | hm
    · exact ⟨K, rfl⟩
    · have h1 := (List.pairwise_cons.1 hs).1 x hm
      have hy : y ∈ L := (kids_mem.1 (hk ▸ List.mem_cons_self : y ∈ kids L x.after)).1
      have hne : y ≠ x := fun e => by rw [e] at h1; exact bef_asymm h1 h1
      have h2 := hg y hy hne
      rw [bef_iff] at h1
      omega
theorem walk_first {L : List Cl} (ht : Tr L) {x : Cl} (hxL : x ∈ L) (hg : ∀ c ∈ L, c ≠ x → c.id.2 < x.id.2) : ∀ {n : Nat} {t : St2}, rank L t < n → x ∈ walkN n L t →
    (x.after = t ∧ ∃ B, walkN n L t = x :: B) ∨ ∃ A d B, walkN n L t = A ++ d :: x :: B ∧ d.id = x.after
  | 0, _, h, _ => by omega
  | n + 1, t, hr, h => by
    have h' := h
    unfold walkN at h
    obtain ⟨e, he, hx⟩ := List.mem_flatMap.1 h
    have hrk := rank_kid ht he
    obtain ⟨a, b, hab⟩ := List.append_of_mem he
    have hsp : walkN (n + 1) L t = (a.flatMap fun c => c :: walkN n L c.id) ++ (e :: (walkN n L e.id ++ b.flatMap fun c => c :: walkN n L c.id)) := by
      rw [walkN_succ, hab, List.flatMap_append, List.flatMap_cons, List.cons_append]
    rcases List.mem_cons.1 hx with hxe | hx
    · left
      subst hxe
      have h1 := (kids_mem.1 he).2
      obtain ⟨K, hK⟩ := kids_first ht.uq hxL hg
      refine ⟨h1, walkN n L x.id ++ K.flatMap fun c => c :: walkN n L c.id, ?_⟩
      rw [← h1]
      rw [walkN_succ, hK, List.flatMap_cons]
      rfl
    · right
      rcases walk_first ht hxL hg (by omega) hx with ⟨h1, B, h2⟩ | ⟨A, d, B, h1, h2⟩
      · rw [h2] at hsp
        exact ⟨a.flatMap (fun c => c :: walkN n L c.id), e, B ++ b.flatMap fun c => c :: walkN n L c.id, by rw [hsp]; simp, h1.symm⟩
      · rw [h1] at hsp
        exact ⟨(a.flatMap fun c => c :: walkN n L c.id) ++ e :: A, d, B ++ b.flatMap fun c => c :: walkN n L c.id, by rw [hsp]; simp, h2⟩
end Go.Proofs.Ytaicbllfkehhjaa

/- A region that draws its order, walked by a plan: some moves first, then operations that only read, in the order of the text, then operations that come up one at a time. Over any program. -/
namespace Go.Proofs.Ytaicbllfkehhjaa
open Go.RowKit

section
variable {P : Program} {ops : Array Oper} {md : Region.Mode} {Q : Exit → Act → World → Prop} {w : World}

/-- Operation t waits for operation g, through others if need be. -/
def reachB (md : Region.Mode) (ops : Array Oper) : Nat → Nat → Nat → Bool
  | 0, _, _ => false
  | f + 1, t, g => match ops[t]? with
    | some o => o.after.any fun e => Region.binds md e && (e.on == g || reachB md ops f e.on g)
    | none => false

def Closed (md : Region.Mode) (ops : Array Oper) (listed : Array Bool) : Prop :=
  ∀ j oj, ops[j]? = some oj → listed.getD j false = true → ∀ e ∈ oj.after, Region.binds md e = true → listed.getD e.on false = true

theorem reach_not {listed : Array Bool} (hc : Closed md ops listed) {g : Nat} (hg : listed.getD g false = false) :
    ∀ (f t : Nat), reachB md ops f t g = true → listed.getD t false = false ∧ t ∉ Region.ready md ops listed := by
  intro f
  induction f with
  | zero => intro t h; cases h
  | succ f ih =>
    intro t h
    unfold reachB at h
    cases ho : ops[t]? with
    | none => rw [ho] at h; cases h
    | some o =>
      rw [ho] at h
      obtain ⟨e, he, hb⟩ := Array.any_eq_true'.1 h
      simp only [Bool.and_eq_true, Bool.or_eq_true, beq_iff_eq] at hb
      have hon : listed.getD e.on false = false := by
        rcases hb.2 with h1 | h1
        · rw [h1]; exact hg
        · exact (ih e.on h1).1
      refine ⟨?_, fun hr => ?_⟩
      · cases hl : listed.getD t false with
        | false => rfl
        | true => rw [hc t o ho hl e he hb.1] at hon; cases hon
      · obtain ⟨_, o', ho', hall⟩ := mem_ready.1 hr
        have : o' = o := Option.some.inj (ho'.symm.trans ho)
        subst this
        rw [hall e he hb.1] at hon
        cases hon

theorem Closed.set {i : Nat} {listed : Array Bool} (hc : Closed md ops listed) (hi : i ∈ Region.ready md ops listed) : Closed md ops (listed.setIfInBounds i true) := by
  obtain ⟨_, oi, hoi, hall⟩ := mem_ready.1 hi
  intro j oj hoj hl e he hb
  by_cases hij : i = j
  · subst hij
    have : oj = oi := Option.some.inj (hoj.symm.trans hoi)
    subst this
    exact getD_set_true (hall e he hb)
  · rw [getD_set_ne false hij] at hl
    exact getD_set_true (hc j oj hoj hl e he hb)

/-- Each operation is listed, or of G, or waits for all of G. -/
def AllWait (md : Region.Mode) (ops : Array Oper) (G : List Nat) (listed : Array Bool) : Prop :=
  ∀ t, t ∈ Region.ready md ops listed → t ∈ G ∨ ∀ g ∈ G, listed.getD g false = true

def wpAnyG (P : Program) (md : Region.Mode) (ops : Array Oper) (w : World) (L : Array Bool → Act → Prop) : Nat → Array Bool → Act → Prop
  | 0, listed, a => L listed a
  | f + 1, listed, a => Region.ready md ops listed ≠ [] ∧ ∀ i ∈ Region.ready md ops listed, stOp P ops w i (wpAnyG P md ops w L f (listed.setIfInBounds i true)) a

theorem wpAny_of_G {g : Nat} {L : Array Bool → Act → Prop} (hL : ∀ listed a, L listed a → wpAny P md ops Q g listed a w) :
    ∀ (f : Nat) (listed : Array Bool) (a : Act), wpAnyG P md ops w L f listed a → wpAny P md ops Q (f + g) listed a w
  | 0, listed, a, h => by rw [Nat.zero_add]; exact hL _ _ h
  | f + 1, listed, a, h => by
    rw [show f + 1 + g = (f + g) + 1 by omega]
    exact ⟨fun h0 => absurd h0 h.1, fun i hi => wpOp_of_stOp (fun a' h' => wpAny_of_G hL f _ a' h') (h.2 i hi)⟩

/-- What an operation outside the group must wait for. -/
def waitB (md : Region.Mode) (ops : Array Oper) (rest : List Nat) (hs : List Nat) : Bool := rest.all fun t => hs.all fun g => reachB md ops ops.size t g

theorem wpAnyG_first {i : Nat} {oi : Oper} {v : Value} {L : Array Bool → Act → Prop} {hs rest : List Nat} (hi : ops[i]? = some oi) (hsel : ∀ (j : Nat) (o : Oper) cs b, ops[j]? = some o → o.op ≠ .select cs b)
    (hin : i ∈ hs) (hw : waitB md ops rest hs = true)
    (hdone : ∀ listed a, L listed a → ∀ j ∈ Region.ready md ops listed, j ∈ rest) :
    ∀ (f : Nat) (listed : Array Bool) (a : Act), Closed md ops listed →
      (∀ j oj, ops[j]? = some oj → j ≠ i → listed.getD j true = false → (∀ e ∈ oj.after, Region.binds md e = true → e.on ≠ i) → oi.apart ops oj = true) →
      i ∈ Region.ready md ops listed → YieldsAt P ops w oi v a →
      wpAnyG P md ops w L f (listed.setIfInBounds i true) (a.put oi.dst v) → wpAnyG P md ops w L (f + 1) listed a := by
  intro f
  induction f with
  | zero =>
    intro listed a hc _ hr hy H
    have hun := (mem_ready.1 hr).1
    refine ⟨fun h => (by rw [h] at hr; cases hr), fun j hj => ?_⟩
    by_cases hji : j = i
    · subst hji; exact hy.stOp hi H
    · have h1 := hdone _ _ H j (ready_mono hj hji)
      have h2 : reachB md ops ops.size j i = true := List.all_eq_true.1 (List.all_eq_true.1 hw j h1) i hin
      exact absurd hj (reach_not hc (getD_both hun) _ _ h2).2
  | succ f ih =>
    intro listed a hc hfree hr hy H
    have hun := (mem_ready.1 hr).1
    refine ⟨fun h => (by rw [h] at hr; cases hr), fun j hj => ?_⟩
    by_cases hji : j = i
    · subst hji; exact hy.stOp hi H
    · have h1 := H.2 j (ready_mono hj hji)
      obtain ⟨hjun, oj, hoj, hall⟩ := mem_ready.1 hj
      have hnot : ∀ e ∈ oj.after, Region.binds md e = true → e.on ≠ i := fun e he hb heq => by
        have h1 := hall e he hb
        rw [heq, getD_both hun] at h1
        cases h1
      have h2 := stOp_put hoj (hfree j oj hoj hji hjun hnot) (fun cs b => hsel i oi cs b hi) (fun cs b => hsel j oj cs b hoj) hy h1
      have hfree' : ∀ k ok, ops[k]? = some ok → k ≠ i → (listed.setIfInBounds j true).getD k true = false →
          (∀ e ∈ ok.after, Region.binds md e = true → e.on ≠ i) → oi.apart ops ok = true := fun k ok hk hki hun hno => by
        refine hfree k ok hk hki ?_ hno
        by_cases hjk : j = k
        · subst hjk; exact hjun
        · rw [getD_set_ne true hjk] at hun; exact hun
      refine stOp_mono (fun a' h3 => ih (listed.setIfInBounds j true) a' (hc.set hj) hfree' (ready_mono hr (Ne.symm hji)) h3.1 ?_) h2
      rw [Array.setIfInBounds_comm _ _ hji]
      exact h3.2

/-- Some operations of a list. -/
def pick (l : List Oper) : List Nat → List Oper
  | [] => []
  | i :: is => (l.drop i).head?.toList ++ pick l is

def headB (md : Region.Mode) (ops : Array Oper) : List Nat → Array Bool → Option (Array Bool)
  | [], listed => some listed
  | k :: ks, listed => if (Region.ready md ops listed).contains k && Region.free md ops listed k then headB md ops ks (listed.setIfInBounds k true) else none

theorem drop_head (l : List Oper) (i : Nat) : (l.drop i).head? = l[i]? := by simp [List.head?_drop]

theorem wpAnyG_lex {l : List Oper} {Lq : Act → Prop} {hs rest : List Nat} {listed2 : Array Bool} (hsel : Region.noSelect l.toArray = true) (hw : waitB md l.toArray rest hs = true)
    (hend : ∀ j ∈ Region.ready md l.toArray listed2, j ∈ rest) :
    ∀ (ks : List Nat) (listed : Array Bool) (a : Act), (∀ k ∈ ks, k ∈ hs) → Closed md l.toArray listed → headB md l.toArray ks listed = some listed2 →
    wpStill P l.toArray w Lq (pick l ks) a → wpAnyG P md l.toArray w (fun listed' a' => listed' = listed2 ∧ Lq a') ks.length listed a
  | [], listed, a, _, _, hB, h => by
    simp only [headB, Option.some.injEq] at hB
    exact ⟨hB, h⟩
  | k :: ks, listed, a, hk, hc, hB, h => by
    unfold headB at hB
    split at hB
    · rename_i hrf
      simp only [Bool.and_eq_true] at hrf
      have hr' : k ∈ Region.ready md l.toArray listed := by simpa using hrf.1
      obtain ⟨_, o, h0, _⟩ := mem_ready.1 hr'
      have hp : pick l (k :: ks) = o :: pick l ks := by
        have : l[k]? = some o := by simpa using h0
        simp [pick, this]
      rw [hp] at h
      have hst : stOp P l.toArray w k (wpStill P l.toArray w Lq (pick l ks)) a := by unfold stOp; simp only [h0]; exact h
      obtain ⟨v, hy, hK⟩ := yieldsAt_of_stOp h0 hst
      exact wpAnyG_first (hs := hs) (rest := rest) h0 (Region.noSelect_spec hsel) (hk k (by simp)) hw (fun listed' a' hL => by rw [hL.1]; exact hend) ks.length listed a hc (Region.free_spec h0 hrf.2) hr' hy
        (wpAnyG_lex hsel hw hend ks _ _ (fun k' h' => hk k' (by simp [h'])) (hc.set hr') hB hK)
    · cases hB

def isMove : Option Oper → Bool
  | some ⟨_, .move _, _, _, _, none⟩ => true
  | _ => false
theorem isMove_spec {o : Oper} (h : isMove (some o) = true) : ∃ x, o.op = .move x ∧ o.guard = none := by
  obtain ⟨d, op, ty, pos, after, guard⟩ := o
  unfold isMove at h
  split at h
  · rename_i heq
    injection heq with heq
    injection heq with _ h1 _ _ _ h2
    exact ⟨_, h1, h2⟩
  · cases h
/-- The moves that are done first. -/
def preB (md : Region.Mode) (l : List Oper) : List Nat → Array Bool → Option (Array Bool)
  | [], listed => some listed
  | k :: ks, listed => if (Region.ready md l.toArray listed).contains k && Region.free md l.toArray listed k && isMove l[k]? then preB md l ks (listed.setIfInBounds k true) else none
def putMoves (l : List Oper) : List Nat → Act → Act
  | [], a => a
  | k :: ks, a => match (l.drop k).head? with
    | some ⟨d, .move x, _, _, _, _⟩ => putMoves l ks (a.put d (a.eval x))
    | _ => putMoves l ks a

theorem wpAny_pre {l : List Oper} (hsel : Region.noSelect l.toArray = true) (hQ : ∀ c (d : Option Tmp) (v : Value) a w, Q (.panic c) (a.put d v) w → Q (.panic c) a w) {listed1 : Array Bool} {g : Nat} :
    ∀ (ks : List Nat) (listed : Array Bool) (a : Act), preB md l ks listed = some listed1 → wpAny P md l.toArray Q g listed1 (putMoves l ks a) w → wpAny P md l.toArray Q (ks.length + g) listed a w
  | [], listed, a, hB, h => by
    simp only [preB, Option.some.injEq] at hB
    subst hB
    simpa [putMoves] using h
  | k :: ks, listed, a, hB, h => by
    unfold preB at hB
    split at hB
    · rename_i hrf
      simp only [Bool.and_eq_true] at hrf
      obtain ⟨⟨hr, hf⟩, hm⟩ := hrf
      have hr' : k ∈ Region.ready md l.toArray listed := by simpa using hr
      obtain ⟨_, o, h0, _⟩ := mem_ready.1 hr'
      have h0' : l[k]? = some o := by simpa using h0
      rw [h0'] at hm
      obtain ⟨x, hop, hgd⟩ := isMove_spec hm
      rw [show (k :: ks).length + g = (ks.length + g) + 1 by simp; omega]
      refine wpAny_take h0 hsel hf hr (fun c a w => hQ c _ _ a w) (v := a.eval x) (.inl ⟨by simp [Region.wanted, hgd], fun w' => by unfold execOp; rw [hop]; rfl⟩) ?_
      refine wpAny_pre hsel hQ ks _ _ hB ?_
      have : putMoves l (k :: ks) a = putMoves l ks (a.put o.dst (a.eval x)) := by
        obtain ⟨d, op, ty, pos, after, guard⟩ := o
        simp only at hop
        subst hop
        simp [putMoves, h0']
      rw [this] at h
      exact h
    · cases hB

/-- What comes up one at a time. -/
def tailB (md : Region.Mode) (ops : Array Oper) : List Nat → Array Bool → Bool
  | [], listed => (Region.ready md ops listed).isEmpty
  | t :: ts, listed => decide (Region.ready md ops listed = [t]) && tailB md ops ts (listed.setIfInBounds t true)

theorem wpAny_tail {l : List Oper} : ∀ (ts : List Nat) (listed : Array Bool) (a : Act) (w : World), tailB md l.toArray ts listed = true → wpList P l.toArray Q (pick l ts) a w →
    wpAny P md l.toArray Q ts.length listed a w
  | [], _, _, _, hB, h => ⟨by simpa [tailB] using hB, h⟩
  | t :: ts, listed, a, w, hB, h => by
    simp only [tailB, Bool.and_eq_true, decide_eq_true_eq] at hB
    have hr' : t ∈ Region.ready md l.toArray listed := by rw [hB.1]; simp
    obtain ⟨_, o, h0, _⟩ := mem_ready.1 hr'
    have hp : pick l (t :: ts) = o :: pick l ts := by
      have : l[t]? = some o := by simpa using h0
      simp [pick, this]
    rw [hp] at h
    refine ⟨fun h1 => (by rw [hB.1] at h1; cases h1), fun i hi => ?_⟩
    rw [hB.1] at hi
    obtain rfl : i = t := by simpa using hi
    have hw : wpOp P l.toArray Q i (wpList P l.toArray Q (pick l ts)) a w := by unfold wpOp; simp only [h0]; exact h
    exact wpOp_mono (fun a' w' h' => wpAny_tail ts _ a' w' hB.2 h') hw

def planB (l : List Oper) (pre hs ts : List Nat) : Bool :=
  Region.noSelect l.toArray && decide (pre.length + hs.length + ts.length = l.length) && waitB .any l.toArray ts hs &&
  match preB .any l pre (Array.replicate l.length false) with
  | none => false
  | some l1 => match headB .any l.toArray hs l1 with
    | none => false
    | some l2 => ((Region.ready .any l.toArray l2).all fun j => ts.contains j) && tailB .any l.toArray ts l2

theorem preB_closed {l : List Oper} : ∀ (ks : List Nat) (listed listed1 : Array Bool), Closed md l.toArray listed → preB md l ks listed = some listed1 → Closed md l.toArray listed1
  | [], _, _, hc, hB => by simp only [preB, Option.some.injEq] at hB; subst hB; exact hc
  | k :: ks, listed, listed1, hc, hB => by
    unfold preB at hB
    split at hB
    · rename_i hrf
      simp only [Bool.and_eq_true] at hrf
      exact preB_closed ks _ _ (hc.set (by simpa using hrf.1.1)) hB
    · cases hB

/-- A REGION THAT DRAWS ITS ORDER, BY A PLAN: the moves 'pre' first, then the operations 'hs', which only read, then 'ts', which come up one at a time. -/
theorem wp_region_plan {id : Nat} {l : List Oper} {a : Act} (pre hs ts : List Nat) (hm : P.follows .mixedOrders = true) (hB : planB l pre hs ts = true)
    (hQ : ∀ c (d : Option Tmp) (v : Value) a w, Q (.panic c) (a.put d v) w → Q (.panic c) a w)
    (h : wpStill P l.toArray w.drew (fun a' => wpList P l.toArray Q (pick l ts) a' w.drew) (pick l hs) (putMoves l pre a)) : (Code.region id l.toArray true).wp P Q a w := by
  simp only [planB, Bool.and_eq_true, decide_eq_true_eq] at hB
  obtain ⟨⟨⟨hsel, hlen⟩, hw⟩, hrest⟩ := hB
  cases h1 : preB .any l pre (Array.replicate l.length false) with
  | none => rw [h1] at hrest; cases hrest
  | some l1 =>
    rw [h1] at hrest
    simp only at hrest
    cases h2 : headB .any l.toArray hs l1 with
    | none => rw [h2] at hrest; cases hrest
    | some l2 =>
      rw [h2] at hrest
      simp only [Bool.and_eq_true] at hrest
      have hc0 : Closed .any l.toArray (Array.replicate l.length false) := fun j oj _ hl => by rw [getD_replicate_false] at hl; cases hl
      have hc1 := preB_closed pre _ _ hc0 h1
      refine wp_region_any hm ?_
      have hsz : l.toArray.size = pre.length + (hs.length + ts.length) := by simp; omega
      rw [hsz, show pre.length + (hs.length + ts.length) = l.length by omega, show l.length = pre.length + (hs.length + ts.length) by omega]
      have key := wpAnyG_lex (P := P) (w := w.drew) (Lq := fun a' => wpList P l.toArray Q (pick l ts) a' w.drew) hsel hw (fun j hj => by simpa using List.all_eq_true.1 hrest.1 j hj) hs l1 (putMoves l pre a) (fun k hk => hk) hc1 h2 h
      have k2 := wpAny_of_G (Q := Q) (g := ts.length) (fun listed' a' hL => by
        obtain ⟨rfl, hL⟩ := hL
        exact wpAny_tail ts _ _ _ hrest.2 hL) hs.length l1 _ key
      have k3 := wpAny_pre (Q := Q) hsel hQ pre _ a h1 k2
      have : l.length = pre.length + (hs.length + ts.length) := by omega
      rw [← this] at k3 ⊢
      exact k3

/-! ### Reads that hold as long as S does, taken first; calls that keep S; then the rest -/
def wpAnyE (P : Program) (md : Region.Mode) (ops : Array Oper) (Q : Exit → Act → World → Prop) (S : World → Prop) (late : Nat → Bool) : Nat → Array Bool → Act → World → Prop
  | 0, listed, a, w => Region.ready md ops listed = [] ∧ Q .normal a w
  | fuel + 1, listed, a, w =>
    (Region.ready md ops listed = [] → Q .normal a w) ∧
    ∀ i ∈ Region.ready md ops listed, wpOp P ops Q i (fun a' w' => (late i = false → S w') ∧ wpAnyE P md ops Q S late fuel (listed.setIfInBounds i true) a' w') a w

theorem wpAny_of_E {S : World → Prop} {late : Nat → Bool} : ∀ (fuel : Nat) (listed : Array Bool) (a : Act) (w : World), wpAnyE P md ops Q S late fuel listed a w → wpAny P md ops Q fuel listed a w
  | 0, _, _, _, h => h
  | fuel + 1, _, _, _, h => ⟨h.1, fun i hi => wpOp_mono (fun a' w' h' => wpAny_of_E fuel _ a' w' h'.2) (h.2 i hi)⟩

theorem wpAnyE_first {S : World → Prop} {late : Nat → Bool} {i : Nat} {oi : Oper} {v : Value} (hi : ops[i]? = some oi) (hsel : ∀ (j : Nat) (o : Oper) cs b, ops[j]? = some o → o.op ≠ .select cs b)
    (hQ : ∀ c a w, Q (.panic c) (a.put oi.dst v) w → Q (.panic c) a w) (hlate : ∀ j, late j = true → reachB md ops ops.size j i = true) (hli : late i = false) :
    ∀ (fuel : Nat) (listed : Array Bool) (a : Act) (w : World), Closed md ops listed →
      (∀ j oj, ops[j]? = some oj → j ≠ i → listed.getD j true = false → (∀ e ∈ oj.after, Region.binds md e = true → e.on ≠ i) → oi.apart ops oj = true) →
      i ∈ Region.ready md ops listed → YieldsIf P ops S oi v a → S w →
      wpAnyE P md ops Q S late fuel (listed.setIfInBounds i true) (a.put oi.dst v) w → wpAnyE P md ops Q S late (fuel + 1) listed a w := by
  intro fuel
  induction fuel with
  | zero =>
    intro listed a w hc _ hr hy hS H
    refine ⟨fun h => (by rw [h] at hr; cases hr), fun j hj => ?_⟩
    by_cases hji : j = i
    · subst hji; exact hy.wpOp hi hS ⟨fun _ => hS, H⟩
    · have := ready_mono hj hji
      rw [H.1] at this
      cases this
  | succ fuel ih =>
    intro listed a w hc hfree hr hy hS H
    refine ⟨fun h => (by rw [h] at hr; cases hr), fun j hj => ?_⟩
    by_cases hji : j = i
    · subst hji; exact hy.wpOp hi hS ⟨fun _ => hS, H⟩
    · have h1 := H.2 j (ready_mono hj hji)
      have hun := (mem_ready.1 hr).1
      have hlj : late j = false := by
        cases hl : late j with
        | false => rfl
        | true => exact absurd hj (reach_not hc (getD_both hun) _ _ (hlate j hl)).2
      obtain ⟨hjun, oj, hoj, hall⟩ := mem_ready.1 hj
      have hnot : ∀ e ∈ oj.after, Region.binds md e = true → e.on ≠ i := fun e he hb heq => by
        have h1 := hall e he hb
        rw [heq, getD_both hun] at h1
        cases h1
      have h2 := wpOp_putIf hoj (hfree j oj hoj hji hjun hnot) (fun cs b => hsel i oi cs b hi) (fun cs b => hsel j oj cs b hoj) hQ hy h1
      have hfree' : ∀ k ok, ops[k]? = some ok → k ≠ i → (listed.setIfInBounds j true).getD k true = false →
          (∀ e ∈ ok.after, Region.binds md e = true → e.on ≠ i) → oi.apart ops ok = true := fun k ok hk hki hun hno => by
        refine hfree k ok hk hki ?_ hno
        by_cases hjk : j = k
        · subst hjk; exact hjun
        · rw [getD_set_ne true hjk] at hun; exact hun
      refine wpOp_mono (fun a' w' h3 => ⟨fun _ => h3.2.1 hlj, ih (listed.setIfInBounds j true) a' w' (hc.set hj) hfree' (ready_mono hr (Ne.symm hji)) h3.1 (h3.2.1 hlj) ?_⟩) h2
      rw [Array.setIfInBounds_comm _ _ hji]
      exact h3.2.2

/-- The reads, one behind the other: each yields in every world that meets S. -/
def wpHeld (P : Program) (ops : Array Oper) (S : World → Prop) (K : Act → Prop) : List Oper → Act → Prop
  | [], a => K a
  | o :: rest, a => ∃ v, YieldsIf P ops S o v a ∧ wpHeld P ops S K rest (a.put o.dst v)

theorem wpHeld_nil {S : World → Prop} {K : Act → Prop} {a : Act} (h : K a) : wpHeld P ops S K [] a := h
theorem wpHeld_step {S : World → Prop} {K : Act → Prop} {a : Act} {o : Oper} {rest : List Oper} (v : Value) (hg : o.guard = none) (h : ∀ w, S w → (execOp a.eval o).run P w = .ok (.value v) w) (hK : wpHeld P ops S K rest (a.put o.dst v)) :
    wpHeld P ops S K (o :: rest) a := ⟨v, .inl ⟨by simp [Region.wanted, hg], h⟩, hK⟩

/-- What may come between the reads: behind each S holds. -/
def wpEarly (P : Program) (ops : Array Oper) (S : World → Prop) (Q : Exit → Act → World → Prop) (K : Act → World → Prop) : List Oper → Act → World → Prop
  | [], a, w => K a w
  | o :: rest, a, w => wpList P ops (Exit.then (fun a' w' => S w' ∧ wpEarly P ops S Q K rest a' w') Q) [o] a w

theorem wpOp_of_one {i : Nat} {o : Oper} {K : Act → World → Prop} {a : Act} (hi : ops[i]? = some o) (h : wpList P ops (Exit.then K Q) [o] a w) : wpOp P ops Q i K a w := by
  unfold wpOp
  simp only [hi]
  unfold wpList at h
  split
  · rename_i hw
    rw [if_pos hw] at h
    rcases h with h | ⟨h1, a0, w0, h2⟩
    · left
      unfold Oper.wp at *
      generalize (execOp a.eval o).run P w = r at *
      cases r with
      | ok n w' =>
        cases n <;> simp only [Oper.upon] at h ⊢ <;>
          first
            | exact h
            | exact Calls.mono h (fun e w'' he => by cases e <;> first | exact he | (obtain ⟨a1, w1, h1⟩ := he; exact ⟨a1, w1, h1⟩))
            | exact Rows.mono h (fun _ _ he => he)
      | halt x w' => cases x <;> simp only [Oper.upon] at h ⊢ <;> exact h
    · exact .inr ⟨h1, a0, w0, h2⟩
  · rename_i hw
    rw [if_neg hw] at h
    exact h

def heldB (l : List Oper) (hs es fs : List Nat) : Bool :=
  Region.noSelect l.toArray && decide (hs.length + es.length + fs.length = l.length) && waitB .any l.toArray fs hs && (hs.all fun i => !fs.contains i) &&
  match headB .any l.toArray hs (Array.replicate l.length false) with
  | none => false
  | some l2 => tailB .any l.toArray (es ++ fs) l2

theorem wpAnyE_tail {l : List Oper} {S : World → Prop} {late : Nat → Bool} : ∀ (ts : List Nat) (listed : Array Bool) (a : Act) (w : World), (∀ t ∈ ts, late t = true) → tailB md l.toArray ts listed = true → wpList P l.toArray Q (pick l ts) a w →
    wpAnyE P md l.toArray Q S late ts.length listed a w
  | [], _, _, _, _, hB, h => ⟨by simpa [tailB] using hB, h⟩
  | t :: ts, listed, a, w, hl, hB, h => by
    simp only [tailB, Bool.and_eq_true, decide_eq_true_eq] at hB
    have hr' : t ∈ Region.ready md l.toArray listed := by rw [hB.1]; simp
    obtain ⟨_, o, h0, _⟩ := mem_ready.1 hr'
    have hp : pick l (t :: ts) = o :: pick l ts := by
      have : l[t]? = some o := by simpa using h0
      simp [pick, this]
    rw [hp] at h
    refine ⟨fun h1 => (by rw [hB.1] at h1; cases h1), fun i hi => ?_⟩
    rw [hB.1] at hi
    obtain rfl : i = t := by simpa using hi
    have hw : wpOp P l.toArray Q i (wpList P l.toArray Q (pick l ts)) a w := by unfold wpOp; simp only [h0]; exact h
    exact wpOp_mono (fun a' w' h' => ⟨fun h2 => (by rw [hl i (by simp)] at h2; cases h2), wpAnyE_tail ts _ a' w' (fun t ht => hl t (by simp [ht])) hB.2 h'⟩) hw

theorem wpAnyE_early {l : List Oper} {S : World → Prop} {late : Nat → Bool} {fs : List Nat} (hl : ∀ t ∈ fs, late t = true) : ∀ (es : List Nat) (listed : Array Bool) (a : Act) (w : World), tailB md l.toArray (es ++ fs) listed = true →
    wpEarly P l.toArray S Q (fun a w => wpList P l.toArray Q (pick l fs) a w) (pick l es) a w → wpAnyE P md l.toArray Q S late (es.length + fs.length) listed a w
  | [], listed, a, w, hB, h => by
    rw [List.length_nil, Nat.zero_add]
    exact wpAnyE_tail fs listed a w hl hB h
  | t :: ts, listed, a, w, hB, h => by
    simp only [List.cons_append, tailB, Bool.and_eq_true, decide_eq_true_eq] at hB
    have hr' : t ∈ Region.ready md l.toArray listed := by rw [hB.1]; simp
    obtain ⟨_, o, h0, _⟩ := mem_ready.1 hr'
    have hp : pick l (t :: ts) = o :: pick l ts := by
      have : l[t]? = some o := by simpa using h0
      simp [pick, this]
    rw [hp] at h
    rw [show (t :: ts).length + fs.length = (ts.length + fs.length) + 1 by simp; omega]
    refine ⟨fun h1 => (by rw [hB.1] at h1; cases h1), fun i hi => ?_⟩
    rw [hB.1] at hi
    obtain rfl : i = t := by simpa using hi
    exact wpOp_mono (fun a' w' h' => ⟨fun _ => h'.1, wpAnyE_early hl ts _ a' w' hB.2 h'.2⟩) (wpOp_of_one h0 h)

theorem wpAnyE_held {l : List Oper} {S : World → Prop} {late : Nat → Bool} {K : Act → Prop} {hs : List Nat} {listed2 : Array Bool} {g : Nat} (hsel : Region.noSelect l.toArray = true) (hQ : ∀ c (d : Option Tmp) (v : Value) a w, Q (.panic c) (a.put d v) w → Q (.panic c) a w)
    (hlate : ∀ j i, i ∈ hs → late j = true → reachB md l.toArray l.toArray.size j i = true) (hln : ∀ i ∈ hs, late i = false) (hS : S w)
    (hK : ∀ a, K a → wpAnyE P md l.toArray Q S late g listed2 a w) :
    ∀ (ks : List Nat) (listed : Array Bool) (a : Act), (∀ k ∈ ks, k ∈ hs) → Closed md l.toArray listed → headB md l.toArray ks listed = some listed2 →
    wpHeld P l.toArray S K (pick l ks) a → wpAnyE P md l.toArray Q S late (ks.length + g) listed a w
  | [], listed, a, _, _, hB, h => by
    simp only [headB, Option.some.injEq] at hB
    subst hB
    rw [List.length_nil, Nat.zero_add]
    exact hK a h
  | k :: ks, listed, a, hk, hc, hB, h => by
    unfold headB at hB
    split at hB
    · rename_i hrf
      simp only [Bool.and_eq_true] at hrf
      have hr' : k ∈ Region.ready md l.toArray listed := by simpa using hrf.1
      obtain ⟨_, o, h0, _⟩ := mem_ready.1 hr'
      have hp : pick l (k :: ks) = o :: pick l ks := by
        have : l[k]? = some o := by simpa using h0
        simp [pick, this]
      rw [hp] at h
      obtain ⟨v, hy, hr⟩ := h
      rw [show (k :: ks).length + g = (ks.length + g) + 1 by simp; omega]
      exact wpAnyE_first h0 (Region.noSelect_spec hsel) (fun c a w => hQ c _ _ a w) (fun j => hlate j k (hk k (by simp))) (hln k (hk k (by simp))) _ listed a w hc (Region.free_spec h0 hrf.2) hr' hy hS
        (wpAnyE_held hsel hQ hlate hln hS hK ks _ _ (fun k' h' => hk k' (by simp [h'])) (hc.set hr') hB hr)
    · cases hB

/-- A REGION THAT DRAWS ITS ORDER: the reads 'hs', whose values hold as long as S does, first; then 'es', behind each of which S holds; then 'fs', which wait for all reads. -/
theorem wp_region_hold {id : Nat} {l : List Oper} {a : Act} (S : World → Prop) (hs es fs : List Nat) (hm : P.follows .mixedOrders = true) (hB : heldB l hs es fs = true)
    (hQ : ∀ c (d : Option Tmp) (v : Value) a w, Q (.panic c) (a.put d v) w → Q (.panic c) a w) (hS : S w.drew)
    (h : wpHeld P l.toArray S (fun a' => wpEarly P l.toArray S Q (fun a w => wpList P l.toArray Q (pick l fs) a w) (pick l es) a' w.drew) (pick l hs) a) : (Code.region id l.toArray true).wp P Q a w := by
  simp only [heldB, Bool.and_eq_true, decide_eq_true_eq] at hB
  obtain ⟨⟨⟨⟨hsel, hlen⟩, hw⟩, hnf⟩, hrest⟩ := hB
  cases h2 : headB .any l.toArray hs (Array.replicate l.length false) with
  | none => rw [h2] at hrest; cases hrest
  | some l2 =>
    rw [h2] at hrest
    simp only at hrest
    have hc0 : Closed .any l.toArray (Array.replicate l.length false) := fun j oj _ hl => by rw [getD_replicate_false] at hl; cases hl
    refine wp_region_any hm ?_
    have key := wpAnyE_held (P := P) (Q := Q) (md := .any) (w := w.drew) (S := S) (late := fun j => fs.contains j) (hs := hs) (g := es.length + fs.length) hsel hQ
      (fun j i hi hj => List.all_eq_true.1 (List.all_eq_true.1 hw j (by simpa using hj)) i hi) (fun i hi => by simpa using List.all_eq_true.1 hnf i hi) hS
      (fun a' ha' => wpAnyE_early (fun t ht => by simpa using ht) es l2 a' w.drew hrest ha') hs (Array.replicate l.length false) a (fun k hk => hk) hc0 h2 h
    have k3 := wpAny_of_E _ _ _ _ key
    have : l.length = hs.length + (es.length + fs.length) := by omega
    rw [← this] at k3
    have hsz : l.toArray.size = l.length := by simp
    rw [hsz]
    exact k3
end
end Go.Proofs.Ytaicbllfkehhjaa

/- Clauses as values; properStamp, proper, merge. -/
namespace Go.Proofs.Ytaicbllfkehhjaa
open Go.RowKit

def stA (s : St2) : Array Value := #[.int .i64 s.1, .int .i64 s.2]
def ptA (p : Pt) : Array Value := #[.int .i64 p.1, .string p.2.1, .string p.2.2.1, .string p.2.2.2.1, .string p.2.2.2.2.1, .int .i64 p.2.2.2.2.2.1.1, .string p.2.2.2.2.2.1.2.1, .string p.2.2.2.2.2.1.2.2.1, .string p.2.2.2.2.2.1.2.2.2.1, .string p.2.2.2.2.2.1.2.2.2.2.1, .string p.2.2.2.2.2.1.2.2.2.2.2.1, .bool p.2.2.2.2.2.1.2.2.2.2.2.2, .int .i64 p.2.2.2.2.2.2.1, .string p.2.2.2.2.2.2.2.1, .string p.2.2.2.2.2.2.2.2]
def clA (c : Cl) : Array Value := #[.int .i64 c.id.1, .int .i64 c.id.2, .int .i64 c.after.1, .int .i64 c.after.2, .int .i64 c.pt.1, .string c.pt.2.1, .string c.pt.2.2.1, .string c.pt.2.2.2.1, .string c.pt.2.2.2.2.1, .int .i64 c.pt.2.2.2.2.2.1.1, .string c.pt.2.2.2.2.2.1.2.1, .string c.pt.2.2.2.2.2.1.2.2.1, .string c.pt.2.2.2.2.2.1.2.2.2.1, .string c.pt.2.2.2.2.2.1.2.2.2.2.1, .string c.pt.2.2.2.2.2.1.2.2.2.2.2.1, .bool c.pt.2.2.2.2.2.1.2.2.2.2.2.2, .int .i64 c.pt.2.2.2.2.2.2.1, .string c.pt.2.2.2.2.2.2.2.1, .string c.pt.2.2.2.2.2.2.2.2, .bool c.gone]

theorem beq_bytes (a b : ByteArray) : (a.toList == b.toList) = decide (a = b) := by
  rw [Bool.eq_iff_iff]
  simp only [beq_iff_eq, decide_eq_true_eq]
  exact ⟨fun h => by
    rw [Lib.toList_data, Lib.toList_data] at h
    exact ByteArray.ext (Array.toList_inj.1 h), fun h => by rw [h]⟩
theorem if_ok {p : Prop} [Decidable p] {q : Bool} {W : World} : (if p then (Result.ok q W : Result Bool) else Result.ok false W) = Result.ok (decide p && q) W := by
  by_cases h : p <;> simp [h]
set_option maxRecDepth 100000 in
set_option maxHeartbeats 4000000 in
theorem eq_st (a b : St2) (W : World) : (Op.equalIn 10000 33 (.agg (stA a)) (.agg (stA b))).run Try.prog W = .ok (decide (a = b)) W := by
  simp [stA, go_sem]
  simp only [if_ok]
  congr 1
  rw [Bool.eq_iff_iff]
  simp [Prod.ext_iff]
theorem bytes_inj {a b : ByteArray} : a.toList = b.toList ↔ a = b := by
  have := beq_bytes a b
  constructor
  · intro h; rw [h] at this; simpa using this.symm
  · intro h; rw [h]
theorem cl_iff {a b : Cl} : a = b ↔ a.id = b.id ∧ a.after = b.after ∧ a.pt = b.pt ∧ a.gone = b.gone := ⟨fun h => h ▸ ⟨rfl, rfl, rfl, rfl⟩, fun h => Cl.ext' h.1 h.2.1 h.2.2.1 h.2.2.2⟩
set_option maxRecDepth 100000 in
set_option maxHeartbeats 4000000 in
theorem eq_cl (a b : Cl) (W : World) : (Op.equalIn 10000 56 (.agg (clA a)) (.agg (clA b))).run Try.prog W = .ok (decide (a = b)) W := by
  simp [clA, go_sem]
  simp only [if_ok]
  congr 1
  rw [Bool.eq_iff_iff]
  simp [cl_iff, Prod.ext_iff, bytes_inj, and_assoc]
set_option maxRecDepth 100000 in
set_option maxHeartbeats 4000000 in
theorem eq_pt (a b : Pt) (W : World) : (Op.equalIn 10000 37 (.agg (ptA a)) (.agg (ptA b))).run Try.prog W = .ok (decide (a = b)) W := by
  simp [ptA, go_sem]
  simp only [if_ok]
  congr 1
  rw [Bool.eq_iff_iff]
  simp [Prod.ext_iff, bytes_inj, and_assoc]

set_option maxRecDepth 100000 in
set_option maxHeartbeats 4000000 in
theorem properT_any (w : World) (s : St2) : Calls Try.prog 69 #[.agg (stA s)] w fun e w' => e = .returned (.bool (properT s)) ∧ Below w.heap.size w w' := by
  obtain ⟨x, y⟩ := s
  obtain ⟨R, hR⟩ : ∃ r, properT (x, y) = r := ⟨_, rfl⟩
  rw [hR]
  unfold properT at hR
  simp only at hR
  have HR := Lib.hid hR
  clear hR
  have hb := (Below.refl w.heap.size w).alloc (Nat.le_refl _) (.cells (stA (x, y)) 33)
  have kb := Blk.new w 33 (stA (x, y))
  have c0 : (w.alloc (.cells (stA (x, y)) 33)).cell? ⟨w.heap.size, 0, none⟩ = some (.int .i64 x) := kb.cell 0
  have c1 : (w.alloc (.cells (stA (x, y)) 33)).cell? ⟨w.heap.size, 1, none⟩ = some (.int .i64 y) := kb.cell 1
  clear kb
  generalize hA : stA (x, y) = A at *
  have e1 : (x ≥ 0) = (0 ≤ x) := rfl
  by_cases h1 : 0 ≤ x
  · by_cases h2 : x < 200
    · by_cases h3 : 1 ≤ y
      · by_cases h4 : y ≤ 1000000
        · have := HR.out
          simp [h1, h2, h3, h4] at this
          subst this
          clear HR
          go_enter Try.func69, Try.ntmps69
          go_wp2
          go_ret
          exact ⟨rfl, hb⟩
        · have := HR.out
          simp [h1, h2, h3, h4] at this
          subst this
          clear HR
          go_enter Try.func69, Try.ntmps69
          go_wp2
          go_ret
          exact ⟨rfl, hb⟩
      · have := HR.out
        simp [h1, h2, h3] at this
        subst this
        clear HR
        go_enter Try.func69, Try.ntmps69
        go_wp2
        go_ret
        exact ⟨rfl, hb⟩
    · have := HR.out
      simp [h1, h2] at this
      subst this
      clear HR
      go_enter Try.func69, Try.ntmps69
      go_wp2
      go_ret
      exact ⟨rfl, hb⟩
  · have := HR.out
    simp [h1] at this
    subst this
    clear HR
    go_enter Try.func69, Try.ntmps69
    go_wp2
    go_ret
    exact ⟨rfl, hb⟩
/-- A block that holds a clause, cell by cell. -/
theorem cl_cells {w : World} {g : Nat} {c : Cl} (h : Blk w g 56 (clA c)) :
    w.cell? ⟨g, 0, none⟩ = some (.int .i64 c.id.1) ∧ w.cell? ⟨g, 1, none⟩ = some (.int .i64 c.id.2) ∧ w.cell? ⟨g, 2, none⟩ = some (.int .i64 c.after.1) ∧ w.cell? ⟨g, 3, none⟩ = some (.int .i64 c.after.2) ∧ w.cell? ⟨g, 19, none⟩ = some (.bool c.gone) :=
  ⟨h.cell 0, h.cell 1, h.cell 2, h.cell 3, h.cell 19⟩
set_option maxRecDepth 100000 in
set_option maxHeartbeats 8000000 in
theorem proper_any (w : World) (c : Cl) : Calls Try.prog 59 #[.agg (clA c)] w fun e w' => e = .returned (.bool (properC c)) ∧ Below w.heap.size w w' := by
  have hb := (Below.refl w.heap.size w).alloc (Nat.le_refl _) (.cells (clA c) 56)
  have kb := Blk.new w 56 (clA c)
  have hez : ∀ W : World, (Op.equalIn 10000 33 (.agg #[.int .i64 c.after.1, .int .i64 c.after.2]) (.agg #[.int .i64 0, .int .i64 0])).run Try.prog W = .ok (decide (c.after = z2)) W := eq_st c.after z2
  have hpa : ∀ W : World, Calls Try.prog 69 #[.agg #[.int .i64 c.after.1, .int .i64 c.after.2]] W fun e w' => e = .returned (.bool (properT c.after)) ∧ Below W.heap.size W w' := fun W => properT_any W c.after
  have hpi : ∀ W : World, Calls Try.prog 69 #[.agg #[.int .i64 c.id.1, .int .i64 c.id.2]] W fun e w' => e = .returned (.bool (properT c.id)) ∧ Below W.heap.size W w' := fun W => properT_any W c.id
  unfold properC
  obtain ⟨b1, h1⟩ : ∃ b, decide (c.after = z2) = b := ⟨_, rfl⟩
  obtain ⟨b2, h2⟩ : ∃ b, properT c.after = b := ⟨_, rfl⟩
  obtain ⟨b3, h3⟩ : ∃ b, decide (c.after.2 < c.id.2) = b := ⟨_, rfl⟩
  obtain ⟨b4, h4⟩ : ∃ b, properT c.id = b := ⟨_, rfl⟩
  rw [h1] at hez
  rw [h2] at hpa
  rw [h4] at hpi
  rw [h1, h2, h3, h4]
  obtain ⟨k0, k1, k2, k3, -⟩ := cl_cells kb
  have KB := Lib.hid kb
  have PA := Lib.hid hpa
  have PI := Lib.hid hpi
  obtain ⟨CC, hCC⟩ : ∃ x, clA c = x := ⟨_, rfl⟩
  rw [hCC] at KB hb k0 k1 k2 k3 ⊢
  have HCC := Lib.hid hCC
  clear h1 h2 h4 kb hpa hpi hCC
  cases b1 with
  | true =>
    go_enter Try.func59, Try.ntmps59
    go_wp2_with fail
    refine (PI.out _).mono ?_
    rintro e w1 ⟨rfl, q1⟩
    have hb1 := hb.trans (q1.mono hb.size)
    clear PI PA q1 hb KB k0 k1 k2 k3
    cases b4 <;> (go_wp2; go_ret; exact ⟨rfl, hb1⟩)
  | false =>
    go_enter Try.func59, Try.ntmps59
    go_wp2_with fail
    refine (PA.out _).mono ?_
    rintro e w1 ⟨rfl, q1⟩
    have hb1 := hb.trans (q1.mono hb.size)
    obtain ⟨m0, m1, m2, m3, -⟩ := cl_cells (c := c) (by rw [HCC.out]; exact KB.out.below q1 KB.out.lt)
    clear PA q1 hb KB k0 k1 k2 k3
    cases b2 with
    | false =>
      go_wp2_with fail
      refine (PI.out _).mono ?_
      rintro e w2 ⟨rfl, q2⟩
      have hb2 := hb1.trans (q2.mono hb1.size)
      clear PI q2 hb1 m0 m1 m2 m3
      cases b4 <;> (go_wp2; go_ret; exact ⟨rfl, hb2⟩)
    | true =>
      cases b3 with
      | true =>
        go_wp2_with fail
        refine (PI.out _).mono ?_
        rintro e w2 ⟨rfl, q2⟩
        have hb2 := hb1.trans (q2.mono hb1.size)
        clear PI q2 hb1 m0 m1 m2 m3
        cases b4 <;> (go_wp2; go_ret; exact ⟨rfl, hb2⟩)
      | false =>
        go_wp2_with fail
        refine (PI.out _).mono ?_
        rintro e w2 ⟨rfl, q2⟩
        have hb2 := hb1.trans (q2.mono hb1.size)
        clear PI q2 hb1 m0 m1 m2 m3
        cases b4 <;> (go_wp2; go_ret; exact ⟨rfl, hb2⟩)

theorem clA_size (c : Cl) : (clA c).size = 20 := rfl
theorem clA_one (c : Cl) : (clA c).all (·.oneCell') = true := by simp [clA, Value.oneCell']
/-- A clause laid whole into a variable of its own; one read whole. -/
theorem put_cl (W : World) (c : Cl) : (storeCells ⟨W.heap.size, 0, none⟩ (clA c).toList).run Try.prog (W.alloc (.cells #[.int .i64 0, .int .i64 0, .int .i64 0, .int .i64 0, .int .i64 0, .string ⟨#[]⟩, .string ⟨#[]⟩, .string ⟨#[]⟩, .string ⟨#[]⟩, .int .i64 0, .string ⟨#[]⟩, .string ⟨#[]⟩, .string ⟨#[]⟩, .string ⟨#[]⟩, .string ⟨#[]⟩, .bool false, .int .i64 0, .string ⟨#[]⟩, .string ⟨#[]⟩, .bool false] 56)) = .ok () (W.alloc (.cells (clA c) 56)) :=
  run_storeCells_new W _ _ (clA c) (by kernel_rfl) rfl (clA_one c)
theorem blk_load {W : World} {g n : Nat} {t : TypeId} {CC : Array Value} (h : Blk W g t CC) (hn : CC.size = n) : (loadCellsFrom ⟨g, 0, none⟩ 0 n #[]).run Try.prog W = .ok CC W := by
  subst hn
  have := run_loadCells_list (P := Try.prog) W ⟨g, 0, none⟩ CC.toList (fun j v hv => by
    have hadd : (⟨g, 0, none⟩ : Addr).add j = ⟨g, j, none⟩ := by unfold Addr.add; split <;> simp_all
    rw [hadd, h.cell]
    simpa using hv)
  simpa [loadCells] using this
end Go.Proofs.Ytaicbllfkehhjaa
