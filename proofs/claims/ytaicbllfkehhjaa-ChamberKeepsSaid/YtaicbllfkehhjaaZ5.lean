/- Part 5 of what the laws of this seat stand on: Ha, Hd, He, Hf, Hg, Hq, Hi, Hk, Hj. -/
import Derived.Test.YtaicbllfkehhjaaZ4
import Derived.RangeFuncOwn
import Derived.Laws.Tables
import Derived.OrdersIn
import Derived.TacticsIn
import Derived.RangeFuncNested
import Derived.RangeFuncBound
import Derived.RangeFuncCalls
import Derived.RangeFuncLeaves
import Derived.Shelf.Abstract
import Derived.Shelf.RegionOpen
import Derived.RangeFuncWrites
import Derived.WalkKit
import Derived.OwnWalkIn
import Derived.TacticsInMore
import Derived.LoopNIn
import Derived.LoopIn
import Derived.Sort.QuietIn
import Derived.Sort.CutIn

/- Words of the laws on pages, without the laws. -/
namespace Go.Proofs.Ytaicbllfkehhjaa
open Go.RowKit

/-- An operation that makes no memory, its value given. -/
theorem wpList_val {P : Program} {ops : Array Oper} {rest : List Oper} {o : Oper} {a : Act} {W : World} {Q : Exit → Act → World → Prop} (hgd : o.guard = none) {op : Op} (_ho : o.op = op) (v : Value) (h : (execOp a.eval o).run P W = .ok (.value v) W)
    (k : wpList P ops Q rest (a.put o.dst v) W) : wpList P ops Q (o :: rest) a W := by
  refine wpList_plain hgd fun _ hK => ?_
  unfold Oper.wp
  rw [h]
  exact hK _ _ k
theorem wpList_valg {P : Program} {ops : Array Oper} {rest : List Oper} {o : Oper} {a : Act} {W : World} {Q : Exit → Act → World → Prop} (hw : Region.wanted o (yielded ops a.tmps) = true) {op : Op} (_ho : o.op = op) (v : Value) (W' : World) (h : (execOp a.eval o).run P W = .ok (.value v) W')
    (k : wpList P ops Q rest (a.put o.dst v) W') : wpList P ops Q (o :: rest) a W := by
  unfold wpList
  rw [if_pos hw]
  refine .inl ?_
  unfold Oper.wp
  rw [h]
  exact k
theorem wpList_new {P : Program} {ops : Array Oper} {rest : List Oper} {o : Oper} {a : Act} {W : World} {Q : Exit → Act → World → Prop} (hgd : o.guard = none) {op : Op} (_ho : o.op = op) (v : Value) (W' : World) (h : (execOp a.eval o).run P W = .ok (.value v) W')
    (k : wpList P ops Q rest (a.put o.dst v) W') : wpList P ops Q (o :: rest) a W := by
  refine wpList_plain hgd fun _ hK => ?_
  unfold Oper.wp
  rw [h]
  exact hK _ _ k
theorem ClsAt.of_blk {w : World} {g B : Nat} {l : List Cl} {t : TypeId} (h : Blk w g t (cls l).toArray) (hB : g < B) : ClsAt w B (some ⟨g, 0, none⟩) l := fun i c hi => ⟨g, 0, rfl, hB, fun k v hv => by
  have hk : k < 20 := by
    have := (List.getElem?_eq_some_iff.1 hv).1
    rwa [encC_len] at this
  rw [Nat.zero_add, h.cell, List.getElem?_toArray]
  exact (flat_at encC_len hi hk).trans hv⟩

theorem below_drew1 {B : Nat} {a w : World} (h : Below B a w) : Below B a w.drew := ⟨h.os, h.tape, h.output, h.size, h.block⟩
theorem enc_set (c : Cl) : (encC c).set 19 (.bool true) = encC (goneC c) := rfl
theorem cls_set : ∀ {l : List Cl} {k : Nat} {x : Cl}, l[k]? = some x → (cls l).set (k * 20 + 19) (.bool true) = cls (l.set k (goneC x))
  | [], k, x, h => by simp at h
  | c :: l, 0, x, h => by
    simp at h
    subst h
    show (encC c ++ cls l).set _ _ = encC (goneC c) ++ cls l
    rw [List.set_append_left _ _ (by rw [encC_len]; omega), Nat.zero_mul, Nat.zero_add, enc_set]
  | c :: l, k + 1, x, h => by
    have ih := cls_set (l := l) (k := k) (x := x) (by simpa using h)
    show (encC c ++ cls l).set _ _ = encC c ++ cls (l.set k (goneC x))
    rw [List.set_append_right _ _ (by rw [encC_len]; omega), encC_len, ← ih]
    congr 2
    omega
theorem own_some {w : World} {base : Nat} {v : Value} {l : List Cl} (h : OwnCls w base v l) (hl : 0 < l.length) : ∃ g cap, v = .slice (some ⟨g, 0, none⟩) l.length cap ∧ base ≤ g := by
  rcases h.2 with ⟨rfl, h0⟩ | ⟨g, cap, cur, rfl, hb, _⟩
  · omega
  · exact ⟨g, cap, rfl, hb⟩
theorem own_cell {w : World} {base g n cap : Nat} {l : List Cl} (h : w.ownsRow base 56 20 (.slice (some ⟨g, 0, none⟩) n cap) n (cls l)) (hn : l.length = n) {k : Nat} {c : Cl} (hk : l[k]? = some c) {j : Nat} {u : Value} (hu : (encC c)[j]? = some u) :
    w.cell? ⟨g, k * 20 + j, none⟩ = some u ∧ w.frozen? ⟨g, k * 20 + j, none⟩ = false := by
  have hj : j < 20 := by
    have := (List.getElem?_eq_some_iff.1 hu).1
    rwa [encC_len] at this
  have hkl := (List.getElem?_eq_some_iff.1 hk).1
  exact ⟨by rw [h.cellAt (k * 20 + j) (by omega)]; exact (flat_at encC_len hk hj).trans hu, h.frozenAt _⟩
/-- A patch, loaded whole out of a clause of a slice of the call's own. -/
theorem pt_row {W : World} {base g n cap k : Nat} {l : List Cl} (h : W.ownsRow base 56 20 (.slice (some ⟨g, 0, none⟩) n cap) n (cls l)) (hn : l.length = n) {c : Cl} (hk : l[k]? = some c) :
    (loadVar 37 ⟨g, k * 20 + 4, none⟩).run Try.prog W = .ok (.agg (ptA c.pt)) W := by
  have hl : (loadCells ⟨g, k * 20 + 4, none⟩ (ptA c.pt).toList.length).run Try.prog W = .ok (ptA c.pt).toList.toArray W :=
    run_loadCells_list (P := Try.prog) W ⟨g, k * 20 + 4, none⟩ (ptA c.pt).toList (fun j v hv => by
      have hj : j < 15 := by
        have := (List.getElem?_eq_some_iff.1 hv).1
        rwa [Array.length_toList, ptA_size] at this
      have hadd : (⟨g, k * 20 + 4, none⟩ : Addr).add j = ⟨g, k * 20 + (4 + j), none⟩ := by unfold Addr.add; split <;> simp_all [Nat.add_assoc]
      rw [hadd]
      refine (own_cell h hn hk (j := 4 + j) (u := v) ?_).1
      rw [← hv]
      match j, hj with
      | 0, _ | 1, _ | 2, _ | 3, _ | 4, _ | 5, _ | 6, _ | 7, _ | 8, _ | 9, _ | 10, _ | 11, _ | 12, _ | 13, _ | 14, _ => rfl)
  rw [Array.length_toList, Array.toArray_toList, ptA_size] at hl
  have hagg : (isAgg 37).run Try.prog W = .ok true W := by
    unfold isAgg
    rw [Sem.run_bind, run_underlying Try.underlying37 W]
    rfl
  have hsz := Try.sizeOf37 W
  unfold loadVar
  rw [Sem.run_bind, hagg]
  simp only [Result.andThen_ok, if_true]
  rw [Sem.run_bind, hsz]
  simp only [Result.andThen_ok]
  rw [Sem.run_bind, hl]
  rfl
theorem load_pt_row {ops : Array Oper} {rest : List Oper} {o : Oper} {a : Act} {W : World} {Q : Exit → Act → World → Prop} (hgd : o.guard = none) {x : Operand} (ho : o.op = .load 37 x) {base g n cap k : Nat} {l : List Cl} (hx : a.eval x = .pointer (some ⟨g, k * 20 + 4, none⟩))
    (hr : W.ownsRow base 56 20 (.slice (some ⟨g, 0, none⟩) n cap) n (cls l)) (hn : l.length = n) {c : Cl} (hk : l[k]? = some c) (h : wpList Try.prog ops Q rest (a.put o.dst (.agg (ptA c.pt))) W) : wpList Try.prog ops Q (o :: rest) a W := by
  refine wpList_plain hgd fun _ hK => ?_
  unfold Oper.wp execOp
  simp only [ho, hx, Instr.loadAt, Instr.sureAddr, Sem.run_bind, Sem.run_pure, Result.andThen_ok, pt_row hr hn hk]
  exact hK _ _ h
theorem addr_add (g off j : Nat) : (⟨g, off, none⟩ : Addr).add j = ⟨g, off + j, none⟩ := by unfold Addr.add; split <;> simp_all
theorem cls_news {w : World} {B : Nat} {A : Option Addr} {l : List Cl} (h : ClsAt w B A l) : ∀ (j : Nat) (u : Value), (cls l)[j]? = some u → ∃ ad, A = some ad ∧ w.cell? (ad.add j) = some u := fun j u hu => by
  have hj := (List.getElem?_eq_some_iff.1 hu).1
  rw [cls_len] at hj
  have hd : j = j / 20 * 20 + j % 20 := by omega
  obtain ⟨c, hc⟩ : ∃ c, l[j / 20]? = some c := ⟨_, List.getElem?_eq_getElem (by omega)⟩
  obtain ⟨g, off, h1, _, h3⟩ := h _ c hc
  refine ⟨_, h1, ?_⟩
  rw [addr_add]
  have h4 := flat_at encC_len hc (show j % 20 < 20 by omega)
  rw [← hd] at h4
  have h5 := h3 (j % 20) u (by rw [← h4]; exact hu)
  rwa [Nat.add_assoc, ← hd] at h5
set_option maxRecDepth 100000 in
theorem cls_slice_to (g m cap k : Nat) (hk : k ≤ cap) (W : World) : (Instr.slice 41 (.slice (some ⟨g, 0, none⟩) m cap) none (some (.int .i64 (k : Int))) none).run Try.prog W = .ok (.slice (some ⟨g, 0, none⟩) k cap) W := by
  have ht : Try.prog.underlying 41 = some (.slice (Try.prog.elem 41)) := by kernel_rfl
  have he : Try.prog.elem 41 = 56 := by kernel_rfl
  rw [run_slice_h _ _ _ _ _ ht .i64 (k : Int) (by omega) (by omega), he, Try.sizeOf56 W]
  simp only [Result.andThen_ok, sliced]
  congr 1
  simp [Addr.add]
set_option maxRecDepth 100000 in
theorem cls_slice_from (g m cap k : Nat) (hk : k ≤ m) (hm : m ≤ cap) : ∃ A' : Option Addr, (∀ W : World, (Instr.slice 41 (.slice (some ⟨g, 0, none⟩) m cap) (some (.int .i64 (k : Int))) none none).run Try.prog W = .ok (.slice A' (m - k) (cap - k)) W) ∧
    ∀ (W : World) (B : Nat) (l : List Cl), ClsAt W B (some ⟨g, 0, none⟩) l → l.length = m → ClsAt W B A' (l.drop k) := by
  have ht : Try.prog.underlying 41 = some (.slice (Try.prog.elem 41)) := by kernel_rfl
  have he : Try.prog.elem 41 = 56 := by kernel_rfl
  refine ⟨if cap = k then some ⟨g, 0, none⟩ else some ⟨g, k * 20, none⟩, fun W => ?_, fun W B l h hl => ?_⟩
  · rw [run_slice_l _ _ _ _ _ ht .i64 (k : Int) (by omega) (by omega), he, Try.sizeOf56 W]
    simp only [Result.andThen_ok, sliced]
    congr 2
    split
    · rename_i h
      rw [if_pos (by simpa using h)]
    · rename_i h
      rw [if_neg (by simpa using h)]
      simp only [Option.map_some]
      rw [addr_add]
      simp
  · split
    · rename_i h'
      have : l.drop k = [] := List.drop_eq_nil_of_le (by omega)
      rw [this]
      exact ClsAt.nil _ _ _
    · intro i c hi
      rw [List.getElem?_drop] at hi
      obtain ⟨g', off', h1, h2, h3⟩ := h (k + i) c hi
      injection h1 with h1
      injection h1 with hg ho _
      subst hg ho
      refine ⟨g, k * 20, rfl, h2, fun j v hv => ?_⟩
      have := h3 j v hv
      rwa [show 0 + (k + i) * 20 + j = k * 20 + i * 20 + j by omega] at this
theorem exec_load_row {ev : Operand → Value} {o : Oper} {W : World} {x : Operand} (ho : o.op = .load 56 x) {base g n cap k : Nat} {l : List Cl} (hx : ev x = .pointer (some ⟨g, k * 20, none⟩))
    (hr : OwnCls W base (.slice (some ⟨g, 0, none⟩) n cap) l) (hn : l.length = n) {c : Cl} (hk : l[k]? = some c) : (execOp ev o).run Try.prog W = .ok (.value (.agg (clA c))) W := by
  have h2 : W.ownsRow base 56 20 (.slice (some ⟨g, 0, none⟩) n cap) n (cls l) := by
    unfold OwnCls at hr
    rw [hn] at hr
    exact hr
  unfold execOp
  simp only [ho, hx, Instr.loadAt, Instr.sureAddr, Sem.run_bind, Sem.run_pure, Result.andThen_ok, row_load h2 hn hk]
theorem own_cap {w : World} {base g n cap : Nat} {l : List Cl} (h : OwnCls w base (.slice (some ⟨g, 0, none⟩) n cap) l) : n ≤ cap := by
  rcases h.2 with ⟨h0, _⟩ | ⟨g', cap', cur, hv, _, _, hn, hcap, _⟩
  · cases h0
  · injection hv with _ h1 h2
    subst h2
    omega
end Go.Proofs.Ytaicbllfkehhjaa

/- A chamber in memory. -/
namespace Go.Proofs.Ytaicbllfkehhjaa
open Go.RowKit

/-- A queue: its block holds v, which reads as messages. -/
def Que (w : World) (q : Nat) (v : Value) (ms : List (List Cl)) : Prop :=
  Blk w q 75 #[v] ∧ ∃ vs : List Value, Row1 w 41 v vs ∧ vs.length = ms.length ∧ ∀ (j : Nat) (x : Value) (m : List Cl), vs[j]? = some x → ms[j]? = some m → OwnCls w 0 x m
/-- The blocks that a chamber may turn, and what is no cells: maps, queues, what queues lie in. -/
def Wr (w : World) (g : Nat) : Prop := (∃ o : Obj, w.heap[g]? = some o ∧ o.isCells = false) ∨ (∃ cs, Blk w g 75 cs) ∨ ∃ cs, Blk w g 41 cs
theorem Wr.not_blk {w : World} {g : Nat} {t : TypeId} {cs : Array Value} (h : Wr w g) (k : Blk w g t cs) (h1 : t ≠ 75) (h2 : t ≠ 41) : False := by
  unfold Blk at k
  rcases h with ⟨o, h, hc⟩ | ⟨ds, h⟩ | ⟨ds, h⟩
  · rw [h] at k; injection k with k; subst k; cases hc
  · unfold Blk at h
    rw [h] at k
    injection k with k
    injection k with _ k
    exact h1 k.symm
  · unfold Blk at h
    rw [h] at k
    injection k with k
    injection k with _ k
    exact h2 k.symm
theorem OwnCls.not_wr {w : World} {B g : Nat} {v : Value} {l : List Cl} (h : OwnCls w B v l) (hg : v.ownBlock = some g) : ¬ Wr w g := by
  rcases h.2 with ⟨rfl, _⟩ | ⟨g', cap, cur, rfl, _, hh, _⟩
  · cases hg
  · have : g' = g := by simpa [Value.ownBlock] using hg
    subst this
    exact fun k => k.not_blk (t := 56) (cs := cur) hh (by decide) (by decide)
theorem OwnCls.only {w w' : World} {B : Nat} {v : Value} {l : List Cl} {F : Foot} (h : OwnCls w B v l) (o : Only F w w') (hF : ∀ g, F g → Wr w g) : OwnCls w' B v l := o.owns h fun g hg hf => h.not_wr hg (hF g hf)
theorem Que.only {w w' : World} {q : Nat} {v : Value} {ms : List (List Cl)} {F : Foot} (h : Que w q v ms) (o : Only F w w') (hq : ¬ F q) (hv : ∀ g, v.ownBlock = some g → ¬ F g) (hF : ∀ g, F g → Wr w g) : Que w' q v ms := by
  obtain ⟨h1, vs, h2, h3, h4⟩ := h
  exact ⟨o.blk h1 hq, vs, h2.only o hv, h3, fun j x m hx hm => (h4 j x m hx hm).only o hF⟩

/-- Where a chamber lies. -/
structure Lay where
  p : Nat
  sb : Nat
  cap : Nat
  mb : Nat
  cs : Array Value
  P : Nat → Nat
  M : Nat → Nat
  Q : Nat → Nat → Nat
  L : List (Value × Value)
def kyA (i k : Nat) : Array Value := #[.int .i64 (i : Int), .int .i64 (k : Int)]
def KyV (v : Value) : Prop := ∃ a b : Int, v = .agg #[.int .i64 a, .int .i64 b]
structure ChAt (w : World) (y : Lay) (V : Nat → Nat → Value) (n : Nat) (C : Ch) : Prop where
  len : C.pages.length = n
  pos : 0 < n
  max : n ≤ 1000
  blk : Blk w y.p 68 #[.slice (some ⟨y.sb, 0, none⟩) n y.cap, .map (some y.mb)]
  sts : Blk w y.sb 72 y.cs
  cap : n ≤ y.cap
  st : ∀ i, i < n → y.cs[i * 2]? = some (.pointer (some ⟨y.P i, 0, none⟩)) ∧ y.cs[i * 2 + 1]? = some (.int .i64 (i : Int))
  map : MapV w y.mb y.L
  key : ∀ p ∈ y.L, KyV p.1
  mem : ∀ i k, i < n → k < n → i ≠ k → (.agg (kyA i k), .pointer (some ⟨y.Q i k, 0, none⟩)) ∈ y.L
  pgs : ∀ i, i < n → PgAt w (y.P i) (y.M i) (C.pg i)
  ques : ∀ i k, i < n → k < n → i ≠ k → Que w (y.Q i k) (V i k) (C.lines i k)
  injM : ∀ i j, i < n → j < n → y.M i = y.M j → i = j
  nemb : ∀ i, i < n → y.M i ≠ y.mb
  injQ : ∀ i k i' k', i < n → k < n → i' < n → k' < n → y.Q i k = y.Q i' k' → i = i' ∧ k = k'
  injV : ∀ i k i' k', i < n → k < n → i ≠ k → i' < n → k' < n → i' ≠ k' → ∀ g, (V i k).ownBlock = some g → (V i' k').ownBlock = some g → i = i' ∧ k = k'
/-- The chamber's own blocks that turn (and the map of its lines). -/
def Fo (y : Lay) (V : Nat → Nat → Value) (n : Nat) (g : Nat) : Prop := g = y.mb ∨ (∃ i, i < n ∧ g = y.M i) ∨ ∃ i k, i < n ∧ k < n ∧ i ≠ k ∧ (g = y.Q i k ∨ (V i k).ownBlock = some g)
section
variable {w w' : World} {y : Lay} {V : Nat → Nat → Value} {n : Nat} {C : Ch}
theorem PgAt.wr {p b : Nat} {L : List Cl} (h : PgAt w p b L) : Wr w b := by
  obtain ⟨L', ⟨es, c, h1, _⟩, _⟩ := h.map
  exact .inl ⟨_, h1, rfl⟩
theorem Row1.wr {v : Value} {l : List Value} (h : Row1 w 41 v l) {g : Nat} (hg : v.ownBlock = some g) : Wr w g := by
  rcases h with ⟨rfl, rfl⟩ | ⟨b, off, cap, cs, rfl, h2, _⟩
  · cases hg
  · have : b = g := by simpa [Value.ownBlock] using hg
    exact this ▸ .inr (.inr ⟨cs, h2⟩)
theorem ChAt.wr (h : ChAt w y V n C) : ∀ g, Fo y V n g → Wr w g := by
  rintro g (rfl | ⟨i, hi, rfl⟩ | ⟨i, k, hi, hk, hne, rfl | hg⟩)
  · obtain ⟨es, c, h1, _⟩ := h.map
    exact .inl ⟨_, h1, rfl⟩
  · exact (h.pgs i hi).wr
  · exact .inr (.inl ⟨_, (h.ques i k hi hk hne).1⟩)
  · obtain ⟨_, vs, h2, _⟩ := h.ques i k hi hk hne
    exact h2.wr hg
theorem Wr.lt {g : Nat} (h : Wr w g) : g < w.heap.size := by
  rcases Nat.lt_or_ge g w.heap.size with hlt | hge
  · exact hlt
  · have h0 := Array.getElem?_eq_none hge
    rcases h with ⟨o, h, _⟩ | ⟨ds, h⟩ | ⟨ds, h⟩
    · rw [h0] at h; cases h
    · unfold Blk at h; rw [h0] at h; cases h
    · unfold Blk at h; rw [h0] at h; cases h
theorem ChAt.lt (h : ChAt w y V n C) {g : Nat} (hg : Fo y V n g) : g < w.heap.size := (h.wr g hg).lt
/-- What leaves the chamber alone. -/
theorem ChAt.only {F : Foot} (h : ChAt w y V n C) (o : Only F w w') (hF : ∀ g, F g → ¬ Fo y V n g) (hW : ∀ g, F g → Wr w g) : ChAt w' y V n C where
  len := h.len
  pos := h.pos
  max := h.max
  blk := o.blk h.blk fun hf => (hW _ hf).not_blk h.blk (by decide) (by decide)
  sts := o.blk h.sts fun hf => (hW _ hf).not_blk h.sts (by decide) (by decide)
  cap := h.cap
  st := h.st
  map := h.map.only o fun hf => hF _ hf (.inl rfl)
  key := h.key
  mem := h.mem
  pgs := fun i hi => (h.pgs i hi).only o (fun hf => (hW _ hf).not_blk (h.pgs i hi).blk (by decide) (by decide)) fun hf => hF _ hf (.inr (.inl ⟨i, hi, rfl⟩))
  ques := fun i k hi hk hne => (h.ques i k hi hk hne).only o (fun hf => hF _ hf (.inr (.inr ⟨i, k, hi, hk, hne, .inl rfl⟩))) (fun g hg hf => hF _ hf (.inr (.inr ⟨i, k, hi, hk, hne, .inr hg⟩))) hW
  injM := h.injM
  nemb := h.nemb
  injQ := h.injQ
  injV := h.injV
theorem ChAt.below (h : ChAt w y V n C) (k : Below w.heap.size w w') : ChAt w' y V n C := h.only (Only.of_below k fun _ => False) (fun _ => False.elim) (fun _ => False.elim)
theorem ChAt.alloc (h : ChAt w y V n C) (o : Obj) : ChAt (w.alloc o) y V n C := h.below (below_self_alloc w o)
theorem ChAt.drewN (h : ChAt w y V n C) (q : Nat) : ChAt (w.drewN q) y V n C := h.below ⟨rfl, rfl, rfl, Nat.le_refl _, fun _ _ => rfl⟩
theorem ChAt.neP {p b : Nat} {L : List Cl} (h : ChAt w y V n C) (k : PgAt w p b L) {i j : Nat} (hi : i < n) (hj : j < n) (hne : i ≠ j) : y.Q i j ≠ b := by
  intro e
  have h1 := (h.ques i j hi hj hne).1
  obtain ⟨L', ⟨es, c, h2, _⟩, _⟩ := k.map
  unfold Blk at h1
  rw [e, h2] at h1
  cases h1
theorem Row1.nem {v : Value} {l : List Value} {e : TypeId} {b : Nat} {L : List (Value × Value)} (h : Row1 w e v l) (k : MapV w b L) : v.ownBlock ≠ some b := by
  intro hg
  rcases h with ⟨rfl, rfl⟩ | ⟨b', off, cap, cs, rfl, h2, _⟩
  · cases hg
  · have : b' = b := by simpa [Value.ownBlock] using hg
    subst this
    obtain ⟨es, c, h1, _⟩ := k
    unfold Blk at h2
    rw [h1] at h2
    cases h2
/-- A page turned. -/
theorem ChAt.page (h : ChAt w y V n C) {i : Nat} (hi : i < n) {L : List Cl} (o : Only (fun g => g = y.M i) w w') (hp : PgAt w' (y.P i) (y.M i) L) : ChAt w' y V n (C.upd i L) := by
  have hW : ∀ g, (fun g => g = y.M i) g → Wr w g := fun g e => e ▸ (h.pgs i hi).wr
  obtain ⟨Lm, hm, _⟩ := (h.pgs i hi).map
  exact {
    len := by simpa [Ch.upd] using h.len
    pos := h.pos
    max := h.max
    blk := o.blk h.blk fun hf => (hW _ hf).not_blk h.blk (by decide) (by decide)
    sts := o.blk h.sts fun hf => (hW _ hf).not_blk h.sts (by decide) (by decide)
    cap := h.cap
    st := h.st
    map := h.map.only o fun hf => h.nemb i hi hf.symm
    key := h.key
    mem := h.mem
    pgs := fun k hk => by
      by_cases e : k = i
      · subst e
        have : (C.upd k L).pg k = L := by
          unfold Ch.pg Ch.upd
          simp [List.getD_eq_getElem?_getD, h.len, hk]
        rw [this]
        exact hp
      · have : (C.upd i L).pg k = C.pg k := by
          unfold Ch.pg Ch.upd
          simp only [List.getD_eq_getElem?_getD, List.getElem?_set]
          rw [if_neg (Ne.symm e)]
        rw [this]
        exact (h.pgs k hk).only o (fun hf => (hW _ hf).not_blk (h.pgs k hk).blk (by decide) (by decide)) fun hf => e (h.injM k i hk hi hf)
    ques := fun a b ha hb hne => by
      have hq := h.ques a b ha hb hne
      obtain ⟨vs, hr, _⟩ := hq.2
      exact hq.only o (fun hf => h.neP (h.pgs i hi) ha hb hne hf) (fun g hg hf => hr.nem hm (by rw [hg, hf])) hW
    injM := h.injM
    nemb := h.nemb
    injQ := h.injQ
    injV := h.injV }
/-- A line turned. -/
def Ch.setL (C : Ch) (i k : Nat) (ms : List (List Cl)) : Ch := { C with lines := fun a b => if a = i ∧ b = k then ms else C.lines a b }
def updV (V : Nat → Nat → Value) (i k : Nat) (v : Value) : Nat → Nat → Value := fun a b => if a = i ∧ b = k then v else V a b
theorem updV_same (V : Nat → Nat → Value) (i k : Nat) (v : Value) : updV V i k v i k = v := if_pos ⟨rfl, rfl⟩
theorem updV_ne {V : Nat → Nat → Value} {i k a b : Nat} {v : Value} (h : ¬ (a = i ∧ b = k)) : updV V i k v a b = V a b := if_neg h
theorem setL_same (C : Ch) (i k : Nat) (ms : List (List Cl)) : (C.setL i k ms).lines i k = ms := if_pos ⟨rfl, rfl⟩
theorem setL_ne {C : Ch} {i k a b : Nat} {ms : List (List Cl)} (h : ¬ (a = i ∧ b = k)) : (C.setL i k ms).lines a b = C.lines a b := if_neg h
theorem ChAt.line (h : ChAt w y V n C) {i k : Nat} (hi : i < n) (hk : k < n) (hne : i ≠ k) {v' : Value} {ms : List (List Cl)} (o : Only (fun g => g = y.Q i k ∨ (V i k).ownBlock = some g) w w') (hq : Que w' (y.Q i k) v' ms)
    (hv : v'.ownBlock = (V i k).ownBlock ∨ ∃ g, v'.ownBlock = some g ∧ w.heap.size ≤ g) : ChAt w' y (updV V i k v') n (C.setL i k ms) ∧ ∀ g, Fo y (updV V i k v') n g → Fo y V n g ∨ w.heap.size ≤ g := by
  have hW : ∀ g, (g = y.Q i k ∨ (V i k).ownBlock = some g) → Wr w g := fun g e => h.wr g (.inr (.inr ⟨i, k, hi, hk, hne, e⟩))
  obtain ⟨vs0, hr0, _⟩ := (h.ques i k hi hk hne).2
  have nomap : ∀ {b L}, MapV w b L → ¬ (b = y.Q i k ∨ (V i k).ownBlock = some b) := fun {b L} km e => by
    rcases e with e | e
    · have h1 := (h.ques i k hi hk hne).1
      obtain ⟨es, c, h2, _⟩ := km
      unfold Blk at h1
      rw [← e, h2] at h1
      cases h1
    · exact hr0.nem km e
  refine ⟨{
    len := h.len
    pos := h.pos
    max := h.max
    blk := o.blk h.blk fun hf => (hW _ hf).not_blk h.blk (by decide) (by decide)
    sts := o.blk h.sts fun hf => (hW _ hf).not_blk h.sts (by decide) (by decide)
    cap := h.cap
    st := h.st
    map := h.map.only o (nomap h.map)
    key := h.key
    mem := h.mem
    pgs := fun j hj => by
      obtain ⟨Lm, hm, _⟩ := (h.pgs j hj).map
      exact (h.pgs j hj).only o (fun hf => (hW _ hf).not_blk (h.pgs j hj).blk (by decide) (by decide)) (nomap hm)
    ques := fun a b ha hb hab => by
      by_cases e : a = i ∧ b = k
      · obtain ⟨rfl, rfl⟩ := e
        rw [updV_same, setL_same]
        exact hq
      · rw [updV_ne e, setL_ne e]
        obtain ⟨vs, hr, _⟩ := (h.ques a b ha hb hab).2
        refine (h.ques a b ha hb hab).only o (fun hf => ?_) (fun g hg hf => ?_) hW
        · rcases hf with hf | hf
          · exact e (h.injQ a b i k ha hb hi hk hf)
          · exact hr0.ne_blk (h.ques a b ha hb hab).1 (by decide) hf
        · rcases hf with hf | hf
          · exact hr.ne_blk (h.ques i k hi hk hne).1 (by decide) (by rw [hg, hf])
          · exact e (h.injV a b i k ha hb hab hi hk hne g hg hf)
    injM := h.injM
    nemb := h.nemb
    injQ := h.injQ
    injV := fun a b a' b' ha hb hab ha' hb' hab' g h1 h2 => by
      have old : ∀ a b, a < n → b < n → a ≠ b → ¬ (a = i ∧ b = k) → (V a b).ownBlock = some g → v'.ownBlock = some g → False := fun a b ha hb hab e h1 h2 => by
        rcases hv with hv | ⟨g', hv, hge⟩
        · rw [hv] at h2
          exact e (h.injV a b i k ha hb hab hi hk hne g h1 h2)
        · obtain ⟨vs, hr, _⟩ := (h.ques a b ha hb hab).2
          have := hr.ltb g h1
          rw [hv] at h2
          injection h2 with h2
          omega
      by_cases e : a = i ∧ b = k
      · by_cases e' : a' = i ∧ b' = k
        · exact ⟨e.1.trans e'.1.symm, e.2.trans e'.2.symm⟩
        · obtain ⟨rfl, rfl⟩ := e
          rw [updV_same] at h1
          rw [updV_ne e'] at h2
          exact (old a' b' ha' hb' hab' e' h2 h1).elim
      · rw [updV_ne e] at h1
        by_cases e' : a' = i ∧ b' = k
        · obtain ⟨rfl, rfl⟩ := e'
          rw [updV_same] at h2
          exact (old a b ha hb hab e h1 h2).elim
        · rw [updV_ne e'] at h2
          exact h.injV a b a' b' ha hb hab ha' hb' hab' g h1 h2 }, ?_⟩
  rintro g (hg | hg | ⟨a, b, ha, hb, hab, hg | hg⟩)
  · exact .inl (.inl hg)
  · exact .inl (.inr (.inl hg))
  · exact .inl (.inr (.inr ⟨a, b, ha, hb, hab, .inl hg⟩))
  · by_cases e : a = i ∧ b = k
    · obtain ⟨rfl, rfl⟩ := e
      rw [updV_same] at hg
      rcases hv with hv | ⟨g', hv, hge⟩
      · rw [hv] at hg
        exact .inl (.inr (.inr ⟨a, b, ha, hb, hab, .inr hg⟩))
      · rw [hv] at hg
        injection hg with hg
        exact .inr (hg ▸ hge)
    · rw [updV_ne e] at hg
      exact .inl (.inr (.inr ⟨a, b, ha, hb, hab, .inr hg⟩))
end
end Go.Proofs.Ytaicbllfkehhjaa

/- find. -/
namespace Go.Proofs.Ytaicbllfkehhjaa
open Go.RowKit

set_option maxRecDepth 100000 in
set_option maxHeartbeats 4000000 in
theorem find1_any (w : World) (c : Cl) (t : St2) (b : Nat) (h : Blk w b 33 (stA t)) :
    Calls Try.prog 63 #[.agg (clA c), .pointer (some ⟨b, 0, none⟩)] w fun e w' => e = .returned (.bool (decide (c.id = t))) ∧ Below w.heap.size w w' := by
  have hb := below_self_alloc w (.cells (clA c) 56)
  obtain ⟨c0, c1, -, -, -⟩ := cl_cells (Blk.new w 56 (clA c))
  have kS := h.alloc (.cells (clA c) 56)
  have s0 : (w.alloc (.cells (clA c) 56)).cell? ⟨b, 0, none⟩ = some (.int .i64 t.1) := kS.cell 0
  have s1 : (w.alloc (.cells (clA c) 56)).cell? ⟨b, 1, none⟩ = some (.int .i64 t.2) := kS.cell 1
  have hez : ∀ W : World, (Op.equalIn 10000 33 (.agg #[.int .i64 c.id.1, .int .i64 c.id.2]) (.agg #[.int .i64 t.1, .int .i64 t.2])).run Try.prog W = .ok (decide (c.id = t)) W := eq_st c.id t
  generalize decide (c.id = t) = R at *
  obtain ⟨CC, hCC⟩ : ∃ CC, clA c = CC := ⟨_, rfl⟩
  rw [hCC] at hb c0 c1 s0 s1 ⊢
  clear h kS hCC
  go_enter Try.func63, Try.ntmps63
  go_wp2_with fail
  go_ret
  exact ⟨rfl, hb⟩

set_option maxRecDepth 100000 in
set_option maxHeartbeats 4000000 in
theorem ixfind_any (w : World) (A : Option Addr) (cap : Nat) (l : List Cl) (h : ClsAt w w.heap.size A l) (hl : l.length ≤ 1000000) (t : St2) (b : Nat) (hb : Blk w b 33 (stA t)) :
    Calls Try.prog 62 #[.slice A l.length cap, .func (Fn.func 63) #[] #[.pointer (some ⟨b, 0, none⟩)]] w fun e w' => e = .returned (.int .i64 (findS l t)) ∧ Below w.heap.size w w' := by
  have HH := Lib.hid h
  have HB := Lib.hid hb
  obtain ⟨N, hN⟩ : ∃ N, l.length = N := ⟨_, rfl⟩
  obtain ⟨R, hR⟩ : ∃ R, findS l t = R := ⟨_, rfl⟩
  rw [hN] at hl ⊢
  rw [hR]
  have HN := Lib.hid hN
  have HR := Lib.hid hR
  clear h hb hN hR
  go_enter Try.func62, Try.ntmps62
  go_wp2_with fail
  go_loopw [8] (fun i wr => ∃ (k : Nat), k ≤ N ∧ i = .int .i64 (k : Int) ∧ Below w.heap.size w wr ∧ Hid (∀ j d, j < k → l[j]? = some d → d.id ≠ t)) (fun i _ => N - (intOf i).toNat)
  case atStart => exact ⟨0, Nat.zero_le _, rfl, Below.refl _ _, Lib.hid fun j x hj => by omega⟩
  case round =>
    obtain ⟨k, hkl, rfl, hbw, HK⟩ := hrel
    by_cases hlt : k < N
    · obtain ⟨c, hc⟩ : ∃ c, l[k]? = some c := ⟨_, List.getElem?_eq_getElem (by rw [HN.out]; exact hlt)⟩
      obtain ⟨g, off, hA, -, -⟩ := HH.out k c hc
      subst hA
      have hF := find1_any wr c t b (HB.out.below hbw HB.out.lt)
      have HC := Lib.hid hc
      have HL := Lib.hid (HH.out.below hbw)
      have hi0 : (0 : Int) ≤ (k : Int) := by omega
      have hi1 : (k : Int) < (N : Int) := by omega
      clear hc
      by_cases he : c.id = t
      · rw [decide_eq_true he] at hF
        have HF := Lib.hid hF
        obtain rfl : R = (k : Int) := by rw [← HR.out]; exact find_at HK.out HC.out he
        clear he HK HR hF
        go_wp2_with (first | (refine wpList_val rfl rfl (.agg (clA c)) (exec_load_at (x := .tmp 14) rfl rfl HL.out rfl HC.out) ?_) | (go_at_call 63; refine HF.out.mono ?_; rintro e w3 ⟨rfl, hb3⟩))
        go_ret
        exact ⟨rfl, hbw.trans (hb3.mono hbw.size)⟩
      · rw [decide_eq_false he] at hF
        have HF := Lib.hid hF
        have HK2 := Lib.hid (show ∀ j d, j < k + 1 → l[j]? = some d → d.id ≠ t from fun j x hj hjx => by
          rcases Nat.lt_or_ge j k with h1 | h1
          · exact HK.out j x h1 hjx
          · obtain rfl : j = k := by omega
            rw [HC.out] at hjx
            injection hjx with hjx
            subst hjx
            exact he)
        clear he HK hF
        go_wp2_with (first | (refine wpList_val rfl rfl (.agg (clA c)) (exec_load_at (x := .tmp 14) rfl rfl HL.out rfl HC.out) ?_) | (go_at_call 63; refine HF.out.mono ?_; rintro e w3 ⟨rfl, hb3⟩))
        go_roundw
        case rel => exact ⟨k + 1, by omega, by go_num, hbw.trans (hb3.mono hbw.size), HK2⟩
        case measure => simp [intOf]; omega
    · obtain rfl : k = N := by omega
      obtain rfl : R = -1 := by rw [← HR.out]; exact find_no fun j d hj hd => HK.out j d (by rw [← HN.out]; exact hj) hd
      clear HK HR
      go_wp2
      go_ret
      exact ⟨rfl, hbw⟩

set_option maxRecDepth 100000 in
set_option maxHeartbeats 4000000 in
/-- find, at a list whose Ids are unique. -/
theorem find_any (w : World) (B : Nat) (v : Value) (l : List Cl) (h : OwnCls w B v l) (hu : Uq l) (hl : l.length ≤ 1000000) (t : St2) :
    Calls Try.prog 47 #[v, .agg (stA t)] w fun e w' => e = .returned (.tuple #[.agg (clA ((getC l t).getD zcl)), .bool (getC l t).isSome]) ∧ Below w.heap.size w w' := by
  obtain ⟨A, cap, rfl, hA⟩ := h.form
  have kS := Blk.new w 33 (stA t)
  have kZ : Blk ((w.alloc (.cells (stA t) 33)).alloc (.cells (clA zcl) 56)) (w.heap.size + 1) 56 (clA zcl) := Blk.new1 w _ _ _
  have hb := (below_self_alloc w (.cells (stA t) 33)).alloc (by simp) (.cells (clA zcl) 56)
  have hI := ixfind_any ((w.alloc (.cells (stA t) 33)).alloc (.cells (clA zcl) 56)) A cap l ((hA.below hb).wide hb.size) hl t w.heap.size (kS.alloc _)
  have HA := Lib.hid hA
  have HI := Lib.hid hI
  have HZ := Lib.hid kZ
  have HB := Lib.hid hb
  clear h hA hI kS kZ hb
  rcases find_cases hu t with ⟨h1, h2⟩ | ⟨k, c, h1, h2, h3⟩
  · rw [h2] at HI
    rw [h1]
    clear h1 h2 hu
    go_enter Try.func47, Try.ntmps47
    go_wp2_with (first | (refine wpList_store_row rfl 56 (.tmp 4) (.tmp 12) rfl (w.heap.size + 1) (clA zcl) rfl rfl _ (clA zcl) kR (by kernel_rfl) rfl (clA_one zcl) ?_) | (go_at_call 62; refine HI.out.mono ?_; rintro e w3 ⟨rfl, hb3⟩; have kR := HZ.out.below hb3 HZ.out.lt; have hbb := HB.out.trans (hb3.mono HB.out.size)))
    have kR7 := blk_setRow (C := clA zcl) kR
    have hb7 := below_setRow (g := w.heap.size + 1) (clA zcl) hbb (by omega)
    have hlv := run_loadVar_row (P := Try.prog) _ _ 56 56 _ (0, 0) _ kR7 Try.underlying56 rfl (by rw [clA_size]; kernel_rfl)
    exact bodyPost_ret (v := .tuple #[.agg (clA zcl), .bool false]) (by simp [results, Try.results47, asAddr, hlv]) rfl ⟨rfl, hb7⟩
  · rw [h3] at HI
    rw [h1]
    have hkl : k < l.length := (List.getElem?_eq_some_iff.1 h2).1
    obtain ⟨g, off, hAA, -, -⟩ := HA.out k c h2
    subst hAA
    have HC := Lib.hid h2
    have hi0 : (0 : Int) ≤ (k : Int) := by omega
    have hi1 : (k : Int) < (l.length : Int) := by omega
    clear h1 h2 h3 hu
    go_enter Try.func47, Try.ntmps47
    go_wp2_with (first | (refine wpList_val rfl rfl (.agg (clA c)) (exec_load_at (x := .tmp 15) rfl rfl HL.out rfl HC.out) ?_) | (go_at_call 62; refine HI.out.mono ?_; rintro e w3 ⟨rfl, hb3⟩; have kR := HZ.out.below hb3 HZ.out.lt; have hbb := HB.out.trans (hb3.mono HB.out.size); have HL := Lib.hid (HA.out.below hbb)) | (refine wpList_store_row rfl 56 (.tmp 4) (.tmp 16) rfl (w.heap.size + 1) (clA c) rfl rfl _ (clA zcl) kR (by kernel_rfl) rfl (clA_one c) ?_))
    have kR7 := blk_setRow (C := clA c) kR
    have hb7 := below_setRow (g := w.heap.size + 1) (clA c) hbb (by omega)
    have hlv := run_loadVar_row (P := Try.prog) _ _ 56 56 _ (0, 0) _ kR7 Try.underlying56 rfl (by rw [clA_size]; kernel_rfl)
    exact bodyPost_ret (v := .tuple #[.agg (clA c), .bool true]) (by simp [results, Try.results47, asAddr, hlv]) rfl ⟨rfl, hb7⟩
end Go.Proofs.Ytaicbllfkehhjaa

/- View, Propose's and Withdraw's parts. -/
namespace Go.Proofs.Ytaicbllfkehhjaa
open Go.RowKit

/-- The pages are what pages are, and not great. -/
def Sane (n : Nat) (C : Ch) : Prop := ∀ i, i < n → Pg (C.pg i) ∧ (C.pg i).length ≤ 100000
section
variable {w w' : World} {y : Lay} {V : Nat → Nat → Value} {n : Nat} {C : Ch}
/-- What a walk reads of a chamber and a seat. -/
theorem ChAt.cells (h : ChAt w y V n C) : w.cell? ⟨y.p, 0, none⟩ = some (.slice (some ⟨y.sb, 0, none⟩) n y.cap) ∧ w.cell? ⟨y.p, 1, none⟩ = some (.map (some y.mb)) := ⟨h.blk.cell 0, h.blk.cell 1⟩
theorem ChAt.seat (h : ChAt w y V n C) {i : Nat} (hi : i < n) : w.cell? ⟨y.sb, i * 2, none⟩ = some (.pointer (some ⟨y.P i, 0, none⟩)) ∧ w.cell? ⟨y.sb, i * 2 + 1, none⟩ = some (.int .i64 (i : Int)) :=
  ⟨(h.sts.cell _).trans (h.st i hi).1, (h.sts.cell _).trans (h.st i hi).2⟩
theorem ChAt.pg_list (h : ChAt w y V n C) (hg : Sane n C) {i : Nat} (hi : i < n) :
    Calls Try.prog 40 #[.pointer (some ⟨y.P i, 0, none⟩)] w fun e w' => ∃ v, e = .returned v ∧ OwnCls w' w.heap.size v (walkS (C.pg i)) ∧ Below w.heap.size w w' :=
  list_any w _ _ _ (h.pgs i hi) (hg i hi).1.tr (pg_bound (hg i hi).1) (by have := (hg i hi).2; omega)
end
def viewS (n : Nat) (C : Ch) (i : Int) : List Cl := if 0 ≤ i ∧ i < (n : Int) then walkS (C.pg i.toNat) else []

set_option maxRecDepth 100000 in
theorem view_any (w : World) (y : Lay) (V : Nat → Nat → Value) (n : Nat) (C : Ch) (h : ChAt w y V n C) (hg : Sane n C) (i : Int) :
    Calls Try.prog 20 #[.pointer (some ⟨y.p, 0, none⟩), .int .i64 i] w fun e w' => ∃ v, e = .returned v ∧ OwnCls w' w.heap.size v (viewS n C i) ∧ Below w.heap.size w w' := by
  have hI := is_any w y.p n y.cap _ _ h.blk i
  obtain ⟨c0, c1⟩ := h.cells
  have hmax := h.max
  unfold viewS
  by_cases hi : 0 ≤ i ∧ i < (n : Int)
  · rw [if_pos hi]
    rw [decide_eq_true hi] at hI
    obtain ⟨k, rfl⟩ := Int.eq_ofNat_of_zero_le hi.1
    rw [Int.toNat_natCast]
    have hk : k < n := by omega
    obtain ⟨s0, s1⟩ := h.seat hk
    have HL := Lib.hid (h.pg_list hg hk)
    have HI := Lib.hid hI
    have hcap := h.cap
    have hi0 : (0 : Int) ≤ (k : Int) := hi.1
    have hi1 : (k : Int) < (n : Int) := hi.2
    clear h hg hI hi
    go_enter Try.func20, Try.ntmps20
    go_wp2_with (first | (go_at_call 39; refine HI.out.mono ?_; rintro e w1 ⟨rfl, rfl⟩) | (go_at_call 40; refine HL.out.mono ?_; rintro e w1 ⟨v, rfl, hv, hb⟩))
    go_ret
    exact ⟨_, rfl, hv, hb⟩
  · rw [if_neg hi]
    rw [decide_eq_false hi] at hI
    have HI := Lib.hid hI
    clear h hg hI hi
    go_enter Try.func20, Try.ntmps20
    go_wp2_with (go_at_call 39; refine HI.out.mono ?_; rintro e w1 ⟨rfl, rfl⟩)
    go_ret
    exact ⟨_, rfl, World.ownsRow_nil _ _ _ _, Below.refl _ _⟩
end Go.Proofs.Ytaicbllfkehhjaa

/- Again. -/
namespace Go.Proofs.Ytaicbllfkehhjaa
open Go.RowKit

/-! ### keys of the lines -/
set_option maxRecDepth 100000 in
theorem eq_ky (a b c d : Int) (W : World) : (Op.equalIn 10000 76 (.agg #[.int .i64 a, .int .i64 b]) (.agg #[.int .i64 c, .int .i64 d])).run Try.prog W = .ok (decide (a = c ∧ b = d)) W := by
  have hi : ∀ (W : World) (x z : Int), (Op.equalIn 9999 3 (.int .i64 x) (.int .i64 z)).run Try.prog W = .ok (decide (x = z)) W := fun W x z => by
    rw [show (9999 : Nat) = 9998 + 1 from rfl]
    unfold Op.equalIn
    simp [run_underlying Try.underlying3]
    try rfl
  rw [show (10000 : Nat) = 9999 + 1 from rfl]
  unfold Op.equalIn
  simp [run_underlying Try.underlying76, go_sem, List.range', hi, run_underlying Try.underlying3, isAgg]
  by_cases h1 : a = c <;> by_cases h2 : b = d <;> simp [h1, h2]
set_option maxRecDepth 100000 in
theorem check2 (w : World) (em : Bool) (a b : Int) : (Instr.checkKey em 10000 76 (.agg #[.int .i64 a, .int .i64 b])).run Try.prog w = .ok () w := by
  have hi : ∀ (W : World) (x : Int), (Instr.checkKey em 9999 3 (.int .i64 x)).run Try.prog W = .ok () W := fun W x => by
    rw [show (9999 : Nat) = 9998 + 1 from rfl]
    unfold Instr.checkKey
    simp [run_underlying Try.underlying3]
  rw [show (10000 : Nat) = 9999 + 1 from rfl]
  unfold Instr.checkKey
  simp [run_underlying Try.underlying76, go_sem, List.range', hi, run_underlying Try.underlying3, isAgg]
theorem ask2 (w : World) (a b : Int) : ∀ (es : List MapEntry) (i : Nat), (∀ e ∈ es, KyV e.key) →
    ((Instr.findAsking 76 (.agg #[.int .i64 a, .int .i64 b]) es i).run Try.prog w = .ok none w ∧ ∀ e ∈ es, e.key ≠ .agg #[.int .i64 a, .int .i64 b]) ∨ ∃ (j : Nat) (e : MapEntry), (Instr.findAsking 76 (.agg #[.int .i64 a, .int .i64 b]) es i).run Try.prog w = .ok (some (i + j, e.val)) w ∧ es[j]? = some e ∧ e.key = .agg #[.int .i64 a, .int .i64 b]
  | [], i, _ => .inl ⟨rfl, by simp⟩
  | x :: es, i, h => by
    obtain ⟨c, d, ht⟩ := h x List.mem_cons_self
    have heq := eq_ky a b c d w
    unfold Instr.findAsking
    rw [Sem.run_bind]
    have h1 : (Op.equal 76 (.agg #[.int .i64 a, .int .i64 b]) x.key).run Try.prog w = .ok (decide (a = c ∧ b = d)) w := by rw [ht]; exact heq
    rw [h1]
    by_cases hst : a = c ∧ b = d
    · right
      refine ⟨0, x, ?_, rfl, by rw [ht, hst.1, hst.2]⟩
      simp [hst]
    · have hne : x.key ≠ .agg #[.int .i64 a, .int .i64 b] := fun e => hst (by
        rw [ht] at e
        simp at e
        exact ⟨e.1.symm, e.2.symm⟩)
      simp only [hst, decide_false, Result.andThen_ok, Bool.false_eq_true, if_false]
      rcases ask2 w a b es (i + 1) (fun e he => h e (List.mem_cons_of_mem _ he)) with ⟨h2, h3⟩ | ⟨j, e, h2, h3, h4⟩
      · refine .inl ⟨h2, fun e he => ?_⟩
        rcases List.mem_cons.1 he with rfl | he
        · exact hne
        · exact h3 e he
      · exact .inr ⟨j + 1, e, by rw [h2, show i + 1 + j = i + (j + 1) by omega], by simpa using h3, h4⟩
theorem kys2 : Kys Try.prog 76 KyV where
  check w em v hv := by obtain ⟨a, b, rfl⟩ := hv; exact check2 w em a b
  find w x hx es hes := by
    obtain ⟨a, b, rfl⟩ := hx
    have hu := run_underlying Try.underlying76 w
    cases es with
    | nil =>
      refine .inl ⟨?_, by simp⟩
      simp [Instr.findKey, hu, Instr.findNow]
    | cons e es =>
      have h1 : (Instr.findKey 76 (.agg #[.int .i64 a, .int .i64 b]) (e :: es)).run Try.prog w = (Instr.findAsking 76 (.agg #[.int .i64 a, .int .i64 b]) (e :: es) 0).run Try.prog w := by
        simp [Instr.findKey, hu, Instr.findNow, Instr.sameNow]
      rcases ask2 w a b (e :: es) 0 hes with ⟨h2, h3⟩ | ⟨j, e', h2, h3, h4⟩
      · exact .inl ⟨h1.trans h2, h3⟩
      · exact .inr ⟨j, e', by rw [h1, h2, Nat.zero_add], h3, h4⟩
  stays w v hv := by
    obtain ⟨a, b, rfl⟩ := hv
    have : Instr.sameBits 10000 (.agg #[.int .i64 a, .int .i64 b]) (.agg #[.int .i64 a, .int .i64 b]) = true := by
      rw [show (10000 : Nat) = 9999 + 1 from rfl]
      simp [Instr.sameBits]
    simp [Instr.keyThatStays, this]
theorem ChAt.look {w : World} {y : Lay} {V : Nat → Nat → Value} {n : Nat} {C : Ch} (h : ChAt w y V n C) {i k : Nat} (hi : i < n) (hk : k < n) (hne : i ≠ k) :
    (Instr.lookup 65 (.map (some y.mb)) (.agg #[.int .i64 (i : Int), .int .i64 (k : Int)]) false).run Try.prog w = .ok (.pointer (some ⟨y.Q i k, 0, none⟩)) w :=
  h.map.look_some kys2 Try.underlying65 h.key (h.mem i k hi hk hne) false

/-! ### Again -/
/-- What an operation may turn: the chamber's blocks; its new ones are new. -/
def Turn (w w' : World) (y : Lay) (V V' : Nat → Nat → Value) (n : Nat) : Prop := Only (Fo y V n) w w' ∧ ∀ g, Fo y V' n g → Fo y V n g ∨ w.heap.size ≤ g
theorem Turn.refl (w : World) (y : Lay) (V : Nat → Nat → Value) (n : Nat) : Turn w w y V V n := ⟨Only.refl _ _, fun _ h => .inl h⟩
theorem Turn.trans {w w' w'' : World} {y : Lay} {V V' V'' : Nat → Nat → Value} {n : Nat} (h : Turn w w' y V V' n) (k : Turn w' w'' y V' V'' n) : Turn w w'' y V V'' n :=
  ⟨h.1.trans k.1 h.2, fun g hg => (k.2 g hg).elim (h.2 g) fun h' => .inr (Nat.le_trans h.1.size h')⟩
theorem Turn.of_below {w w' : World} {y : Lay} {V : Nat → Nat → Value} {n : Nat} (h : Below w.heap.size w w') : Turn w w' y V V n := ⟨Only.of_below h _, fun _ h => .inl h⟩
theorem Turn.page {w w' : World} {y : Lay} {V : Nat → Nat → Value} {n i : Nat} (hi : i < n) (o : Only (fun g => g = y.M i) w w') : Turn w w' y V V n :=
  ⟨o.mono fun _ e => .inr (.inl ⟨i, hi, e⟩), fun _ h => .inl h⟩
theorem Turn.line {w w' : World} {y : Lay} {V V' : Nat → Nat → Value} {n i k : Nat} (hi : i < n) (hk : k < n) (hne : i ≠ k) (o : Only (fun g => g = y.Q i k ∨ (V i k).ownBlock = some g) w w') (h : ∀ g, Fo y V' n g → Fo y V n g ∨ w.heap.size ≤ g) : Turn w w' y V V' n :=
  ⟨o.mono fun _ e => .inr (.inr ⟨i, k, hi, hk, hne, e⟩), h⟩

/-- A message put on a line. -/
theorem ChAt.put {w : World} {y : Lay} {V : Nat → Nat → Value} {n : Nat} {C : Ch} (h : ChAt w y V n C) {i k : Nat} (hi : i < n) (hk : k < n) (hne : i ≠ k) {B : Nat} {x : Value} {m : List Cl} (hx : OwnCls w B x m) (hl : (C.lines i k).length ≤ 1000000) :
    Calls Try.prog 44 #[.pointer (some ⟨y.Q i k, 0, none⟩), x] w fun e w' => (∃ r, e = .returned r) ∧ ∃ V', ChAt w' y V' n (C.setL i k (C.lines i k ++ [m])) ∧ Turn w w' y V V' n := by
  obtain ⟨hq, vs, hr, hlen, hvs⟩ := h.ques i k hi hk hne
  obtain ⟨A, cap, hxs, _⟩ := hx.form
  refine (qput_any w (y.Q i k) (V i k) x vs hq hr (by omega) ⟨_, _, _, hxs⟩).mono ?_
  rintro e w' ⟨he, v', k1, k2, k3, k4⟩
  have hW : ∀ g, (g = y.Q i k ∨ (V i k).ownBlock = some g) → Wr w g := fun g e => h.wr g (.inr (.inr ⟨i, k, hi, hk, hne, e⟩))
  have hx0 : OwnCls w 0 x m := ⟨hx.1, hx.2.imp id fun ⟨g, cap, cur, a, b, c⟩ => ⟨g, cap, cur, a, Nat.zero_le _, c⟩⟩
  obtain ⟨r1, r2⟩ := h.line hi hk hne (v' := v') (ms := C.lines i k ++ [m]) k3 ⟨k1, vs ++ [x], k2, by simp [hlen], fun j u mm hu hm => by
    rcases Nat.lt_or_ge j vs.length with h1 | h1
    · rw [List.getElem?_append_left h1] at hu
      rw [List.getElem?_append_left (by omega)] at hm
      exact (hvs j u mm hu hm).only k3 hW
    · rw [List.getElem?_append_right h1] at hu
      rw [List.getElem?_append_right (by omega)] at hm
      have hj : j - vs.length = 0 := by
        rcases Nat.eq_zero_or_pos (j - vs.length) with h2 | h2
        · exact h2
        · rw [List.getElem?_eq_none (by simp; omega)] at hu; cases hu
      have hj' : j - (C.lines i k).length = 0 := by omega
      rw [hj] at hu
      rw [hj'] at hm
      simp at hu hm
      subst hu hm
      exact hx0.only k3 hW⟩ k4
  exact ⟨he, _, r1, Turn.line hi hk hne k3 r2⟩

def againI (n : Nat) (C : Ch) (a b : Int) : Ch × Int := if (0 ≤ a ∧ a < (n : Int)) ∧ 0 ≤ b ∧ b < (n : Int) then againS C a.toNat b.toNat else (C, 1)
theorem send_setL (C : Ch) (a b : Nat) (m : List Cl) : C.send a b m = C.setL a b (C.lines a b ++ [m]) := by
  unfold Ch.send Ch.setL
  congr 1
  funext i k
  split
  · rename_i e
    rw [e.1, e.2]
  · rfl

set_option maxRecDepth 100000 in
set_option maxHeartbeats 4000000 in
theorem again_any (w : World) (y : Lay) (V : Nat → Nat → Value) (n : Nat) (C : Ch) (h : ChAt w y V n C) (hg : Sane n C) (hl : ∀ i k, (C.lines i k).length ≤ 1000000) (a b : Int) :
    Calls Try.prog 27 #[.pointer (some ⟨y.p, 0, none⟩), .int .i64 a, .int .i64 b] w fun e w' => e = .returned (.int .i64 (againI n C a b).2) ∧ ∃ V', ChAt w' y V' n (againI n C a b).1 ∧ Turn w w' y V V' n := by
  have hA := is_any w y.p n y.cap _ _ h.blk a
  have hB := is_any w y.p n y.cap _ _ h.blk b
  have H := Lib.hid h
  by_cases ha : 0 ≤ a ∧ a < (n : Int)
  · rw [decide_eq_true ha] at hA
    have HA := Lib.hid hA
    clear hA
    by_cases hb : 0 ≤ b ∧ b < (n : Int)
    · rw [decide_eq_true hb] at hB
      have HB := Lib.hid hB
      clear hB
      have hE : againI n C a b = againS C a.toNat b.toNat := if_pos ⟨ha, hb⟩
      rw [hE]
      obtain ⟨i, rfl⟩ := Int.eq_ofNat_of_zero_le ha.1
      obtain ⟨k, rfl⟩ := Int.eq_ofNat_of_zero_le hb.1
      rw [Int.toNat_natCast, Int.toNat_natCast]
      have hi : i < n := by omega
      have hk : k < n := by omega
      by_cases hik : i = k
      · subst hik
        have e : againS C i i = (C, 1) := if_pos rfl
        rw [e]
        clear hE e hg hl ha hb h hi hk
        go_enter Try.func27, Try.ntmps27
        go_wp2_with (go_at_call 39; first | (refine HA.out.mono ?_; clear HA; rintro e w1 ⟨rfl, rfl⟩) | (refine HB.out.mono ?_; rintro e w1 ⟨rfl, rfl⟩))
        go_wp2_with fail
        go_ret
        exact ⟨rfl, V, H.out, Turn.refl _ _ _ _⟩
      · have hne : ((i : Int) == (k : Int)) = false := by
          have : ¬ (i : Int) = (k : Int) := by omega
          simpa using this
        have hr : againS C i k = (C.setL i k (C.lines i k ++ [walkS (C.pg i)]), 0) := by
          unfold againS
          rw [if_neg hik, send_setL]
        rw [hr]
        obtain ⟨R, hR⟩ : ∃ R, C.setL i k (C.lines i k ++ [walkS (C.pg i)]) = R := ⟨_, rfl⟩
        rw [hR]
        dsimp only
        have HR := Lib.hid hR
        have HL := Lib.hid hl
        have HI := Lib.hid hi
        have HK := Lib.hid hk
        have HIK := Lib.hid hik
        have HG := Lib.hid hg
        have hi0 : (0 : Int) ≤ (i : Int) := ha.1
        have hi1 : (i : Int) < (n : Int) := ha.2
        have hcap := h.cap
        have hmax := h.max
        clear hE hr hg hl ha hb h hi hk hik hR
        go_enter Try.func27, Try.ntmps27
        go_wp2_with (go_at_call 39; first | (refine HA.out.mono ?_; clear HA; rintro e w1 ⟨rfl, rfl⟩) | (refine HB.out.mono ?_; rintro e w1 ⟨rfl, rfl⟩))
        refine wp_region_hold (fun W => ChAt W y V n C) [0, 1, 2, 3, 4, 5, 6, 7, 8, 9, 10, 11, 12, 13, 14, 15] [16] [17] (by kernel_rfl) (by kernel_rfl) (fun _ d _ _ _ h => by cases d <;> exact h) (H.out.drewN 1) ?_
        simp only [pick, List.drop_succ_cons, List.drop_zero, List.head?_cons, Option.toList_some, List.cons_append, List.nil_append, List.append_nil]
        repeat (refine wpHeld_step ?_ rfl ?_ ?_; rotate_left; · (intro W hW; obtain ⟨c0, c1⟩ := hW.cells; obtain ⟨s0, s1⟩ := hW.seat HI.out; have lk := hW.look HI.out HK.out HIK.out; go_simp; with_reducible rfl))
        refine wpHeld_nil ?_
        simp only [wpEarly]
        go_wp2_with fail
        refine ((H.out.drewN 1).pg_list HG.out HI.out).mono ?_
        rintro e w2 ⟨v, rfl, hv, hb⟩
        have H2 := Lib.hid ((H.out.drewN 1).below hb)
        have HV := Lib.hid hv
        have HB2 := Lib.hid hb
        clear hv hb
        go_wp2_with fail
        refine ⟨H2.out, ?_⟩
        go_wp2_with fail
        refine (H2.out.put HI.out HK.out HIK.out HV.out (HL.out i k)).mono ?_
        rintro e w3 ⟨⟨r, rfl⟩, V', h3, t3⟩
        rw [HR.out] at h3
        have H3 := Lib.hid h3
        have HT := Lib.hid t3
        clear h3 t3
        go_wp2_with fail
        go_ret
        exact ⟨rfl, V', H3.out, Turn.trans (Turn.of_below (below_drew HB2.out)) HT.out⟩
    · rw [decide_eq_false hb] at hB
      have HB := Lib.hid hB
      rw [show againI n C a b = (C, 1) from if_neg (fun e => hb e.2)]
      clear hB h hg hl ha hb
      go_enter Try.func27, Try.ntmps27
      go_wp2_with (go_at_call 39; first | (refine HA.out.mono ?_; clear HA; rintro e w1 ⟨rfl, rfl⟩) | (refine HB.out.mono ?_; rintro e w1 ⟨rfl, rfl⟩))
      go_ret
      exact ⟨rfl, V, H.out, Turn.refl _ _ _ _⟩
  · rw [decide_eq_false ha] at hA
    have HA := Lib.hid hA
    rw [show againI n C a b = (C, 1) from if_neg (fun e => ha e.1)]
    clear hA hB h hg hl ha
    go_enter Try.func27, Try.ntmps27
    go_wp2_with (go_at_call 39; refine HA.out.mono ?_; rintro e w1 ⟨rfl, rfl⟩)
    go_ret
    exact ⟨rfl, V, H.out, Turn.refl _ _ _ _⟩
end Go.Proofs.Ytaicbllfkehhjaa

/- What a chamber keeps, in plain words. -/
namespace Go.Proofs.Ytaicbllfkehhjaa

/-- Each clause of the one list is in the other, with the same After and Patch, and Gone if it was so. -/
def Kept (L M : List Cl) : Prop := ∀ t c, getC L t = some c → ∃ d, getC M t = some d ∧ d.after = c.after ∧ d.pt = c.pt ∧ (c.gone = true → d.gone = true)
theorem Kept.refl (L : List Cl) : Kept L L := fun _ c h => ⟨c, h, rfl, rfl, id⟩
theorem Kept.trans {L M N : List Cl} (h : Kept L M) (k : Kept M N) : Kept L N := fun t c hc => by
  obtain ⟨d, h1, h2, h3, h4⟩ := h t c hc
  obtain ⟨e, k1, k2, k3, k4⟩ := k t d h1
  exact ⟨e, k1, k2.trans h2, k3.trans h3, fun hg => k4 (h4 hg)⟩
theorem Kept.set {L : List Cl} {x old : Cl} (ho : getC L x.id = some old) (ha : x.after = old.after) (hp : x.pt = old.pt) (hg : old.gone = true → x.gone = true) : Kept L (setC L x) := fun t c hc => by
  rw [getC_set]
  by_cases ht : t = x.id
  · rw [if_pos ht, hc]
    rw [ht, ho] at hc
    injection hc with hc
    subst hc
    exact ⟨x, rfl, ha, hp, hg⟩
  · rw [if_neg ht]
    exact ⟨c, hc, rfl, rfl, id⟩
theorem Kept.put {L : List Cl} (x : Cl) : Kept L (putS L x).1 := by
  unfold putS
  split
  · exact Kept.refl L
  split
  · rename_i old ho
    split
    · rename_i hs
      obtain ⟨h1, h2, h3⟩ := sameC_iff.1 hs
      exact Kept.set (x := mrgC old x) (old := old) (by rw [mrgC_id, h1]; exact ho) rfl rfl (fun hg => by simp [mrgC, hg])
    · exact Kept.refl L
  · rename_i hn
    split
    · exact Kept.refl L
    split
    · exact Kept.refl L
    intro t c hc
    rw [getC_snoc hn]
    by_cases ht : t = x.id
    · rw [ht, hn] at hc
      cases hc
    · rw [if_neg ht]
      exact ⟨c, hc, rfl, rfl, id⟩
theorem Kept.drop {L : List Cl} (t : St2) : Kept L (dropS L t).1 := by
  unfold dropS
  split
  · exact Kept.refl L
  · rename_i c hc
    exact Kept.set (x := { c with gone := true }) (old := c) (by show getC L c.id = _; rw [(getC_mem hc).2]; exact hc) rfl rfl (fun _ => rfl)
theorem Kept.all : ∀ (m L : List Cl), Kept L (putAll L m)
  | [], _ => Kept.refl _
  | c :: m, _ => (Kept.put c).trans (Kept.all m _)
theorem putAll_pg : ∀ (m : List Cl) {L : List Cl}, Pg L → Pg (putAll L m)
  | [], _, h => h
  | c :: m, _, h => putAll_pg m (h.put c)

/-! ### a page of a chamber, turned -/
theorem pg_upd {C : Ch} {i : Nat} {L : List Cl} (hi : i < C.pages.length) (k : Nat) : (C.upd i L).pg k = if k = i then L else C.pg k := by
  unfold Ch.pg Ch.upd
  simp only [List.getD_eq_getElem?_getD, List.getElem?_set]
  by_cases h : i = k
  · subst h
    simp [hi]
  · rw [if_neg h, if_neg (Ne.symm h)]
theorem pg_tell (C : Ch) (i : Nat) (x : Cl) (k : Nat) : (C.tell i x).pg k = C.pg k := rfl
theorem pg_send (C : Ch) (i k : Nat) (m : List Cl) (j : Nat) : (C.send i k m).pg j = C.pg j := rfl
theorem propose_kept {C : Ch} {i : Nat} (hi : i < C.pages.length) (after : St2) (p : Pt) (k : Nat) : Kept (C.pg k) ((proposeS C i after p).1.pg k) := by
  unfold proposeS
  repeat' split
  all_goals first
    | exact Kept.refl _
    | (rw [pg_tell, pg_upd hi]
       split
       · rename_i h
         rw [h]
         exact Kept.put _
       · exact Kept.refl _)
theorem withdraw_kept {C : Ch} {i : Nat} (hi : i < C.pages.length) (t : St2) (k : Nat) : Kept (C.pg k) ((withdrawS C i t).1.pg k) := by
  unfold withdrawS
  repeat' split
  all_goals first
    | exact Kept.refl _
    | (rw [pg_tell, pg_upd hi]
       split
       · rename_i h
         rw [h]
         exact Kept.drop _
       · exact Kept.refl _)
theorem deliver_kept {C : Ch} {a b : Nat} (hb : b < C.pages.length) (lost : Bool) (k : Nat) : Kept (C.pg k) ((deliverS C a b lost).1.pg k) := by
  unfold deliverS
  split
  · exact Kept.refl _
  split
  · exact Kept.refl _
  · rename_i m q _
    cases lost with
    | true => exact Kept.refl _
    | false =>
      show Kept (C.pg k) ((C.upd b (putAll (C.pg b) m)).pg k)
      rw [pg_upd hb]
      split
      · rename_i h
        rw [h]
        exact Kept.all _ _
      · exact Kept.refl _
theorem again_kept {C : Ch} {a b : Nat} (k : Nat) : Kept (C.pg k) ((againS C a b).1.pg k) := by
  unfold againS
  split <;> exact Kept.refl _
end Go.Proofs.Ytaicbllfkehhjaa

/- Deliver. -/
namespace Go.Proofs.Ytaicbllfkehhjaa
open Go.RowKit

theorem exec_load_blk {ev : Operand → Value} {o : Oper} {W : World} {x : Operand} (ho : o.op = .load 56 x) {g : Nat} (hx : ev x = .pointer (some ⟨g, 0, none⟩)) {cs : Array Value} (hs : cs.size = 20) (hb : Blk W g 56 cs) :
    (execOp ev o).run Try.prog W = .ok (.value (.agg cs)) W := by
  have := run_loadVar_row (P := Try.prog) W g 56 56 cs (0, 0) _ hb Try.underlying56 rfl (by rw [hs]; kernel_rfl)
  unfold execOp
  simp only [ho, hx, Instr.loadAt, Instr.sureAddr, Sem.run_bind, Sem.run_pure, Result.andThen_ok, this]
theorem upd_upd (C : Ch) (i : Nat) (L M : List Cl) : (C.upd i L).upd i M = C.upd i M := by
  unfold Ch.upd
  simp [List.set_set]
theorem setL_pg (C : Ch) (i k : Nat) (ms : List (List Cl)) (j : Nat) : (C.setL i k ms).pg j = C.pg j := rfl
theorem upd_self {C : Ch} {i : Nat} (hi : i < C.pages.length) : C.upd i (C.pg i) = C := by
  obtain ⟨P, L⟩ := C
  unfold Ch.upd Ch.pg
  simp only [Ch.mk.injEq, and_true]
  simp only at hi
  rw [List.getD_eq_getElem?_getD, List.getElem?_eq_getElem hi]
  simp
theorem putAll_take {L m : List Cl} {k : Nat} {c : Cl} (h : m[k]? = some c) : putAll L (m.take (k + 1)) = (putS (putAll L (m.take k)) c).1 := by
  unfold putAll
  rw [List.take_add_one, h]
  simp [List.foldl_append]
theorem putAll_len : ∀ (m L : List Cl), (putAll L m).length ≤ L.length + m.length
  | [], L => by simp [putAll]
  | c :: m, L => by
    have := putAll_len m (putS L c).1
    have h2 := putS_len L c
    show (putAll (putS L c).1 m).length ≤ _
    rw [List.length_cons]
    omega
theorem deliver_lost {C : Ch} {a b : Nat} {m : List Cl} {q : List (List Cl)} (hab : a ≠ b) (h : C.lines a b = m :: q) : deliverS C a b true = (C.setL a b q, true) := by
  unfold deliverS
  rw [if_neg hab, h]
  rfl
theorem deliver_put {C : Ch} {a b : Nat} {m : List Cl} {q : List (List Cl)} (hab : a ≠ b) (h : C.lines a b = m :: q) : deliverS C a b false = ((C.setL a b q).upd b (putAll (C.pg b) m), true) := by
  unfold deliverS
  rw [if_neg hab, h]
  rfl
theorem deliver_none {C : Ch} {a b : Nat} (lost : Bool) (h : C.lines a b = []) : deliverS C a b lost = (C, false) := by
  unfold deliverS
  split
  · rfl
  · rw [h]

/-- The oldest message taken. -/
theorem ChAt.take {w : World} {y : Lay} {V : Nat → Nat → Value} {n : Nat} {C : Ch} (h : ChAt w y V n C) {i k : Nat} (hi : i < n) (hk : k < n) (hne : i ≠ k) {m : List Cl} {q : List (List Cl)} (hm : C.lines i k = m :: q) (hl : (C.lines i k).length ≤ 1000000) :
    Calls Try.prog 45 #[.pointer (some ⟨y.Q i k, 0, none⟩)] w fun e w' => ∃ x, e = .returned (.tuple #[x, .bool true]) ∧ OwnCls w' 0 x m ∧ ∃ V', ChAt w' y V' n (C.setL i k q) ∧ Turn w w' y V V' n := by
  obtain ⟨hq, vs, hr, hlen, hvs⟩ := h.ques i k hi hk hne
  rw [hm] at hlen hvs hl
  cases vs with
  | nil => simp at hlen
  | cons x vs =>
    have hx := hvs 0 x m rfl rfl
    obtain ⟨A, cap, hxs, _⟩ := hx.form
    simp only [List.length_cons] at hlen hl
    refine (qtake_any w (y.Q i k) (V i k) x vs hq hr (by omega) ⟨_, _, _, hxs⟩).mono ?_
    rintro e w' ⟨he, v', k1, k2, k3, k4⟩
    have hW : ∀ g, g = y.Q i k → Wr w g := fun g e => h.wr g (.inr (.inr ⟨i, k, hi, hk, hne, .inl e⟩))
    have k3' : Only (fun g => g = y.Q i k ∨ (V i k).ownBlock = some g) w w' := k3.mono fun _ e => .inl e
    obtain ⟨r1, r2⟩ := h.line hi hk hne (v' := v') (ms := q) k3' ⟨k1, vs, k2, by omega, fun j u mm hu hmm => (hvs (j + 1) u mm hu hmm).only k3 hW⟩ (.inl k4)
    exact ⟨x, he, hx.only k3 hW, _, r1, Turn.line hi hk hne k3' r2⟩
theorem ChAt.take_none {w : World} {y : Lay} {V : Nat → Nat → Value} {n : Nat} {C : Ch} (h : ChAt w y V n C) {i k : Nat} (hi : i < n) (hk : k < n) (hne : i ≠ k) (hm : C.lines i k = []) :
    Calls Try.prog 45 #[.pointer (some ⟨y.Q i k, 0, none⟩)] w fun e w' => e = .returned (.tuple #[.slice none 0 0, .bool false]) ∧ w' = w := by
  obtain ⟨hq, vs, hr, hlen, hvs⟩ := h.ques i k hi hk hne
  rw [hm] at hlen
  have : vs = [] := List.eq_nil_of_length_eq_zero hlen
  subst this
  exact qtake_none w _ _ hq hr
/-- A clause put on a page of the chamber. -/
theorem ChAt.pput {w : World} {y : Lay} {V : Nat → Nat → Value} {n : Nat} {C : Ch} (h : ChAt w y V n C) {i : Nat} (hi : i < n) (hp : Pg (C.pg i)) (hl : (C.pg i).length ≤ 1000000) (c : Cl) :
    Calls Try.prog 46 #[.pointer (some ⟨y.P i, 0, none⟩), .agg (clA c)] w fun e w' => e = .returned (.int .i64 (putS (C.pg i) c).2) ∧ ChAt w' y V n (C.upd i (putS (C.pg i) c).1) ∧ Only (fun g => g = y.M i) w w' :=
  (put_any w _ _ _ (h.pgs i hi) hp.uq hl c).mono fun _ _ ⟨h1, h2, h3⟩ => ⟨h1, h.page hi h3 h2, h3⟩

def deliverI (n : Nat) (C : Ch) (a b : Int) (lost : Bool) : Ch × Bool := if (0 ≤ a ∧ a < (n : Int)) ∧ 0 ≤ b ∧ b < (n : Int) then deliverS C a.toNat b.toNat lost else (C, false)

set_option maxRecDepth 100000 in
set_option maxHeartbeats 4000000 in
theorem deliver_any (w : World) (y : Lay) (V : Nat → Nat → Value) (n : Nat) (C : Ch) (h : ChAt w y V n C) (hg : Sane n C) (hl : ∀ i k, (C.lines i k).length ≤ 1000000) (hm : ∀ i k m, m ∈ C.lines i k → m.length ≤ 100000) (a b : Int) (lost : Bool) :
    Calls Try.prog 28 #[.pointer (some ⟨y.p, 0, none⟩), .int .i64 a, .int .i64 b, .bool lost] w fun e w' => e = .returned (.bool (deliverI n C a b lost).2) ∧ ∃ V', ChAt w' y V' n (deliverI n C a b lost).1 ∧ Turn w w' y V V' n := by
  have hA := is_any w y.p n y.cap _ _ h.blk a
  have hB := is_any w y.p n y.cap _ _ h.blk b
  have H := Lib.hid h
  by_cases ha : 0 ≤ a ∧ a < (n : Int)
  · rw [decide_eq_true ha] at hA
    have HA := Lib.hid hA
    clear hA
    by_cases hb : 0 ≤ b ∧ b < (n : Int)
    · rw [decide_eq_true hb] at hB
      have HB := Lib.hid hB
      clear hB
      have hE : deliverI n C a b lost = deliverS C a.toNat b.toNat lost := if_pos ⟨ha, hb⟩
      rw [hE]
      obtain ⟨i, rfl⟩ := Int.eq_ofNat_of_zero_le ha.1
      obtain ⟨k, rfl⟩ := Int.eq_ofNat_of_zero_le hb.1
      rw [Int.toNat_natCast, Int.toNat_natCast]
      have hi : i < n := by omega
      have hk : k < n := by omega
      by_cases hik : i = k
      · subst hik
        have e : deliverS C i i lost = (C, false) := if_pos rfl
        rw [e]
        clear hE e hg hl hm ha hb h hi hk
        go_enter Try.func28, Try.ntmps28
        go_wp2_with (go_at_call 39; first | (refine HA.out.mono ?_; clear HA; rintro e w9 ⟨rfl, h9⟩; have h9 := h9.symm; subst h9) | (refine HB.out.mono ?_; rintro e w9 ⟨rfl, h9⟩; have h9 := h9.symm; subst h9))
        go_wp2_with fail
        go_ret
        exact ⟨rfl, V, H.out, Turn.refl _ _ _ _⟩
      · have hne : ((i : Int) == (k : Int)) = false := by
          have : ¬ (i : Int) = (k : Int) := by omega
          simpa using this
        have hmax := h.max
        have hcap := h.cap
        obtain ⟨c0, c1⟩ := h.cells
        have lk := h.look hi hk hik
        have HI := Lib.hid hi
        have HK := Lib.hid hk
        have HIK := Lib.hid hik
        have HG := Lib.hid hg
        cases hq : C.lines i k with
        | nil =>
          have hT := h.take_none hi hk hik hq
          rw [deliver_none lost hq]
          dsimp only
          have HT := Lib.hid hT
          clear hE hg hl hm ha hb h hi hk hik hq hT
          go_enter Try.func28, Try.ntmps28
          go_wp2_with (first | (go_at_call 45; refine HT.out.mono ?_; rintro e w1 ⟨rfl, rfl⟩) | (go_at_call 39; first | (refine HA.out.mono ?_; clear HA; rintro e w9 ⟨rfl, h9⟩; have h9 := h9.symm; subst h9) | (refine HB.out.mono ?_; rintro e w9 ⟨rfl, h9⟩; have h9 := h9.symm; subst h9)))
          go_wp2_with fail
          go_ret
          exact ⟨rfl, V, H.out, Turn.refl _ _ _ _⟩
        | cons m q =>
          have hT := h.take hi hk hik hq (hl i k)
          have hml := hm i k m (by rw [hq]; exact List.mem_cons_self)
          have HT := Lib.hid hT
          have hP := hg k hk
          have HP := Lib.hid hP
          have HQ := Lib.hid hq
          have hCl := h.len
          have HCL := Lib.hid hCl
          cases lost with
          | true =>
            rw [deliver_lost hik hq]
            obtain ⟨D, hD⟩ : ∃ D, C.setL i k q = D := ⟨_, rfl⟩
            rw [hD] at HT ⊢
            dsimp only
            clear hE hg hl hm ha hb h hi hk hik hq hT hP hCl
            go_enter Try.func28, Try.ntmps28
            go_wp2_with (first | (go_at_call 45; refine HT.out.mono ?_; rintro e w1 ⟨x, rfl, hx, V', h1, t1⟩; obtain ⟨A, xc, rfl, -⟩ := hx.form) | (go_at_call 39; first | (refine HA.out.mono ?_; clear HA; rintro e w9 ⟨rfl, h9⟩; have h9 := h9.symm; subst h9) | (refine HB.out.mono ?_; rintro e w9 ⟨rfl, h9⟩; have h9 := h9.symm; subst h9)))
            go_wp2_with fail
            go_ret
            exact ⟨rfl, V', h1, t1⟩
          | false =>
            rw [deliver_put hik hq]
            obtain ⟨D, hD⟩ : ∃ D, C.setL i k q = D := ⟨_, rfl⟩
            rw [hD] at HT ⊢
            obtain ⟨L, hL⟩ : ∃ L, C.pg k = L := ⟨_, rfl⟩
            rw [hL] at HP ⊢
            obtain ⟨R, hR⟩ : ∃ R, D.upd k (putAll L m) = R := ⟨_, rfl⟩
            rw [hR]
            dsimp only
            have HR := Lib.hid hR
            have HDL := Lib.hid (show D.upd k L = D from by rw [← hL, ← setL_pg C i k q, hD]; exact upd_self (by rw [← hD]; show k < C.pages.length; rw [hCl]; exact hk))
            have HDN := Lib.hid (show k < D.pages.length from by rw [← hD]; show k < C.pages.length; rw [hCl]; exact hk)
            obtain ⟨N, hN⟩ : ∃ N, m.length = N := ⟨_, rfl⟩
            rw [hN] at hml
            have HN := Lib.hid hN
            have hi0 : (0 : Int) ≤ (k : Int) := hb.1
            have hi1 : (k : Int) < (n : Int) := hb.2
            clear hE hg hl hm ha hb h hi hk hik hq hT hP hCl hD hL hR hN
            go_enter Try.func28, Try.ntmps28
            go_wp2_with (first | (go_at_call 45; refine HT.out.mono ?_; rintro e w1 ⟨x, rfl, hx, V', h1, t1⟩; obtain ⟨A, xc, rfl, hcls⟩ := hx.form; rw [HN.out]) | (go_at_call 39; first | (refine HA.out.mono ?_; clear HA; rintro e w9 ⟨rfl, h9⟩; have h9 := h9.symm; subst h9) | (refine HB.out.mono ?_; rintro e w9 ⟨rfl, h9⟩; have h9 := h9.symm; subst h9)))
            have HX := Lib.hid (show OwnCls w1 0 (.slice A N xc) m from HN.out ▸ hx)
            have H1 := Lib.hid h1
            have T1 := Lib.hid t1
            clear hx h1 t1 hcls lk c0 c1 HT HB
            go_loopw [47] (fun i wr => ∃ j : Nat, j ≤ N ∧ i = .int .i64 (j : Int) ∧ Hid (ChAt wr y V' n (D.upd k (putAll L (m.take j)))) ∧ Hid (OwnCls wr 0 (.slice A N xc) m) ∧ Hid (Turn w wr y V V' n)) (fun i _ => N - (intOf i).toNat)
            case atStart => exact ⟨0, Nat.zero_le _, rfl, Lib.hid (by rw [List.take_zero]; show ChAt _ _ _ _ (D.upd k L); rw [HDL.out]; exact H1.out), HX, T1⟩
            case round =>
              obtain ⟨j, hjN, rfl, HR1, HR2, HR3⟩ := hrel
              clear HX H1 T1
              by_cases hlt : j < N
              · obtain ⟨c, hc⟩ : ∃ c, m[j]? = some c := ⟨_, List.getElem?_eq_getElem (by rw [HN.out]; exact hlt)⟩
                obtain ⟨A', c', e, hcls⟩ := HR2.out.form
                injection e with e1 e2 e3
                subst e1
                clear e2 e3 c'
                obtain ⟨g, off, rfl, -, -⟩ := hcls j c hc
                have HC := Lib.hid hc
                have HL := Lib.hid hcls
                have hj0 : (0 : Int) ≤ (j : Int) := by omega
                have hj1 : (j : Int) < (N : Int) := by omega
                clear hc hcls
                go_upto_region 8 with (first | (refine wpList_val rfl rfl (.agg (clA c)) (exec_load_at (x := .tmp 49) rfl rfl HL.out rfl HC.out) ?_) | (refine wpList_store_row rfl 56 (.tmp 12) (.tmp 50) rfl wr.heap.size (clA c) rfl rfl _ (clA zcl) (Blk.new wr 56 (clA zcl)) (by kernel_rfl) rfl (clA_one c) ?_))
                obtain ⟨X, hX⟩ : ∃ X, putAll L (m.take j) = X := ⟨_, rfl⟩
                rw [hX] at HR1
                have hbw := below_setRow (g := wr.heap.size) (clA c) (below_self_alloc wr (.cells #[.int .i64 0, .int .i64 0, .int .i64 0, .int .i64 0, .int .i64 0, .string ⟨#[]⟩, .string ⟨#[]⟩, .string ⟨#[]⟩, .string ⟨#[]⟩, .int .i64 0, .string ⟨#[]⟩, .string ⟨#[]⟩, .string ⟨#[]⟩, .string ⟨#[]⟩, .string ⟨#[]⟩, .bool false, .int .i64 0, .string ⟨#[]⟩, .string ⟨#[]⟩, .bool false] 56)) (Nat.le_refl _)
                have kb : Blk ((wr.alloc (.cells #[.int .i64 0, .int .i64 0, .int .i64 0, .int .i64 0, .int .i64 0, .string ⟨#[]⟩, .string ⟨#[]⟩, .string ⟨#[]⟩, .string ⟨#[]⟩, .int .i64 0, .string ⟨#[]⟩, .string ⟨#[]⟩, .string ⟨#[]⟩, .string ⟨#[]⟩, .string ⟨#[]⟩, .bool false, .int .i64 0, .string ⟨#[]⟩, .string ⟨#[]⟩, .bool false] 56)).setRow wr.heap.size (clA c)) wr.heap.size 56 (clA c) := blk_setRow (Blk.new wr _ #[.int .i64 0, .int .i64 0, .int .i64 0, .int .i64 0, .int .i64 0, .string ⟨#[]⟩, .string ⟨#[]⟩, .string ⟨#[]⟩, .string ⟨#[]⟩, .int .i64 0, .string ⟨#[]⟩, .string ⟨#[]⟩, .string ⟨#[]⟩, .string ⟨#[]⟩, .string ⟨#[]⟩, .bool false, .int .i64 0, .string ⟨#[]⟩, .string ⟨#[]⟩, .bool false])
                have HR4 := Lib.hid (HR1.out.below hbw)
                have HPX := Lib.hid (show Pg X ∧ X.length ≤ 200000 from ⟨hX ▸ putAll_pg _ HP.out.1, by
                  have h1 := putAll_len (m.take j) L
                  have h2 : (m.take j).length ≤ m.length := List.length_take_le' _ _
                  have h3 := HN.out
                  have h4 := HP.out.2
                  rw [hX] at h1
                  omega⟩)
                have HKB := Lib.hid kb
                have HX := Lib.hid hX
                have HBW := Lib.hid hbw
                clear hX hbw kb
                obtain ⟨CX, hCX⟩ : ∃ x, clA c = x := ⟨_, rfl⟩
                have hcz : CX.size = 20 := by rw [← hCX]; rfl
                rw [hCX] at HKB HR4 HBW ⊢
                have HCX := Lib.hid hCX
                have HCZ := Lib.hid hcz
                clear hCX hcz
                generalize (wr.alloc (.cells #[.int .i64 0, .int .i64 0, .int .i64 0, .int .i64 0, .int .i64 0, .string ⟨#[]⟩, .string ⟨#[]⟩, .string ⟨#[]⟩, .string ⟨#[]⟩, .int .i64 0, .string ⟨#[]⟩, .string ⟨#[]⟩, .string ⟨#[]⟩, .string ⟨#[]⟩, .string ⟨#[]⟩, .bool false, .int .i64 0, .string ⟨#[]⟩, .string ⟨#[]⟩, .bool false] 56)).setRow wr.heap.size CX = w3 at *
                refine wp_region_hold (fun W => ChAt W y V' n (D.upd k X) ∧ Blk W wr.heap.size 56 CX) [0, 1, 2, 3, 4, 5, 6, 7, 8] [] [9] (by kernel_rfl) (by kernel_rfl) (fun _ d _ _ _ h => by cases d <;> exact h) (⟨HR4.out.drewN 1, HKB.out.drewN 1⟩) ?_
                simp only [pick, List.drop_succ_cons, List.drop_zero, List.head?_cons, Option.toList_some, List.cons_append, List.nil_append, List.append_nil]
                try simp only [Act.put]
                repeat ((refine wpHeld_step ?_ rfl ?_ ?_; rotate_left; · (intro W hW; obtain ⟨c0, c1⟩ := hW.1.cells; obtain ⟨s0, s1⟩ := hW.1.seat HK.out; first | (refine exec_load_blk (x := .tmp 12) ?_ ?_ HCZ.out hW.2 <;> rfl) | (go_simp; try with_reducible rfl))); simp only [Act.put, List.setIfInBounds_toArray, List.set_cons_succ, List.set_cons_zero])
                refine wpHeld_nil ?_
                simp only [wpEarly]
                go_wp2_with fail
                have hp := (HR4.out.drewN 1).pput HK.out (by rw [pg_upd HDN.out, if_pos rfl]; exact HPX.out.1) (by rw [pg_upd HDN.out, if_pos rfl]; have := HPX.out.2; omega) c
                simp only [pg_upd HDN.out, if_true, upd_upd, HCX.out] at hp
                refine hp.mono ?_
                rintro e w4 ⟨rfl, h4, o4⟩
                have H4 := Lib.hid h4
                have O4 := Lib.hid o4
                clear hp h4 o4
                go_wp2_with fail
                go_roundw
                case rel =>
                  refine ⟨j + 1, by omega, by go_num, Lib.hid ?_, Lib.hid ?_, Lib.hid ?_⟩
                  · rw [putAll_take HC.out, HX.out]
                    exact H4.out
                  · exact (HR2.out.below HBW.out).only O4.out.undrewN fun g e => e ▸ ((HR4.out.drewN 1).pgs k HK.out).wr
                  · exact HR3.out.trans ((Turn.of_below HBW.out).trans (Turn.page HK.out O4.out.undrewN))
                case measure => simp [intOf]; omega
              · obtain rfl : j = N := by omega
                go_wp2_with fail
                go_ret
                refine ⟨rfl, V', ?_, HR3.out⟩
                have := HR1.out
                rwa [← HN.out, List.take_length, HR.out] at this
    · rw [decide_eq_false hb] at hB
      have HB := Lib.hid hB
      rw [show deliverI n C a b lost = (C, false) from if_neg (fun e => hb e.2)]
      clear hB h hg hl hm ha hb
      go_enter Try.func28, Try.ntmps28
      go_wp2_with (go_at_call 39; first | (refine HA.out.mono ?_; clear HA; rintro e w9 ⟨rfl, h9⟩; have h9 := h9.symm; subst h9) | (refine HB.out.mono ?_; rintro e w9 ⟨rfl, h9⟩; have h9 := h9.symm; subst h9))
      go_ret
      exact ⟨rfl, V, H.out, Turn.refl _ _ _ _⟩
  · rw [decide_eq_false ha] at hA
    have HA := Lib.hid hA
    rw [show deliverI n C a b lost = (C, false) from if_neg (fun e => ha e.1)]
    clear hA hB h hg hl hm ha
    go_enter Try.func28, Try.ntmps28
    go_wp2_with (go_at_call 39; refine HA.out.mono ?_; rintro e w1 ⟨rfl, rfl⟩)
    go_ret
    exact ⟨rfl, V, H.out, Turn.refl _ _ _ _⟩
end Go.Proofs.Ytaicbllfkehhjaa

/- Inside the wide fence: a region that draws its order: operations that only read, then a tail that comes up one at a time. Over any program. -/
namespace Go.Proofs.Ytaicbllfkehhjaa
open Go.RowKit

section
variable {P : Program} {n : Nat} {md : Region.Mode} {ops : Array Oper} {Q : Exit → Act → World → Prop}
theorem wpOpIn_of_stOp {w : World} {i : Nat} {a : Act} {K : Act → Prop} {K' : Act → World → Prop} (h : ∀ a, K a → K' a w) (hh : stOp P ops w i K a) : wpOpIn Fence.wide n P ops Q i K' a w := by
  unfold stOp at hh
  unfold wpOpIn
  split
  · rename_i ho; simp only [ho] at hh; exact h _ hh
  · rename_i o ho
    simp only [ho] at hh
    split
    · rename_i hw
      simp only [hw, if_true] at hh
      refine ⟨fun _ _ => trivial, ?_⟩
      have e : (o.semAt Fence.wide.round a.eval).run P w = (execOp a.eval o).run P w := rfl
      rw [e]
      unfold Oper.still at hh
      generalize (execOp a.eval o).run P w = r at *
      cases r with
      | ok x w' =>
        cases x <;> simp only [Oper.stillUpon] at hh <;> simp only [Oper.uponIn]
        case enter f args =>
          obtain ⟨rfl, v, hc, hn⟩ := hh
          exact ⟨fun hd => (by cases hd), (callsIn_wide.2 hc).mono fun e w'' ⟨he, hw⟩ => by subst he; subst hw; exact h _ hn⟩
        all_goals (obtain ⟨rfl, h2⟩ := hh; exact h _ h2)
      | halt x w' => cases x <;> simp only [Oper.stillUpon] at hh
    · rename_i hw; simp only [hw] at hh; exact ⟨fun _ _ => trivial, h _ hh⟩
theorem wpAnyIn_of_G {w : World} {g : Nat} {L : Array Bool → Act → Prop} (hL : ∀ listed a, L listed a → wpAnyIn Fence.wide n P md ops Q g listed a w) :
    ∀ (f : Nat) (listed : Array Bool) (a : Act), wpAnyG P md ops w L f listed a → wpAnyIn Fence.wide n P md ops Q (f + g) listed a w
  | 0, listed, a, h => by rw [Nat.zero_add]; exact hL _ _ h
  | f + 1, listed, a, h => by
    rw [show f + 1 + g = (f + g) + 1 by omega]
    exact ⟨fun h0 => absurd h0 h.1, fun i hi => wpOpIn_of_stOp (fun a' h' => wpAnyIn_of_G hL f _ a' h') (h.2 i hi)⟩
theorem wpAnyIn_tail {l : List Oper} : ∀ (ts : List Nat) (listed : Array Bool) (a : Act) (w : World), tailB md l.toArray ts listed = true → wpListIn Fence.wide n P l.toArray Q (pick l ts) a w →
    wpAnyIn Fence.wide n P md l.toArray Q ts.length listed a w
  | [], _, _, _, hB, h => ⟨by simpa [tailB] using hB, h⟩
  | t :: ts, listed, a, w, hB, h => by
    simp only [tailB, Bool.and_eq_true, decide_eq_true_eq] at hB
    have hr' : t ∈ Region.ready md l.toArray listed := by rw [hB.1]; simp
    obtain ⟨_, o, h0, _⟩ := mem_ready.1 hr'
    have hp : pick l (t :: ts) = o :: pick l ts := by
      have : l[t]? = some o := by simpa using h0
      simp [pick, this]
    rw [hp] at h
    refine ⟨fun h1 => (by rw [hB.1] at h1; cases h1), fun i hi => ?_⟩
    rw [hB.1] at hi
    obtain rfl : i = t := by simpa using hi
    have hw : wpOpIn Fence.wide n P l.toArray Q i (wpListIn Fence.wide n P l.toArray Q (pick l ts)) a w := by unfold wpOpIn; simp only [h0]; exact h
    exact wpOpIn_mono (fun a' w' h' => wpAnyIn_tail ts _ a' w' hB.2 h') hw
def planInB (l : List Oper) (hs ts : List Nat) : Bool :=
  Region.noSelect l.toArray && decide (hs.length + ts.length = l.length) && waitB .any l.toArray ts hs &&
  match headB .any l.toArray hs (Array.replicate l.length false) with
  | none => false
  | some l2 => ((Region.ready .any l.toArray l2).all fun j => ts.contains j) && tailB .any l.toArray ts l2
/-- A REGION THAT DRAWS ITS ORDER: the operations 'hs', which only read, then 'ts', one at a time. -/
theorem wpIn_region_plan {id : Nat} {l : List Oper} {a : Act} {w : World} (hs ts : List Nat) (hm : P.follows .mixedOrders = true) (hB : planInB l hs ts = true)
    (h : wpStill P l.toArray w.drew (fun a' => wpListIn Fence.wide n P l.toArray Q (pick l ts) a' w.drew) (pick l hs) a) : (Code.region id l.toArray true).wpIn Fence.wide n P Q a w := by
  simp only [planInB, Bool.and_eq_true, decide_eq_true_eq] at hB
  obtain ⟨⟨⟨hsel, hlen⟩, hw⟩, hrest⟩ := hB
  cases h2 : headB .any l.toArray hs (Array.replicate l.length false) with
  | none => rw [h2] at hrest; cases hrest
  | some l2 =>
    rw [h2] at hrest
    simp only [Bool.and_eq_true] at hrest
    have hc0 : Closed .any l.toArray (Array.replicate l.length false) := fun j oj _ hl => by rw [getD_replicate_false] at hl; cases hl
    refine wpIn_region_any hm ?_
    have key := wpAnyG_lex (P := P) (w := w.drew) (Lq := fun a' => wpListIn Fence.wide n P l.toArray Q (pick l ts) a' w.drew) hsel hw (fun j hj => by simpa using List.all_eq_true.1 hrest.1 j hj) hs _ a (fun k hk => hk) hc0 h2 h
    have k2 := wpAnyIn_of_G (Q := Q) (n := n) (g := ts.length) (fun listed' a' hL => by
      obtain ⟨rfl, hL⟩ := hL
      exact wpAnyIn_tail ts _ _ _ hrest.2 hL) hs.length _ _ key
    have hsz : l.toArray.size = hs.length + ts.length := by simp; omega
    rw [hlen] at k2
    have hsz2 : l.toArray.size = l.length := by simp
    rw [hsz2]
    exact k2
/-- wpStill behind a wall: nothing unfolds it by itself (a guarded operation at the head would be reckoned out). -/
structure WS (P : Program) (ops : Array Oper) (w : World) (K : Act → Prop) (l : List Oper) (a : Act) : Prop where
  out : wpStill P ops w K l a
theorem ws_nil {w : World} {K : Act → Prop} {a : Act} (h : K a) : WS P ops w K [] a := ⟨h⟩
theorem ws_val {w : World} {K : Act → Prop} {a : Act} {o : Oper} {rest : List Oper} (v : Value) (hg : o.guard = none) (h : (execOp a.eval o).run P w = .ok (.value v) w) (hK : WS P ops w K rest (a.put o.dst v)) : WS P ops w K (o :: rest) a := by
  refine ⟨?_⟩
  unfold wpStill
  rw [if_pos (by simp [Region.wanted, hg])]
  unfold Oper.still
  rw [h, Oper.stillUpon_value]
  exact hK.out
theorem ws_want {w : World} {K : Act → Prop} {a : Act} {o : Oper} {rest : List Oper} (v : Value) (hw : Region.wanted o (yielded ops a.tmps) = true) (h : (execOp a.eval o).run P w = .ok (.value v) w) (hK : WS P ops w K rest (a.put o.dst v)) : WS P ops w K (o :: rest) a := by
  refine ⟨?_⟩
  unfold wpStill
  rw [if_pos hw]
  unfold Oper.still
  rw [h, Oper.stillUpon_value]
  exact hK.out
theorem ws_skip {w : World} {K : Act → Prop} {a : Act} {o : Oper} {rest : List Oper} (hw : Region.wanted o (yielded ops a.tmps) = false) (hK : WS P ops w K rest (a.put o.dst undef)) : WS P ops w K (o :: rest) a := by
  refine ⟨?_⟩
  unfold wpStill
  rw [if_neg (by rw [hw]; decide)]
  exact hK.out
theorem wpIn_region_ws {id : Nat} {l : List Oper} {a : Act} {w : World} (hs ts : List Nat) (hm : P.follows .mixedOrders = true) (hB : planInB l hs ts = true)
    (h : WS P l.toArray w.drew (fun a' => wpListIn Fence.wide n P l.toArray Q (pick l ts) a' w.drew) (pick l hs) a) : (Code.region id l.toArray true).wpIn Fence.wide n P Q a w := wpIn_region_plan hs ts hm hB h.out
end
end Go.Proofs.Ytaicbllfkehhjaa

/- others: the iterator over the lines of a seat. -/
namespace Go.Proofs.Ytaicbllfkehhjaa
open Go.RowKit Go.Shelf
attribute [local go_sem] Oper.semAt_some

/-- What the iterator reads between two rounds. -/
structure Fixd (w : World) (y : Lay) (n bc bi i : Nat) : Prop where
  c : Blk w bc 25 #[.pointer (some ⟨y.p, 0, none⟩)]
  i_ : Blk w bi 3 #[.int .i64 (i : Int)]
  blk : Blk w y.p 68 #[.slice (some ⟨y.sb, 0, none⟩) n y.cap, .map (some y.mb)]
  sts : Blk w y.sb 72 y.cs
  map : MapV w y.mb y.L
/-- What it is promised: those blocks lie as they lay, and the map says what it said. -/
def Kpt (y : Lay) (bc bi : Nat) (A B : World) : Prop := A.heap.size ≤ B.heap.size ∧ (∀ g, (g = bc ∨ g = bi ∨ g = y.p ∨ g = y.sb) → B.heap[g]? = A.heap[g]?) ∧ (MapV A y.mb y.L → MapV B y.mb y.L)
theorem Kpt.refl (y : Lay) (bc bi : Nat) (A : World) : Kpt y bc bi A A := ⟨Nat.le_refl _, fun _ _ => rfl, id⟩
theorem Kpt.trans {y : Lay} {bc bi : Nat} {A B C : World} (h : Kpt y bc bi A B) (k : Kpt y bc bi B C) : Kpt y bc bi A C := ⟨Nat.le_trans h.1 k.1, fun g hg => (k.2.1 g hg).trans (h.2.1 g hg), fun m => k.2.2 (h.2.2 m)⟩
theorem Fixd.kpt {A B : World} {y : Lay} {n bc bi i : Nat} (h : Fixd A y n bc bi i) (k : Kpt y bc bi A B) : Fixd B y n bc bi i where
  c := (k.2.1 bc (.inl rfl)).trans h.c
  i_ := (k.2.1 bi (.inr (.inl rfl))).trans h.i_
  blk := (k.2.1 y.p (.inr (.inr (.inl rfl)))).trans h.blk
  sts := (k.2.1 y.sb (.inr (.inr (.inr rfl)))).trans h.sts
  map := k.2.2 h.map
theorem Fixd.below {A B : World} {y : Lay} {n bc bi i : Nat} (h : Fixd A y n bc bi i) (k : Below A.heap.size A B) : Kpt y bc bi A B := ⟨k.size, fun g hg => k.block g (by
  rcases hg with rfl | rfl | rfl | rfl
  · exact h.c.lt
  · exact h.i_.lt
  · exact h.blk.lt
  · exact h.sts.lt), fun m => m.of_block (k.block _ m.lt)⟩
/-- The other seats, in order; so many of them as are below k. -/
abbrev Oth (n i : Nat) := { k : Nat // k < n ∧ k ≠ i }
def othN (i k : Nat) : List Nat := (List.range k).filter fun j => decide (j ≠ i)
def othL (n i : Nat) : List (Oth n i) := (List.range n).filterMap fun k => if h : k < n ∧ k ≠ i then some ⟨k, h⟩ else none
def upL (n i k : Nat) : List (Oth n i) := (List.range k).filterMap fun j => if h : j < n ∧ j ≠ i then some ⟨j, h⟩ else none
theorem upL_succ_in {n i k : Nat} (h : k < n ∧ k ≠ i) : upL n i (k + 1) = upL n i k ++ [⟨k, h⟩] := by
  unfold upL
  rw [List.range_succ, List.filterMap_append]
  simp [h]
theorem upL_succ_out {n i k : Nat} (h : ¬ (k < n ∧ k ≠ i)) : upL n i (k + 1) = upL n i k := by
  unfold upL
  rw [List.range_succ, List.filterMap_append]
  simp only [List.filterMap_cons, List.filterMap_nil]
  rw [dif_neg h]
  simp
theorem upL_len (n i k : Nat) : (upL n i k).length ≤ k := by
  unfold upL
  have := List.length_filterMap_le (fun j => if h : j < n ∧ j ≠ i then some (⟨j, h⟩ : Oth n i) else none) (List.range k)
  simpa using this
def encQ (y : Lay) (i : Nat) {n : Nat} (x : Oth n i) : Array Value := #[.pointer (some ⟨y.Q i x.1, 0, none⟩)]

set_option maxRecDepth 100000 in
set_option maxHeartbeats 1000000 in
theorem others1_in (m : Nat) (hn : 1 ≤ m) (y : Lay) (n bc bi i : Nat) (hmax : n ≤ 1000) (hcap : n ≤ y.cap) (hst : ∀ k, k < n → y.cs[k * 2]? = some (.pointer (some ⟨y.P k, 0, none⟩)) ∧ y.cs[k * 2 + 1]? = some (.int .i64 (k : Int)))
    (hkey : ∀ p ∈ y.L, KyV p.1) (hmem : ∀ k, k < n → k ≠ i → (.agg (kyA i k), .pointer (some ⟨y.Q i k, 0, none⟩)) ∈ y.L) (l : Nat) (J Jx : List (Oth n i) → World → Prop) (W : World) (hJ : AbidesFrom W.heap.size J)
    (hY : ∀ pre x W1, J pre W1 → pre.length < n → YieldAt Fence.wide (m - 1) Try.prog l (encQ y i x) W1 fun e W' =>
      (e = .returned (.bool true) ∧ J (pre ++ [x]) W' ∧ Kpt y bc bi W1 W') ∨ (e = .returned (.bool false) ∧ Jx (pre ++ [x]) W')) (hW : Fixd W y n bc bi i) (h0 : J [] W) :
    CallsIn Fence.wide m Try.prog 70 #[.func (.yield l) #[] #[], .pointer (some ⟨bc, 0, none⟩), .pointer (some ⟨bi, 0, none⟩)] W fun e W' => (∃ v, e = .returned v) ∧
      ((∃ xs, xs = upL n i n ∧ J xs W') ∨ (∃ pre, True ∧ Jx pre W')) := by
  have hpc : W.cell? ⟨bc, 0, none⟩ = some (.pointer (some ⟨y.p, 0, none⟩)) := hW.c.cell 0
  have hps : W.cell? ⟨y.p, 0, none⟩ = some (.slice (some ⟨y.sb, 0, none⟩) n y.cap) := hW.blk.cell 0
  have HW := Lib.hid hW
  have HY := Lib.hid hY
  have HM := Lib.hid hmem
  have HK := Lib.hid hkey
  have HS := Lib.hid hst
  have HJ := Lib.hid hJ
  clear hW hY hmem hkey hst hJ
  refine callsIn_of_wp Try.func70 rfl trivial ?_ rfl
  simp only [Try.ntmps70, List.size_toArray, List.length_cons, List.length_nil, Nat.reduceAdd, Nat.reduceSub, Array.replicate_succ, Array.replicate_zero, List.push_toArray, List.append_toArray, List.nil_append, List.cons_append]
  gi_wp2
  gi_loopw [11] (fun v wr => ∃ k : Nat, k ≤ n ∧ v = .int .i64 (k : Int) ∧ J (upL n i k) wr ∧ Kpt y bc bi W wr) (fun v _ => n - (intOf v).toNat)
  case atStart => exact ⟨0, Nat.zero_le _, rfl, h0, Kpt.refl _ _ _ _⟩
  case round =>
    obtain ⟨k, hk, rfl, hJs, hnx⟩ := hrel
    have HF := Lib.hid (HW.out.kpt hnx)
    have HNX := Lib.hid hnx
    have HJS := Lib.hid hJs
    clear hnx hJs
    by_cases hlt : k < n
    · have b0 : wr.cell? ⟨bc, 0, none⟩ = some (.pointer (some ⟨y.p, 0, none⟩)) := HF.out.c.cell 0
      have b1 : wr.cell? ⟨bi, 0, none⟩ = some (.int .i64 (i : Int)) := HF.out.i_.cell 0
      have b2 : wr.cell? ⟨y.p, 1, none⟩ = some (.map (some y.mb)) := HF.out.blk.cell 1
      have s0 : wr.cell? ⟨y.sb, k * 2, none⟩ = some (.pointer (some ⟨y.P k, 0, none⟩)) := (HF.out.sts.cell _).trans (HS.out k hlt).1
      have s1 : wr.cell? ⟨y.sb, k * 2 + 1, none⟩ = some (.int .i64 (k : Int)) := (HF.out.sts.cell _).trans (HS.out k hlt).2
      have hk0 : (0 : Int) ≤ (k : Int) := by omega
      have hk1 : (k : Int) < (n : Int) := by omega
      gi_upto_region 3 with fail
      clear b0 b1 b2 s0 s1
      have hb2 := below_self_alloc wr (.cells #[.pointer (some ⟨y.P k, 0, none⟩), .int .i64 (k : Int)] 72)
      have hg2 : wr.grownBy (wr.alloc (.cells #[.pointer (some ⟨y.P k, 0, none⟩), .int .i64 (k : Int)] 72)).drew none := ⟨rfl, rfl, rfl, hb2.size, fun j hj _ => hb2.block j hj⟩
      have hJ2 := HJ.out _ _ _ none HJS.out hg2 (fun r e => by cases e)
      have hF2 := HF.out.kpt (HF.out.below hb2)
      have hK2 := Kpt.trans HNX.out (HF.out.below hb2)
      have n0 : (wr.alloc (.cells #[.pointer (some ⟨y.P k, 0, none⟩), .int .i64 (k : Int)] 72)).cell? ⟨wr.heap.size, 1, none⟩ = some (.int .i64 (k : Int)) := (Blk.new wr 72 _).cell 1
      generalize wr.alloc (.cells #[.pointer (some ⟨y.P k, 0, none⟩), .int .i64 (k : Int)] 72) = W2 at *
      generalize wr.heap.size = q at *
      have b0 : W2.cell? ⟨bc, 0, none⟩ = some (.pointer (some ⟨y.p, 0, none⟩)) := hF2.c.cell 0
      have b1 : W2.cell? ⟨bi, 0, none⟩ = some (.int .i64 (i : Int)) := hF2.i_.cell 0
      have b2 : W2.cell? ⟨y.p, 1, none⟩ = some (.map (some y.mb)) := hF2.blk.cell 1
      have HJ2 := Lib.hid hJ2
      have HF2 := Lib.hid hF2
      have HK2 := Lib.hid hK2
      clear hb2 hg2 hJ2 hF2 hK2 HF HNX HJS
      by_cases hki : k = i
      · subst hki
        refine wpIn_region_ws [0, 1, 2, 3, 4, 5, 6, 7, 8, 9, 10, 11, 12, 13, 14] [15, 16, 17] (by kernel_rfl) (by kernel_rfl) ?_
        simp only [pick, List.drop_succ_cons, List.drop_zero, List.head?_cons, Option.toList_some, List.cons_append, List.nil_append, List.append_nil]
        iterate 5 ((refine ws_val ?_ rfl ?_ ?_; rotate_left; · (go_simp; try with_reducible rfl)); simp only [Act.put, List.setIfInBounds_toArray, List.set_cons_succ, List.set_cons_zero])
        iterate 10 (refine ws_skip (by kernel_rfl) ?_; simp only [Act.put, List.setIfInBounds_toArray, List.set_cons_succ, List.set_cons_zero])
        refine ws_nil ?_
        gi_wp2
        refine ⟨fun _ h => (by cases h), ?_⟩
        gi_wp2
        go_roundw
        case rel => exact ⟨k + 1, by omega, by go_num, by rw [upL_succ_out (fun h => h.2 rfl)]; exact HJ2.out, HK2.out⟩
        case measure => simp [intOf]; omega
      · have e0 : ((k : Int) != (i : Int)) = true := by
          have : (k : Int) ≠ (i : Int) := by omega
          simpa using this
        have lk1 : (Instr.lookup 65 (.map (some y.mb)) (.agg #[.int .i64 (i : Int), .int .i64 (k : Int)]) false).run Try.prog W2.drew = .ok (.pointer (some ⟨y.Q i k, 0, none⟩)) W2.drew :=
          (show MapV W2.drew y.mb y.L from HF2.out.map).look_some kys2 Try.underlying65 HK.out (HM.out k hlt hki) false
        obtain ⟨fn, tmps, assign, body, hy, hR⟩ := HY.out _ ⟨k, hlt, hki⟩ W2.drew HJ2.out (Nat.lt_of_le_of_lt (upL_len n i k) hlt)
        dsimp only [encQ] at hy
        refine wpIn_region_ws [0, 1, 2, 3, 4, 5, 6, 7, 8, 9, 10, 11, 12, 13, 14] [15, 16, 17] (by kernel_rfl) (by kernel_rfl) ?_
        simp only [pick, List.drop_succ_cons, List.drop_zero, List.head?_cons, Option.toList_some, List.cons_append, List.nil_append, List.append_nil]
        iterate 5 ((refine ws_val ?_ rfl ?_ ?_; rotate_left; · (go_simp; try with_reducible rfl)); simp only [Act.put, List.setIfInBounds_toArray, List.set_cons_succ, List.set_cons_zero])
        iterate 10 ((refine ws_want ?_ (by kernel_rfl) ?_ ?_; rotate_left; · (go_simp; try with_reducible rfl)); simp only [Act.put, List.setIfInBounds_toArray, List.set_cons_succ, List.set_cons_zero])
        refine ws_nil ?_
        gi_wp2
        refine hR.mono ?_
        rintro e W3 (⟨rfl, hJ3, hk3⟩ | ⟨rfl, hJx3⟩)
        · have HJ3 := Lib.hid hJ3
          have HK3 := Lib.hid hk3
          clear hJ3 hk3
          gi_wp2
          go_roundw
          case rel => exact ⟨k + 1, by omega, by go_num, by rw [upL_succ_in ⟨hlt, hki⟩]; exact HJ3.out, Kpt.trans (B := W2.drew) HK2.out HK3.out⟩
          case measure => simp [intOf]; omega
        · have HJ3 := Lib.hid hJx3
          clear hJx3
          gi_wp2
          refine bodyPost_ret (results_none rfl _ _ _) rfl ?_
          exact ⟨⟨_, rfl⟩, .inr ⟨_, trivial, HJ3.out⟩⟩
    · obtain rfl : k = n := by omega
      gi_wp2
      go_end0
      exact ⟨⟨_, rfl⟩, .inl ⟨_, rfl, HJS.out⟩⟩
end Go.Proofs.Ytaicbllfkehhjaa
