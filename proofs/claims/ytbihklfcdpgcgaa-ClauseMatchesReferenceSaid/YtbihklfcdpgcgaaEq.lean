/- Slices of clauses as a law reads them. -/
import Derived.Test.YtbihklfcdpgcgaaEp
namespace Go.Proofs.Ytbihklfcdpgcgaa
open Go.RowKit

/-- The cells of a slice of clauses, in blocks below B. -/
def ClsAt (w : World) (B : Nat) (A : Option Addr) (l : List Cl) : Prop :=
  ∀ (i : Nat) (c : Cl), l[i]? = some c → ∃ g off, A = some ⟨g, off, none⟩ ∧ g < B ∧ ∀ (k : Nat) (v : Value), (encC c)[k]? = some v → w.cell? ⟨g, off + i * 20 + k, none⟩ = some v
theorem ClsAt.below {w w' : World} {B : Nat} {A : Option Addr} {l : List Cl} (h : ClsAt w B A l) (hb : Below B w w') : ClsAt w' B A l := fun i c hi => by
  obtain ⟨g, off, h1, h2, h3⟩ := h i c hi
  exact ⟨g, off, h1, h2, fun k v hv => (hb.cell (p := ⟨g, off + i * 20 + k, none⟩) h2).trans (h3 k v hv)⟩
theorem ClsAt.wide {w : World} {B B' : Nat} {A : Option Addr} {l : List Cl} (h : ClsAt w B A l) (hB : B ≤ B') : ClsAt w B' A l := fun i c hi => by
  obtain ⟨g, off, h1, h2, h3⟩ := h i c hi
  exact ⟨g, off, h1, by omega, h3⟩
theorem ClsAt.nil (w : World) (B : Nat) (A : Option Addr) : ClsAt w B A [] := fun i c hi => by simp at hi
/-- A slice of the call's own is such a one. -/
theorem OwnCls.form {w : World} {base : Nat} {v : Value} {l : List Cl} (h : OwnCls w base v l) : ∃ A cap, v = .slice A l.length cap ∧ ClsAt w w.heap.size A l := by
  rcases h.2 with ⟨rfl, h0⟩ | ⟨g, cap, cur, rfl, hbase, hb, hn, hcap, hcs, htake⟩
  · have : l = [] := List.eq_nil_of_length_eq_zero h0
    subst this
    exact ⟨none, 0, rfl, ClsAt.nil _ _ _⟩
  · refine ⟨some ⟨g, 0, none⟩, cap, rfl, fun i c hi => ⟨g, 0, rfl, (h.lt g rfl).2, fun k v hv => ?_⟩⟩
    have hk : k < 20 := by
      have := (List.getElem?_eq_some_iff.1 hv).1
      rwa [encC_len] at this
    have hil : i < l.length := (List.getElem?_eq_some_iff.1 hi).1
    unfold OwnCls at h
    rw [Nat.zero_add, h.cellAt (i * 20 + k) (by omega)]
    exact (flat_at encC_len hi hk).trans hv
theorem at_load {W : World} {B : Nat} {A : Option Addr} {l : List Cl} (h : ClsAt W B A l) {i : Nat} {c : Cl} (hi : l[i]? = some c) {g off : Nat} (hA : A = some ⟨g, off, none⟩) :
    (loadVar 35 ⟨g, off + i * 20, none⟩).run Try.prog W = .ok (.agg (clA c)) W := by
  obtain ⟨g', off', h1, _, h3⟩ := h i c hi
  rw [hA] at h1
  obtain ⟨rfl, rfl⟩ : g = g' ∧ off = off' := by
    have h4 := Option.some.inj h1
    exact ⟨congrArg Addr.block h4, congrArg Addr.off h4⟩
  have hl : (loadCells ⟨g, off + i * 20, none⟩ (clA c).toList.length).run Try.prog W = .ok (clA c).toList.toArray W :=
    run_loadCells_list (P := Try.prog) W ⟨g, off + i * 20, none⟩ (clA c).toList (fun j v hv => by
      have hadd : (⟨g, off + i * 20, none⟩ : Addr).add j = ⟨g, off + i * 20 + j, none⟩ := by unfold Addr.add; split <;> simp_all
      rw [hadd]
      exact h3 j v hv)
  rw [Array.length_toList, Array.toArray_toList, clA_size] at hl
  have hagg : (isAgg 35).run Try.prog W = .ok true W := by
    unfold isAgg
    rw [Sem.run_bind, run_underlying Try.underlying35 W]
    rfl
  have hsz := Try.sizeOf35 W
  unfold loadVar
  rw [Sem.run_bind, hagg]
  simp only [Result.andThen_ok, if_true]
  rw [Sem.run_bind, hsz]
  simp only [Result.andThen_ok]
  rw [Sem.run_bind, hl]
  rfl
theorem load_at {ops : Array Oper} {rest : List Oper} {o : Oper} {a : Act} {W : World} {Q : Exit → Act → World → Prop} (hgd : o.guard = none) {x : Operand} (ho : o.op = .load 35 x) {B g off i : Nat} {A : Option Addr} {l : List Cl} (hx : a.eval x = .pointer (some ⟨g, off + i * 20, none⟩))
    (hr : ClsAt W B A l) (hA : A = some ⟨g, off, none⟩) {c : Cl} (hi : l[i]? = some c) (h : wpList Try.prog ops Q rest (a.put o.dst (.agg (clA c))) W) : wpList Try.prog ops Q (o :: rest) a W := by
  refine wpList_plain hgd fun _ hK => ?_
  unfold Oper.wp execOp
  simp only [ho, hx, Instr.loadAt, Instr.sureAddr, Sem.run_bind, Sem.run_pure, Result.andThen_ok, at_load hr hi hA]
  exact hK _ _ h
/-- A page that has been given clauses one after the other. -/
def pageS (l : List Cl) : List Cl := l.foldl (fun a c => (putS a c).1) []
theorem pageS_snoc (l : List Cl) (c : Cl) : pageS (l ++ [c]) = (putS (pageS l) c).1 := by unfold pageS; rw [List.foldl_append]; rfl
end Go.Proofs.Ytbihklfcdpgcgaa
