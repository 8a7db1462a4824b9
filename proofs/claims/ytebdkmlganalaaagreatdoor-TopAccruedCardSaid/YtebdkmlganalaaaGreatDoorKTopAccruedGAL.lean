/- Maps whose keys are strings, or pairs of ints; whose values are true. What lies in memory: slices of strings, of rights, of limits. -/
import Derived.Test.YtebdkmlganalaaaGreatDoorKTopAccruedQt
import Derived.Test.YtebdkmlganalaaaGreatDoorKTopAccruedGAK
import Derived.Test.YtebdkmlganalaaaGreatDoorKTopAccruedTy
namespace Go.Proofs.YtebdkmlganalaaaGreatDoor
open Go.RowKit

def KyV (v : Value) : Prop := ∃ a b : Int, v = .agg #[.int .i64 a, .int .i64 b]
set_option maxRecDepth 100000 in
theorem eq_ky (a b c d : Int) (W : World) : (Op.equalIn 10000 90 (.agg #[.int .i64 a, .int .i64 b]) (.agg #[.int .i64 c, .int .i64 d])).run Tryz.prog W = .ok (decide (a = c ∧ b = d)) W := by
  have hi : ∀ (W : World) (x z : Int), (Op.equalIn 9999 3 (.int .i64 x) (.int .i64 z)).run Tryz.prog W = .ok (decide (x = z)) W := fun W x z => by
    rw [show (9999 : Nat) = 9998 + 1 from rfl]
    unfold Op.equalIn
    simp [run_underlying Tryz.underlying3]
    try rfl
  rw [show (10000 : Nat) = 9999 + 1 from rfl]
  unfold Op.equalIn
  simp [run_underlying Tryz.underlying90, go_sem, List.range', hi, run_underlying Tryz.underlying3, isAgg]
  by_cases h1 : a = c <;> by_cases h2 : b = d <;> simp [h1, h2]
set_option maxRecDepth 100000 in
theorem check2 (w : World) (em : Bool) (a b : Int) : (Instr.checkKey em 10000 90 (.agg #[.int .i64 a, .int .i64 b])).run Tryz.prog w = .ok () w := by
  have hi : ∀ (W : World) (x : Int), (Instr.checkKey em 9999 3 (.int .i64 x)).run Tryz.prog W = .ok () W := fun W x => by
    rw [show (9999 : Nat) = 9998 + 1 from rfl]
    unfold Instr.checkKey
    simp [run_underlying Tryz.underlying3]
  rw [show (10000 : Nat) = 9999 + 1 from rfl]
  unfold Instr.checkKey
  simp [run_underlying Tryz.underlying90, go_sem, List.range', hi, run_underlying Tryz.underlying3, isAgg]
theorem ask2 (w : World) (a b : Int) : ∀ (es : List MapEntry) (i : Nat), (∀ e ∈ es, KyV e.key) →
    ((Instr.findAsking 90 (.agg #[.int .i64 a, .int .i64 b]) es i).run Tryz.prog w = .ok none w ∧ ∀ e ∈ es, e.key ≠ .agg #[.int .i64 a, .int .i64 b]) ∨ ∃ (j : Nat) (e : MapEntry), (Instr.findAsking 90 (.agg #[.int .i64 a, .int .i64 b]) es i).run Tryz.prog w = .ok (some (i + j, e.val)) w ∧ es[j]? = some e ∧ e.key = .agg #[.int .i64 a, .int .i64 b]
  | [], i, _ => .inl ⟨rfl, by simp⟩
  | x :: es, i, h => by
    obtain ⟨c, d, ht⟩ := h x List.mem_cons_self
    have heq := eq_ky a b c d w
    unfold Instr.findAsking
    rw [Sem.run_bind]
    have h1 : (Op.equal 90 (.agg #[.int .i64 a, .int .i64 b]) x.key).run Tryz.prog w = .ok (decide (a = c ∧ b = d)) w := by rw [ht]; exact heq
    rw [h1]
    by_cases hst : a = c ∧ b = d
    · right
      refine ⟨0, x, ?_, rfl, by rw [ht, hst.1, hst.2]⟩
      simp [hst]
    · have hne : x.key ≠ .agg #[.int .i64 a, .int .i64 b] := fun e => hst (by
        rw [ht] at e
        simp at e
        exact ⟨e.1.symm, e.2.symm⟩)
      simp only [hst, decide_false, Result.andThen_ok, Bool.false_eq_true, if_false]
      rcases ask2 w a b es (i + 1) (fun e he => h e (List.mem_cons_of_mem _ he)) with ⟨h2, h3⟩ | ⟨j, e, h2, h3, h4⟩
      · refine .inl ⟨h2, fun e he => ?_⟩
        rcases List.mem_cons.1 he with rfl | he
        · exact hne
        · exact h3 e he
      · exact .inr ⟨j + 1, e, by rw [h2, show i + 1 + j = i + (j + 1) by omega], by simpa using h3, h4⟩
theorem kys2 : Kys Tryz.prog 90 KyV where
  check w em v hv := by obtain ⟨a, b, rfl⟩ := hv; exact check2 w em a b
  find w x hx es hes := by
    obtain ⟨a, b, rfl⟩ := hx
    have hu := run_underlying Tryz.underlying90 w
    cases es with
    | nil =>
      refine .inl ⟨?_, by simp⟩
      simp [Instr.findKey, hu, Instr.findNow]
    | cons e es =>
      have h1 : (Instr.findKey 90 (.agg #[.int .i64 a, .int .i64 b]) (e :: es)).run Tryz.prog w = (Instr.findAsking 90 (.agg #[.int .i64 a, .int .i64 b]) (e :: es) 0).run Tryz.prog w := by
        simp [Instr.findKey, hu, Instr.findNow, Instr.sameNow]
      rcases ask2 w a b (e :: es) 0 hes with ⟨h2, h3⟩ | ⟨j, e', h2, h3, h4⟩
      · exact .inl ⟨h1.trans h2, h3⟩
      · exact .inr ⟨j, e', by rw [h1, h2, Nat.zero_add], h3, h4⟩
  stays w v hv := by
    obtain ⟨a, b, rfl⟩ := hv
    have : Instr.sameBits 10000 (.agg #[.int .i64 a, .int .i64 b]) (.agg #[.int .i64 a, .int .i64 b]) = true := by
      rw [show (10000 : Nat) = 9999 + 1 from rfl]
      simp [Instr.sameBits]
    simp [Instr.keyThatStays, this]
def StrV (v : Value) : Prop := ∃ s : ByteArray, v = .string s
theorem str_beq (a b : ByteArray) : (a.toList == b.toList) = decide (a = b) := by
  rw [Lib.toList_data, Lib.toList_data, Bool.eq_iff_iff]
  simp only [beq_iff_eq, decide_eq_true_eq]
  constructor
  · intro h
    obtain ⟨⟨a⟩⟩ := a
    obtain ⟨⟨b⟩⟩ := b
    simp only at h
    rw [h]
  · rintro rfl
    rfl
set_option maxRecDepth 100000 in
theorem checkStr (w : World) (em : Bool) (s : ByteArray) : (Instr.checkKey em 10000 9 (.string s)).run Tryz.prog w = .ok () w := by
  rw [show (10000 : Nat) = 9999 + 1 from rfl]
  unfold Instr.checkKey
  simp [run_underlying Tryz.underlying9]
theorem bytes_eq (a b : ByteArray) : (a == b) = decide (a = b) := by
  rw [Bool.eq_iff_iff, decide_eq_true_eq]
  exact Go.MapKept.bytes_beq a b
theorem nowStr (s : ByteArray) : ∀ (es : List MapEntry) (i : Nat), (∀ e ∈ es, StrV e.key) →
    (Instr.findNow .string (.string s) es i = some none ∧ ∀ e ∈ es, e.key ≠ .string s) ∨ ∃ (j : Nat) (e : MapEntry), Instr.findNow .string (.string s) es i = some (some (i + j, e.val)) ∧ es[j]? = some e ∧ e.key = .string s
  | [], i, _ => .inl ⟨rfl, by simp⟩
  | x :: es, i, h => by
    obtain ⟨t, ht⟩ := h x List.mem_cons_self
    by_cases hst : s = t
    · refine .inr ⟨0, x, ?_, rfl, by rw [ht, hst]⟩
      unfold Instr.findNow
      rw [ht]
      simp [Instr.sameNow, bytes_eq, hst]
    · have hne : x.key ≠ .string s := fun e => hst (by rw [ht] at e; injection e with e; exact e.symm)
      have hstep : Instr.findNow .string (.string s) (x :: es) i = Instr.findNow .string (.string s) es (i + 1) := by
        rw [Instr.findNow, ht]
        simp [Instr.sameNow, bytes_eq, hst]
      rw [hstep]
      rcases nowStr s es (i + 1) (fun e he => h e (List.mem_cons_of_mem _ he)) with ⟨h2, h3⟩ | ⟨j, e, h2, h3, h4⟩
      · refine .inl ⟨h2, fun e he => ?_⟩
        rcases List.mem_cons.1 he with rfl | he
        · exact hne
        · exact h3 e he
      · exact .inr ⟨j + 1, e, by rw [h2, show i + 1 + j = i + (j + 1) by omega], by simpa using h3, h4⟩
theorem askStr (w : World) (s : ByteArray) (es : List MapEntry) (h : ∀ e ∈ es, StrV e.key) :
    ((Instr.findKey 9 (.string s) es).run Tryz.prog w = .ok none w ∧ ∀ e ∈ es, e.key ≠ .string s) ∨ ∃ (j : Nat) (e : MapEntry), (Instr.findKey 9 (.string s) es).run Tryz.prog w = .ok (some (j, e.val)) w ∧ es[j]? = some e ∧ e.key = .string s := by
  have hu := run_underlying Tryz.underlying9 w
  rcases nowStr s es 0 h with ⟨h2, h3⟩ | ⟨j, e, h2, h3, h4⟩
  · exact .inl ⟨by simp [Instr.findKey, hu, h2], h3⟩
  · exact .inr ⟨j, e, by simp [Instr.findKey, hu, h2], h3, h4⟩
theorem kysStr : Kys Tryz.prog 9 StrV where
  check w em v hv := by obtain ⟨s, rfl⟩ := hv; exact checkStr w em s
  find w x hx es hes := by
    obtain ⟨s, rfl⟩ := hx
    exact askStr w s es hes
  stays w v hv := by
    obtain ⟨s, rfl⟩ := hv
    have : Instr.sameBits 10000 (.string s) (.string s) = true := by
      rw [show (10000 : Nat) = 9999 + 1 from rfl]
      simp [Instr.sameBits, bytes_eq]
    simp [Instr.keyThatStays, this]
end Go.Proofs.YtebdkmlganalaaaGreatDoor

namespace Go.Proofs.YtebdkmlganalaaaGreatDoor
open Go.RowKit

/-- A slice of strings, of rights, of limits (with where each has its stops). -/
def BtsAt (w : World) (B : Nat) (A : Option Addr) (l : List ByteArray) : Prop :=
  ∀ (i : Nat) (s : ByteArray), l[i]? = some s → ∃ g off, A = some ⟨g, off, none⟩ ∧ g < B ∧ w.cell? ⟨g, off + i, none⟩ = some (.string s)
def RtsAt (w : World) (B : Nat) (A : Option Addr) (l : List Rt) : Prop :=
  ∀ (i : Nat) (x : Rt), l[i]? = some x → ∃ g off, A = some ⟨g, off, none⟩ ∧ g < B ∧ w.cell? ⟨g, off + i * 2, none⟩ = some (.string x.1) ∧ w.cell? ⟨g, off + i * 2 + 1, none⟩ = some (.int .i64 x.2)
abbrev LmV := Lm × Option Addr × Nat
def LmsAt (w : World) (B : Nat) (A : Option Addr) (l : List LmV) : Prop :=
  ∀ (i : Nat) (x : LmV), l[i]? = some x → ∃ g off, A = some ⟨g, off, none⟩ ∧ g < B ∧ w.cell? ⟨g, off + i * 5, none⟩ = some (.string x.1.id) ∧ w.cell? ⟨g, off + i * 5 + 1, none⟩ = some (.int .i64 x.1.n) ∧ w.cell? ⟨g, off + i * 5 + 2, none⟩ = some (.int .i64 x.1.u) ∧ w.cell? ⟨g, off + i * 5 + 3, none⟩ = some (.int .i64 x.1.f) ∧ w.cell? ⟨g, off + i * 5 + 4, none⟩ = some (.slice x.2.1 x.1.S.length x.2.2) ∧ LmAt w B x.2.1 x.1
section
variable {w w' : World} {B B' : Nat} {A : Option Addr}
theorem BtsAt.below {l : List ByteArray} (h : BtsAt w B A l) (hb : Below B w w') : BtsAt w' B A l := fun i s hi => by
  obtain ⟨g, off, hA, hg, c0⟩ := h i s hi
  exact ⟨g, off, hA, hg, (hb.cell (p := ⟨g, off + i, none⟩) hg).trans c0⟩
theorem BtsAt.wide {l : List ByteArray} (h : BtsAt w B A l) (hB : B ≤ B') : BtsAt w B' A l := fun i s hi => by
  obtain ⟨g, off, hA, hg, c0⟩ := h i s hi
  exact ⟨g, off, hA, by omega, c0⟩
theorem BtsAt.nil (w : World) (B : Nat) (A : Option Addr) : BtsAt w B A [] := fun i s hi => by simp at hi
theorem RtsAt.below {l : List Rt} (h : RtsAt w B A l) (hb : Below B w w') : RtsAt w' B A l := fun i s hi => by
  obtain ⟨g, off, hA, hg, c0, c1⟩ := h i s hi
  exact ⟨g, off, hA, hg, (hb.cell (p := ⟨g, off + i * 2, none⟩) hg).trans c0, (hb.cell (p := ⟨g, off + i * 2 + 1, none⟩) hg).trans c1⟩
theorem RtsAt.wide {l : List Rt} (h : RtsAt w B A l) (hB : B ≤ B') : RtsAt w B' A l := fun i s hi => by
  obtain ⟨g, off, hA, hg, c0⟩ := h i s hi
  exact ⟨g, off, hA, by omega, c0⟩
theorem RtsAt.nil (w : World) (B : Nat) (A : Option Addr) : RtsAt w B A [] := fun i s hi => by simp at hi
theorem LmAt.wide {L : Lm} (h : LmAt w B A L) (hB : B ≤ B') : LmAt w B' A L := ⟨h.1.wide hB, h.2⟩
theorem LmsAt.below {l : List LmV} (h : LmsAt w B A l) (hb : Below B w w') : LmsAt w' B A l := fun i s hi => by
  obtain ⟨g, off, hA, hg, c0, c1, c2, c3, c4, hL⟩ := h i s hi
  exact ⟨g, off, hA, hg, (hb.cell (p := ⟨g, off + i * 5, none⟩) hg).trans c0, (hb.cell (p := ⟨g, off + i * 5 + 1, none⟩) hg).trans c1, (hb.cell (p := ⟨g, off + i * 5 + 2, none⟩) hg).trans c2, (hb.cell (p := ⟨g, off + i * 5 + 3, none⟩) hg).trans c3, (hb.cell (p := ⟨g, off + i * 5 + 4, none⟩) hg).trans c4, hL.below hb⟩
theorem LmsAt.wide {l : List LmV} (h : LmsAt w B A l) (hB : B ≤ B') : LmsAt w B' A l := fun i s hi => by
  obtain ⟨g, off, hA, hg, c0, c1, c2, c3, c4, hL⟩ := h i s hi
  exact ⟨g, off, hA, by omega, c0, c1, c2, c3, c4, hL.wide hB⟩
theorem LmsAt.nil (w : World) (B : Nat) (A : Option Addr) : LmsAt w B A [] := fun i s hi => by simp at hi
end
end Go.Proofs.YtebdkmlganalaaaGreatDoor
