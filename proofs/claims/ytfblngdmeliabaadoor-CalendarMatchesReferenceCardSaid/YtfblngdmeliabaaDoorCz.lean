/- Date and Add, whole. -/
import Derived.Test.YtfblngdmeliabaaDoorCf
namespace Go.Proofs.YtfblngdmeliabaaDoor
open Go.RowKit

/-- The date of a day. -/
noncomputable def ymd (n : Int) : Int × Int × Int := by
  classical
  exact if h : ∃ p : Int × Int × Int, Vd p.1 p.2.1 p.2.2 ∧ num p.1 p.2.1 p.2.2 = n then h.choose else (0, 0, 0)
theorem ymd_num {y m d : Int} (h : Vd y m d) : ymd (num y m d) = (y, m, d) := by
  have hx : ∃ p : Int × Int × Int, Vd p.1 p.2.1 p.2.2 ∧ num p.1 p.2.1 p.2.2 = num y m d := ⟨(y, m, d), h, rfl⟩
  unfold ymd
  rw [dif_pos hx]
  obtain ⟨a, b⟩ := hx.choose_spec
  obtain ⟨c1, c2, c3⟩ := num_inj a h b
  exact Prod.ext c1 (Prod.ext c2 c3)
theorem ymd_of {n : Int} (h : isB n = true) : Vd (ymd n).1 (ymd n).2.1 (ymd n).2.2 ∧ num (ymd n).1 (ymd n).2.1 (ymd n).2.2 = n := by
  obtain ⟨h0, h1⟩ := (isB_iff n).1 h
  obtain ⟨y, m, d, hv, he, -⟩ := date_of h0 h1
  rw [← he, ymd_num hv]
  exact ⟨hv, rfl⟩

/-- What Date returns. -/
noncomputable def dateS (n : Int) : Int × Int × Int × Int := if isB n = true then ((ymd n).1, (ymd n).2.1, (ymd n).2.2, 0) else (0, 0, 0, 10)
theorem dateS_no {n : Int} (h : isB n = false) : dateS n = (0, 0, 0, 10) := by unfold dateS; rw [h]; rfl
theorem dateS_yes {n : Int} (h : isB n = true) : dateS n = ((ymd n).1, (ymd n).2.1, (ymd n).2.2, 0) := by unfold dateS; rw [h]; rfl
theorem date_any (w : World) (n : Int) : Calls Tryd.prog 15 #[.int .i64 n] w fun e w' => e = .returned (.tuple #[.int .i64 (dateS n).1, .int .i64 (dateS n).2.1, .int .i64 (dateS n).2.2.1, .int .i64 (dateS n).2.2.2]) ∧ Below w.heap.size w w' := by
  cases h : isB n with
  | false =>
    rw [dateS_no h]
    exact (date_no w n h).mono fun _ _ ⟨he, hw⟩ => ⟨he, hw ▸ Below.refl _ _⟩
  | true =>
    rw [dateS_yes h]
    obtain ⟨hv, he⟩ := ymd_of h
    have h1 := ((isB_iff n).1 h).2
    have := date_yes w _ _ _ hv (by rw [he]; exact h1)
    rw [he] at this
    exact this

/-- What Add returns. -/
noncomputable def addS (l : List Int) (day n u : Int) : Int × Int :=
  if isB day = false ∨ u < 1 ∨ 5 < u ∨ n < 0 ∨ 1000000 < n then (0, 1) else if 1000 < l.length then (0, 2) else endS l (stepS l day n u (ymd day).1 (ymd day).2.1 (ymd day).2.2)
theorem add_any (w : World) (B : Nat) (A : Option Addr) (l : List Int) (c : Nat) (hA : IntsAt w B A l) (hB : B ≤ w.heap.size) (hw : ∀ x ∈ l, wf64 x) (day n u : Int) :
    Calls Tryd.prog 12 #[.int .i64 day, .agg #[.int .i64 n, .int .i64 u], .slice A l.length c] w fun e w' =>
      e = .returned (.tuple #[.int .i64 (addS l day n u).1, .int .i64 (addS l day n u).2]) ∧ Below w.heap.size w w' := by
  unfold addS
  split
  · rename_i h
    exact add_bad w day n u A _ c h
  · rename_i h
    have hd : isB day = true := by
      cases hh : isB day
      · exact absurd (.inl hh) h
      · rfl
    split
    · rename_i h2
      exact add_many w day n u A _ c hd (by omega) (by omega) (by omega) (by omega) h2
    · rename_i h2
      obtain ⟨hv, he⟩ := ymd_of hd
      have h1 := ((isB_iff day).1 hd).2
      have := add_yes w B A l c hA hB (by omega) hw _ _ _ n u hv (by rw [he]; exact h1) (by omega) (by omega) (by omega) (by omega)
      rw [he] at this
      exact this

theorem IntsAt.nil (w : World) (B : Nat) : IntsAt w B none [] := fun i v hi => by simp at hi

theorem fromS_here {l : List Int} {x : Int} (h : opB l x = true) : fromS l x = x := by rw [fromS_eq, if_neg (by rw [h]; simp)]
theorem fromS_on {l : List Int} {x : Int} (h : isB x = true) (h2 : opB l x = false) : fromS l x = fromS l (x + 1) := by rw [fromS_eq, if_pos ⟨h, h2⟩]

theorem Below.then {a b c : World} (h : Below a.heap.size a b) (k : Below b.heap.size b c) : Below a.heap.size a c := h.trans (k.mono h.size)
end Go.Proofs.YtfblngdmeliabaaDoor
