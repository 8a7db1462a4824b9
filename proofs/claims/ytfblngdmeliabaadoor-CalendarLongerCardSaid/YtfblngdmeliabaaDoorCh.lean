/- Date, Text, Add, whole; term. -/
import Derived.Test.YtfblngdmeliabaaDoorCf
import Derived.Test.YtfblngdmeliabaaDoorCg
namespace Go.Proofs.YtfblngdmeliabaaDoor
open Go.RowKit

/-- The date of a day. -/
noncomputable def ymd (n : Int) : Int × Int × Int := by
  classical
  exact if h : ∃ p : Int × Int × Int, Vd p.1 p.2.1 p.2.2 ∧ num p.1 p.2.1 p.2.2 = n then h.choose else (0, 0, 0)
theorem ymd_num {y m d : Int} (h : Vd y m d) : ymd (num y m d) = (y, m, d) := by
  have hx : ∃ p : Int × Int × Int, Vd p.1 p.2.1 p.2.2 ∧ num p.1 p.2.1 p.2.2 = num y m d := ⟨(y, m, d), h, rfl⟩
  unfold ymd
  rw [dif_pos hx]
  obtain ⟨a, b⟩ := hx.choose_spec
  obtain ⟨c1, c2, c3⟩ := num_inj a h b
  exact Prod.ext c1 (Prod.ext c2 c3)
theorem ymd_of {n : Int} (h : isB n = true) : Vd (ymd n).1 (ymd n).2.1 (ymd n).2.2 ∧ num (ymd n).1 (ymd n).2.1 (ymd n).2.2 = n := by
  obtain ⟨h0, h1⟩ := (isB_iff n).1 h
  obtain ⟨y, m, d, hv, he, -⟩ := date_of h0 h1
  rw [← he, ymd_num hv]
  exact ⟨hv, rfl⟩

/-- What Date returns. -/
noncomputable def dateS (n : Int) : Int × Int × Int × Int := if isB n = true then ((ymd n).1, (ymd n).2.1, (ymd n).2.2, 0) else (0, 0, 0, 10)
theorem dateS_no {n : Int} (h : isB n = false) : dateS n = (0, 0, 0, 10) := by unfold dateS; rw [h]; rfl
theorem dateS_yes {n : Int} (h : isB n = true) : dateS n = ((ymd n).1, (ymd n).2.1, (ymd n).2.2, 0) := by unfold dateS; rw [h]; rfl
theorem date_any (w : World) (n : Int) : Calls Tryd.prog 15 #[.int .i64 n] w fun e w' => e = .returned (.tuple #[.int .i64 (dateS n).1, .int .i64 (dateS n).2.1, .int .i64 (dateS n).2.2.1, .int .i64 (dateS n).2.2.2]) ∧ Below w.heap.size w w' := by
  cases h : isB n with
  | false =>
    rw [dateS_no h]
    exact (date_no w n h).mono fun _ _ ⟨he, hw⟩ => ⟨he, hw ▸ Below.refl _ _⟩
  | true =>
    rw [dateS_yes h]
    obtain ⟨hv, he⟩ := ymd_of h
    have h1 := ((isB_iff n).1 h).2
    have := date_yes w _ _ _ hv (by rw [he]; exact h1)
    rw [he] at this
    exact this

/-- What Text returns. -/
noncomputable def textS (n : Int) : ByteArray := if isB n = true then textB (ymd n).1 (ymd n).2.1 (ymd n).2.2 else ⟨#[]⟩
theorem text_any (w : World) (ht : Tab w) (n : Int) : Calls Tryd.prog 26 #[.int .i64 n] w fun e w' => e = .returned (.string (textS n)) ∧ Below w.heap.size w w' := by
  unfold textS
  cases h : isB n with
  | false =>
    exact (text_no w n h).mono fun _ _ ⟨he, hw⟩ => ⟨he, hw ▸ Below.refl _ _⟩
  | true =>
    rw [if_pos rfl]
    obtain ⟨hv, he⟩ := ymd_of h
    have h1 := ((isB_iff n).1 h).2
    have := text_yes w ht _ _ _ hv (by rw [he]; exact h1)
    rw [he] at this
    exact this

/-- What Add returns. -/
noncomputable def addS (l : List Int) (day n u : Int) : Int × Int :=
  if isB day = false ∨ u < 1 ∨ 5 < u ∨ n < 0 ∨ 1000000 < n then (0, 1) else if 1000 < l.length then (0, 2) else endS l (stepS l day n u (ymd day).1 (ymd day).2.1 (ymd day).2.2)
theorem add_any (w : World) (B : Nat) (A : Option Addr) (l : List Int) (c : Nat) (hA : IntsAt w B A l) (hB : B ≤ w.heap.size) (hw : ∀ x ∈ l, wf64 x) (day n u : Int) :
    Calls Tryd.prog 12 #[.int .i64 day, .agg #[.int .i64 n, .int .i64 u], .slice A l.length c] w fun e w' =>
      e = .returned (.tuple #[.int .i64 (addS l day n u).1, .int .i64 (addS l day n u).2]) ∧ Below w.heap.size w w' := by
  unfold addS
  split
  · rename_i h
    exact add_bad w day n u A _ c h
  · rename_i h
    have hd : isB day = true := by
      cases hh : isB day
      · exact absurd (.inl hh) h
      · rfl
    split
    · rename_i h2
      exact add_many w day n u A _ c hd (by omega) (by omega) (by omega) (by omega) h2
    · rename_i h2
      obtain ⟨hv, he⟩ := ymd_of hd
      have h1 := ((isB_iff day).1 hd).2
      have := add_yes w B A l c hA hB (by omega) hw _ _ _ n u hv (by rw [he]; exact h1) (by omega) (by omega) (by omega) (by omega)
      rw [he] at this
      exact this

theorem IntsAt.nil (w : World) (B : Nat) : IntsAt w B none [] := fun i v hi => by simp at hi

theorem term_any (w : World) (n u : Int) : Calls Tryd.prog 13 #[.int .i64 n, .int .i64 u] w fun e w' => e = .returned (.agg #[.int .i64 n, .int .i64 u]) ∧ Below w.heap.size w w' := by
  go_enter Tryd.func13, Tryd.ntmps13
  go_wp2
  refine bodyPost_ret (v := .agg #[.int .i64 n, .int .i64 u]) ?_ rfl ⟨rfl, ?_⟩
  · exact results_cell_row (p := 4) (ty := 29) rfl _ _ w.heap.size 29 _ (0, 0) _ rfl (heap_alloc_new w _) Tryd.underlying29 rfl (by kernel_rfl)
  · exact (Below.refl _ _).alloc (Nat.le_refl _) _

theorem fromS_here {l : List Int} {x : Int} (h : opB l x = true) : fromS l x = x := by rw [fromS_eq, if_neg (by rw [h]; simp)]
theorem fromS_on {l : List Int} {x : Int} (h : isB x = true) (h2 : opB l x = false) : fromS l x = fromS l (x + 1) := by rw [fromS_eq, if_pos ⟨h, h2⟩]

theorem hd1 : dayS 1600 2 29 = (59, 0) := by decide
theorem hd2 : dayS 1601 1 1 = (366, 0) := by decide
theorem hd3 : dayS 1700 2 29 = (0, 1) := by decide
theorem hd4 : dayS 1599 1 1 = (0, 10) := by decide
theorem ymd_2 : ymd 2 = (1600, 1, 3) := ymd_num (y := 1600) (m := 1) (d := 3) (by unfold Vd; decide)
theorem ymd_30 : ymd 30 = (1600, 1, 31) := ymd_num (y := 1600) (m := 1) (d := 31) (by unfold Vd; decide)
theorem ymd_59 : ymd 59 = (1600, 2, 29) := ymd_num (y := 1600) (m := 2) (d := 29) (by unfold Vd; decide)
theorem f9 : fromS [] 9 = 9 := fromS_here (by decide)
theorem f7 : fromS [] 7 = 9 := by rw [fromS_on (by decide) (by decide), fromS_on (by decide) (by decide)]; exact f9
theorem nth4 : nthS [] 4 2 = 6 := by
  have h1 : nthS [] 1 2 = 3 := by show (if isB 2 = true then fromS [] (2 + 1) else 2) = 3; rw [if_pos (by decide)]; exact fromS_here (by decide)
  have h2 : nthS [] 2 2 = 4 := by show (if isB (nthS [] 1 2) = true then fromS [] (nthS [] 1 2 + 1) else nthS [] 1 2) = 4; rw [h1, if_pos (by decide)]; exact fromS_here (by decide)
  have h3 : nthS [] 3 2 = 5 := by show (if isB (nthS [] 2 2) = true then fromS [] (nthS [] 2 2 + 1) else nthS [] 2 2) = 5; rw [h2, if_pos (by decide)]; exact fromS_here (by decide)
  show (if isB (nthS [] 3 2) = true then fromS [] (nthS [] 3 2 + 1) else nthS [] 3 2) = 6
  rw [h3, if_pos (by decide)]; exact fromS_here (by decide)
theorem nth5 : nthS [] 5 2 = 9 := by
  show (if isB (nthS [] 4 2) = true then fromS [] (nthS [] 4 2 + 1) else nthS [] 4 2) = 9
  rw [nth4, if_pos (by decide)]; exact f7
theorem ha1 : addS [] 2 4 5 = (6, 0) := by
  unfold addS
  rw [if_neg (by decide), if_neg (by decide)]
  show endS [] (nthS [] 4 2, 0) = _
  rw [nth4]
  unfold endS
  rw [if_pos (by decide), fromS_here (by decide)]
  rfl
theorem ha2 : addS [] 2 5 5 = (9, 0) := by
  unfold addS
  rw [if_neg (by decide), if_neg (by decide)]
  show endS [] (nthS [] 5 2, 0) = _
  rw [nth5]
  unfold endS
  rw [if_pos (by decide), f9]
  rfl
theorem ha3 : addS [] 2 5 1 = (9, 0) := by
  unfold addS
  rw [if_neg (by decide), if_neg (by decide)]
  show endS [] (7, 0) = _
  unfold endS
  rw [if_pos (by decide), f7]
  rfl
theorem ha4 : addS [] 30 1 3 = (59, 0) := by
  unfold addS
  rw [if_neg (by decide), if_neg (by decide), ymd_30]
  have : stepS [] 30 1 3 1600 1 31 = (59, 0) := by decide
  show endS [] (stepS [] 30 1 3 1600 1 31) = _
  rw [this]
  unfold endS
  rw [if_pos (by decide), fromS_here (by decide)]
  rfl
theorem hdt : dateS 59 = (1600, 2, 29, 0) := by rw [dateS_yes (by decide), ymd_59]
theorem htx : textS 59 = ⟨#[49, 54, 48, 48, 45, 48, 50, 45, 50, 57]⟩ := by
  unfold textS
  rw [if_pos (by decide), ymd_59]
  unfold textB
  rw [itoa_four (by decide) (by decide)]
  rfl
end Go.Proofs.YtfblngdmeliabaaDoor
