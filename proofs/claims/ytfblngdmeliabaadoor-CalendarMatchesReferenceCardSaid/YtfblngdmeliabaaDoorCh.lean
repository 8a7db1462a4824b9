/- Text, whole; term; the examples of head. -/
import Derived.Test.YtfblngdmeliabaaDoorCz
import Derived.Test.YtfblngdmeliabaaDoorCg
namespace Go.Proofs.YtfblngdmeliabaaDoor
open Go.RowKit

/-- What Text returns. -/
noncomputable def textS (n : Int) : ByteArray := if isB n = true then textB (ymd n).1 (ymd n).2.1 (ymd n).2.2 else ⟨#[]⟩
theorem text_any (w : World) (ht : Tab w) (n : Int) : Calls Tryd.prog 26 #[.int .i64 n] w fun e w' => e = .returned (.string (textS n)) ∧ Below w.heap.size w w' := by
  unfold textS
  cases h : isB n with
  | false =>
    exact (text_no w n h).mono fun _ _ ⟨he, hw⟩ => ⟨he, hw ▸ Below.refl _ _⟩
  | true =>
    rw [if_pos rfl]
    obtain ⟨hv, he⟩ := ymd_of h
    have h1 := ((isB_iff n).1 h).2
    have := text_yes w ht _ _ _ hv (by rw [he]; exact h1)
    rw [he] at this
    exact this

theorem term_any (w : World) (n u : Int) : Calls Tryd.prog 13 #[.int .i64 n, .int .i64 u] w fun e w' => e = .returned (.agg #[.int .i64 n, .int .i64 u]) ∧ Below w.heap.size w w' := by
  go_enter Tryd.func13, Tryd.ntmps13
  go_wp2
  refine bodyPost_ret (v := .agg #[.int .i64 n, .int .i64 u]) ?_ rfl ⟨rfl, ?_⟩
  · exact results_cell_row (p := 4) (ty := 29) rfl _ _ w.heap.size 29 _ (0, 0) _ rfl (heap_alloc_new w _) Tryd.underlying29 rfl (by kernel_rfl)
  · exact (Below.refl _ _).alloc (Nat.le_refl _) _

theorem hd1 : dayS 1600 2 29 = (59, 0) := by decide
theorem hd2 : dayS 1601 1 1 = (366, 0) := by decide
theorem hd3 : dayS 1700 2 29 = (0, 1) := by decide
theorem hd4 : dayS 1599 1 1 = (0, 10) := by decide
theorem ymd_2 : ymd 2 = (1600, 1, 3) := ymd_num (y := 1600) (m := 1) (d := 3) (by unfold Vd; decide)
theorem ymd_30 : ymd 30 = (1600, 1, 31) := ymd_num (y := 1600) (m := 1) (d := 31) (by unfold Vd; decide)
theorem ymd_59 : ymd 59 = (1600, 2, 29) := ymd_num (y := 1600) (m := 2) (d := 29) (by unfold Vd; decide)
theorem f9 : fromS [] 9 = 9 := fromS_here (by decide)
theorem f7 : fromS [] 7 = 9 := by rw [fromS_on (by decide) (by decide), fromS_on (by decide) (by decide)]; exact f9
theorem nth4 : nthS [] 4 2 = 6 := by
  have h1 : nthS [] 1 2 = 3 := by show (if isB 2 = true then fromS [] (2 + 1) else 2) = 3; rw [if_pos (by decide)]; exact fromS_here (by decide)
  have h2 : nthS [] 2 2 = 4 := by show (if isB (nthS [] 1 2) = true then fromS [] (nthS [] 1 2 + 1) else nthS [] 1 2) = 4; rw [h1, if_pos (by decide)]; exact fromS_here (by decide)
  have h3 : nthS [] 3 2 = 5 := by show (if isB (nthS [] 2 2) = true then fromS [] (nthS [] 2 2 + 1) else nthS [] 2 2) = 5; rw [h2, if_pos (by decide)]; exact fromS_here (by decide)
  show (if isB (nthS [] 3 2) = true then fromS [] (nthS [] 3 2 + 1) else nthS [] 3 2) = 6
  rw [h3, if_pos (by decide)]; exact fromS_here (by decide)
theorem nth5 : nthS [] 5 2 = 9 := by
  show (if isB (nthS [] 4 2) = true then fromS [] (nthS [] 4 2 + 1) else nthS [] 4 2) = 9
  rw [nth4, if_pos (by decide)]; exact f7
theorem ha1 : addS [] 2 4 5 = (6, 0) := by
  unfold addS
  rw [if_neg (by decide), if_neg (by decide)]
  show endS [] (nthS [] 4 2, 0) = _
  rw [nth4]
  unfold endS
  rw [if_pos (by decide), fromS_here (by decide)]
  rfl
theorem ha2 : addS [] 2 5 5 = (9, 0) := by
  unfold addS
  rw [if_neg (by decide), if_neg (by decide)]
  show endS [] (nthS [] 5 2, 0) = _
  rw [nth5]
  unfold endS
  rw [if_pos (by decide), f9]
  rfl
theorem ha3 : addS [] 2 5 1 = (9, 0) := by
  unfold addS
  rw [if_neg (by decide), if_neg (by decide)]
  show endS [] (7, 0) = _
  unfold endS
  rw [if_pos (by decide), f7]
  rfl
theorem ha4 : addS [] 30 1 3 = (59, 0) := by
  unfold addS
  rw [if_neg (by decide), if_neg (by decide), ymd_30]
  have : stepS [] 30 1 3 1600 1 31 = (59, 0) := by decide
  show endS [] (stepS [] 30 1 3 1600 1 31) = _
  rw [this]
  unfold endS
  rw [if_pos (by decide), fromS_here (by decide)]
  rfl
theorem hdt : dateS 59 = (1600, 2, 29, 0) := by rw [dateS_yes (by decide), ymd_59]
theorem htx : textS 59 = ⟨#[49, 54, 48, 48, 45, 48, 50, 45, 50, 57]⟩ := by
  unfold textS
  rw [if_pos (by decide), ymd_59]
  unfold textB
  rw [itoa_four (by decide) (by decide)]
  rfl
end Go.Proofs.YtfblngdmeliabaaDoor
