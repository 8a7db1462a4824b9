/- head of the laws of layer 4. -/
import Derived.Test.YtfblngdmeliabaaDoorCh
namespace Go.Proofs.YtfblngdmeliabaaDoor
open Go.RowKit

theorem IntsAt.one (w : World) (b : Nat) (v : Int) (h : Blk w b 3 #[.int .i64 v]) : IntsAt w w.heap.size (some ⟨b, 0, none⟩) [v] := fun i x hi => by
  match i, hi with
  | 0, hi =>
    simp at hi
    subst hi
    exact ⟨b, 0, rfl, h.lt, by rw [h.cell]; rfl⟩

theorem add_nil (w : World) (day n u : Int) (r : Int × Int) (hr : addS [] day n u = r) :
    Calls Tryd.prog 12 #[.int .i64 day, .agg #[.int .i64 n, .int .i64 u], .slice none 0 0] w fun e w' =>
      e = .returned (.tuple #[.int .i64 r.1, .int .i64 r.2]) ∧ Below w.heap.size w w' := hr ▸ add_any w w.heap.size none [] 0 (IntsAt.nil w _) (Nat.le_refl _) (by simp) day n u
theorem work_nil (w : World) (n : Int) (r : Bool) (hr : opB [] n = r) :
    Calls Tryd.prog 17 #[.int .i64 n, .slice none 0 0] w fun e w' => e = .returned (.bool r) ∧ Below w.heap.size w w' := hr ▸ work_any w w.heap.size none [] 0 (IntsAt.nil w _) (Nat.le_refl _) (by simp) (by simp) n
theorem day_at (w : World) (y m d : Int) (r : Int × Int) (hr : dayS y m d = r) : Calls Tryd.prog 14 #[.int .i64 y, .int .i64 m, .int .i64 d] w fun e w' => e = .returned (.tuple #[.int .i64 r.1, .int .i64 r.2]) ∧ Below w.heap.size w w' := hr ▸ day_any w y m d

theorem date_at (w : World) (n : Int) (r : Int × Int × Int × Int) (hr : dateS n = r) : Calls Tryd.prog 15 #[.int .i64 n] w fun e w' => e = .returned (.tuple #[.int .i64 r.1, .int .i64 r.2.1, .int .i64 r.2.2.1, .int .i64 r.2.2.2]) ∧ Below w.heap.size w w' := hr ▸ date_any w n
theorem wkd_at (w : World) (n : Int) (r : Int) (hr : wkd n = r) : Calls Tryd.prog 16 #[.int .i64 n] w fun e w' => e = .returned (.int .i64 r) ∧ w = w' := hr ▸ weekday_any w n
theorem text_at (w : World) (ht : Tab w) (n : Int) (r : ByteArray) (hr : textS n = r) : Calls Tryd.prog 26 #[.int .i64 n] w fun e w' => e = .returned (.string r) ∧ Below w.heap.size w w' := hr ▸ text_any w ht n

set_option maxRecDepth 100000 in
set_option maxHeartbeats 4000000 in
theorem head_any (w : World) (ht : Tab w) : Calls Tryd.prog 11 #[] w fun e w' => e = .returned (.bool true) ∧ Below w.heap.size w w' := by
  have c1 := fun W => day_at W 1600 2 29 _ hd1
  have c2 := fun W => day_at W 1601 1 1 _ hd2
  have c3 := fun W => day_at W 1700 2 29 _ hd3
  have c4 := fun W => day_at W 1599 1 1 _ hd4
  have c5 := fun W => add_nil W 2 4 5 _ ha1
  have c6 := fun W => add_nil W 2 5 5 _ ha2
  have c7 := fun W => add_nil W 2 5 1 _ ha3
  have c8 := fun W => add_nil W 30 1 3 _ ha4
  have c9 := fun W => date_at W 59 _ hdt
  have cw1 := fun W => wkd_at W 0 5 (by decide)
  have cw2 := fun W => wkd_at W 2 0 (by decide)
  have cw3 := fun W => wkd_at W (-1) (-1) (by decide)
  have ct := fun W h => text_at W h 59 _ htx
  have k1 := fun W => work_nil W 0 false (by decide)
  have k2 := fun W => work_nil W 2 true (by decide)
  go_enter Tryd.func11, Tryd.ntmps11
  go_wp2_with fail
  refine (c1 _).mono ?_
  rintro e w1 ⟨rfl, b⟩
  go_wp2_with fail
  refine (c2 _).mono ?_
  rintro e w2 ⟨rfl, b2⟩
  replace b := Below.then b b2; clear b2
  go_wp2_with fail
  refine (c3 _).mono ?_
  rintro e w1 ⟨rfl, b2⟩
  replace b := Below.then b b2; clear b2
  go_wp2_with fail
  refine (c4 _).mono ?_
  rintro e w2 ⟨rfl, b2⟩
  replace b := Below.then b b2; clear b2
  go_wp2_with fail
  refine (term_any _ _ _).mono ?_
  rintro e w1 ⟨rfl, b2⟩
  replace b := Below.then b b2; clear b2
  go_wp2_with fail
  refine (c5 _).mono ?_
  rintro e w2 ⟨rfl, b2⟩
  replace b := Below.then b b2; clear b2
  go_wp2_with fail
  refine (term_any _ _ _).mono ?_
  rintro e w1 ⟨rfl, b2⟩
  replace b := Below.then b b2; clear b2
  go_wp2_with fail
  refine (c6 _).mono ?_
  rintro e w2 ⟨rfl, b2⟩
  replace b := Below.then b b2; clear b2
  go_wp2_with fail
  refine (term_any _ _ _).mono ?_
  rintro e w1 ⟨rfl, b2⟩
  replace b := Below.then b b2; clear b2
  go_wp2_with fail
  refine (c7 _).mono ?_
  rintro e w2 ⟨rfl, b2⟩
  replace b := Below.then b b2; clear b2
  go_wp2_with fail
  refine (term_any _ _ _).mono ?_
  rintro e w1 ⟨rfl, b2⟩
  replace b := Below.then b b2; clear b2
  go_wp2_with fail
  refine (c8 _).mono ?_
  rintro e w2 ⟨rfl, b2⟩
  replace b := Below.then b b2; clear b2
  go_wp2_with fail
  refine (c9 _).mono ?_
  rintro e w1 ⟨rfl, b2⟩
  replace b := Below.then b b2; clear b2
  go_wp2_with fail
  refine (cw1 _).mono ?_
  rintro e w2 ⟨rfl, rfl⟩
  go_wp2_with fail
  refine (cw2 _).mono ?_
  rintro e w2 ⟨rfl, rfl⟩
  go_wp2_with fail
  refine (cw3 _).mono ?_
  rintro e w2 ⟨rfl, rfl⟩
  go_wp2_with fail
  refine (ct _ (ht.below b)).mono ?_
  rintro e w2 ⟨rfl, b2⟩
  replace b := Below.then b b2; clear b2
  go_wp2_with fail
  refine (k1 _).mono ?_
  rintro e w1 ⟨rfl, b2⟩
  replace b := Below.then b b2; clear b2
  go_wp2_with fail
  refine (k2 _).mono ?_
  rintro e w2 ⟨rfl, b2⟩
  replace b := Below.then b b2; clear b2
  go_wp2_with fail
  have hb := Blk.new w2 3 #[.int .i64 2]
  refine (work_any _ _ _ [2] 1 (IntsAt.one _ _ 2 hb) (Nat.le_refl _) (by simp) (by intro x hx; simp at hx; subst hx; exact ⟨by decide, by decide⟩) 2).mono ?_
  rintro e w1 ⟨rfl, b2⟩
  have e0 : opB [2] 2 = false := by decide
  rw [e0]
  replace b := Below.then (b.alloc b.size _) b2; clear b2
  go_wp2
  go_ret
  exact ⟨rfl, b⟩
end Go.Proofs.YtfblngdmeliabaaDoor
