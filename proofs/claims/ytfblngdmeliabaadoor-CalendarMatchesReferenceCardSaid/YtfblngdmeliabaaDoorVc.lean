/- The reference's calendar: First. -/
import Derived.Test.YtfblngdmeliabaaDoorVb
namespace Go.Proofs.YtfblngdmeliabaaDoor
open Go.RowKit Go.Shelf

/-- What First returns, of what the step is. -/
def firstS (p : Int × Int) : Int × Int := if p.2 = 0 ∧ isB p.1 = true then (p.1, 0) else (0, 10)
theorem nthS_front (l : List Int) (x : Int) : ∀ k, nthS l (k + 1) x = nthS l k (nthS l 1 x)
  | 0 => rfl
  | k + 1 => by
    show (if isB (nthS l (k + 1) x) = true then fromS l (nthS l (k + 1) x + 1) else nthS l (k + 1) x) = if isB (nthS l k (nthS l 1 x)) = true then fromS l (nthS l k (nthS l 1 x) + 1) else nthS l k (nthS l 1 x)
    rw [nthS_front l x k]
theorem nthS_one {l : List Int} {x : Int} (h : isB x = true) : nthS l 1 x = fromS l (x + 1) := by
  show (if isB x = true then fromS l (x + 1) else x) = _
  rw [if_pos h]
theorem nthS_out {l : List Int} {x : Int} (h : isB x = false) : ∀ k, nthS l k x = x
  | 0 => rfl
  | k + 1 => by
    show (if isB (nthS l k x) = true then fromS l (nthS l k x + 1) else nthS l k x) = x
    rw [nthS_out h k, h, if_neg (by simp)]
/-- One step on: an open day counts, another does not. -/
theorem nthS_open {l : List Int} {x : Int} {k : Nat} (h : isB x = true) (h2 : opB l (x + 1) = true) : nthS l (k + 1) x = nthS l k (x + 1) := by
  rw [nthS_front, nthS_one h, fromS_here h2]
theorem nthS_shut {l : List Int} {x : Int} {k : Nat} (h : isB x = true) (h1 : isB (x + 1) = true) (h2 : opB l (x + 1) = false) : nthS l (k + 1) x = nthS l (k + 1) (x + 1) := by
  rw [nthS_front, nthS_front l (x + 1), nthS_one h, nthS_one h1, fromS_on h1 h2]
theorem nthS_over {l : List Int} {k : Nat} : nthS l (k + 1) 1000000 = 1000001 := by
  have h : isB (1000001 : Int) = false := by decide
  rw [nthS_front, nthS_one (by decide), show (1000000 : Int) + 1 = 1000001 by omega, fromS_eq, if_neg (fun c => by rw [h] at c; cases c.1), nthS_out h]
/-- First where the unit is the month or the year. -/
theorem monS_first {y m d M : Int} (hv : Vd y m d) (_hM : 0 ≤ M) :
    firstS (monS y m d M) = if 9999 < y + (m - 1 + M) / 12 then (0, 10) else dayS (y + (m - 1 + M) / 12) ((m - 1 + M) % 12 + 1) (min d (ml (y + (m - 1 + M) / 12) ((m - 1 + M) % 12 + 1))) := by
  obtain ⟨y1, y2, m1, m2, d1, d2⟩ := hv
  have e1 : (M + (12 * y + m - 1)) / 12 = y + (m - 1 + M) / 12 := by omega
  have e2 : (M + (12 * y + m - 1)) % 12 = (m - 1 + M) % 12 := by omega
  unfold monS
  rw [e1, e2]
  by_cases hc : 9999 < y + (m - 1 + M) / 12
  · rw [if_pos hc]; rfl
  · rw [if_neg hc]
    have hml := ml_bd (y + (m - 1 + M) / 12) ((m - 1 + M) % 12 + 1)
    generalize hY : y + (m - 1 + M) / 12 = Y at *
    generalize hMM : (m - 1 + M) % 12 + 1 = K at *
    generalize hD : min d (ml Y K) = D
    by_cases h : (dayS Y K D).2 = 0
    · obtain ⟨h1, h2, h3, h4⟩ := dayS_ok h
      unfold firstS
      rw [if_pos ⟨h, (isB_iff _).2 (by rw [h2]; exact ⟨h3, h4⟩)⟩]
      exact Prod.ext rfl h.symm
    · unfold firstS
      rw [if_neg (fun c => h c.1)]
      unfold dayS at h ⊢
      have hK : 1 ≤ K ∧ K ≤ 12 := by omega
      have hDD : 1 ≤ D ∧ D ≤ ml Y K := by omega
      rw [if_neg (by omega)] at h ⊢
      split
      · rfl
      · rename_i h5
        rw [if_neg h5] at h
        split
        · rfl
        · rename_i h6; rw [if_neg h6] at h; exact absurd rfl h

set_option maxRecDepth 100000 in
set_option maxHeartbeats 2000000 in
theorem first_mon (w : World) (day n u M y m d : Int) (C : Option Addr) (cl : Nat) (l : List Int) (r1 r2 : Int) (hv : Vd y m d) (hnum : num y m d = day) (d1 : day ≤ 1000000) (hn : 0 ≤ n) (hn1 : n ≤ 1000000) (hu : u = 3 ∧ M = n ∨ u = 4 ∧ M = 12 * n) (hr : firstS (monS y m d M) = (r1, r2)) :
    Calls Tryd.prog 46 #[.int .i64 day, .agg #[.int .i64 n, .int .i64 u], .slice C l.length cl] w fun e w' => e = .returned (.tuple #[.int .i64 r1, .int .i64 r2]) ∧ Below w.heap.size w w' := by
  have hM0 : 0 ≤ M ∧ M ≤ 12000000 := by omega
  rw [monS_first hv hM0.1] at hr
  have hv' := hv
  obtain ⟨y1, y2, m1, m2, e1, e2⟩ := hv'
  have hdt := fun W => rDate_yes W y m d hv (by rw [hnum]; exact d1)
  rw [hnum] at hdt
  have hmb := ml_bd y m
  obtain ⟨Y, hY⟩ : ∃ Y, y + (m - 1 + M) / 12 = Y := ⟨_, rfl⟩
  obtain ⟨K, hK⟩ : ∃ K, (m - 1 + M) % 12 + 1 = K := ⟨_, rfl⟩
  rw [hY, hK] at hr
  have hKb : 1 ≤ K ∧ K ≤ 12 := by omega
  have hYb : 1600 ≤ Y ∧ Y ≤ 1100000 := by omega
  obtain ⟨x, hx⟩ : ∃ x, ml Y K = x := ⟨_, rfl⟩
  have hxb := ml_bd Y K
  have hle := fun W => rLength_any W Y K hKb.1 hKb.2
  rw [hx] at hr hxb hle
  obtain ⟨z, hz⟩ : ∃ z, z = min d x := ⟨_, rfl⟩
  rw [← hz] at hr
  have rm := fun ts ty W => run_min2 (P := Tryd.prog) d x z hz ts ty W
  have f1 : (m - 1 + M).tdiv 12 = (m - 1 + M) / 12 := Int.tdiv_eq_ediv_of_nonneg (by omega)
  have f2 : (m - 1 + M).tmod 12 = (m - 1 + M) % 12 := Int.tmod_eq_emod_of_nonneg (by omega)
  have hdb : 0 ≤ (m - 1 + M) / 12 ∧ (m - 1 + M) / 12 ≤ 1000001 := by omega
  have hrb : 0 ≤ (m - 1 + M) % 12 ∧ (m - 1 + M) % 12 ≤ 11 := by omega
  have HDT := Lib.hid hdt
  have HLE := Lib.hid hle
  have HR := Lib.hid hr
  have HF1 := Lib.hid f1
  have HF2 := Lib.hid f2
  have HYY := Lib.hid hY
  have HKK := Lib.hid hK
  have HRM := Lib.hid rm
  clear hdt hle hr hz hx hv f1 f2 hY hK rm
  clear hdb hrb
  have hb := (Below.refl w.heap.size w).alloc (Nat.le_refl _) (.cells #[.int .i64 n, .int .i64 u] 29)
  have k0 := Blk.new w 29 #[.int .i64 n, .int .i64 u]
  obtain ⟨t0, t1, -⟩ := k0.all
  rcases hu with ⟨rfl, rfl⟩ | ⟨rfl, rfl⟩
  all_goals
    go_enter Tryd.func46, Tryd.ntmps46
    go_wp2_with fail
    refine (HDT.out _).mono ?_
    rintro e w1 ⟨rfl, b⟩
    replace hb := hb.trans (b.mono hb.size)
    clear b t0 t1 k0
    have f1 := HF1.out
    have f2 := HF2.out
    go_upto_region 23 with fail
    first | rw [HYY.out, HKK.out] | rw [HYY.out, show (m - 1) % 12 + 1 = K from by have := HKK.out; omega]
    clear f1 f2
    have rm := HRM.out
    by_cases hc : 9999 < Y
    · have dc : decide (9999 < Y) = true := decide_eq_true hc
      have hr := HR.out
      rw [if_pos hc] at hr
      injection hr with h1 h2
      subst h1 h2
      clear HR
      go_wp2
      go_ret2
      exact ⟨rfl, hb⟩
    · have dc : decide (9999 < Y) = false := decide_eq_false hc
      have hr := HR.out
      rw [if_neg hc] at hr
      have HR2 := Lib.hid hr
      clear HR hr
      go_wp2_with fail
      refine (HLE.out _).mono ?_
      rintro e w2 ⟨rfl, b⟩
      replace hb := hb.trans (b.mono hb.size)
      clear b
      go_wp2_with fail
      have hday := rDay_any w2 Y K z
      rw [HR2.out] at hday
      refine hday.mono ?_
      rintro e w3 ⟨rfl, b⟩
      replace hb := hb.trans (b.mono hb.size)
      clear b hday
      go_wp2
      go_ret2
      exact ⟨rfl, hb⟩
end Go.Proofs.YtfblngdmeliabaaDoor
