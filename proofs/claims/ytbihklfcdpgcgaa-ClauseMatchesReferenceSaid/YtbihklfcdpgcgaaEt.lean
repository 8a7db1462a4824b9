/- stamp; few. -/
import Derived.Test.YtbihklfcdpgcgaaEr
namespace Go.Proofs.Ytbihklfcdpgcgaa
open Go.RowKit

set_option maxRecDepth 100000 in
theorem stamp_any (w : World) (s : St2) : Calls Try.prog 30 #[.int .i64 s.1, .int .i64 s.2] w fun e w' => e = .returned (.agg (stA s)) ∧ Below w.heap.size w w' := by
  have k := Blk.new w 29 #[.int .i64 s.1, .int .i64 s.2]
  have hlv := run_loadVar_row (P := Try.prog) _ _ 29 29 _ (0, 0) _ k Try.underlying29 rfl (by kernel_rfl)
  have c0 := k.cell 0
  have c1 := k.cell 1
  have hb := (Below.refl w.heap.size w).alloc (Nat.le_refl _) (.cells #[.int .i64 s.1, .int .i64 s.2] 29)
  go_enter Try.func30, Try.ntmps30
  go_wp2
  exact bodyPost_ret (v := .agg (stA s)) (by simp [results, Try.results30, asAddr, hlv, stA]) rfl ⟨rfl, hb⟩
def slV (x : Option Addr × Nat × Nat) : Value := .slice x.1 x.2.1 x.2.2
def fewS (vs : List (Option Addr × Nat × Nat)) : Bool := vs.all fun x => decide (x.2.1 ≤ 80)
theorem few_stop {vs : List (Option Addr × Nat × Nat)} {k : Nat} {x : Option Addr × Nat × Nat} (h : vs[k]? = some x) (hx : 80 < x.2.1) : fewS vs = false := by
  unfold fewS
  rw [List.all_eq_false]
  exact ⟨x, List.mem_of_getElem? h, by simp; omega⟩
theorem few_end {vs : List (Option Addr × Nat × Nat)} (h : ∀ j x, j < vs.length → vs[j]? = some x → x.2.1 ≤ 80) : fewS vs = true := by
  unfold fewS
  rw [List.all_eq_true]
  intro x hx
  obtain ⟨j, hj⟩ := List.getElem?_of_mem hx
  simpa using h j x (List.getElem?_eq_some_iff.1 hj).1 hj
set_option maxRecDepth 100000 in
theorem few_any (w : World) (g : Nat) (vs : List (Option Addr × Nat × Nat)) (h : Blk w g 42 (vs.map slV).toArray) (hl : vs.length ≤ 100) : Calls Try.prog 24 #[.slice (some ⟨g, 0, none⟩) vs.length vs.length] w fun e w' => e = .returned (.bool (fewS vs)) ∧ w' = w := by
  obtain ⟨N, hN⟩ : ∃ N, vs.length = N := ⟨_, rfl⟩
  obtain ⟨R, hR⟩ : ∃ R, fewS vs = R := ⟨_, rfl⟩
  rw [hN] at hl ⊢
  rw [hR]
  have HN := Lib.hid hN
  have HR := Lib.hid hR
  have HH := Lib.hid h
  clear h hN hR
  go_enter Try.func24, Try.ntmps24
  go_wp2_with fail
  go_loopw [3] (fun i wr => wr = w ∧ ∃ k : Nat, k ≤ N ∧ i = .int .i64 (k : Int) ∧ Hid (∀ j x, j < k → vs[j]? = some x → x.2.1 ≤ 80)) (fun i _ => N - (intOf i).toNat)
  case atStart => exact ⟨rfl, 0, Nat.zero_le _, rfl, Lib.hid fun j x hj => by omega⟩
  case round =>
    obtain ⟨rfl, k, hk, rfl, HK⟩ := hrel
    by_cases hkN : k < N
    · obtain ⟨x, hx⟩ : ∃ x, vs[k]? = some x := ⟨_, List.getElem?_eq_getElem (by rw [HN.out]; exact hkN)⟩
      obtain ⟨A, n, cap⟩ := x
      have e1 : decide ((k : Int) < (N : Int)) = true := decide_eq_true (by omega)
      have c0 : wr.cell? ⟨g, k, none⟩ = some (.slice A n cap) := by
        rw [HH.out.cell k]
        simp [hx, slV]
      have HX := Lib.hid hx
      have HKN := Lib.hid hkN
      clear hx hkN
      by_cases hn : 80 < n
      · have e2 : decide (80 < (n : Int)) = true := decide_eq_true (by omega)
        obtain rfl : R = false := by rw [← HR.out]; exact few_stop HX.out hn
        clear hn
        go_wp2
        go_ret
        exact ⟨rfl, rfl⟩
      · have e2 : decide (80 < (n : Int)) = false := decide_eq_false (by omega)
        have HK2 := Lib.hid (show ∀ j x, j < k + 1 → vs[j]? = some x → x.2.1 ≤ 80 from fun j x hj hjx => by
          rcases Nat.lt_or_ge j k with h1 | h1
          · exact HK.out j x h1 hjx
          · obtain rfl : j = k := by omega
            rw [HX.out] at hjx
            injection hjx with hjx
            subst hjx
            show n ≤ 80
            omega)
        clear hn HK
        go_wp2_with fail
        refine ⟨⟨trivial, k + 1, HKN.out, by go_num, HK2⟩, ?_⟩
        have := HKN.out
        simp [intOf]
        omega
    · obtain rfl : k = N := by omega
      obtain rfl : R = true := by rw [← HR.out]; exact few_end fun j x hj => HK.out j x (by rw [← HN.out]; exact hj)
      clear HK
      go_wp2
      go_ret
      exact ⟨rfl, rfl⟩
end Go.Proofs.Ytbihklfcdpgcgaa
