/- The law's order. -/
import Derived.Test.YtbihklfcdpgcgaaFc
namespace Go.Proofs.Ytbihklfcdpgcgaa
open Go.RowKit

/-- The cells of some stamps. -/
def sts (l : List St2) : Array Value := (l.flatMap fun s => (stA s).toList).toArray
theorem sts_at {l : List St2} {k : Nat} {s : St2} (h : l[k]? = some s) : (sts l)[k * 2]? = some (.int .i64 s.1) ∧ (sts l)[k * 2 + 1]? = some (.int .i64 s.2) := by
  unfold sts
  have h0 := flat_at (f := fun s : St2 => (stA s).toList) (k := 2) (fun _ => rfl) h (j := 0) (by decide)
  have h1 := flat_at (f := fun s : St2 => (stA s).toList) (k := 2) (fun _ => rfl) h (j := 1) (by decide)
  rw [List.getElem?_toArray, List.getElem?_toArray]
  exact ⟨h0, h1⟩
set_option maxRecDepth 100000 in
set_option maxHeartbeats 8000000 in
theorem order_any (w : World) {base p b n : Nat} {L : List Cl} (h : PP w base p b n L) (hn : n ≤ 100000) (g : Nat) (ids : List St2) (hg : Blk w g 29 (sts ids)) (hi : ids.length ≤ 1000) :
    Calls Try.prog 31 #[.pointer (some ⟨p, 0, none⟩), .slice (some ⟨g, 0, none⟩) ids.length ids.length] w fun e w' => e = .returned (.bool (decide ((walkS L).map (fun c => c.id) = ids))) ∧ Below w.heap.size w w' := by
  have HLS := Lib.hid (pp_list w h hn)
  have hSl : (walkS L).length ≤ 1000000 := by rw [walk_len h.pg]; have := h.len; omega
  obtain ⟨S, hS⟩ : ∃ S, walkS L = S := ⟨_, rfl⟩
  obtain ⟨N, hN⟩ : ∃ N, S.length = N := ⟨_, rfl⟩
  obtain ⟨M, hM⟩ : ∃ M, ids.length = M := ⟨_, rfl⟩
  obtain ⟨R, hR⟩ : ∃ R, decide (S.map (fun c => c.id) = ids) = R := ⟨_, rfl⟩
  rw [hS] at HLS hSl ⊢
  rw [hR]
  rw [hN] at hSl
  rw [hM] at hi ⊢
  have HG := Lib.hid hg
  have HN := Lib.hid hN
  have HM := Lib.hid hM
  have HR := Lib.hid hR
  clear h hn hS hN hM hR hg
  go_enter Try.func31, Try.ntmps31
  go_wp2_with fail
  refine HLS.out.mono ?_
  rintro e w1 ⟨v, rfl, o1, b1⟩
  obtain ⟨A, cap, hv, hA⟩ := o1.form
  rw [HN.out] at hv
  subst hv
  have HA := Lib.hid hA
  have HB := Lib.hid b1
  have HG1 := Lib.hid (HG.out.below b1 HG.out.lt)
  clear o1 hA b1 HLS HG
  by_cases hNM : N = M
  · subst hNM
    go_wp2_with fail
    go_loopw [6] (fun i wr => ∃ k q0 : Nat, wr = w1.drewN q0 ∧ k ≤ N ∧ i = .int .i64 (k : Int) ∧ Hid ((S.map (fun c => c.id)).take k = ids.take k)) (fun i _ => N - (intOf i).toNat)
    case atStart => exact ⟨0, 0, rfl, Nat.zero_le _, rfl, Lib.hid rfl⟩
    case round =>
      obtain ⟨k, q0, rfl, hk, rfl, HK⟩ := hrel
      by_cases hkN : k < N
      · obtain ⟨c, hc⟩ : ∃ c, S[k]? = some c := ⟨_, List.getElem?_eq_getElem (by rw [HN.out]; exact hkN)⟩
        obtain ⟨s, hs⟩ : ∃ s, ids[k]? = some s := ⟨_, List.getElem?_eq_getElem (by rw [HM.out]; exact hkN)⟩
        obtain ⟨g1, off, rfl, -, -⟩ := HA.out k c hc
        have e1 : decide ((k : Int) < (N : Int)) = true := decide_eq_true (by omega)
        obtain ⟨d0, d1, -, -, -⟩ := HA.out.at_ hc rfl
        have s0 : w1.cell? ⟨g, k * 2, none⟩ = some (.int .i64 s.1) := (HG1.out.cell _).trans (sts_at hs).1
        have s1 : w1.cell? ⟨g, k * 2 + 1, none⟩ = some (.int .i64 s.2) := (HG1.out.cell _).trans (sts_at hs).2
        have hez : ∀ W : World, (Op.equalIn 10000 29 (.agg #[.int .i64 c.id.1, .int .i64 c.id.2]) (.agg #[.int .i64 s.1, .int .i64 s.2])).run Try.prog W = .ok (decide (c.id = s)) W := eq_st c.id s
        have HKN := Lib.hid hkN
        have HC := Lib.hid (show (S.map (fun c => c.id))[k]? = some c.id by rw [List.getElem?_map, hc]; rfl)
        have HS := Lib.hid hs
        clear hc hs
        by_cases he : c.id = s
        · have HK2 := Lib.hid (eq_step HK.out HC.out (by rw [he]; exact HS.out))
          rw [decide_eq_true he] at hez
          clear he HK HC HS
          go_wp2_with fail
          go_quiet (fail)
          go_wp2_with fail
          refine ⟨⟨k + 1, q0 + nq, rfl, HKN.out, by go_num, HK2⟩, ?_⟩
          have := HKN.out
          simp [intOf]
          omega
        · obtain rfl : R = false := by
            rw [← HR.out]
            refine decide_eq_false fun e => he ?_
            have h3 := HC.out
            rw [e, HS.out] at h3
            exact (Option.some.inj h3).symm
          rw [decide_eq_false he] at hez
          clear he HK HC HS
          go_wp2_with fail
          go_quiet (fail)
          go_wp2
          go_ret
          exact ⟨rfl, below_drewN (below_drewN HB.out q0) _⟩
      · obtain rfl : k = N := by omega
        obtain rfl : R = true := by
          rw [← HR.out]
          refine decide_eq_true ?_
          have h3 := HK.out
          rw [List.take_of_length_le (by rw [List.length_map, HN.out]; exact Nat.le_refl _), List.take_of_length_le (by rw [HM.out]; exact Nat.le_refl _)] at h3
          exact h3
        clear HK
        go_wp2
        go_ret
        exact ⟨rfl, below_drewN HB.out q0⟩
  · have e1 : ((N : Int) != (M : Int)) = true := by simpa using fun h => hNM (by omega)
    obtain rfl : R = false := by
      rw [← HR.out]
      refine decide_eq_false fun e => hNM ?_
      rw [← HN.out, ← HM.out, ← e, List.length_map]
    go_wp2
    go_ret
    exact ⟨rfl, HB.out⟩
end Go.Proofs.Ytbihklfcdpgcgaa
