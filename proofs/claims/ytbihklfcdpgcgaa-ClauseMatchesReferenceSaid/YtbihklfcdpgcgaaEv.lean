/- The reference: Open, Find. -/
import Derived.Test.YtbihklfcdpgcgaaEu
namespace Go.Proofs.Ytbihklfcdpgcgaa
open Go.RowKit

theorem ClsAt.at_ {w : World} {B : Nat} {A : Option Addr} {l : List Cl} (h : ClsAt w B A l) {i : Nat} {c : Cl} (hi : l[i]? = some c) {g off : Nat} (hA : A = some ⟨g, off, none⟩) :
    w.cell? ⟨g, off + i * 20, none⟩ = some (.int .i64 c.id.1) ∧ w.cell? ⟨g, off + i * 20 + 1, none⟩ = some (.int .i64 c.id.2) ∧ w.cell? ⟨g, off + i * 20 + 2, none⟩ = some (.int .i64 c.after.1) ∧ w.cell? ⟨g, off + i * 20 + 3, none⟩ = some (.int .i64 c.after.2) ∧ w.cell? ⟨g, off + i * 20 + 19, none⟩ = some (.bool c.gone) := by
  obtain ⟨g', off', h1, _, h3⟩ := h i c hi
  rw [hA] at h1
  obtain ⟨rfl, rfl⟩ : g = g' ∧ off = off' := by
    have h4 := Option.some.inj h1
    exact ⟨congrArg Addr.block h4, congrArg Addr.off h4⟩
  exact ⟨h3 0 _ rfl, h3 1 _ rfl, h3 2 _ rfl, h3 3 _ rfl, h3 19 _ rfl⟩
theorem openN_take {l : List Cl} {k : Nat} {c : Cl} (h : l[k]? = some c) : openN (l.take (k + 1)) = openN (l.take k) + (if c.gone then 0 else 1) := by
  rw [List.take_add_one, h]
  unfold openN
  rw [List.countP_append]
  cases hg : c.gone <;> simp [hg]
theorem below_drewN {B : Nat} {a w : World} (h : Below B a w) (n : Nat) : Below B a (w.drewN n) := ⟨h.os, h.tape, h.output, h.size, h.block⟩
set_option maxRecDepth 100000 in
set_option maxHeartbeats 4000000 in
theorem rOpen_any (w : World) (B : Nat) (A : Option Addr) (cap : Nat) (l : List Cl) (h : ClsAt w B A l) (hl : l.length ≤ 1000000) :
    Calls Try.prog 26 #[.slice A l.length cap] w fun e w' => e = .returned (.int .i64 (openN l : Nat)) ∧ w' = w := by
  have HH := Lib.hid h
  obtain ⟨N, hN⟩ : ∃ N, l.length = N := ⟨_, rfl⟩
  rw [hN] at hl ⊢
  have HN := Lib.hid hN
  clear h hN
  go_enter Try.func26, Try.ntmps26
  go_wp2_with fail
  go_loopw [3, 4] (fun n i wr => wr = w ∧ ∃ k m : Nat, k ≤ N ∧ m ≤ k ∧ i = .int .i64 (k : Int) ∧ n = .int .i64 (m : Int) ∧ Hid (openN (l.take k) = m)) (fun _ i _ => N - (intOf i).toNat)
  case atStart => exact ⟨rfl, 0, 0, Nat.zero_le _, Nat.le_refl _, rfl, rfl, Lib.hid rfl⟩
  case round =>
    obtain ⟨rfl, k, m, hk, hm, rfl, rfl, HM⟩ := hrel
    by_cases hkN : k < N
    · obtain ⟨c, hc⟩ : ∃ c, l[k]? = some c := ⟨_, List.getElem?_eq_getElem (by rw [HN.out]; exact hkN)⟩
      obtain ⟨g, off, rfl, -, -⟩ := HH.out k c hc
      have e1 : decide ((k : Int) < (N : Int)) = true := decide_eq_true (by omega)
      obtain ⟨-, -, -, -, c19⟩ := HH.out.at_ hc rfl
      have hot := openN_take hc
      have HKN := Lib.hid hkN
      have HML := Lib.hid hm
      clear hc hkN
      cases hgo : c.gone with
      | true =>
        rw [hgo] at c19 hot
        have HM2 := Lib.hid (show openN (l.take (k + 1)) = m by rw [hot, HM.out]; rfl)
        clear hot HM hgo
        go_wp2_with fail
        refine ⟨⟨trivial, k + 1, m, HKN.out, Nat.le_succ_of_le HML.out, by go_num, rfl, HM2⟩, ?_⟩
        have := HKN.out
        simp [intOf]
        omega
      | false =>
        rw [hgo] at c19 hot
        have HM2 := Lib.hid (show openN (l.take (k + 1)) = m + 1 by rw [hot, HM.out]; rfl)
        clear hot HM hgo
        go_wp2_with fail
        refine ⟨⟨trivial, k + 1, m + 1, HKN.out, Nat.succ_le_succ HML.out, by go_num, by go_num, HM2⟩, ?_⟩
        have := HKN.out
        simp [intOf]
        omega
    · obtain rfl : k = N := by omega
      have hR : openN l = m := by
        have := HM.out
        rwa [← HN.out, List.take_length] at this
      have HR := Lib.hid hR
      clear HM hR
      go_wp2
      go_ret
      exact ⟨by rw [HR.out]; rfl, rfl⟩

def findS (l : List Cl) (t : St2) : Int := match l.findIdx? fun c => decide (c.id = t) with | some k => (k : Int) | none => -1
theorem find_at {l : List Cl} {t : St2} {k : Nat} {c : Cl} (h : ∀ j d, j < k → l[j]? = some d → d.id ≠ t) (hk : l[k]? = some c) (hc : c.id = t) : findS l t = (k : Int) := by
  have : l.findIdx? (fun c => decide (c.id = t)) = some k := by
    rw [List.findIdx?_eq_some_iff_getElem]
    obtain ⟨hlt, he⟩ := List.getElem?_eq_some_iff.1 hk
    exact ⟨hlt, by rw [he]; simpa using hc, fun j hj => by simpa using h j _ hj (List.getElem?_eq_getElem (by omega))⟩
  unfold findS
  rw [this]
theorem find_no {l : List Cl} {t : St2} (h : ∀ j d, j < l.length → l[j]? = some d → d.id ≠ t) : findS l t = -1 := by
  have : l.findIdx? (fun c => decide (c.id = t)) = none := by
    rw [List.findIdx?_eq_none_iff]
    intro c hc
    obtain ⟨j, hj⟩ := List.getElem?_of_mem hc
    simpa using h j c (List.getElem?_eq_some_iff.1 hj).1 hj
  unfold findS
  rw [this]
set_option maxRecDepth 100000 in
set_option maxHeartbeats 4000000 in
theorem rFind_any (w : World) (B : Nat) (A : Option Addr) (cap : Nat) (l : List Cl) (h : ClsAt w B A l) (hB : B ≤ w.heap.size) (hl : l.length ≤ 1000000) (t : St2) :
    Calls Try.prog 27 #[.slice A l.length cap, .agg (stA t)] w fun e w' => e = .returned (.int .i64 (findS l t)) ∧ Below w.heap.size w w' := by
  have hb := (Below.refl w.heap.size w).alloc (Nat.le_refl _) (.cells (stA t) 29)
  have kb := Blk.new w 29 (stA t)
  have HH := Lib.hid ((h.wide hB).below hb)
  have s0 : (w.alloc (.cells (stA t) 29)).cell? ⟨w.heap.size, 0, none⟩ = some (.int .i64 t.1) := kb.cell 0
  have s1 : (w.alloc (.cells (stA t) 29)).cell? ⟨w.heap.size, 1, none⟩ = some (.int .i64 t.2) := kb.cell 1
  obtain ⟨N, hN⟩ : ∃ N, l.length = N := ⟨_, rfl⟩
  obtain ⟨R, hR⟩ : ∃ R, findS l t = R := ⟨_, rfl⟩
  rw [hN] at hl ⊢
  rw [hR]
  have HN := Lib.hid hN
  have HR := Lib.hid hR
  have HB := Lib.hid hb
  clear h hN hR kb hb
  obtain ⟨ST, hST⟩ : ∃ x, stA t = x := ⟨_, rfl⟩
  rw [hST] at HH HB s0 s1 ⊢
  clear hST
  go_enter Try.func27, Try.ntmps27
  go_wp2_with fail
  generalize w.alloc (.cells ST 29) = W at *
  go_loopw [5] (fun i wr => ∃ k q0 : Nat, wr = W.drewN q0 ∧ k ≤ N ∧ i = .int .i64 (k : Int) ∧ Hid (∀ j d, j < k → l[j]? = some d → d.id ≠ t)) (fun i _ => N - (intOf i).toNat)
  case atStart => exact ⟨0, 0, rfl, Nat.zero_le _, rfl, Lib.hid fun j x hj => by omega⟩
  case round =>
    obtain ⟨k, q0, rfl, hk, rfl, HK⟩ := hrel
    by_cases hkN : k < N
    · obtain ⟨c, hc⟩ : ∃ c, l[k]? = some c := ⟨_, List.getElem?_eq_getElem (by rw [HN.out]; exact hkN)⟩
      obtain ⟨g, off, rfl, -, -⟩ := HH.out k c hc
      have e1 : decide ((k : Int) < (N : Int)) = true := decide_eq_true (by omega)
      obtain ⟨d0, d1, -, -, -⟩ := HH.out.at_ hc rfl
      have hez : ∀ W : World, (Op.equalIn 10000 29 (.agg #[.int .i64 c.id.1, .int .i64 c.id.2]) (.agg #[.int .i64 t.1, .int .i64 t.2])).run Try.prog W = .ok (decide (c.id = t)) W := eq_st c.id t
      have HKN := Lib.hid hkN
      have HC := Lib.hid hc
      clear hc hkN
      by_cases he : c.id = t
      · rw [decide_eq_true he] at hez
        obtain rfl : R = (k : Int) := by rw [← HR.out]; exact find_at HK.out HC.out he
        clear he HK HR
        go_wp2_with fail
        go_quiet (fail)
        go_wp2
        go_ret
        exact ⟨rfl, below_drewN (below_drewN HB.out q0) _⟩
      · rw [decide_eq_false he] at hez
        have HK2 := Lib.hid (show ∀ j d, j < k + 1 → l[j]? = some d → d.id ≠ t from fun j x hj hjx => by
          rcases Nat.lt_or_ge j k with h1 | h1
          · exact HK.out j x h1 hjx
          · obtain rfl : j = k := by omega
            rw [HC.out] at hjx
            injection hjx with hjx
            subst hjx
            exact he)
        clear he HK
        go_wp2_with fail
        go_quiet (fail)
        go_wp2_with fail
        refine ⟨⟨k + 1, _, rfl, HKN.out, by go_num, HK2⟩, ?_⟩
        have := HKN.out
        simp [intOf]
        omega
    · obtain rfl : k = N := by omega
      obtain rfl : R = -1 := by rw [← HR.out]; exact find_no fun j x hj => HK.out j x (by rw [← HN.out]; exact hj)
      clear HK HR
      go_wp2
      go_ret
      exact ⟨rfl, below_drewN HB.out _⟩
end Go.Proofs.Ytbihklfcdpgcgaa
