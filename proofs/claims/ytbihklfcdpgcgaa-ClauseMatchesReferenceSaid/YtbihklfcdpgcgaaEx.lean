/- The reference: Patches compared. -/
import Derived.Test.YtbihklfcdpgcgaaEw
namespace Go.Proofs.Ytbihklfcdpgcgaa
open Go.RowKit

/-- The cells of a slice of patches, in blocks below B. -/
def PtsAt (w : World) (B : Nat) (A : Option Addr) (l : List Pt) : Prop :=
  ∀ (i : Nat) (c : Pt), l[i]? = some c → ∃ g off, A = some ⟨g, off, none⟩ ∧ g < B ∧ ∀ (k : Nat) (v : Value), (encP c)[k]? = some v → w.cell? ⟨g, off + i * 15 + k, none⟩ = some v
theorem PtsAt.below {w w' : World} {B : Nat} {A : Option Addr} {l : List Pt} (h : PtsAt w B A l) (hb : Below B w w') : PtsAt w' B A l := fun i c hi => by
  obtain ⟨g, off, h1, h2, h3⟩ := h i c hi
  exact ⟨g, off, h1, h2, fun k v hv => (hb.cell (p := ⟨g, off + i * 15 + k, none⟩) h2).trans (h3 k v hv)⟩
theorem PtsAt.wide {w : World} {B B' : Nat} {A : Option Addr} {l : List Pt} (h : PtsAt w B A l) (hB : B ≤ B') : PtsAt w B' A l := fun i c hi => by
  obtain ⟨g, off, h1, h2, h3⟩ := h i c hi
  exact ⟨g, off, h1, by omega, h3⟩
theorem PtsAt.nil (w : World) (B : Nat) (A : Option Addr) : PtsAt w B A [] := fun i c hi => by simp at hi
/-- A slice of the call's own is such a one. -/
theorem OwnPts.form {w : World} {base : Nat} {v : Value} {l : List Pt} (h : OwnPts w base v l) : ∃ A cap, v = .slice A l.length cap ∧ PtsAt w w.heap.size A l := by
  rcases h.2 with ⟨rfl, h0⟩ | ⟨g, cap, cur, rfl, hbase, hb, hn, hcap, hcs, htake⟩
  · have : l = [] := List.eq_nil_of_length_eq_zero h0
    subst this
    exact ⟨none, 0, rfl, PtsAt.nil _ _ _⟩
  · refine ⟨some ⟨g, 0, none⟩, cap, rfl, fun i c hi => ⟨g, 0, rfl, (h.lt g rfl).2, fun k v hv => ?_⟩⟩
    have hk : k < 15 := by
      have := (List.getElem?_eq_some_iff.1 hv).1
      rwa [encP_len] at this
    have hil : i < l.length := (List.getElem?_eq_some_iff.1 hi).1
    unfold OwnPts at h
    rw [Nat.zero_add, h.cellAt (i * 15 + k) (by omega)]
    exact (flat_at encP_len hi hk).trans hv
theorem at_loadP {W : World} {B : Nat} {A : Option Addr} {l : List Pt} (h : PtsAt W B A l) {i : Nat} {c : Pt} (hi : l[i]? = some c) {g off : Nat} (hA : A = some ⟨g, off, none⟩) :
    (loadVar 33 ⟨g, off + i * 15, none⟩).run Try.prog W = .ok (.agg (ptA c)) W := by
  obtain ⟨g', off', h1, _, h3⟩ := h i c hi
  rw [hA] at h1
  obtain ⟨rfl, rfl⟩ : g = g' ∧ off = off' := by
    have h4 := Option.some.inj h1
    exact ⟨congrArg Addr.block h4, congrArg Addr.off h4⟩
  have hl : (loadCells ⟨g, off + i * 15, none⟩ (ptA c).toList.length).run Try.prog W = .ok (ptA c).toList.toArray W :=
    run_loadCells_list (P := Try.prog) W ⟨g, off + i * 15, none⟩ (ptA c).toList (fun j v hv => by
      have hadd : (⟨g, off + i * 15, none⟩ : Addr).add j = ⟨g, off + i * 15 + j, none⟩ := by unfold Addr.add; split <;> simp_all
      rw [hadd]
      exact h3 j v hv)
  rw [Array.length_toList, Array.toArray_toList, ptA_size] at hl
  have hagg : (isAgg 33).run Try.prog W = .ok true W := by
    unfold isAgg
    rw [Sem.run_bind, run_underlying Try.underlying33 W]
    rfl
  have hsz := Try.sizeOf33 W
  unfold loadVar
  rw [Sem.run_bind, hagg]
  simp only [Result.andThen_ok, if_true]
  rw [Sem.run_bind, hsz]
  simp only [Result.andThen_ok]
  rw [Sem.run_bind, hl]
  rfl
theorem exec_load_atP {ev : Operand → Value} {o : Oper} {W : World} {x : Operand} (ho : o.op = .load 33 x) {B g off i : Nat} {A : Option Addr} {l : List Pt} (hx : ev x = .pointer (some ⟨g, off + i * 15, none⟩))
    (hr : PtsAt W B A l) (hA : A = some ⟨g, off, none⟩) {c : Pt} (hi : l[i]? = some c) : (execOp ev o).run Try.prog W = .ok (.value (.agg (ptA c))) W := by
  unfold execOp
  simp only [ho, hx, Instr.loadAt, Instr.sureAddr, Sem.run_bind, Sem.run_pure, Result.andThen_ok, at_loadP hr hi hA]
theorem PtsAt.drewN {w : World} {B : Nat} {A : Option Addr} {l : List Pt} (h : PtsAt w B A l) (n : Nat) : PtsAt (w.drewN n) B A l := h
theorem PtsAt.drew {w : World} {B : Nat} {A : Option Addr} {l : List Pt} (h : PtsAt w B A l) : PtsAt w.drew B A l := h
set_option maxRecDepth 100000 in
set_option maxHeartbeats 8000000 in
theorem rPatches_any (w : World) (B1 B2 : Nat) (A1 A2 : Option Addr) (cap1 cap2 : Nat) (l m : List Pt) (h1 : PtsAt w B1 A1 l) (h2 : PtsAt w B2 A2 m) (hl : l.length ≤ 1000000) (hm : m.length ≤ 1000000) :
    Calls Try.prog 21 #[.slice A1 l.length cap1, .slice A2 m.length cap2] w fun e w' => e = .returned (.bool (decide (l = m))) ∧ ∃ n, w' = w.drewN n := by
  have H1 := Lib.hid h1
  have H2 := Lib.hid h2
  obtain ⟨N, hN⟩ : ∃ N, l.length = N := ⟨_, rfl⟩
  obtain ⟨M, hM⟩ : ∃ M, m.length = M := ⟨_, rfl⟩
  obtain ⟨R, hR⟩ : ∃ R, decide (l = m) = R := ⟨_, rfl⟩
  rw [hN] at hl ⊢
  rw [hM] at hm ⊢
  rw [hR]
  have HN := Lib.hid hN
  have HM := Lib.hid hM
  have HR := Lib.hid hR
  clear h1 h2 hN hM hR
  go_enter Try.func21, Try.ntmps21
  by_cases hNM : N = M
  · subst hNM
    go_wp2_with fail
    go_loopw [5] (fun i wr => ∃ k nq : Nat, wr = w.drewN nq ∧ k ≤ N ∧ i = .int .i64 (k : Int) ∧ Hid (l.take k = m.take k)) (fun i _ => N - (intOf i).toNat)
    case atStart => exact ⟨0, 0, rfl, Nat.zero_le _, rfl, Lib.hid rfl⟩
    case round =>
      obtain ⟨k, nq, rfl, hk, rfl, HK⟩ := hrel
      by_cases hkN : k < N
      · obtain ⟨c, hc⟩ : ∃ c, l[k]? = some c := ⟨_, List.getElem?_eq_getElem (by rw [HN.out]; exact hkN)⟩
        obtain ⟨d, hd⟩ : ∃ d, m[k]? = some d := ⟨_, List.getElem?_eq_getElem (by rw [HM.out]; exact hkN)⟩
        obtain ⟨g1, o1, rfl, -, -⟩ := H1.out k c hc
        obtain ⟨g2, o2, rfl, -, -⟩ := H2.out k d hd
        have e1 : decide ((k : Int) < (N : Int)) = true := decide_eq_true (by omega)
        have hez := eq_pt c d
        have HKN := Lib.hid hkN
        have HC := Lib.hid hc
        have HD := Lib.hid hd
        have HEZ := Lib.hid hez
        clear hc hd hez hkN
        go_upto_region 6 with fail
        refine wp_region_hold (fun W => PtsAt W B1 (some ⟨g1, o1, none⟩) l ∧ PtsAt W B2 (some ⟨g2, o2, none⟩) m) [0, 1, 2, 3, 4, 5, 6, 7] [] [8] (by kernel_rfl) (by kernel_rfl) (fun _ d _ _ _ h => by cases d <;> exact h) ⟨H1.out.drewN (nq + 1), H2.out.drewN (nq + 1)⟩ ?_
        simp only [pick, List.drop_succ_cons, List.drop_zero, List.head?_cons, Option.toList_some, List.cons_append, List.nil_append, List.append_nil]
        have hkN := HKN.out
        iterate 3 (refine wpHeld_step ?_ rfl ?_ ?_; rotate_left; · (intro W hW; go_simp; with_reducible rfl))
        refine wpHeld_step ?_ rfl ?_ ?_
        rotate_left
        · intro W hW; refine exec_load_atP (x := .tmp 19) ?_ ?_ hW.1 rfl HC.out <;> rfl
        iterate 3 (refine wpHeld_step ?_ rfl ?_ ?_; rotate_left; · (intro W hW; go_simp; with_reducible rfl))
        refine wpHeld_step ?_ rfl ?_ ?_
        rotate_left
        · intro W hW; refine exec_load_atP (x := .tmp 23) ?_ ?_ hW.2 rfl HD.out <;> rfl
        refine wpHeld_nil ?_
        simp only [wpEarly]
        have hez := HEZ.out
        clear HEZ
        by_cases he : c = d
        · have HK2 := Lib.hid (eq_step HK.out HC.out (by rw [he]; exact HD.out))
          rw [decide_eq_true he] at hez
          clear he HK HC HD
          generalize ptA c = CC at *
          generalize ptA d = CD at *
          go_wp2_with fail
          refine ⟨⟨k + 1, nq + 1, rfl, HKN.out, by go_num, HK2⟩, ?_⟩
          have := HKN.out
          simp [intOf]
          omega
        · obtain rfl : R = false := by
            rw [← HR.out]
            refine decide_eq_false fun e => he ?_
            have h3 := HC.out
            rw [e, HD.out] at h3
            exact (Option.some.inj h3).symm
          rw [decide_eq_false he] at hez
          clear he HK HC HD
          generalize ptA c = CC at *
          generalize ptA d = CD at *
          go_wp2
          go_ret
          exact ⟨rfl, nq + 1, rfl⟩
      · obtain rfl : k = N := by omega
        obtain rfl : R = true := by
          rw [← HR.out]
          refine decide_eq_true ?_
          have h3 := HK.out
          rw [← HN.out, List.take_length, HN.out, ← HM.out, List.take_length] at h3
          exact h3
        clear HK
        go_wp2
        go_ret
        exact ⟨rfl, nq, rfl⟩
  · have e1 : ((N : Int) != (M : Int)) = true := by simpa using fun h => hNM (by omega)
    obtain rfl : R = false := by
      rw [← HR.out]
      refine decide_eq_false fun e => hNM ?_
      rw [← HN.out, ← HM.out, e]
    go_wp2
    go_ret
    exact ⟨rfl, 0, rfl⟩
end Go.Proofs.Ytbihklfcdpgcgaa
