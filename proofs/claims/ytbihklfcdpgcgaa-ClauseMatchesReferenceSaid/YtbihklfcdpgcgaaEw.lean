/- The reference: Content, Same, Patches; the law's order. -/
import Derived.Test.YtbihklfcdpgcgaaEv
import Derived.Deep.DeepCutAuto
namespace Go.Proofs.Ytbihklfcdpgcgaa
open Go.RowKit

theorem load_ptg {ops : Array Oper} {rest : List Oper} {o : Oper} {a : Act} {W : World} {Q : Exit → Act → World → Prop} (hw : Region.wanted o (yielded ops a.tmps) = true) {x : Operand} (ho : o.op = .load 33 x) {g : Nat} {c : Cl} (hx : a.eval x = .pointer (some ⟨g, 4, none⟩))
    (hb : Blk W g 35 (clA c)) (h : wpList Try.prog ops Q rest (a.put o.dst (.agg (ptA c.pt))) W) : wpList Try.prog ops Q (o :: rest) a W := by
  unfold wpList
  rw [if_pos hw]
  refine .inl ?_
  unfold Oper.wp execOp
  simp only [ho, hx, Instr.loadAt, Instr.sureAddr, Sem.run_bind, Sem.run_pure, Result.andThen_ok, pt_load hb]
  exact h
set_option maxRecDepth 100000 in
set_option maxHeartbeats 8000000 in
theorem rContent_any (w : World) (a b : Cl) : Calls Try.prog 29 #[.agg (clA a), .agg (clA b)] w fun e w' => e = .returned (.bool (sameC a b)) ∧ Below w.heap.size w w' := by
  have kA : Blk ((w.alloc (.cells (clA a) 35)).alloc (.cells (clA b) 35)) w.heap.size 35 (clA a) := (Blk.new w _ _).alloc _
  have kB := Blk.new1 w (.cells (clA a) 35) 35 (clA b)
  have hb : Below w.heap.size w ((w.alloc (.cells (clA a) 35)).alloc (.cells (clA b) 35)) := ((Below.refl w.heap.size w).alloc (Nat.le_refl _) _).alloc (by simp) _
  have h1 : ∀ W : World, (Op.equalIn 10000 29 (.agg #[.int .i64 a.id.1, .int .i64 a.id.2]) (.agg #[.int .i64 b.id.1, .int .i64 b.id.2])).run Try.prog W = .ok (decide (a.id = b.id)) W := eq_st a.id b.id
  have h2 : ∀ W : World, (Op.equalIn 10000 29 (.agg #[.int .i64 a.after.1, .int .i64 a.after.2]) (.agg #[.int .i64 b.after.1, .int .i64 b.after.2])).run Try.prog W = .ok (decide (a.after = b.after)) W := eq_st a.after b.after
  have h3 : ∀ W : World, (Op.equalIn 10000 33 (.agg (ptA a.pt)) (.agg (ptA b.pt))).run Try.prog W = .ok (decide (a.pt = b.pt)) W := eq_pt a.pt b.pt
  have hs : sameC a b = (decide (a.id = b.id) && (decide (a.after = b.after) && decide (a.pt = b.pt))) := by unfold sameC; simp [Bool.decide_and]
  rw [hs]
  obtain ⟨b1, e1⟩ : ∃ q, decide (a.id = b.id) = q := ⟨_, rfl⟩
  obtain ⟨b2, e2⟩ : ∃ q, decide (a.after = b.after) = q := ⟨_, rfl⟩
  obtain ⟨b3, e3⟩ : ∃ q, decide (a.pt = b.pt) = q := ⟨_, rfl⟩
  rw [e1] at h1 ⊢
  rw [e2] at h2 ⊢
  rw [e3] at h3 ⊢
  clear e1 e2 e3 hs
  obtain ⟨a0, a1, a2, a3, -⟩ := cl_cells kA
  obtain ⟨c0, c1, c2, c3, -⟩ := cl_cells kB
  have KA := Lib.hid kA
  have KB := Lib.hid kB
  clear kA kB
  obtain ⟨CA, hCA⟩ : ∃ x, clA a = x := ⟨_, rfl⟩
  obtain ⟨CB, hCB⟩ : ∃ x, clA b = x := ⟨_, rfl⟩
  obtain ⟨PA, hPA⟩ : ∃ x, ptA a.pt = x := ⟨_, rfl⟩
  obtain ⟨PB, hPB⟩ : ∃ x, ptA b.pt = x := ⟨_, rfl⟩
  rw [hPA, hPB] at h3
  rw [hCA, hCB] at KA KB hb a0 a1 a2 a3 c0 c1 c2 c3 ⊢
  have HCA := Lib.hid hCA
  have HCB := Lib.hid hCB
  have HPA := Lib.hid hPA
  have HPB := Lib.hid hPB
  clear hCA hCB hPA hPB
  go_enter Try.func29, Try.ntmps29
  go_upto_region 1 with fail
  generalize (w.alloc (.cells CA 35)).alloc (.cells CB 35) = W at *
  cases b1 with
  | false =>
    go_wp2
    go_ret
    exact ⟨rfl, hb⟩
  | true =>
    cases b2 with
    | false =>
      go_wp2
      go_ret
      exact ⟨rfl, hb⟩
    | true =>
      go_wp2_with (first
        | (refine load_ptg (x := .tmp 18) rfl rfl (g := w.heap.size) rfl (c := a) (by rw [HCA.out]; exact KA.out) ?_; rw [HPA.out])
        | (refine load_ptg (x := .tmp 20) rfl rfl (g := w.heap.size + 1) rfl (c := b) (by rw [HCB.out]; exact KB.out) ?_; rw [HPB.out]))
      go_ret
      exact ⟨by cases b3 <;> rfl, hb⟩

theorem exec_load_at {ev : Operand → Value} {o : Oper} {W : World} {x : Operand} (ho : o.op = .load 35 x) {B g off i : Nat} {A : Option Addr} {l : List Cl} (hx : ev x = .pointer (some ⟨g, off + i * 20, none⟩))
    (hr : ClsAt W B A l) (hA : A = some ⟨g, off, none⟩) {c : Cl} (hi : l[i]? = some c) : (execOp ev o).run Try.prog W = .ok (.value (.agg (clA c))) W := by
  unfold execOp
  simp only [ho, hx, Instr.loadAt, Instr.sureAddr, Sem.run_bind, Sem.run_pure, Result.andThen_ok, at_load hr hi hA]
theorem ClsAt.drewN {w : World} {B : Nat} {A : Option Addr} {l : List Cl} (h : ClsAt w B A l) (n : Nat) : ClsAt (w.drewN n) B A l := h
theorem ClsAt.drew {w : World} {B : Nat} {A : Option Addr} {l : List Cl} (h : ClsAt w B A l) : ClsAt w.drew B A l := h
theorem eq_step {α : Type} {l m : List α} {k : Nat} {x : α} (h : l.take k = m.take k) (hx : l[k]? = some x) (hy : m[k]? = some x) : l.take (k + 1) = m.take (k + 1) := by
  rw [List.take_add_one, List.take_add_one, h, hx, hy]
set_option maxRecDepth 100000 in
set_option maxHeartbeats 8000000 in
theorem rSame_any (w : World) (B1 B2 : Nat) (A1 A2 : Option Addr) (cap1 cap2 : Nat) (l m : List Cl) (h1 : ClsAt w B1 A1 l) (h2 : ClsAt w B2 A2 m) (hl : l.length ≤ 1000000) (hm : m.length ≤ 1000000) :
    Calls Try.prog 16 #[.slice A1 l.length cap1, .slice A2 m.length cap2] w fun e w' => e = .returned (.bool (decide (l = m))) ∧ ∃ n, w' = w.drewN n := by
  have H1 := Lib.hid h1
  have H2 := Lib.hid h2
  obtain ⟨N, hN⟩ : ∃ N, l.length = N := ⟨_, rfl⟩
  obtain ⟨M, hM⟩ : ∃ M, m.length = M := ⟨_, rfl⟩
  obtain ⟨R, hR⟩ : ∃ R, decide (l = m) = R := ⟨_, rfl⟩
  rw [hN] at hl ⊢
  rw [hM] at hm ⊢
  rw [hR]
  have HN := Lib.hid hN
  have HM := Lib.hid hM
  have HR := Lib.hid hR
  clear h1 h2 hN hM hR
  go_enter Try.func16, Try.ntmps16
  by_cases hNM : N = M
  · subst hNM
    go_wp2_with fail
    go_loopw [5] (fun i wr => ∃ k nq : Nat, wr = w.drewN nq ∧ k ≤ N ∧ i = .int .i64 (k : Int) ∧ Hid (l.take k = m.take k)) (fun i _ => N - (intOf i).toNat)
    case atStart => exact ⟨0, 0, rfl, Nat.zero_le _, rfl, Lib.hid rfl⟩
    case round =>
      obtain ⟨k, nq, rfl, hk, rfl, HK⟩ := hrel
      by_cases hkN : k < N
      · obtain ⟨c, hc⟩ : ∃ c, l[k]? = some c := ⟨_, List.getElem?_eq_getElem (by rw [HN.out]; exact hkN)⟩
        obtain ⟨d, hd⟩ : ∃ d, m[k]? = some d := ⟨_, List.getElem?_eq_getElem (by rw [HM.out]; exact hkN)⟩
        obtain ⟨g1, o1, rfl, -, -⟩ := H1.out k c hc
        obtain ⟨g2, o2, rfl, -, -⟩ := H2.out k d hd
        have e1 : decide ((k : Int) < (N : Int)) = true := decide_eq_true (by omega)
        have hez := eq_cl c d
        have HKN := Lib.hid hkN
        have HC := Lib.hid hc
        have HD := Lib.hid hd
        have HEZ := Lib.hid hez
        clear hc hd hez hkN
        go_upto_region 6 with fail
        refine wp_region_hold (fun W => ClsAt W B1 (some ⟨g1, o1, none⟩) l ∧ ClsAt W B2 (some ⟨g2, o2, none⟩) m) [0, 1, 2, 3, 4, 5, 6, 7] [] [8] (by kernel_rfl) (by kernel_rfl) (fun _ d _ _ _ h => by cases d <;> exact h) ⟨H1.out.drewN (nq + 1), H2.out.drewN (nq + 1)⟩ ?_
        simp only [pick, List.drop_succ_cons, List.drop_zero, List.head?_cons, Option.toList_some, List.cons_append, List.nil_append, List.append_nil]
        have hkN := HKN.out
        iterate 3 (refine wpHeld_step ?_ rfl ?_ ?_; rotate_left; · (intro W hW; go_simp; with_reducible rfl))
        refine wpHeld_step ?_ rfl ?_ ?_
        rotate_left
        · intro W hW; refine exec_load_at (x := .tmp 19) ?_ ?_ hW.1 rfl HC.out <;> rfl
        iterate 3 (refine wpHeld_step ?_ rfl ?_ ?_; rotate_left; · (intro W hW; go_simp; with_reducible rfl))
        refine wpHeld_step ?_ rfl ?_ ?_
        rotate_left
        · intro W hW; refine exec_load_at (x := .tmp 23) ?_ ?_ hW.2 rfl HD.out <;> rfl
        refine wpHeld_nil ?_
        simp only [wpEarly]
        have hez := HEZ.out
        clear HEZ
        by_cases he : c = d
        · have HK2 := Lib.hid (eq_step HK.out HC.out (by rw [he]; exact HD.out))
          rw [decide_eq_true he] at hez
          clear he HK HC HD
          generalize clA c = CC at *
          generalize clA d = CD at *
          go_wp2_with fail
          refine ⟨⟨k + 1, nq + 1, rfl, HKN.out, by go_num, HK2⟩, ?_⟩
          have := HKN.out
          simp [intOf]
          omega
        · obtain rfl : R = false := by
            rw [← HR.out]
            refine decide_eq_false fun e => he ?_
            have h3 := HC.out
            rw [e, HD.out] at h3
            exact (Option.some.inj h3).symm
          rw [decide_eq_false he] at hez
          clear he HK HC HD
          generalize clA c = CC at *
          generalize clA d = CD at *
          go_wp2
          go_ret
          exact ⟨rfl, nq + 1, rfl⟩
      · obtain rfl : k = N := by omega
        obtain rfl : R = true := by
          rw [← HR.out]
          refine decide_eq_true ?_
          have h3 := HK.out
          rw [← HN.out, List.take_length, HN.out, ← HM.out, List.take_length] at h3
          exact h3
        clear HK
        go_wp2
        go_ret
        exact ⟨rfl, nq, rfl⟩
  · have e1 : ((N : Int) != (M : Int)) = true := by simpa using fun h => hNM (by omega)
    obtain rfl : R = false := by
      rw [← HR.out]
      refine decide_eq_false fun e => hNM ?_
      rw [← HN.out, ← HM.out, e]
    go_wp2
    go_ret
    exact ⟨rfl, 0, rfl⟩
end Go.Proofs.Ytbihklfcdpgcgaa
