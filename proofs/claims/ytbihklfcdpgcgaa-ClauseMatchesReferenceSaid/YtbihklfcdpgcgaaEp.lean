/- Patches. -/
import Derived.Test.YtbihklfcdpgcgaaEo
namespace Go.Proofs.Ytbihklfcdpgcgaa
open Go.RowKit

theorem ptA_size (p : Pt) : (ptA p).size = 15 := rfl
def encP (p : Pt) : List Value := (ptA p).toList
theorem encP_len (p : Pt) : (encP p).length = 15 := rfl
theorem encP_one (p : Pt) : ∀ v ∈ encP p, v.oneCell' = true := by
  intro v hv
  simp only [encP, ptA, List.mem_cons, List.not_mem_nil, or_false] at hv
  rcases hv with rfl | rfl | rfl | rfl | rfl | rfl | rfl | rfl | rfl | rfl | rfl | rfl | rfl | rfl | rfl <;> rfl
def pts (l : List Pt) : List Value := l.flatMap encP
theorem pts_len (l : List Pt) : (pts l).length = l.length * 15 := flat_len encP_len l
theorem pts_snoc (l : List Pt) (p : Pt) : pts (l ++ [p]) = pts l ++ encP p := by unfold pts; simp
/-- A slice of patches of the call's own. -/
def OwnPts (w : World) (base : Nat) (v : Value) (l : List Pt) : Prop := w.ownsRow base 33 15 v l.length (pts l)
def live (L : List Cl) : List Pt := (L.filter fun c => !c.gone).map fun c => c.pt
theorem live_snoc (L : List Cl) (c : Cl) : live (L ++ [c]) = if c.gone then live L else live L ++ [c.pt] := by
  unfold live
  rw [List.filter_append]
  cases h : c.gone <;> simp [h]
/-- A clause's patch, loaded whole out of the clause's block. -/
theorem pt_load {W : World} {g : Nat} {c : Cl} (h : Blk W g 35 (clA c)) : (loadVar 33 ⟨g, 4, none⟩).run Try.prog W = .ok (.agg (ptA c.pt)) W := by
  have hl : (loadCells ⟨g, 4, none⟩ (ptA c.pt).toList.length).run Try.prog W = .ok (ptA c.pt).toList.toArray W :=
    run_loadCells_list (P := Try.prog) W ⟨g, 4, none⟩ (ptA c.pt).toList (fun j v hv => by
      have hj : j < 15 := by
        have := (List.getElem?_eq_some_iff.1 hv).1
        rwa [Array.length_toList, ptA_size] at this
      have hadd : (⟨g, 4, none⟩ : Addr).add j = ⟨g, 4 + j, none⟩ := by unfold Addr.add; split <;> simp_all
      rw [hadd, h.cell, ← hv]
      match j, hj with
      | 0, _ | 1, _ | 2, _ | 3, _ | 4, _ | 5, _ | 6, _ | 7, _ | 8, _ | 9, _ | 10, _ | 11, _ | 12, _ | 13, _ | 14, _ => rfl)
  rw [Array.length_toList, Array.toArray_toList, ptA_size] at hl
  have hagg : (isAgg 33).run Try.prog W = .ok true W := by
    unfold isAgg
    rw [Sem.run_bind, run_underlying Try.underlying33 W]
    rfl
  have hsz := Try.sizeOf33 W
  unfold loadVar
  rw [Sem.run_bind, hagg]
  simp only [Result.andThen_ok, if_true]
  rw [Sem.run_bind, hsz]
  simp only [Result.andThen_ok]
  rw [Sem.run_bind, hl]
  rfl
theorem load_pt {ops : Array Oper} {rest : List Oper} {o : Oper} {a : Act} {W : World} {Q : Exit → Act → World → Prop} (hgd : o.guard = none) {x : Operand} (ho : o.op = .load 33 x) {g : Nat} {c : Cl} (hx : a.eval x = .pointer (some ⟨g, 4, none⟩))
    (hb : Blk W g 35 (clA c)) (h : wpList Try.prog ops Q rest (a.put o.dst (.agg (ptA c.pt))) W) : wpList Try.prog ops Q (o :: rest) a W := by
  refine wpList_plain hgd fun _ hK => ?_
  unfold Oper.wp execOp
  simp only [ho, hx, Instr.loadAt, Instr.sureAddr, Sem.run_bind, Sem.run_pure, Result.andThen_ok, pt_load hb]
  exact hK _ _ h
def zpt : Pt := zcl.pt
theorem fold_pt (p : Pt) : Array.foldl (fun (cs : Array Value) (x : Value × Nat) => cs.setIfInBounds x.2 x.1) #[.int .i64 0, .string ⟨#[]⟩, .string ⟨#[]⟩, .string ⟨#[]⟩, .string ⟨#[]⟩, .int .i64 0, .string ⟨#[]⟩, .string ⟨#[]⟩, .string ⟨#[]⟩, .string ⟨#[]⟩, .string ⟨#[]⟩, .bool false, .int .i64 0, .string ⟨#[]⟩, .string ⟨#[]⟩] (ptA p).zipIdx 0 15 = ptA p := by kernel_rfl
theorem row_kind_ne {w : World} {B B' : Nat} {e e' : TypeId} {s s' n n' : Nat} {v v' : Value} {xs xs' : List Value} (h : w.ownsRow B e s v n xs) (h' : w.ownsRow B' e' s' v' n' xs') (hne : e ≠ e') : v.ownBlock = none ∨ v.ownBlock ≠ v'.ownBlock := by
  cases hv : v.ownBlock with
  | none => exact .inl rfl
  | some g =>
    right
    intro e
    obtain ⟨c, f, h1⟩ := Lib.ownsRow_kind h g hv
    obtain ⟨c', f', h2⟩ := Lib.ownsRow_kind h' g e.symm
    rw [h1] at h2
    injection h2 with h2
    injection h2 with _ h2
    exact hne h2
theorem live_take {S : List Cl} {k : Nat} {c : Cl} (h : S[k]? = some c) : live (S.take (k + 1)) = if c.gone then live (S.take k) else live (S.take k) ++ [c.pt] := by
  rw [List.take_add_one, h]
  exact live_snoc _ _
theorem pts_own {w : World} {base M : Nat} {v : Value} {l : List Pt} {p : Pt} (hM : l.length = M) (o : w.ownsRow base 33 15 v (M + 1) (pts l ++ encP p)) : OwnPts w base v (l ++ [p]) := by
  subst hM
  unfold OwnPts
  rw [List.length_append, pts_snoc]
  exact o
theorem Try.infoPt : (Try.prog.info? 33).map (fun i => (i.zero, i.size, i.bytes)) = some (some (.agg (ptA zpt)), 15, 208) := by kernel_rfl
set_option maxRecDepth 100000 in
set_option maxHeartbeats 8000000 in
theorem patches_any (w : World) (p b : Nat) (L : List Cl) (h : PgAt w p b L) (ht : Tr L) (hB : ∀ c ∈ L, -4000000 ≤ c.id.1 ∧ c.id.1 ≤ 4000000 ∧ -4000000 ≤ c.id.2 ∧ c.id.2 ≤ 4000000) (hl : L.length ≤ 1000000) :
    Calls Try.prog 22 #[.pointer (some ⟨p, 0, none⟩)] w fun e w' => ∃ v, e = .returned v ∧ OwnPts w' w.heap.size v (live (walkS L)) ∧ Below w.heap.size w w' := by
  have HLS := Lib.hid (list_any w p b L h ht hB hl)
  obtain ⟨S, hS⟩ : ∃ S, walkS L = S := ⟨_, rfl⟩
  have hSl : S.length ≤ 1000000 := by rw [← hS, (walk_perm ht).length_eq]; exact hl
  rw [hS] at HLS ⊢
  obtain ⟨i0, hi0, hz0, hz1, hz2⟩ := info_parts Try.infoPt
  have HSL := Lib.hid hSl
  clear h ht hB hl hS hSl
  go_enter Try.func22, Try.ntmps22
  go_wp2_with fail
  refine HLS.out.mono ?_
  rintro e w1 ⟨v, rfl, o1, b1⟩
  obtain ⟨N, hN⟩ : ∃ N, S.length = N := ⟨_, rfl⟩
  obtain ⟨A, cu, rfl, hA⟩ : ∃ A cu, v = .slice A N cu ∧ ∀ k, k < N → ∃ g, A = some ⟨g, 0, none⟩ := by
    rcases Joins.ownsRow_forms o1 with ⟨h1, h2⟩ | ⟨g, cap, hv⟩
    · exact ⟨none, 0, by rw [h1]; congr 1; omega, fun k hk => by omega⟩
    · exact ⟨some ⟨g, 0, none⟩, cap, by rw [hv, hN], fun _ _ => ⟨g, rfl⟩⟩
  have HN := Lib.hid hN
  have HA := Lib.hid hA
  have HO1 := Lib.hid (show w1.ownsRow w.heap.size 35 20 (.slice A N cu) N (cls S) from by
    have := o1
    unfold OwnCls at this
    rw [hN] at this
    exact this)
  have HB1 := Lib.hid b1
  clear o1 b1 hA hN HLS
  go_wp2_with fail
  go_loopw [9, 3] (fun i u wr => ∃ k : Nat, k ≤ N ∧ i = .int .i64 (k : Int) ∧ Below w.heap.size w wr ∧ Hid (wr.ownsRow w.heap.size 35 20 (.slice A N cu) N (cls S)) ∧ Hid (OwnPts wr w.heap.size u (live (S.take k)))) (fun i _ _ => N - (intOf i).toNat)
  case atStart => exact ⟨0, Nat.zero_le _, rfl, HB1.out, HO1, Lib.hid (World.ownsRow_nil _ _ _ _)⟩
  case round =>
    clear HO1 HB1
    obtain ⟨k, hk, rfl, hb, HO, HU⟩ := hrel
    have hsz := hb.size
    have hNl : N ≤ 1000000 := by rw [← HN.out]; exact HSL.out
    by_cases hkN : k < N
    · obtain ⟨g, rfl⟩ := HA.out k hkN
      obtain ⟨c, hc⟩ : ∃ c, S[k]? = some c := ⟨_, List.getElem?_eq_getElem (by rw [HN.out]; exact hkN)⟩
      have e1 : decide ((k : Int) < (N : Int)) = true := decide_eq_true (by omega)
      have hlt := live_take hc
      have hpc := put_cl wr c
      have hcz := clA_size c
      have k5 := Blk.new wr 35 (clA c)
      have cg : (wr.alloc (.cells (clA c) 35)).cell? ⟨wr.heap.size, 19, none⟩ = some (.bool c.gone) := k5.cell 19
      have hO2 := HO.out.alloc (.cells (clA c) 35)
      have hU2 := HU.out.alloc (.cells (clA c) 35)
      have hb2 := hb.alloc hb.size (.cells (clA c) 35)
      have HC := Lib.hid hc
      have HKN := Lib.hid hkN
      cases hgo : c.gone with
      | true =>
        rw [hgo] at cg hlt
        have HO2 := Lib.hid hO2
        have HU2 := Lib.hid (show OwnPts (wr.alloc (.cells (clA c) 35)) w.heap.size u3 (live (S.take (k + 1))) from by rw [hlt, if_pos rfl]; exact hU2)
        have HB2 := Lib.hid hb2
        clear hO2 hU2 hb2 hlt hc hkN hgo k5
        generalize hCC : clA c = CC at *
        have HCC := Lib.hid hCC
        clear hCC
        go_wp2_with (refine load_row rfl (x := .tmp 11) rfl rfl HO.out HN.out HC.out ?_; rw [HCC.out])
        refine ⟨⟨k + 1, HKN.out, by go_num, HB2.out, HO2, HU2⟩, ?_⟩
        have := HKN.out
        simp [intOf]
        omega
      | false =>
        rw [hgo] at cg hlt
        obtain ⟨PL, hPL⟩ : ∃ PL, live (S.take k) = PL := ⟨_, rfl⟩
        rw [hPL] at hU2 hlt
        obtain ⟨M, hM⟩ : ∃ M, PL.length = M := ⟨_, rfl⟩
        have hMl : M ≤ 1000000 := by
          rw [← hM, ← hPL]
          unfold live
          rw [List.length_map]
          exact Nat.le_trans (List.length_filter_le _ _) (Nat.le_trans (by rw [List.length_take]; omega) HSL.out)
        obtain ⟨B1, c1, rfl⟩ : ∃ B1 c1, u3 = .slice B1 M c1 := by
          rcases Joins.ownsRow_forms hU2 with ⟨h1, h2⟩ | ⟨g, cap, hv⟩
          · exact ⟨none, 0, by rw [h1]; congr 1; omega⟩
          · exact ⟨some ⟨g, 0, none⟩, cap, by rw [hv, hM]⟩
        have hne := row_kind_ne hO2 hU2 (by decide)
        have hU3 : ((wr.alloc (.cells (clA c) 35)).alloc (.cells (ptA c.pt) 33)).ownsRow w.heap.size 33 15 (.slice B1 M c1) M (pts PL) := by
          have := World.ownsRow.alloc hU2 (.cells (ptA c.pt) 33)
          rw [hM] at this
          exact this
        have HNE := Lib.hid hne
        have HU3 := Lib.hid hU3
        have HO3 := Lib.hid (hO2.alloc (.cells (ptA c.pt) 33))
        have HB3 := Lib.hid (hb2.alloc hb2.size (.cells (ptA c.pt) 33))
        have HK6 := Lib.hid (Blk.new1 wr (.cells (clA c) 35) 33 (ptA c.pt))
        have hfo := fold_pt c.pt
        have HONE := Lib.hid (encP_one c.pt)
        have HENC := Lib.hid (show encP c.pt = (ptA c.pt).toList from rfl)
        have HK5 := Lib.hid k5
        have HM := Lib.hid hM
        have HLT := Lib.hid hlt
        have hpz := ptA_size c.pt
        clear hO2 hU2 hU3 hb2 hlt hc hkN hgo k5 hne hPL hM
        generalize hPP : ptA c.pt = PP at *
        have HPP := Lib.hid hPP
        clear hPP
        generalize hCC : clA c = CC at *
        have HCC := Lib.hid hCC
        clear hCC
        go_wp2_with (first | (refine load_row rfl (x := .tmp 11) rfl rfl HO.out HN.out HC.out ?_; rw [HCC.out]) | (refine load_pt (c := c) rfl (x := .tmp 17) rfl rfl (by rw [HCC.out]; exact HK5.out) ?_; rw [HPP.out]) | (at_builtin; refine wpList_append_lies _ rfl _ _ 47 rfl w.heap.size 33 i0 _ 15 208 Try.underlying47 hi0 hz0 hz1 hz2 rfl (by omega) (.slice B1 M c1) M _ rfl HU3.out ⟨wr.heap.size + 1, 0, none⟩ 1 1 (encP c.pt) rfl rfl (by rw [HENC.out]; exact World.news_of_block HK6.out) HONE.out (by omega) (by unfold maxLen; omega) (by omega) (by simp; omega) (wr.heap.size + 2) (by simp) ?_; intro g9 cap9 w9 o9 gr9 l9 z9; have HO9 := Lib.hid o9; have HG9 := Lib.hid gr9; clear o9 gr9 l9))
        have hO9 := HO3.out.kept HG9.out HNE.out
        have hb9 := HB3.out.grown HG9.out (by simp; omega) (fun y hy => (HU3.out.lt y hy).1)
        refine ⟨⟨k + 1, HKN.out, by go_num, hb9, Lib.hid hO9, Lib.hid (by rw [HLT.out]; exact pts_own HM.out HO9.out)⟩, ?_⟩
        have := HKN.out
        simp [intOf]
        omega
    · obtain rfl : k = N := by omega
      have HR := Lib.hid (show OwnPts wr w.heap.size u3 (live S) from by
        have := HU.out
        rw [← HN.out, List.take_length] at this
        exact this)
      have HBb := Lib.hid hb
      clear HU hb
      go_wp2
      go_ret
      exact ⟨_, rfl, HR.out, HBb.out⟩
end Go.Proofs.Ytbihklfcdpgcgaa
