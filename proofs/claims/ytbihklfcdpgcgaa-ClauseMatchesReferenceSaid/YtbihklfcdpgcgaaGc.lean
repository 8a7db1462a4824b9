/- The reference's children. -/
import Derived.Test.YtbihklfcdpgcgaaGb
namespace Go.Proofs.Ytbihklfcdpgcgaa
open Go.RowKit

theorem insC_at (c : Cl) : ∀ {O : List Cl} {k : Nat}, k ≤ O.length → (∀ i y, i < k → O[i]? = some y → bef y c = true) → (∀ y, O[k]? = some y → bef y c = false) → insC c O = O.take k ++ c :: O.drop k
  | [], k, hk, _, _ => by simp at hk; subst hk; rfl
  | y :: O, 0, _, _, h2 => by
    unfold insC
    rw [if_neg (by rw [h2 y rfl]; simp)]
    rfl
  | y :: O, k + 1, hk, h1, h2 => by
    unfold insC
    rw [if_pos (h1 0 y (by omega) rfl), insC_at c (O := O) (k := k) (by simpa using hk) (fun i z hi hz => h1 (i + 1) z (by omega) (by simpa using hz)) (fun z hz => h2 z (by simpa using hz))]
    rfl
theorem OwnCls.drw {w : World} {B : Nat} {v : Value} {l : List Cl} (h : OwnCls w B v l) : OwnCls w.drew B v l := h
theorem OwnCls.low {w : World} {B B' : Nat} {v : Value} {l : List Cl} (h : OwnCls w B v l) (hB : B' ≤ B) : OwnCls w B' v l := ⟨h.1, h.2.imp id fun ⟨g, cap, cur, a, b, c⟩ => ⟨g, cap, cur, a, Nat.le_trans hB b, c⟩⟩
def kidsT (l : List Cl) (t : St2) (j : Nat) : List Cl := ((l.take j).filter fun c => decide (c.after = t)).foldl (fun a x => insC x a) []
theorem kidsT_step {l : List Cl} {t : St2} {j : Nat} {c : Cl} (h : l[j]? = some c) : kidsT l t (j + 1) = if c.after = t then insC c (kidsT l t j) else kidsT l t j := by
  unfold kidsT
  rw [List.take_add_one, h, Option.toList_some, List.filter_append]
  split
  · rename_i e
    rw [List.filter_cons_of_pos (by simpa using e), List.filter_nil, List.foldl_append]
    rfl
  · rename_i e
    rw [List.filter_cons_of_neg (by simpa using e), List.filter_nil, List.append_nil]
theorem kidsT_all (l : List Cl) (t : St2) : kidsT l t l.length = kids l t := by
  unfold kidsT kids sortC
  rw [List.take_length]
theorem kidsT_len (l : List Cl) (t : St2) : ∀ j, (kidsT l t j).length ≤ j
  | 0 => by simp [kidsT]
  | j + 1 => by
    have ih := kidsT_len l t j
    cases hc : l[j]? with
    | none =>
      have : kidsT l t (j + 1) = kidsT l t j := by
        unfold kidsT
        rw [List.take_add_one, hc]
        simp
      rw [this]; omega
    | some c =>
      rw [kidsT_step hc]
      split
      · rw [(insC_perm c _).length_eq, List.length_cons]; omega
      · omega
set_option maxRecDepth 100000 in
theorem any_slice_to {A : Option Addr} (hA : A = none ∨ ∃ g, A = some ⟨g, 0, none⟩) (m cap k : Nat) (hk : k ≤ cap) (W : World) : (Instr.slice 42 (.slice A m cap) none (some (.int .i64 (k : Int))) none).run Try.prog W = .ok (.slice A k cap) W := by
  have ht : Try.prog.underlying 42 = some (.slice (Try.prog.elem 42)) := by kernel_rfl
  have he : Try.prog.elem 42 = 35 := by kernel_rfl
  rw [run_slice_h _ _ _ _ _ ht .i64 (k : Int) (by omega) (by omega), he, Try.sizeOf35 W]
  simp only [Result.andThen_ok, sliced]
  congr 1
  rcases hA with rfl | ⟨g, rfl⟩
  · simp
  · simp [Addr.add]
set_option maxRecDepth 100000 in
theorem any_slice_from {A : Option Addr} (hA : A = none ∨ ∃ g, A = some ⟨g, 0, none⟩) (m cap k : Nat) (hk : k ≤ m) (hm : m ≤ cap) : ∃ A' : Option Addr, (∀ W : World, (Instr.slice 42 (.slice A m cap) (some (.int .i64 (k : Int))) none none).run Try.prog W = .ok (.slice A' (m - k) (cap - k)) W) ∧
    ∀ (W : World) (B : Nat) (l : List Cl), ClsAt W B A l → l.length = m → ClsAt W B A' (l.drop k) := by
  rcases hA with rfl | ⟨g, rfl⟩
  · refine ⟨none, fun W => ?_, fun W B l h hl i c hi => ?_⟩
    · have ht : Try.prog.underlying 42 = some (.slice (Try.prog.elem 42)) := by kernel_rfl
      have he : Try.prog.elem 42 = 35 := by kernel_rfl
      rw [run_slice_l _ _ _ _ _ ht .i64 (k : Int) (by omega) (by omega), he, Try.sizeOf35 W]
      simp only [Result.andThen_ok, sliced]
      congr 2
      simp
    · rw [List.getElem?_drop] at hi
      obtain ⟨g', off', h1, _⟩ := h (k + i) c hi
      cases h1
  · exact cls_slice_from g m cap k hk hm
theorem own_A {w : World} {base n cap : Nat} {A : Option Addr} {l : List Cl} (h : OwnCls w base (.slice A n cap) l) : (A = none ∨ ∃ g, A = some ⟨g, 0, none⟩) ∧ n ≤ cap := by
  rcases h.2 with ⟨h0, _⟩ | ⟨g, cap', cur, hv, _, _, hn, _⟩
  · injection h0 with h1 h2 h3
    exact ⟨.inl h1, by omega⟩
  · injection hv with h1 h2 h3
    exact ⟨.inr ⟨g, h1⟩, by omega⟩
theorem own_at {w : World} {base n cap : Nat} {A : Option Addr} {l : List Cl} (h : OwnCls w base (.slice A n cap) l) : ClsAt w w.heap.size A l := by
  obtain ⟨A', q, hv, hA⟩ := h.form
  injection hv with hv _ _
  subst hv
  exact hA
theorem ClsAt.take {w : World} {B k : Nat} {A : Option Addr} {l : List Cl} (h : ClsAt w B A l) : ClsAt w B A (l.take k) := fun i c hi => by
  rw [List.getElem?_take] at hi
  split at hi
  · exact h i c hi
  · cases hi
theorem ClsAt.A0 {w : World} {B : Nat} {A : Option Addr} {l : List Cl} (h : ClsAt w B A l) (hl : 0 < l.length) : ∃ g off, A = some ⟨g, off, none⟩ := by
  obtain ⟨c, hc⟩ : ∃ c, l[0]? = some c := ⟨_, List.getElem?_eq_getElem hl⟩
  obtain ⟨g, off, h1, _⟩ := h 0 c hc
  exact ⟨g, off, h1⟩
set_option maxRecDepth 100000 in
set_option maxHeartbeats 16000000 in
theorem rKids_any (w : World) (B : Nat) (A : Option Addr) (cap : Nat) (l : List Cl) (h : ClsAt w B A l) (hB : B ≤ w.heap.size) (hl : l.length ≤ 100000) (t : St2) :
    Calls Try.prog 45 #[.slice A l.length cap, .agg (stA t)] w fun e w' => ∃ v, e = .returned v ∧ OwnCls w' w.heap.size v (kids l t) ∧ Below w.heap.size w w' := by
  obtain ⟨N, hN⟩ : ∃ N, l.length = N := ⟨_, rfl⟩
  rw [hN] at hl ⊢
  have HN := Lib.hid hN
  have B0 := Lib.hid (below_self_alloc w (.cells (stA t) 29))
  have K0 := Lib.hid (Blk.new w 29 (stA t))
  have H0 := Lib.hid (((h.wide hB).below B0.out).wide (show w.heap.size ≤ (w.alloc (.cells (stA t) 29)).heap.size by simp))
  have S0 := Lib.hid (show w.heap.size ≤ (w.alloc (.cells (stA t) 29)).heap.size by simp)
  obtain ⟨ST, hST⟩ : ∃ x, stA t = x := ⟨_, rfl⟩
  rw [hST] at B0 K0 H0 S0 ⊢
  have HST := Lib.hid hST
  obtain ⟨i1, hi1, hy0, hy1, hy2⟩ := info_parts Try.infoCl
  clear h hN hST hB
  go_enter Try.func45, Try.ntmps45
  go_wp2_with fail
  generalize w.alloc (.cells ST 29) = w0 at *
  go_loopw [5, 6] (fun o i wr => ∃ j : Nat, j ≤ N ∧ i = .int .i64 (j : Int) ∧ Hid (Below w0.heap.size w0 wr) ∧ Hid (OwnCls wr w0.heap.size o (kidsT l t j))) (fun _ i _ => N - (intOf i).toNat)
  case atStart => exact ⟨0, Nat.zero_le _, rfl, Lib.hid (Below.refl _ _), Lib.hid (World.ownsRow_nil _ _ _ _)⟩
  case round =>
    obtain ⟨j, hj, rfl, HBj, HOj⟩ := hrel
    by_cases hjN : j < N
    · obtain ⟨c, hc⟩ : ∃ c, l[j]? = some c := ⟨_, List.getElem?_eq_getElem (by rw [HN.out]; exact hjN)⟩
      have HAj := Lib.hid (H0.out.below HBj.out)
      have Kj := Lib.hid (K0.out.below HBj.out K0.out.lt)
      obtain ⟨g, off, rfl, -, -⟩ := HAj.out j c hc
      have e1 : decide ((j : Int) < (N : Int)) = true := decide_eq_true (by omega)
      obtain ⟨-, -, d2, d3, -⟩ := HAj.out.at_ hc rfl
      have s0 : wr.cell? ⟨w.heap.size, 0, none⟩ = some (.int .i64 t.1) := (Kj.out.cell 0).trans (by rw [← HST.out]; rfl)
      have s1 : wr.cell? ⟨w.heap.size, 1, none⟩ = some (.int .i64 t.2) := (Kj.out.cell 1).trans (by rw [← HST.out]; rfl)
      have hez : ∀ W : World, (Op.equalIn 10000 29 (.agg #[.int .i64 c.after.1, .int .i64 c.after.2]) (.agg #[.int .i64 t.1, .int .i64 t.2])).run Try.prog W = .ok (decide (c.after = t)) W := eq_st c.after t
      have hst := kidsT_step (t := t) hc
      have HKN := Lib.hid hjN
      have HC := Lib.hid hc
      clear hc
      by_cases he : c.after = t
      · rw [decide_eq_true he] at hez
        rw [if_pos he] at hst
        have HSTP := Lib.hid hst
        clear hst he
        go_wp2_with fail
        go_quiet (fail)
        have HB1 := Lib.hid (below_drewN HBj.out nq)
        have HO1 := Lib.hid (HOj.out.dN nq)
        have HA1 := Lib.hid (HAj.out.drewN nq)
        have HOL := Lib.hid (kidsT_len l t j)
        obtain ⟨O, hO⟩ : ∃ O, kidsT l t j = O := ⟨_, rfl⟩
        rw [hO] at HO1 HSTP HOL
        obtain ⟨M, hM⟩ : ∃ M, O.length = M := ⟨_, rfl⟩
        rw [hM] at HOL
        obtain ⟨Ao, co, hv⟩ := HO1.out.len
        rw [hM] at hv
        subst hv
        obtain ⟨hAo, hMc⟩ := own_A HO1.out
        have HM := Lib.hid hM
        have HAO := Lib.hid hAo
        have HMC := Lib.hid hMc
        have hMl := HOL.out
        clear hO hM hAo hMc HBj HOj HAj Kj d2 d3 s0 s1 hez
        generalize wr.drewN nq = wq at *
        go_wp2_with fail
        go_loopw [7] (fun kv wx => ∃ k : Nat, k ≤ M ∧ kv = .int .i64 (k : Int) ∧ Hid (Below wq.heap.size wq wx) ∧ Hid (∀ i y, i < k → O[i]? = some y → bef y c = true)) (fun kv _ => M - (intOf kv).toNat)
        case atStart => exact ⟨0, Nat.zero_le _, rfl, Lib.hid (Below.refl _ _), Lib.hid fun i y hi => by omega⟩
        case round =>
          obtain ⟨k, hk, rfl, HBk, HKB⟩ := hrel
          have HOk := Lib.hid (HO1.out.below HBk.out)
          have HAk := Lib.hid ((HA1.out.wide (show w0.heap.size ≤ wq.heap.size from HB1.out.size)).below HBk.out)
          by_cases hkM : k < M
          case' pos =>
            obtain ⟨y, hy⟩ : ∃ y, O[k]? = some y := ⟨_, List.getElem?_eq_getElem (by rw [HM.out]; exact hkM)⟩
            obtain ⟨g2, hg2⟩ : ∃ g2, Ao = some ⟨g2, 0, none⟩ := by
              rcases HAO.out with h0 | h0
              · exfalso
                obtain ⟨g', o', h1, _⟩ := own_at HO1.out k y hy
                rw [h0] at h1
                cases h1
              · exact h0
            subst hg2
            have HY := Lib.hid hy
            have e2 : decide ((k : Int) < (M : Int)) = true := decide_eq_true (by omega)
            have HKM := Lib.hid hkM
            go_upto_region 7 with fail
            refine wp_region_stages [.free [0, 1, 2, 3, 4], .free [5, 6, 7, 8, 10, 11, 12, 13], .hold (fun W => OwnCls W w0.heap.size (.slice (some ⟨g2, 0, none⟩) M co) O ∧ ClsAt W wq.heap.size (some ⟨g, off, none⟩) l) [9, 14] [], .run [15, 16]] (by kernel_rfl) (by kernel_rfl) (fun _ d _ _ _ h => by cases d <;> exact h) ?_
            simp only [wpStg, wpRun, wpEarly, pick, List.drop_succ_cons, List.drop_zero, List.head?_cons, Option.toList_some, List.cons_append, List.nil_append, List.append_nil]
            iterate 5 ((first | (refine wpHeld_step ?_ rfl ?_ ?_; rotate_left; · (intro W hW; go_simp; with_reducible rfl)) | (refine wpHeld_want ?_ (by kernel_rfl) ?_ ?_; rotate_left; · (intro W hW; go_simp; with_reducible rfl))); simp only [Act.put, List.setIfInBounds_toArray, List.set_cons_succ, List.set_cons_zero])
            refine wpHeld_nil ?_
            iterate 8 ((first | (refine wpHeld_step ?_ rfl ?_ ?_; rotate_left; · (intro W hW; go_simp; with_reducible rfl)) | (refine wpHeld_want ?_ (by kernel_rfl) ?_ ?_; rotate_left; · (intro W hW; go_simp; with_reducible rfl))); simp only [Act.put, List.setIfInBounds_toArray, List.set_cons_succ, List.set_cons_zero])
            refine wpHeld_nil ?_
            refine ⟨⟨HOk.out.dN 1, HAk.out.drew⟩, ?_⟩
            clear hy
            iterate 2 ((refine wpHeld_want ?_ (by kernel_rfl) ?_ ?_; rotate_left; · (intro W hW; have g0 : W.cell? ⟨g2, k * 20, none⟩ = some (.int .i64 y.id.1) := (own_cell (own_row hW.1 HM.out) HM.out HY.out (j := 0) rfl).1; have g1 : W.cell? ⟨g2, k * 20 + 1, none⟩ = some (.int .i64 y.id.2) := (own_cell (own_row hW.1 HM.out) HM.out HY.out (j := 1) rfl).1; obtain ⟨d0, d1, -, -, -⟩ := hW.2.at_ HC.out rfl; go_simp; with_reducible rfl)); simp only [Act.put, List.setIfInBounds_toArray, List.set_cons_succ, List.set_cons_zero])
            refine wpHeld_nil ?_
            have HBx := Lib.hid (below_drew1 HBk.out)
            have FI := Lib.hid (rFirst_any wr.drew y.id c.id)
            rw [befS_bef] at FI
            clear HBk HOk HAk hkM
            generalize wr.drew = wx1 at *
            go_wp2_with fail
            refine FI.out.mono ?_
            rintro e w5 ⟨rfl, b5⟩
            have HB5 := Lib.hid (HBx.out.trans (b5.mono HBx.out.size))
            clear HBx FI b5
            cases hbf : bef y c
            rotate_left
            · have HK2 := Lib.hid (show ∀ i z, i < k + 1 → O[i]? = some z → bef z c = true from fun i z hi hz => by
                rcases Nat.lt_or_ge i k with h1 | h1
                · exact HKB.out i z h1 hz
                · obtain rfl : i = k := by omega
                  rw [HY.out] at hz
                  injection hz with hz
                  rw [← hz]
                  exact hbf)
              clear hbf HKB
              go_wp2_with fail
              go_roundw
              case rel => exact ⟨k + 1, HKM.out, by go_num, HB5, HK2⟩
              case measure =>
                have := HKM.out
                simp [intOf]
                omega
            have HEND := Lib.hid (show ∀ z, O[k]? = some z → bef z c = false from fun z hz => by
              rw [HY.out] at hz
              injection hz with hz
              rw [← hz]
              exact hbf)
            clear hbf HY HKM e2
            go_upto_region 9 with fail
          case' neg =>
            have HEND := Lib.hid (show ∀ z, O[k]? = some z → bef z c = false from fun z hz => by
              have := (List.getElem?_eq_some_iff.1 hz).1
              rw [HM.out] at this
              omega)
            have e2 : decide ((k : Int) < (M : Int)) = false := decide_eq_false (by omega)
            go_upto_region 7 with fail
            refine wp_region_stages [.free [0, 1, 2, 3, 4], .free [5, 6, 7, 8, 10, 11, 12, 13], .hold (fun _ => True) [9, 14] [], .run [15, 16]] (by kernel_rfl) (by kernel_rfl) (fun _ d _ _ _ h => by cases d <;> exact h) ?_
            simp only [wpStg, wpRun, wpEarly, pick, List.drop_succ_cons, List.drop_zero, List.head?_cons, Option.toList_some, List.cons_append, List.nil_append, List.append_nil]
            iterate 5 ((first | (refine wpHeld_step ?_ rfl ?_ ?_; rotate_left; · (intro W hW; go_simp; with_reducible rfl)) | (refine wpHeld_want ?_ (by kernel_rfl) ?_ ?_; rotate_left; · (intro W hW; go_simp; with_reducible rfl))); simp only [Act.put, List.setIfInBounds_toArray, List.set_cons_succ, List.set_cons_zero])
            refine wpHeld_nil ?_
            iterate 8 (refine wpHeld_skip (by kernel_rfl) ?_; simp only [Act.put, List.setIfInBounds_toArray, List.set_cons_succ, List.set_cons_zero])
            refine wpHeld_nil ?_
            refine ⟨trivial, ?_⟩
            iterate 2 (refine wpHeld_skip (by kernel_rfl) ?_; simp only [Act.put, List.setIfInBounds_toArray, List.set_cons_succ, List.set_cons_zero])
            refine wpHeld_nil ?_
            have HB5 := Lib.hid (below_drew1 HBk.out)
            clear HBk HOk HAk e2 hkM
            generalize wr.drew = w5 at *
            go_upto_region 9 with fail
          all_goals
            have HO5 := Lib.hid (HO1.out.below HB5.out)
            have HA5 := Lib.hid ((HA1.out.wide (show w0.heap.size ≤ wq.heap.size from HB1.out.size)).below HB5.out)
            have HIN := Lib.hid (insC_at c (O := O) (k := k) (by rw [HM.out]; exact hk) HKB.out HEND.out)
            obtain ⟨A9, hsl, hcl⟩ := any_slice_from HAO.out M co k hk HMC.out
            obtain ⟨d, hd⟩ : ∃ x, M - k = x := ⟨_, rfl⟩
            obtain ⟨dc, hdc⟩ : ∃ x, co - k = x := ⟨_, rfl⟩
            rw [hd, hdc] at hsl
            have HD := Lib.hid hd
            have HCL := Lib.hid hcl
            clear hd hdc hcl HKB HEND
            refine wp_region_stages [.free [0, 1, 2, 5, 6, 7], .run [3, 4, 8, 9]] (by kernel_rfl) (by kernel_rfl) (fun _ d _ _ _ h => by cases d <;> exact h) ?_
            simp only [wpStg, wpRun, pick, List.drop_succ_cons, List.drop_zero, List.head?_cons, Option.toList_some, List.cons_append, List.nil_append, List.append_nil]
            iterate 6 ((first | (refine wpHeld_step ?_ rfl ?_ ?_; rotate_left; · (intro W hW; go_simp; with_reducible rfl)) | (refine wpHeld_want ?_ (by kernel_rfl) ?_ ?_; rotate_left; · (intro W hW; go_simp; with_reducible rfl))); simp only [Act.put, List.setIfInBounds_toArray, List.set_cons_succ, List.set_cons_zero])
            refine wpHeld_nil ?_
            have HB6 := Lib.hid (below_drew1 HB5.out)
            have HO6 := Lib.hid HO5.out.drw
            have HA6 := Lib.hid HA5.out.drew
            clear HO5 HA5 HB5 hsl
            generalize w5.drew = w6 at *
            have HCC := Lib.hid (Blk.new w6 35 (clA c))
            have HOWN := Lib.hid (show (w6.alloc (.cells (clA c) 35)).ownsRow w6.heap.size 35 20 (.slice (some ⟨w6.heap.size, 0, none⟩) 1 1) 1 (cls [c]) from by
              have := World.ownsRow_lit (e := 35) (size := 20) w6 (clA c) 1 (Nat.le_refl _) (by unfold maxLen; omega) rfl
              rwa [show (clA c).toList = cls [c] from (List.append_nil _).symm] at this)
            have B7 := Lib.hid (below_self_alloc w6 (.cells (clA c) 35))
            have DR := Lib.hid (HCL.out w6 w6.heap.size O (own_at HO6.out) HM.out)
            have L2 := Lib.hid (show (cls (O.drop k)).length = d * 20 by rw [cls_len, List.length_drop, HM.out, HD.out])
            have N2 := Lib.hid (cls_news (DR.out.below B7.out))
            have O2 := Lib.hid (cls_one (O.drop k))
            have hdM : d ≤ M := by have := HD.out; omega
            have hMl2 := HOL.out
            obtain ⟨CC, hCC⟩ : ∃ x, clA c = x := ⟨_, rfl⟩
            rw [hCC] at HCC HOWN B7 N2
            have HCL2 := Lib.hid hCC
            clear hCC
            go_upto_region 10 with (first
              | (refine load_at rfl (x := .tmp 43) rfl rfl HA6.out rfl HC.out ?_; rw [HCL2.out])
              | (refine wpList_new rfl (op := .buildSlice 42 1 #[(0, .tmp 44)]) rfl (.slice (some ⟨w6.heap.size, 0, none⟩) 1 1) (w6.alloc (.cells CC 35)) (by rw [← HCL2.out]; kernel_rfl) ?_)
              | (at_builtin; refine wpList_append_any rfl _ _ 42 rfl w6.heap.size 35 i1 _ 20 248 Try.underlying42 hi1 hy0 hy1 hy2 rfl (by omega) (.slice (some ⟨w6.heap.size, 0, none⟩) 1 1) 1 (cls [c]) rfl HOWN.out A9 d dc (cls (O.drop k)) rfl L2.out N2.out O2.out (by unfold maxLen; omega) (by omega) (by simp) ?_; intro v7 w7 own7 gr7 l7))
            rw [show (1 : Nat) + d = d + 1 from Nat.add_comm 1 d] at own7
            have hr7 : OwnCls w7 w6.heap.size v7 (c :: O.drop k) := by
              unfold OwnCls
              rw [List.length_cons, List.length_drop, HM.out, HD.out]
              exact own7
            have b7 := B7.out.grown gr7 B7.out.size (fun y hy => (HOWN.out.lt y hy).1)
            have HB7 := Lib.hid (HB6.out.trans (b7.mono HB6.out.size))
            have HO7 := Lib.hid (HO6.out.below b7)
            have HR7 := Lib.hid hr7
            clear own7 gr7 l7 hr7 b7 HCC HOWN B7 DR L2 N2 O2 HB6 HO6 HA6
            obtain ⟨Ar, cr, hvr, -⟩ := HR7.out.form
            rw [List.length_cons, List.length_drop, HM.out, HD.out] at hvr
            subst hvr
            -- out
            have hsl1 := any_slice_to HAO.out M co k (by have := HMC.out; omega)
            have HOWN0 := Lib.hid (show (w7.alloc (.cells #[] 35)).ownsRow w7.heap.size 35 20 (.slice (some ⟨w7.heap.size, 0, none⟩) 0 0) 0 [] from World.ownsRow_lit w7 #[] 0 (Nat.le_refl _) (by unfold maxLen; omega) rfl)
            have B8 := Lib.hid (below_self_alloc w7 (.cells #[] 35))
            have TK := Lib.hid ((own_at HO7.out).take (k := k))
            have L1 := Lib.hid (show (cls (O.take k)).length = k * 20 by rw [cls_len, List.length_take, HM.out]; congr 1; omega)
            have N1 := Lib.hid (cls_news (TK.out.below B8.out))
            have O1 := Lib.hid (cls_one (O.take k))
            have L3 := Lib.hid (show (cls (c :: O.drop k)).length = (d + 1) * 20 by rw [cls_len, List.length_cons, List.length_drop, HM.out, HD.out])
            have RA := Lib.hid (own_at HR7.out)
            have O3 := Lib.hid (cls_one (c :: O.drop k))
            go_wp2_with (first
              | (at_builtin; refine wpList_append_any rfl _ _ 42 rfl w7.heap.size 35 i1 _ 20 248 Try.underlying42 hi1 hy0 hy1 hy2 rfl (by omega) (.slice (some ⟨w7.heap.size, 0, none⟩) 0 0) 0 [] rfl HOWN0.out _ k co (cls (O.take k)) rfl L1.out N1.out O1.out (by unfold maxLen; omega) (by omega) (by simp) ?_; intro v8 w8 own8 gr8 l8)
              | (at_builtin; refine wpList_append_any rfl _ _ 42 rfl w7.heap.size 35 i1 _ 20 248 Try.underlying42 hi1 hy0 hy1 hy2 rfl (by omega) v8 (0 + k) ([] ++ cls (O.take k)) rfl own8 Ar (d + 1) cr (cls (c :: O.drop k)) rfl L3.out (cls_news (RA.out.below (B8.out.grown gr8 B8.out.size (fun y hy => (HOWN0.out.lt y hy).1)))) O3.out (by unfold maxLen; omega) (by omega) (B8.out.grown gr8 B8.out.size (fun y hy => (HOWN0.out.lt y hy).1)).size ?_; intro v9 w9 own9 gr9 l9))
            have hr9 : OwnCls w9 w7.heap.size v9 (kidsT l t (j + 1)) := by
              rw [HSTP.out, HIN.out]
              unfold OwnCls
              have hlen : (O.take k ++ c :: O.drop k).length = 0 + k + (d + 1) := by
                rw [List.length_append, List.length_take, List.length_cons, List.length_drop, HM.out, HD.out]
                omega
              have hcs : cls (O.take k ++ c :: O.drop k) = [] ++ cls (O.take k) ++ cls (c :: O.drop k) := by
                rw [List.nil_append]
                unfold cls
                rw [List.flatMap_append]
              rw [hlen, hcs]
              exact own9
            have b8 := B8.out.grown gr8 B8.out.size (fun y hy => (HOWN0.out.lt y hy).1)
            have b9 := b8.grown gr9 b8.size (fun y hy => (own8.lt y hy).1)
            have hb7s := HB7.out.size
            have hq := HB1.out.size
            have HR9 := Lib.hid (hr9.low (show w0.heap.size ≤ w7.heap.size by omega))
            have HB9 := Lib.hid (HB1.out.trans ((HB7.out.trans (b9.mono HB7.out.size)).mono HB1.out.size))
            clear own8 own9 gr8 gr9 l8 l9 hr9 b8 b9 HOWN0 B8 TK L1 N1 O1 L3 RA O3 HB7 HO7 HR7
            first
              | (go_roundw
                 case rel => exact ⟨j + 1, HKN.out, by go_num, HB9, HR9⟩
                 case measure =>
                   have := HKN.out
                   simp [intOf]
                   omega)
              | (refine ⟨⟨j + 1, HKN.out, by go_num, HB9, HR9⟩, ?_⟩
                 have := HKN.out
                 simp [intOf]
                 omega)
      · rw [decide_eq_false he] at hez
        rw [if_neg he] at hst
        have HSTP := Lib.hid hst
        clear hst he
        go_wp2_with fail
        go_quiet (fail)
        go_wp2_with fail
        refine ⟨⟨j + 1, HKN.out, by go_num, Lib.hid (below_drewN HBj.out nq), Lib.hid (by rw [HSTP.out]; exact HOj.out.dN nq)⟩, ?_⟩
        have := HKN.out
        simp [intOf]
        omega
    · obtain rfl : j = N := by omega
      have HR := Lib.hid (show OwnCls wr w0.heap.size u5 (kids l t) from by
        have := HOj.out
        rw [← HN.out, kidsT_all] at this
        exact this)
      have hb := B0.out.trans (HBj.out.mono S0.out)
      have HBB := Lib.hid hb
      clear HOj hb
      go_wp2
      go_ret
      exact ⟨_, rfl, HR.out.low S0.out, HBB.out⟩
end Go.Proofs.Ytbihklfcdpgcgaa
