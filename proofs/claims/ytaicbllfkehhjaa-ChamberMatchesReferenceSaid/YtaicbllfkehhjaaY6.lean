/- Part 6 of what the laws of this seat stand on: Gc, Gd, Hb, Iq, Laws, Hc, Hd, He, Hf. -/
import Derived.Test.YtaicbllfkehhjaaY5
import Derived.Room.AppendOnto
import Derived.Laws.CopyOwn
import Derived.Lib.BufferWrite
import Derived.Lib.LazyBuf
import Derived.Laws.BytesArg
import Derived.Laws.MakeOwn
import Derived.StillTailTactics
import Derived.Deep.QuietTactic
import Derived.BigQuiet
import Derived.RangeFuncOwn
import Derived.Laws.Tables

/- The reference's children. -/
namespace Go.Proofs.Ytaicbllfkehhjaa
open Go.RowKit

theorem insC_at (c : Cl) : ∀ {O : List Cl} {k : Nat}, k ≤ O.length → (∀ i y, i < k → O[i]? = some y → bef y c = true) → (∀ y, O[k]? = some y → bef y c = false) → insC c O = O.take k ++ c :: O.drop k
  | [], k, hk, _, _ => by simp at hk; subst hk; rfl
  | y :: O, 0, _, _, h2 => by
    unfold insC
    rw [if_neg (by rw [h2 y rfl]; simp)]
    rfl
  | y :: O, k + 1, hk, h1, h2 => by
    unfold insC
    rw [if_pos (h1 0 y (by omega) rfl), insC_at c (O := O) (k := k) (by simpa using hk) (fun i z hi hz => h1 (i + 1) z (by omega) (by simpa using hz)) (fun z hz => h2 z (by simpa using hz))]
    rfl
theorem OwnCls.drw {w : World} {B : Nat} {v : Value} {l : List Cl} (h : OwnCls w B v l) : OwnCls w.drew B v l := h
theorem OwnCls.low {w : World} {B B' : Nat} {v : Value} {l : List Cl} (h : OwnCls w B v l) (hB : B' ≤ B) : OwnCls w B' v l := ⟨h.1, h.2.imp id fun ⟨g, cap, cur, a, b, c⟩ => ⟨g, cap, cur, a, Nat.le_trans hB b, c⟩⟩
def kidsT (l : List Cl) (t : St2) (j : Nat) : List Cl := ((l.take j).filter fun c => decide (c.after = t)).foldl (fun a x => insC x a) []
theorem kidsT_step {l : List Cl} {t : St2} {j : Nat} {c : Cl} (h : l[j]? = some c) : kidsT l t (j + 1) = if c.after = t then insC c (kidsT l t j) else kidsT l t j := by
  unfold kidsT
  rw [List.take_add_one, h, Option.toList_some, List.filter_append]
  split
  · rename_i e
    rw [List.filter_cons_of_pos (by simpa using e), List.filter_nil, List.foldl_append]
    rfl
  · rename_i e
    rw [List.filter_cons_of_neg (by simpa using e), List.filter_nil, List.append_nil]
theorem kidsT_all (l : List Cl) (t : St2) : kidsT l t l.length = kids l t := by
  unfold kidsT kids sortC
  rw [List.take_length]
theorem kidsT_len (l : List Cl) (t : St2) : ∀ j, (kidsT l t j).length ≤ j
  | 0 => by simp [kidsT]
  | j + 1 => by
    have ih := kidsT_len l t j
    cases hc : l[j]? with
    | none =>
      have : kidsT l t (j + 1) = kidsT l t j := by
        unfold kidsT
        rw [List.take_add_one, hc]
        simp
      rw [this]; omega
    | some c =>
      rw [kidsT_step hc]
      split
      · rw [(insC_perm c _).length_eq, List.length_cons]; omega
      · omega
set_option maxRecDepth 100000 in
theorem any_slice_to {A : Option Addr} (hA : A = none ∨ ∃ g, A = some ⟨g, 0, none⟩) (m cap k : Nat) (hk : k ≤ cap) (W : World) : (Instr.slice 41 (.slice A m cap) none (some (.int .i64 (k : Int))) none).run Try.prog W = .ok (.slice A k cap) W := by
  have ht : Try.prog.underlying 41 = some (.slice (Try.prog.elem 41)) := by kernel_rfl
  have he : Try.prog.elem 41 = 56 := by kernel_rfl
  rw [run_slice_h _ _ _ _ _ ht .i64 (k : Int) (by omega) (by omega), he, Try.sizeOf56 W]
  simp only [Result.andThen_ok, sliced]
  congr 1
  rcases hA with rfl | ⟨g, rfl⟩
  · simp
  · simp [Addr.add]
set_option maxRecDepth 100000 in
theorem any_slice_from {A : Option Addr} (hA : A = none ∨ ∃ g, A = some ⟨g, 0, none⟩) (m cap k : Nat) (hk : k ≤ m) (hm : m ≤ cap) : ∃ A' : Option Addr, (∀ W : World, (Instr.slice 41 (.slice A m cap) (some (.int .i64 (k : Int))) none none).run Try.prog W = .ok (.slice A' (m - k) (cap - k)) W) ∧
    ∀ (W : World) (B : Nat) (l : List Cl), ClsAt W B A l → l.length = m → ClsAt W B A' (l.drop k) := by
  rcases hA with rfl | ⟨g, rfl⟩
  · refine ⟨none, fun W => ?_, fun W B l h hl i c hi => ?_⟩
    · have ht : Try.prog.underlying 41 = some (.slice (Try.prog.elem 41)) := by kernel_rfl
      have he : Try.prog.elem 41 = 56 := by kernel_rfl
      rw [run_slice_l _ _ _ _ _ ht .i64 (k : Int) (by omega) (by omega), he, Try.sizeOf56 W]
      simp only [Result.andThen_ok, sliced]
      congr 2
      simp
    · rw [List.getElem?_drop] at hi
      obtain ⟨g', off', h1, _⟩ := h (k + i) c hi
      cases h1
  · exact cls_slice_from g m cap k hk hm
theorem own_A {w : World} {base n cap : Nat} {A : Option Addr} {l : List Cl} (h : OwnCls w base (.slice A n cap) l) : (A = none ∨ ∃ g, A = some ⟨g, 0, none⟩) ∧ n ≤ cap := by
  rcases h.2 with ⟨h0, _⟩ | ⟨g, cap', cur, hv, _, _, hn, _⟩
  · injection h0 with h1 h2 h3
    exact ⟨.inl h1, by omega⟩
  · injection hv with h1 h2 h3
    exact ⟨.inr ⟨g, h1⟩, by omega⟩
theorem own_at {w : World} {base n cap : Nat} {A : Option Addr} {l : List Cl} (h : OwnCls w base (.slice A n cap) l) : ClsAt w w.heap.size A l := by
  obtain ⟨A', q, hv, hA⟩ := h.form
  injection hv with hv _ _
  subst hv
  exact hA
theorem ClsAt.take {w : World} {B k : Nat} {A : Option Addr} {l : List Cl} (h : ClsAt w B A l) : ClsAt w B A (l.take k) := fun i c hi => by
  rw [List.getElem?_take] at hi
  split at hi
  · exact h i c hi
  · cases hi
theorem ClsAt.A0 {w : World} {B : Nat} {A : Option Addr} {l : List Cl} (h : ClsAt w B A l) (hl : 0 < l.length) : ∃ g off, A = some ⟨g, off, none⟩ := by
  obtain ⟨c, hc⟩ : ∃ c, l[0]? = some c := ⟨_, List.getElem?_eq_getElem hl⟩
  obtain ⟨g, off, h1, _⟩ := h 0 c hc
  exact ⟨g, off, h1⟩
set_option maxRecDepth 100000 in
set_option maxHeartbeats 16000000 in
theorem rKids_any (w : World) (B : Nat) (A : Option Addr) (cap : Nat) (l : List Cl) (h : ClsAt w B A l) (hB : B ≤ w.heap.size) (hl : l.length ≤ 100000) (t : St2) :
    Calls Try.prog 65 #[.slice A l.length cap, .agg (stA t)] w fun e w' => ∃ v, e = .returned v ∧ OwnCls w' w.heap.size v (kids l t) ∧ Below w.heap.size w w' := by
  obtain ⟨N, hN⟩ : ∃ N, l.length = N := ⟨_, rfl⟩
  rw [hN] at hl ⊢
  have HN := Lib.hid hN
  have B0 := Lib.hid (below_self_alloc w (.cells (stA t) 33))
  have K0 := Lib.hid (Blk.new w 33 (stA t))
  have H0 := Lib.hid (((h.wide hB).below B0.out).wide (show w.heap.size ≤ (w.alloc (.cells (stA t) 33)).heap.size by simp))
  have S0 := Lib.hid (show w.heap.size ≤ (w.alloc (.cells (stA t) 33)).heap.size by simp)
  obtain ⟨ST, hST⟩ : ∃ x, stA t = x := ⟨_, rfl⟩
  rw [hST] at B0 K0 H0 S0 ⊢
  have HST := Lib.hid hST
  obtain ⟨i1, hi1, hy0, hy1, hy2⟩ := info_parts Try.infoCl
  clear h hN hST hB
  go_enter Try.func65, Try.ntmps65
  go_wp2_with fail
  generalize w.alloc (.cells ST 33) = w0 at *
  go_loopw [5, 6] (fun o i wr => ∃ j : Nat, j ≤ N ∧ i = .int .i64 (j : Int) ∧ Hid (Below w0.heap.size w0 wr) ∧ Hid (OwnCls wr w0.heap.size o (kidsT l t j))) (fun _ i _ => N - (intOf i).toNat)
  case atStart => exact ⟨0, Nat.zero_le _, rfl, Lib.hid (Below.refl _ _), Lib.hid (World.ownsRow_nil _ _ _ _)⟩
  case round =>
    obtain ⟨j, hj, rfl, HBj, HOj⟩ := hrel
    by_cases hjN : j < N
    · obtain ⟨c, hc⟩ : ∃ c, l[j]? = some c := ⟨_, List.getElem?_eq_getElem (by rw [HN.out]; exact hjN)⟩
      have HAj := Lib.hid (H0.out.below HBj.out)
      have Kj := Lib.hid (K0.out.below HBj.out K0.out.lt)
      obtain ⟨g, off, rfl, -, -⟩ := HAj.out j c hc
      have e1 : decide ((j : Int) < (N : Int)) = true := decide_eq_true (by omega)
      obtain ⟨-, -, d2, d3, -⟩ := HAj.out.at_ hc rfl
      have s0 : wr.cell? ⟨w.heap.size, 0, none⟩ = some (.int .i64 t.1) := (Kj.out.cell 0).trans (by rw [← HST.out]; rfl)
      have s1 : wr.cell? ⟨w.heap.size, 1, none⟩ = some (.int .i64 t.2) := (Kj.out.cell 1).trans (by rw [← HST.out]; rfl)
      have hez : ∀ W : World, (Op.equalIn 10000 33 (.agg #[.int .i64 c.after.1, .int .i64 c.after.2]) (.agg #[.int .i64 t.1, .int .i64 t.2])).run Try.prog W = .ok (decide (c.after = t)) W := eq_st c.after t
      have hst := kidsT_step (t := t) hc
      have HKN := Lib.hid hjN
      have HC := Lib.hid hc
      clear hc
      by_cases he : c.after = t
      · rw [decide_eq_true he] at hez
        rw [if_pos he] at hst
        have HSTP := Lib.hid hst
        clear hst he
        go_wp2_with fail
        go_quiet (fail)
        have HB1 := Lib.hid (below_drewN HBj.out nq)
        have HO1 := Lib.hid (HOj.out.dN nq)
        have HA1 := Lib.hid (HAj.out.drewN nq)
        have HOL := Lib.hid (kidsT_len l t j)
        obtain ⟨O, hO⟩ : ∃ O, kidsT l t j = O := ⟨_, rfl⟩
        rw [hO] at HO1 HSTP HOL
        obtain ⟨M, hM⟩ : ∃ M, O.length = M := ⟨_, rfl⟩
        rw [hM] at HOL
        obtain ⟨Ao, co, hv⟩ := HO1.out.len
        rw [hM] at hv
        subst hv
        obtain ⟨hAo, hMc⟩ := own_A HO1.out
        have HM := Lib.hid hM
        have HAO := Lib.hid hAo
        have HMC := Lib.hid hMc
        have hMl := HOL.out
        clear hO hM hAo hMc HBj HOj HAj Kj d2 d3 s0 s1 hez
        generalize wr.drewN nq = wq at *
        go_wp2_with fail
        go_loopw [7] (fun kv wx => ∃ k : Nat, k ≤ M ∧ kv = .int .i64 (k : Int) ∧ Hid (Below wq.heap.size wq wx) ∧ Hid (∀ i y, i < k → O[i]? = some y → bef y c = true)) (fun kv _ => M - (intOf kv).toNat)
        case atStart => exact ⟨0, Nat.zero_le _, rfl, Lib.hid (Below.refl _ _), Lib.hid fun i y hi => by omega⟩
        case round =>
          obtain ⟨k, hk, rfl, HBk, HKB⟩ := hrel
          have HOk := Lib.hid (HO1.out.below HBk.out)
          have HAk := Lib.hid ((HA1.out.wide (show w0.heap.size ≤ wq.heap.size from HB1.out.size)).below HBk.out)
          by_cases hkM : k < M
          case' pos =>
            obtain ⟨y, hy⟩ : ∃ y, O[k]? = some y := ⟨_, List.getElem?_eq_getElem (by rw [HM.out]; exact hkM)⟩
            obtain ⟨g2, hg2⟩ : ∃ g2, Ao = some ⟨g2, 0, none⟩ := by
              rcases HAO.out with h0 | h0
              · exfalso
                obtain ⟨g', o', h1, _⟩ := own_at HO1.out k y hy
                rw [h0] at h1
                cases h1
              · exact h0
            subst hg2
            have HY := Lib.hid hy
            have e2 : decide ((k : Int) < (M : Int)) = true := decide_eq_true (by omega)
            have HKM := Lib.hid hkM
            go_upto_region 7 with fail
            refine wp_region_stages [.free [0, 1, 2, 3, 4], .free [5, 6, 7, 8, 10, 11, 12, 13], .hold (fun W => OwnCls W w0.heap.size (.slice (some ⟨g2, 0, none⟩) M co) O ∧ ClsAt W wq.heap.size (some ⟨g, off, none⟩) l) [9, 14] [], .run [15, 16]] (by kernel_rfl) (by kernel_rfl) (fun _ d _ _ _ h => by cases d <;> exact h) ?_
            simp only [wpStg, wpRun, wpEarly, pick, List.drop_succ_cons, List.drop_zero, List.head?_cons, Option.toList_some, List.cons_append, List.nil_append, List.append_nil]
            iterate 5 ((first | (refine wpHeld_step ?_ rfl ?_ ?_; rotate_left; · (intro W hW; go_simp; with_reducible rfl)) | (refine wpHeld_want ?_ (by kernel_rfl) ?_ ?_; rotate_left; · (intro W hW; go_simp; with_reducible rfl))); simp only [Act.put, List.setIfInBounds_toArray, List.set_cons_succ, List.set_cons_zero])
            refine wpHeld_nil ?_
            iterate 8 ((first | (refine wpHeld_step ?_ rfl ?_ ?_; rotate_left; · (intro W hW; go_simp; with_reducible rfl)) | (refine wpHeld_want ?_ (by kernel_rfl) ?_ ?_; rotate_left; · (intro W hW; go_simp; with_reducible rfl))); simp only [Act.put, List.setIfInBounds_toArray, List.set_cons_succ, List.set_cons_zero])
            refine wpHeld_nil ?_
            refine ⟨⟨HOk.out.dN 1, HAk.out.drew⟩, ?_⟩
            clear hy
            iterate 2 ((refine wpHeld_want ?_ (by kernel_rfl) ?_ ?_; rotate_left; · (intro W hW; have g0 : W.cell? ⟨g2, k * 20, none⟩ = some (.int .i64 y.id.1) := (own_cell (own_row hW.1 HM.out) HM.out HY.out (j := 0) rfl).1; have g1 : W.cell? ⟨g2, k * 20 + 1, none⟩ = some (.int .i64 y.id.2) := (own_cell (own_row hW.1 HM.out) HM.out HY.out (j := 1) rfl).1; obtain ⟨d0, d1, -, -, -⟩ := hW.2.at_ HC.out rfl; go_simp; with_reducible rfl)); simp only [Act.put, List.setIfInBounds_toArray, List.set_cons_succ, List.set_cons_zero])
            refine wpHeld_nil ?_
            have HBx := Lib.hid (below_drew1 HBk.out)
            have FI := Lib.hid (rFirst_any wr.drew y.id c.id)
            rw [befS_bef] at FI
            clear HBk HOk HAk hkM
            generalize wr.drew = wx1 at *
            go_wp2_with fail
            refine FI.out.mono ?_
            rintro e w5 ⟨rfl, b5⟩
            have HB5 := Lib.hid (HBx.out.trans (b5.mono HBx.out.size))
            clear HBx FI b5
            cases hbf : bef y c
            rotate_left
            · have HK2 := Lib.hid (show ∀ i z, i < k + 1 → O[i]? = some z → bef z c = true from fun i z hi hz => by
                rcases Nat.lt_or_ge i k with h1 | h1
                · exact HKB.out i z h1 hz
                · obtain rfl : i = k := by omega
                  rw [HY.out] at hz
                  injection hz with hz
                  rw [← hz]
                  exact hbf)
              clear hbf HKB
              go_wp2_with fail
              go_roundw
              case rel => exact ⟨k + 1, HKM.out, by go_num, HB5, HK2⟩
              case measure =>
                have := HKM.out
                simp [intOf]
                omega
            have HEND := Lib.hid (show ∀ z, O[k]? = some z → bef z c = false from fun z hz => by
              rw [HY.out] at hz
              injection hz with hz
              rw [← hz]
              exact hbf)
            clear hbf HY HKM e2
            go_upto_region 9 with fail
          case' neg =>
            have HEND := Lib.hid (show ∀ z, O[k]? = some z → bef z c = false from fun z hz => by
              have := (List.getElem?_eq_some_iff.1 hz).1
              rw [HM.out] at this
              omega)
            have e2 : decide ((k : Int) < (M : Int)) = false := decide_eq_false (by omega)
            go_upto_region 7 with fail
            refine wp_region_stages [.free [0, 1, 2, 3, 4], .free [5, 6, 7, 8, 10, 11, 12, 13], .hold (fun _ => True) [9, 14] [], .run [15, 16]] (by kernel_rfl) (by kernel_rfl) (fun _ d _ _ _ h => by cases d <;> exact h) ?_
            simp only [wpStg, wpRun, wpEarly, pick, List.drop_succ_cons, List.drop_zero, List.head?_cons, Option.toList_some, List.cons_append, List.nil_append, List.append_nil]
            iterate 5 ((first | (refine wpHeld_step ?_ rfl ?_ ?_; rotate_left; · (intro W hW; go_simp; with_reducible rfl)) | (refine wpHeld_want ?_ (by kernel_rfl) ?_ ?_; rotate_left; · (intro W hW; go_simp; with_reducible rfl))); simp only [Act.put, List.setIfInBounds_toArray, List.set_cons_succ, List.set_cons_zero])
            refine wpHeld_nil ?_
            iterate 8 (refine wpHeld_skip (by kernel_rfl) ?_; simp only [Act.put, List.setIfInBounds_toArray, List.set_cons_succ, List.set_cons_zero])
            refine wpHeld_nil ?_
            refine ⟨trivial, ?_⟩
            iterate 2 (refine wpHeld_skip (by kernel_rfl) ?_; simp only [Act.put, List.setIfInBounds_toArray, List.set_cons_succ, List.set_cons_zero])
            refine wpHeld_nil ?_
            have HB5 := Lib.hid (below_drew1 HBk.out)
            clear HBk HOk HAk e2 hkM
            generalize wr.drew = w5 at *
            go_upto_region 9 with fail
          all_goals
            have HO5 := Lib.hid (HO1.out.below HB5.out)
            have HA5 := Lib.hid ((HA1.out.wide (show w0.heap.size ≤ wq.heap.size from HB1.out.size)).below HB5.out)
            have HIN := Lib.hid (insC_at c (O := O) (k := k) (by rw [HM.out]; exact hk) HKB.out HEND.out)
            obtain ⟨A9, hsl, hcl⟩ := any_slice_from HAO.out M co k hk HMC.out
            obtain ⟨d, hd⟩ : ∃ x, M - k = x := ⟨_, rfl⟩
            obtain ⟨dc, hdc⟩ : ∃ x, co - k = x := ⟨_, rfl⟩
            rw [hd, hdc] at hsl
            have HD := Lib.hid hd
            have HCL := Lib.hid hcl
            clear hd hdc hcl HKB HEND
            refine wp_region_stages [.free [0, 1, 2, 5, 6, 7], .run [3, 4, 8, 9]] (by kernel_rfl) (by kernel_rfl) (fun _ d _ _ _ h => by cases d <;> exact h) ?_
            simp only [wpStg, wpRun, pick, List.drop_succ_cons, List.drop_zero, List.head?_cons, Option.toList_some, List.cons_append, List.nil_append, List.append_nil]
            iterate 6 ((first | (refine wpHeld_step ?_ rfl ?_ ?_; rotate_left; · (intro W hW; go_simp; with_reducible rfl)) | (refine wpHeld_want ?_ (by kernel_rfl) ?_ ?_; rotate_left; · (intro W hW; go_simp; with_reducible rfl))); simp only [Act.put, List.setIfInBounds_toArray, List.set_cons_succ, List.set_cons_zero])
            refine wpHeld_nil ?_
            have HB6 := Lib.hid (below_drew1 HB5.out)
            have HO6 := Lib.hid HO5.out.drw
            have HA6 := Lib.hid HA5.out.drew
            clear HO5 HA5 HB5 hsl
            generalize w5.drew = w6 at *
            have HCC := Lib.hid (Blk.new w6 56 (clA c))
            have HOWN := Lib.hid (show (w6.alloc (.cells (clA c) 56)).ownsRow w6.heap.size 56 20 (.slice (some ⟨w6.heap.size, 0, none⟩) 1 1) 1 (cls [c]) from by
              have := World.ownsRow_lit (e := 56) (size := 20) w6 (clA c) 1 (Nat.le_refl _) (by unfold maxLen; omega) rfl
              rwa [show (clA c).toList = cls [c] from (List.append_nil _).symm] at this)
            have B7 := Lib.hid (below_self_alloc w6 (.cells (clA c) 56))
            have DR := Lib.hid (HCL.out w6 w6.heap.size O (own_at HO6.out) HM.out)
            have L2 := Lib.hid (show (cls (O.drop k)).length = d * 20 by rw [cls_len, List.length_drop, HM.out, HD.out])
            have N2 := Lib.hid (cls_news (DR.out.below B7.out))
            have O2 := Lib.hid (cls_one (O.drop k))
            have hdM : d ≤ M := by have := HD.out; omega
            have hMl2 := HOL.out
            obtain ⟨CC, hCC⟩ : ∃ x, clA c = x := ⟨_, rfl⟩
            rw [hCC] at HCC HOWN B7 N2
            have HCL2 := Lib.hid hCC
            clear hCC
            go_upto_region 10 with (first
              | (refine load_at rfl (x := .tmp 43) rfl rfl HA6.out rfl HC.out ?_; rw [HCL2.out])
              | (refine wpList_new rfl (op := .buildSlice 41 1 #[(0, .tmp 44)]) rfl (.slice (some ⟨w6.heap.size, 0, none⟩) 1 1) (w6.alloc (.cells CC 56)) (by rw [← HCL2.out]; kernel_rfl) ?_)
              | (at_builtin; refine wpList_append_any rfl _ _ 41 rfl w6.heap.size 56 i1 _ 20 248 Try.underlying41 hi1 hy0 hy1 hy2 rfl (by omega) (.slice (some ⟨w6.heap.size, 0, none⟩) 1 1) 1 (cls [c]) rfl HOWN.out A9 d dc (cls (O.drop k)) rfl L2.out N2.out O2.out (by unfold maxLen; omega) (by omega) (by simp) ?_; intro v7 w7 own7 gr7 l7))
            rw [show (1 : Nat) + d = d + 1 from Nat.add_comm 1 d] at own7
            have hr7 : OwnCls w7 w6.heap.size v7 (c :: O.drop k) := by
              unfold OwnCls
              rw [List.length_cons, List.length_drop, HM.out, HD.out]
              exact own7
            have b7 := B7.out.grown gr7 B7.out.size (fun y hy => (HOWN.out.lt y hy).1)
            have HB7 := Lib.hid (HB6.out.trans (b7.mono HB6.out.size))
            have HO7 := Lib.hid (HO6.out.below b7)
            have HR7 := Lib.hid hr7
            clear own7 gr7 l7 hr7 b7 HCC HOWN B7 DR L2 N2 O2 HB6 HO6 HA6
            obtain ⟨Ar, cr, hvr, -⟩ := HR7.out.form
            rw [List.length_cons, List.length_drop, HM.out, HD.out] at hvr
            subst hvr
            -- out
            have hsl1 := any_slice_to HAO.out M co k (by have := HMC.out; omega)
            have HOWN0 := Lib.hid (show (w7.alloc (.cells #[] 56)).ownsRow w7.heap.size 56 20 (.slice (some ⟨w7.heap.size, 0, none⟩) 0 0) 0 [] from World.ownsRow_lit w7 #[] 0 (Nat.le_refl _) (by unfold maxLen; omega) rfl)
            have B8 := Lib.hid (below_self_alloc w7 (.cells #[] 56))
            have TK := Lib.hid ((own_at HO7.out).take (k := k))
            have L1 := Lib.hid (show (cls (O.take k)).length = k * 20 by rw [cls_len, List.length_take, HM.out]; congr 1; omega)
            have N1 := Lib.hid (cls_news (TK.out.below B8.out))
            have O1 := Lib.hid (cls_one (O.take k))
            have L3 := Lib.hid (show (cls (c :: O.drop k)).length = (d + 1) * 20 by rw [cls_len, List.length_cons, List.length_drop, HM.out, HD.out])
            have RA := Lib.hid (own_at HR7.out)
            have O3 := Lib.hid (cls_one (c :: O.drop k))
            go_wp2_with (first
              | (at_builtin; refine wpList_append_any rfl _ _ 41 rfl w7.heap.size 56 i1 _ 20 248 Try.underlying41 hi1 hy0 hy1 hy2 rfl (by omega) (.slice (some ⟨w7.heap.size, 0, none⟩) 0 0) 0 [] rfl HOWN0.out _ k co (cls (O.take k)) rfl L1.out N1.out O1.out (by unfold maxLen; omega) (by omega) (by simp) ?_; intro v8 w8 own8 gr8 l8)
              | (at_builtin; refine wpList_append_any rfl _ _ 41 rfl w7.heap.size 56 i1 _ 20 248 Try.underlying41 hi1 hy0 hy1 hy2 rfl (by omega) v8 (0 + k) ([] ++ cls (O.take k)) rfl own8 Ar (d + 1) cr (cls (c :: O.drop k)) rfl L3.out (cls_news (RA.out.below (B8.out.grown gr8 B8.out.size (fun y hy => (HOWN0.out.lt y hy).1)))) O3.out (by unfold maxLen; omega) (by omega) (B8.out.grown gr8 B8.out.size (fun y hy => (HOWN0.out.lt y hy).1)).size ?_; intro v9 w9 own9 gr9 l9))
            have hr9 : OwnCls w9 w7.heap.size v9 (kidsT l t (j + 1)) := by
              rw [HSTP.out, HIN.out]
              unfold OwnCls
              have hlen : (O.take k ++ c :: O.drop k).length = 0 + k + (d + 1) := by
                rw [List.length_append, List.length_take, List.length_cons, List.length_drop, HM.out, HD.out]
                omega
              have hcs : cls (O.take k ++ c :: O.drop k) = [] ++ cls (O.take k) ++ cls (c :: O.drop k) := by
                rw [List.nil_append]
                unfold cls
                rw [List.flatMap_append]
              rw [hlen, hcs]
              exact own9
            have b8 := B8.out.grown gr8 B8.out.size (fun y hy => (HOWN0.out.lt y hy).1)
            have b9 := b8.grown gr9 b8.size (fun y hy => (own8.lt y hy).1)
            have hb7s := HB7.out.size
            have hq := HB1.out.size
            have HR9 := Lib.hid (hr9.low (show w0.heap.size ≤ w7.heap.size by omega))
            have HB9 := Lib.hid (HB1.out.trans ((HB7.out.trans (b9.mono HB7.out.size)).mono HB1.out.size))
            clear own8 own9 gr8 gr9 l8 l9 hr9 b8 b9 HOWN0 B8 TK L1 N1 O1 L3 RA O3 HB7 HO7 HR7
            first
              | (go_roundw
                 case rel => exact ⟨j + 1, HKN.out, by go_num, HB9, HR9⟩
                 case measure =>
                   have := HKN.out
                   simp [intOf]
                   omega)
              | (refine ⟨⟨j + 1, HKN.out, by go_num, HB9, HR9⟩, ?_⟩
                 have := HKN.out
                 simp [intOf]
                 omega)
      · rw [decide_eq_false he] at hez
        rw [if_neg he] at hst
        have HSTP := Lib.hid hst
        clear hst he
        go_wp2_with fail
        go_quiet (fail)
        go_wp2_with fail
        refine ⟨⟨j + 1, HKN.out, by go_num, Lib.hid (below_drewN HBj.out nq), Lib.hid (by rw [HSTP.out]; exact HOj.out.dN nq)⟩, ?_⟩
        have := HKN.out
        simp [intOf]
        omega
    · obtain rfl : j = N := by omega
      have HR := Lib.hid (show OwnCls wr w0.heap.size u5 (kids l t) from by
        have := HOj.out
        rw [← HN.out, kidsT_all] at this
        exact this)
      have hb := B0.out.trans (HBj.out.mono S0.out)
      have HBB := Lib.hid hb
      clear HOj hb
      go_wp2
      go_ret
      exact ⟨_, rfl, HR.out.low S0.out, HBB.out⟩
end Go.Proofs.Ytaicbllfkehhjaa

/- The reference's walk, List and Patches. -/
namespace Go.Proofs.Ytaicbllfkehhjaa
open Go.RowKit

theorem rKids_st (w : World) (B : Nat) (A : Option Addr) (cap : Nat) (l : List Cl) (h : ClsAt w B A l) (hB : B ≤ w.heap.size) (hl : l.length ≤ 100000) (t : St2) :
    Calls Try.prog 65 #[.slice A l.length cap, .agg #[.int .i64 t.1, .int .i64 t.2]] w fun e w' => ∃ v, e = .returned v ∧ OwnCls w' w.heap.size v (kids l t) ∧ Below w.heap.size w w' := rKids_any w B A cap l h hB hl t
def RWalkAt (B : Nat) (A : Option Addr) (cap : Nat) (l : List Cl) (n : Nat) : Prop := ∀ (W : World) (t : St2), ClsAt W B A l → B ≤ W.heap.size → rank l t < n → (walkN n l t).length ≤ 1000000 →
  Calls Try.prog 50 #[.slice A l.length cap, .agg (stA t)] W fun e w' => ∃ v, e = .returned v ∧ OwnCls w' W.heap.size v (walkN n l t) ∧ Below W.heap.size W w'
set_option maxRecDepth 100000 in
set_option maxHeartbeats 16000000 in
theorem rWalk_step {B : Nat} {A : Option Addr} {cap : Nat} {l : List Cl} (ht : Tr l) (hl : l.length ≤ 100000) {n : Nat} (ih : RWalkAt B A cap l n) : RWalkAt B A cap l (n + 1) := by
  intro w t h hB hrk hlen
  have IH := Lib.hid ih
  have HT := Lib.hid ht
  have B0 := Lib.hid (below_self_alloc w (.cells (stA t) 33))
  have K0 := Lib.hid (Blk.new w 33 (stA t))
  have H0 := Lib.hid ((h.wide hB).below B0.out)
  have S0 := Lib.hid (show w.heap.size ≤ (w.alloc (.cells (stA t) 33)).heap.size by simp)
  have h1 := Lib.hid (rKids_st (w.alloc (.cells (stA t) 33)) w.heap.size A cap l H0.out S0.out hl t)
  obtain ⟨N, hN⟩ : ∃ N, l.length = N := ⟨_, rfl⟩
  have HH := Lib.hid h
  have HRK := Lib.hid hrk
  have HBB := Lib.hid hB
  obtain ⟨ST, hST⟩ : ∃ x, stA t = x := ⟨_, rfl⟩
  rw [hN] at hl h1 ⊢
  rw [hST] at B0 K0 H0 S0 h1 ⊢
  have HN := Lib.hid hN
  have HST := Lib.hid hST
  obtain ⟨i1, hi1, hy0, hy1, hy2⟩ := info_parts Try.infoCl
  have hw : walkN (n + 1) l t = upto l n (kids l t) := rfl
  rw [hw] at hlen ⊢
  obtain ⟨K, hK⟩ : ∃ K, kids l t = K := ⟨_, rfl⟩
  have HKK := Lib.hid hK
  rw [hK] at h1 hlen ⊢
  have HLEN := Lib.hid hlen
  clear h hB hrk hN hST hw hK ih ht hlen
  have s0 : (w.alloc (.cells ST 33)).cell? ⟨w.heap.size, 0, none⟩ = some (.int .i64 t.1) := (K0.out.cell 0).trans (by rw [← HST.out]; rfl)
  have s1 : (w.alloc (.cells ST 33)).cell? ⟨w.heap.size, 1, none⟩ = some (.int .i64 t.2) := (K0.out.cell 1).trans (by rw [← HST.out]; rfl)
  go_enter Try.func50, Try.ntmps50
  go_wp2_with fail
  generalize w.alloc (.cells ST 33) = w0 at *
  refine h1.out.mono ?_
  rintro e w1 ⟨v1, rfl, o1, b1⟩
  have HB1 := Lib.hid (B0.out.trans (b1.mono S0.out))
  have HK1 := Lib.hid o1
  obtain ⟨M, hM⟩ : ∃ M, K.length = M := ⟨_, rfl⟩
  obtain ⟨Ak, ck, hv⟩ := HK1.out.len
  rw [hM] at hv
  subst hv
  have HM := Lib.hid hM
  have HA1 := Lib.hid ((HH.out.wide HBB.out).below HB1.out)
  have hMl : M ≤ 100000 := by
    have h9 : K.length ≤ l.length := by
      rw [← HKK.out]
      unfold kids
      rw [(sortC_perm _).length_eq]
      exact List.length_filter_le _ _
    rw [hM, HN.out] at h9
    omega
  clear h1 B0 K0 o1 b1 s0 s1 hM S0
  go_wp2_with fail
  go_loopw [5, 7] (fun o i wr => ∃ j : Nat, j ≤ M ∧ i = .int .i64 (j : Int) ∧ Hid (Below w1.heap.size w1 wr) ∧ Hid (OwnCls wr w1.heap.size o (upto l n (K.take j)))) (fun _ i _ => M - (intOf i).toNat)
  case atStart => exact ⟨0, Nat.zero_le _, rfl, Lib.hid (Below.refl _ _), Lib.hid (World.ownsRow_nil _ _ _ _)⟩
  case round =>
    obtain ⟨j, hj, rfl, HBj, HOj⟩ := hrel
    by_cases hjM : j < M
    · obtain ⟨c, hc⟩ : ∃ c, K[j]? = some c := ⟨_, List.getElem?_eq_getElem (by rw [HM.out]; exact hjM)⟩
      have HKj := Lib.hid (HK1.out.below HBj.out)
      obtain ⟨gk, hgk⟩ : ∃ g, Ak = some ⟨g, 0, none⟩ := by
        rcases (own_A HKj.out).1 with h0 | h0
        · exfalso
          obtain ⟨g', o', h1, _⟩ := own_at HKj.out j c hc
          rw [h0] at h1
          cases h1
        · exact h0
      subst hgk
      have e1 : decide ((j : Int) < (M : Int)) = true := decide_eq_true (by omega)
      have hut := upto_take (L := l) (n := n) hc
      have hck : c ∈ kids l t := by rw [HKK.out]; exact List.mem_of_getElem? hc
      have hrc := rank_kid HT.out hck
      have hrn : rank l c.id < n := by have := HRK.out; omega
      have hbound : (upto l n (K.take (j + 1))).length ≤ 1000000 := Nat.le_trans upto_le HLEN.out
      rw [hut, List.length_append, List.length_append, List.length_singleton] at hbound
      have HUT := Lib.hid hut
      have HRN := Lib.hid hrn
      have HC := Lib.hid hc
      have HKN := Lib.hid hjM
      obtain ⟨X, hX⟩ : ∃ X, upto l n (K.take j) = X := ⟨_, rfl⟩
      have HX := HOj
      rw [hX] at HX hbound HUT
      obtain ⟨m, hm⟩ : ∃ m, X.length = m := ⟨_, rfl⟩
      obtain ⟨Y, hY⟩ : ∃ Y, walkN n l c.id = Y := ⟨_, rfl⟩
      obtain ⟨r, hr⟩ : ∃ r, Y.length = r := ⟨_, rfl⟩
      rw [hm, hY, hr] at hbound
      rw [hY] at HUT
      obtain ⟨Ao, co, hv⟩ := HX.out.len
      rw [hm] at hv
      subst hv
      have HMM := Lib.hid hm
      have HYY := Lib.hid hY
      have HR := Lib.hid hr
      have HOWN := Lib.hid ((own_row HX.out hm).alloc (.cells (clA c) 56))
      have HKC := Lib.hid (Blk.new wr 56 (clA c))
      have HENC := Lib.hid (show encC c = (clA c).toList from rfl)
      have HONE := Lib.hid (encC_one c)
      have B3 := Lib.hid (HBj.out.alloc HBj.out.size (.cells (clA c) 56))
      have hsz := HBj.out.size
      have HRW := Lib.hid (own_row HKj.out HM.out)
      have HFO := Lib.hid (fold_cl c)
      have hcz := clA_size c
      obtain ⟨CC, hCC⟩ : ∃ x, clA c = x := ⟨_, rfl⟩
      rw [hCC] at HOWN HKC HENC B3 hcz HFO
      have HCC := Lib.hid hCC
      clear hc hut hck hrc hrn hX hm hY hr hCC HX HOj
      go_upto_region 7 with (first
        | (refine load_row rfl (x := .tmp 20) rfl rfl HRW.out HM.out HC.out ?_; rw [HCC.out])
        | (refine wpList_new rfl (op := .buildSlice 41 1 #[(0, .tmp 21)]) rfl (.slice (some ⟨wr.heap.size, 0, none⟩) 1 1) (wr.alloc (.cells CC 56)) (by rw [← HCC.out]; kernel_rfl) ?_)
        | (at_builtin; refine wpList_append_lies _ rfl _ _ 41 rfl w1.heap.size 56 i1 _ 20 248 Try.underlying41 hi1 hy0 hy1 hy2 rfl (by omega) (.slice Ao m co) m (cls X) rfl HOWN.out ⟨wr.heap.size, 0, none⟩ 1 1 (encC c) rfl rfl (by rw [HENC.out]; exact World.news_of_block HKC.out) HONE.out (by omega) (by unfold maxLen; omega) (by omega) (by simp; omega) (wr.heap.size + 1) (by simp) ?_; intro g9 cap9 w9 o9 gr9 l9 z9; have HO9 := Lib.hid (own_snoc HMM.out o9); have HB9 := Lib.hid (B3.out.grown gr9 B3.out.size (fun y hy => (HOWN.out.lt y hy).1)); clear o9 gr9 l9))
      have HT9 := Lib.hid (HB1.out.trans (HB9.out.mono HB1.out.size))
      have HK9 := Lib.hid (own_row (HK1.out.below HB9.out) HM.out)
      have q0 : w9.cell? ⟨gk, j * 20, none⟩ = some (.int .i64 c.id.1) := (own_cell HK9.out HM.out HC.out (j := 0) rfl).1
      have q1 : w9.cell? ⟨gk, j * 20 + 1, none⟩ = some (.int .i64 c.id.2) := (own_cell HK9.out HM.out HC.out (j := 1) rfl).1
      have W9 := Lib.hid (show Calls Try.prog 50 #[.slice A N cap, .agg #[.int .i64 c.id.1, .int .i64 c.id.2]] w9 fun e w' => ∃ v, e = .returned v ∧ OwnCls w' w9.heap.size v Y ∧ Below w9.heap.size w9 w' from by
        have := IH.out w9 c.id (HH.out.below (HT9.out.mono HBB.out)) (Nat.le_trans HBB.out HT9.out.size) HRN.out (by rw [HYY.out, HR.out]; omega)
        rw [HYY.out, HN.out] at this
        exact this)
      clear HOWN HKC HENC HONE B3 HRW HFO HCC hcz
      go_wp2_with fail
      refine W9.out.mono ?_
      rintro e w10 ⟨v10, rfl, o10, b10⟩
      have HO10 := Lib.hid (own_row (HO9.out.below b10) (n := m + 1) (by rw [List.length_append, HMM.out]; rfl))
      have HB10 := Lib.hid (HB9.out.trans (b10.mono HB9.out.size))
      obtain ⟨Av, cv, hv, hAv⟩ := o10.form
      rw [HR.out] at hv
      subst hv
      have HNV := Lib.hid (cls_news hAv)
      have HLV := Lib.hid (show (cls Y).length = r * 20 by rw [cls_len, HR.out])
      have HOV := Lib.hid (cls_one Y)
      have hs10 := HB10.out.size
      clear o10 hAv b10 W9 HT9 HK9 q0 q1 HO9 HB9
      go_wp2_with (at_builtin; refine wpList_append_any rfl _ _ 41 rfl w1.heap.size 56 i1 _ 20 248 Try.underlying41 hi1 hy0 hy1 hy2 rfl (by omega) (.slice (some ⟨g9, 0, none⟩) (m + 1) cap9) (m + 1) (cls (X ++ [c])) rfl HO10.out Av r cv (cls Y) rfl HLV.out HNV.out HOV.out (by unfold maxLen; omega) (by omega) hs10 ?_; intro v11 w11 o11 gr11 l11; have HB11 := Lib.hid (HB10.out.grown gr11 hs10 (fun y hy => (HO10.out.lt y hy).1)); have HO11 := Lib.hid o11; clear o11 gr11 l11)
      have HZ := Lib.hid (show OwnCls w11 w1.heap.size v11 (upto l n (K.take (j + 1))) from by
        rw [HUT.out]
        unfold OwnCls
        have h1 : ((X ++ [c]) ++ Y).length = m + 1 + r := by rw [List.length_append, List.length_append, HMM.out, HR.out]; rfl
        have h2 : cls ((X ++ [c]) ++ Y) = cls (X ++ [c]) ++ cls Y := by unfold cls; rw [List.flatMap_append]
        rw [h1, h2]
        exact HO11.out)
      first
        | (go_roundw
           case rel => exact ⟨j + 1, HKN.out, by go_num, HB11, HZ⟩
           case measure =>
             have := HKN.out
             simp [intOf]
             omega)
        | (refine ⟨⟨j + 1, HKN.out, by go_num, HB11, HZ⟩, ?_⟩
           have := HKN.out
           simp [intOf]
           omega)
    · obtain rfl : j = M := by omega
      have HR := Lib.hid (show OwnCls wr w1.heap.size u5 (upto l n K) from by
        have := HOj.out
        rw [← HM.out, List.take_length] at this
        exact this)
      have hb := HB1.out.trans (HBj.out.mono HB1.out.size)
      have HBZ := Lib.hid hb
      clear HOj hb
      go_wp2
      go_ret
      exact ⟨_, rfl, HR.out.low HB1.out.size, HBZ.out⟩
theorem rWalk_all {B : Nat} {A : Option Addr} {cap : Nat} {l : List Cl} (ht : Tr l) (hl : l.length ≤ 100000) : ∀ n, RWalkAt B A cap l n
  | 0 => fun _ _ _ _ h _ => by omega
  | n + 1 => rWalk_step ht hl (rWalk_all ht hl n)
set_option maxRecDepth 100000 in
set_option maxHeartbeats 4000000 in
theorem rList_any (w : World) {base q n : Nat} {v : Value} {L : List Cl} (h : RP w base q v n L) (hn : n ≤ 100000) :
    Calls Try.prog 35 #[.pointer (some ⟨q, 0, none⟩)] w fun e w' => ∃ u, e = .returned u ∧ OwnCls w' w.heap.size u (walkS L) ∧ Below w.heap.size w w' := by
  obtain ⟨N, hN⟩ : ∃ N, L.length = N := ⟨_, rfl⟩
  obtain ⟨A, cap, hv⟩ := h.own.len
  rw [hN] at hv
  subst hv
  have hlen := h.len
  have c0 : w.cell? ⟨q, 0, none⟩ = some (.slice A N cap) := h.blk.cell 0
  have hrk : rank L z2 < L.length + 1 := Nat.lt_succ_of_le (rank_le L z2)
  have hwl : (walkN (L.length + 1) L z2).length ≤ 1000000 := by
    have := walk_len h.pg
    unfold walkS at this
    rw [this]
    omega
  have W := Lib.hid (show Calls Try.prog 50 #[.slice A N cap, .agg #[.int .i64 0, .int .i64 0]] w fun e w' => ∃ v, e = .returned v ∧ OwnCls w' w.heap.size v (walkS L) ∧ Below w.heap.size w w' from by
    have := rWalk_all (B := w.heap.size) (A := A) (cap := cap) h.pg.tr (by omega) (L.length + 1) w z2 (own_at h.own) (Nat.le_refl _) hrk hwl
    rw [hN] at this
    unfold walkS
    rw [hN]
    exact this)
  clear h hN hlen hrk hwl
  go_enter Try.func35, Try.ntmps35
  go_wp2_with fail
  refine W.out.mono ?_
  rintro e w1 ⟨v1, rfl, o1, b1⟩
  have HO := Lib.hid o1
  clear o1 W
  go_wp2
  go_ret
  exact ⟨_, rfl, HO.out, b1⟩
end Go.Proofs.Ytaicbllfkehhjaa

/- A slice of one-cell elements at any offset (it was cut at its head), one element more. Over any program. -/
namespace Go.Proofs.Ytaicbllfkehhjaa
open Go.RowKit

/-- v reads as l: nil, or a piece of a block that is known whole. -/
def Row1 (w : World) (e : TypeId) (v : Value) (l : List Value) : Prop :=
  (v = .slice none 0 0 ∧ l = []) ∨ ∃ b off cap cs, v = .slice (some ⟨b, off, none⟩) l.length cap ∧ Blk w b e cs ∧ off + cap ≤ cs.size ∧ l.length ≤ cap ∧ ∀ j u, l[j]? = some u → cs[off + j]? = some u
section
variable {w w' : World} {e : TypeId} {v : Value} {l : List Value}
theorem Row1.nil (w : World) (e : TypeId) : Row1 w e (.slice none 0 0) [] := .inl ⟨rfl, rfl⟩
theorem Row1.only {F : Foot} (h : Row1 w e v l) (k : Only F w w') (hF : ∀ g, v.ownBlock = some g → ¬ F g) : Row1 w' e v l := by
  rcases h with h | ⟨b, off, cap, cs, h1, h2, h3, h4, h6⟩
  · exact .inl h
  · exact .inr ⟨b, off, cap, cs, h1, k.blk h2 (hF b (by rw [h1]; rfl)), h3, h4, h6⟩
theorem Row1.form (h : Row1 w e v l) : ∃ A cap, v = .slice A l.length cap := by
  rcases h with ⟨rfl, rfl⟩ | ⟨b, off, cap, cs, h1, _⟩
  · exact ⟨_, _, rfl⟩
  · exact ⟨_, _, h1⟩
theorem Row1.ltb (h : Row1 w e v l) : ∀ g, v.ownBlock = some g → g < w.heap.size := by
  intro g hg
  rcases h with ⟨rfl, rfl⟩ | ⟨b, off, cap, cs, rfl, h2, _⟩
  · cases hg
  · have : b = g := by simpa [Value.ownBlock] using hg
    exact this ▸ h2.lt
theorem Row1.ne_blk {t : TypeId} {g : Nat} {cs : Array Value} (h : Row1 w e v l) (hg : Blk w g t cs) (hne : e ≠ t) : v.ownBlock ≠ some g := by
  rcases h with ⟨rfl, rfl⟩ | ⟨b, off, cap, ds, rfl, h2, _⟩
  · simp [Value.ownBlock]
  · intro he
    have : b = g := by simpa [Value.ownBlock] using he
    subst this
    exact h2.ne_ hg hne rfl
end

section
variable {P : Program}
/-- The value after one element more, and what has turned: the slice's own block, or none. -/
theorem run_append_row1 (w : World) (t ty e : TypeId) (i : TypeInfo) (z : Value) (ht : P.underlying t = some (.slice e)) (hi : P.info? e = some i) (hz : i.zero = some z) (hsize : i.size = 1) (hby : i.bytes = 24) (hzs : z.cells.size = 1)
    {v : Value} {l : List Value} (h : Row1 w e v l) (hlen : l.length ≤ 1000000) (ad : Addr) (c : Nat) (x : Value) (hx : w.cell? (ad.add 0) = some x) (h1 : x.oneCell' = true) :
    (∃ v' w', (Builtin.append_ #[t, t] ty #[v, .slice (some ad) 1 c]).run P w = .ok v' w' ∧ Row1 w' e v' (l ++ [x]) ∧ Only (fun g => v.ownBlock = some g) w w' ∧ (v'.ownBlock = v.ownBlock ∨ v'.ownBlock = some w.heap.size)) := by
  have hs : Src P i.size t (.slice (some ad) 1 c) 1 [x] w := Src.ofSlice w ht ad 1 c [x] (by simp [hsize]) (fun j u hu => by
    cases j with
    | zero => simp at hu; subst hu; exact hx
    | succ j => simp at hu) (fun u hu => by simp at hu; subst hu; exact h1)
  have grow : ∀ (base : Option Addr) (k : Nat), v = .slice base l.length k → k = l.length → (Builtin.firstCells i.size l.length (.slice base l.length k)).run P w.drew = .ok l.toArray w.drew →
      (∃ v' w', (Builtin.append_ #[t, t] ty #[v, .slice (some ad) 1 c]).run P w = .ok v' w' ∧ Row1 w' e v' (l ++ [x]) ∧ Only (fun g => v.ownBlock = some g) w w' ∧ (v'.ownBlock = v.ownBlock ∨ v'.ownBlock = some w.heap.size)) := by
    intro base k hv hk hold
    subst hk
    have hp : Builtin.nextslicecap (l.length + 1) l.length * i.bytes ≤ 281474976710656 := growslice_fits_succ (by rw [hby]; omega) (by omega)
    have hnb : (l.length + 1) * i.bytes ≤ 281474976710656 := Nat.le_trans (Nat.mul_le_mul_right _ (le_nextslicecap (by omega))) hp
    have h63 : ((l.length + 1 : Nat) : Int) ≤ 9223372036854775807 := by
      rw [hby] at hnb
      omega
    have hr := run_append_grow_src (P := P) w t t ty e i z ht hi hz base l.length l.length l hold _ 1 [x] hs (by omega) h63 hp
    refine ⟨_, _, by rw [hv]; exact hr, .inr ⟨w.heap.size, 0, grownCap w (l.length + 1) l.length e, _, by rw [List.length_append]; rfl, Blk.new w.drew e _, ?_, ?_, ?_⟩, ((Only.refl _ w).drew).alloc _, .inr rfl⟩
    · have hge := grownCap_ge w (l.length + 1) l.length e
      simp [Builtin.zeroCells, hzs]
      try omega
    · rw [List.length_append]
      exact grownCap_ge w (l.length + 1) l.length e
    · intro j u hu
      have hj : j < (l ++ [x]).length := by
        rcases Nat.lt_or_ge j (l ++ [x]).length with h0 | h0
        · exact h0
        · rw [List.getElem?_eq_none h0] at hu; cases hu
      rw [Nat.zero_add, Array.getElem?_append_left (by simpa using hj)]
      simpa using hu
  rcases h with ⟨rfl, rfl⟩ | ⟨b, off, cap, cs, hv, h2, h3, h4, h6⟩
  · exact grow none 0 rfl rfl (run_firstCells_none w.drew _ 0 0 0)
  · by_cases hroom : l.length + 1 ≤ cap
    · subst hv
      have hr := run_append_room_src (P := P) w t t ty e i ht hi b off l.length cap _ 1 [x] hs hroom
        (fun j hj => by
          have hj0 : j = 0 := by simpa using hj
          subst hj0
          rw [hsize, h2.cell, Array.getElem?_eq_getElem (by omega)]; rfl)
        (fun j _ => h2.frozen _)
      rw [hsize] at hr
      refine ⟨_, _, hr, .inr ⟨b, off, cap, cs.setIfInBounds (off + l.length) x, by rw [List.length_append]; rfl, ?_, by simpa using h3, by rw [List.length_append]; exact hroom, ?_⟩, ?_, .inl rfl⟩
      · have := h2.set_ (off + l.length * 1) x
        rw [Nat.mul_one] at this
        simpa [World.setCells] using this
      · intro j u hu
        rcases Nat.lt_or_ge j l.length with h0 | h0
        · rw [List.getElem?_append_left h0] at hu
          rw [Array.getElem?_setIfInBounds_ne (by omega)]
          exact h6 j u hu
        · rw [List.getElem?_append_right h0] at hu
          have hj0 : j = l.length := by
            rcases Nat.eq_zero_or_pos (j - l.length) with h7 | h7
            · omega
            · rw [List.getElem?_eq_none (by simp; omega)] at hu; cases hu
          subst hj0
          simp at hu
          subst hu
          rw [Array.getElem?_setIfInBounds_self_of_lt (by omega)]
      · have := (Only.refl (fun g => Value.ownBlock (.slice (some ⟨b, off, none⟩) l.length cap) = some g) w).setCell (p := ⟨b, off + l.length * 1, none⟩) (.inl rfl) x
        simpa [World.setCells] using this
    · have hc : cap = l.length := by omega
      refine grow (some ⟨b, off, none⟩) cap hv hc ?_
      refine run_firstCells_some w.drew i.size l.length ⟨b, off, none⟩ l.length cap l (by rw [hsize, Nat.mul_one]) (fun j u hu => ?_)
      rw [Addr.add_lit]
      show w.cell? ⟨b, off + j, none⟩ = some u
      rw [h2.cell]
      exact h6 j u hu

/-- THE SAME FOR THE WALK. -/
theorem wpList_append_row1 {w : World} {ops : Array Oper} {rest : List Oper} {o : Oper} {a : Act} {Q : Exit → Act → World → Prop} (hgd : o.guard = none) (s x : Operand) (t : TypeId)
    (ho : o.op = .call { callee := .builtin .append, args := #[s, x], argTypes := #[t, t] })
    (e : TypeId) (i : TypeInfo) (z : Value) (ht : P.underlying t = some (.slice e)) (hi : P.info? e = some i) (hz : i.zero = some z) (hsize : i.size = 1) (hby : i.bytes = 24) (hzs : z.cells.size = 1)
    {v : Value} {l : List Value} (hs : a.eval s = v) (h : Row1 w e v l) (hlen : l.length ≤ 1000000) (ad : Addr) (c : Nat) (u : Value) (hx : a.eval x = .slice (some ad) 1 c) (hu : w.cell? (ad.add 0) = some u) (h1 : u.oneCell' = true)
    (hK : ∀ v' w', Row1 w' e v' (l ++ [u]) → Only (fun g => v.ownBlock = some g) w w' → (v'.ownBlock = v.ownBlock ∨ v'.ownBlock = some w.heap.size) → wpList P ops Q rest (a.put o.dst v') w') : wpList P ops Q (o :: rest) a w := by
  obtain ⟨v', w', hrun, h2, h3, h4⟩ := run_append_row1 (P := P) w t o.type e i z ht hi hz hsize hby hzs h hlen ad c u hu h1
  refine wpList_plain hgd fun K hK' => ?_
  unfold Oper.wp
  simp [execOp, ho, resolve, invoke, builtin, hs, hx, hrun, Result.andThen]
  exact hK' _ _ (hK v' w' h2 h3 h4)
end
end Go.Proofs.Ytaicbllfkehhjaa

/- The reference's chamber in memory. -/
namespace Go.Proofs.Ytaicbllfkehhjaa
open Go.RowKit

/-- Where the reference's chamber lies: its block, its two slices, its pages with their slices, the slices of the messages. -/
structure RLay where
  p : Nat
  pv : Value
  mv : Value
  q : Nat → Nat
  v : Nat → Value
  xs : List Value
def msgV (ms : List Msg) (xs : List Value) : List Value := (ms.zip xs).flatMap fun p => [.int .i64 (p.1.1 : Int), .int .i64 (p.1.2.1 : Int), p.2]
structure RAt (w : World) (base : Nat) (z : RLay) (n : Nat) (C : Ch) (ms : List Msg) : Prop where
  len : C.pages.length = n
  blk : Blk w z.p 80 #[z.pv, z.mv]
  low : base ≤ z.p
  pgv : w.ownsRow base 81 1 z.pv n ((List.range n).map fun i => .pointer (some ⟨z.q i, 0, none⟩))
  msv : w.ownsRow base 89 3 z.mv ms.length (msgV ms z.xs)
  xlen : z.xs.length = ms.length
  xown : ∀ (j : Nat) (x : Value) (m : Msg), z.xs[j]? = some x → ms[j]? = some m → OwnCls w base x m.2.2
  pgs : ∀ i, i < n → RP w base (z.q i) (z.v i) 100000 (C.pg i)
  qlow : ∀ i, i < n → base ≤ z.q i
  qinj : ∀ i j, i < n → j < n → z.q i = z.q j → i = j
  vinj : ∀ i j, i < n → j < n → ∀ g, (z.v i).ownBlock = some g → (z.v j).ownBlock = some g → i = j
  sep : ∀ i, i < n → ∀ x ∈ z.xs, ∀ g, (z.v i).ownBlock = some g → x.ownBlock ≠ some g
section
variable {w w' : World} {base n : Nat} {z : RLay} {C : Ch} {ms : List Msg}
theorem RAt.below (h : RAt w base z n C ms) (k : Below w.heap.size w w') : RAt w' base z n C ms :=
  { h with
    blk := h.blk.below k h.blk.lt
    pgv := (Only.of_below k fun _ => False).owns h.pgv fun _ _ => id
    msv := (Only.of_below k fun _ => False).owns h.msv fun _ _ => id
    xown := fun j x m hx hm => (h.xown j x m hx hm).below k
    pgs := fun i hi => (h.pgs i hi).below k }
end
theorem RAt.pv_form {w : World} {base n : Nat} {z : RLay} {C : Ch} {ms : List Msg} (h : RAt w base z n C ms) : ∃ A cap, z.pv = .slice A n cap := by
  rcases h.pgv.2 with ⟨e, h0⟩ | ⟨g, cap, cur, e, _⟩
  · exact ⟨none, 0, by rw [e, h0]⟩
  · exact ⟨_, cap, e⟩
set_option maxRecDepth 100000 in
/-- Is there such a seat. -/
theorem rseat_any (w : World) {base n : Nat} {z : RLay} {C : Ch} {ms : List Msg} (h : RAt w base z n C ms) (i : Int) :
    Calls Try.prog 34 #[.pointer (some ⟨z.p, 0, none⟩), .int .i64 i] w fun e w' => e = .returned (.bool (decide (0 ≤ i ∧ i < (n : Int)))) ∧ w' = w := by
  obtain ⟨A, cap, e⟩ := h.pv_form
  have c0 : w.cell? ⟨z.p, 0, none⟩ = some (.slice A n cap) := by rw [h.blk.cell 0, ← e]; rfl
  clear e h
  go_enter Try.func34, Try.ntmps34
  by_cases h0 : 0 ≤ i
  · have d0 : decide (i ≥ 0) = true := decide_eq_true h0
    by_cases h1 : i < (n : Int)
    · have d1 : decide (0 ≤ i ∧ i < (n : Int)) = true := decide_eq_true ⟨h0, h1⟩
      rw [d1]
      go_wp2
      go_ret
      exact ⟨rfl, rfl⟩
    · have d1 : decide (0 ≤ i ∧ i < (n : Int)) = false := decide_eq_false fun e => h1 e.2
      rw [d1]
      go_wp2
      go_ret
      exact ⟨rfl, rfl⟩
  · have d1 : decide (0 ≤ i ∧ i < (n : Int)) = false := decide_eq_false fun e => h0 e.1
    rw [d1]
    go_wp2
    go_ret
    exact ⟨rfl, rfl⟩
end Go.Proofs.Ytaicbllfkehhjaa

/- Laws for the walk, over any program: copy into a block that is known whole, the world behind it a variable. -/
namespace Go.Proofs.Ytaicbllfkehhjaa
open Go.RowKit

/-- bytes as cells -/
def bc (l : List UInt8) : List Value := l.map fun b => Value.int .u8 (b.toNat : Int)
theorem bc_len (l : List UInt8) : (bc l).length = l.length := by simp [bc]
theorem bc_one (l : List UInt8) : ∀ v ∈ bc l, v.oneCell' = true := by
  intro v hv; simp [bc] at hv; obtain ⟨b, _, rfl⟩ := hv; rfl
theorem bc_at (l : List UInt8) (j : Nat) : (bc l)[j]? = (l[j]?).map fun b => Value.int .u8 (b.toNat : Int) := by simp [bc]
theorem bc_take (l : List UInt8) (n : Nat) : (bc l).take n = bc (l.take n) := by simp [bc, List.map_take]
theorem bc_drop (l : List UInt8) (n : Nat) : (bc l).drop n = bc (l.drop n) := by simp [bc, List.map_drop]
theorem bc_app (l m : List UInt8) : bc (l ++ m) = bc l ++ bc m := by simp [bc]
theorem bc_splice (l m : List UInt8) (k : Nat) : splice (bc l) k (bc m) = bc (splice l k m) := by simp [splice, bc, List.map_take, List.map_drop]

section
variable {P : Program} {w : World} {ops : Array Oper} {rest : List Oper} {o : Oper} {a : Act} {Q : Exit → Act → World → Prop}

theorem only_setRow (w : World) (g : Nat) (cs : Array Value) : Only (· = g) w (w.setRow g cs) :=
  ⟨rfl, rfl, rfl, by simp [World.setRow], fun i _ hn => setRow_other w g i cs hn⟩
theorem size_setRow (w : World) (g : Nat) (cs : Array Value) : (w.setRow g cs).heap.size = w.heap.size := by simp [World.setRow]

/-- copy(dst, src), both slices: dst lies in block g from off on, src at ad; both have at least cs.length elements, and one has no more. -/
theorem wpList_copy_blk (hgd : o.guard = none) (d s : Operand) (dT sT : TypeId)
    (ho : o.op = .call { callee := .builtin .copy, args := #[d, s], argTypes := #[dT, sT] }) (elem : TypeId) (hu : P.underlying dT = some (.slice elem)) (hsz : (P.info? elem).map (·.size) = some 1)
    (g off dLen dCap : Nat) (ad : Addr) (sLen sCap : Nat) (hd : a.eval d = .slice (some ⟨g, off, none⟩) dLen dCap) (hs : a.eval s = .slice (some ad) sLen sCap)
    (cur : List Value) (t : TypeId) (hg : Blk w g t cur.toArray) (cs : List Value) (hn : cs.length = Nat.min sLen dLen)
    (hsrc : ∀ j v, cs[j]? = some v → w.cell? (ad.add j) = some v) (hfit : off + cs.length ≤ cur.length) (h1 : ∀ v ∈ cs, v.oneCell' = true)
    (h : ∀ w', Blk w' g t (splice cur off cs).toArray → Only (· = g) w w' → w.heap.size ≤ w'.heap.size → wpList P ops Q rest (a.put o.dst (goInt cs.length)) w') : wpList P ops Q (o :: rest) a w := by
  refine wpList_copy_own hgd d s dT sT ho elem hu hsz g off dLen dCap ad sLen sCap hd hs cur.toArray t hg cs hn hsrc (by simpa using hfit) h1 ?_
  exact h _ (by simpa [splice, Blk] using setRow_heap w g _ _ t _ hg) (only_setRow _ _ _) (by rw [size_setRow]; exact Nat.le_refl _)

/-- copy(dst, text): the text fits. -/
theorem wpList_copy_str (hgd : o.guard = none) (d s : Operand) (dT sT : TypeId)
    (ho : o.op = .call { callee := .builtin .copy, args := #[d, s], argTypes := #[dT, sT] }) (elem : TypeId) (hu : P.underlying dT = some (.slice elem)) (hsz : (P.info? elem).map (·.size) = some 1)
    (g off dLen dCap : Nat) (x : ByteArray) (hd : a.eval d = .slice (some ⟨g, off, none⟩) dLen dCap) (hs : a.eval s = .string x)
    (cur : List Value) (t : TypeId) (hg : Blk w g t cur.toArray) (hle : x.size ≤ dLen) (hfit : off + x.size ≤ cur.length)
    (h : ∀ w', Blk w' g t (splice cur off (bc x.data.toList)).toArray → Only (· = g) w w' → w.heap.size ≤ w'.heap.size → wpList P ops Q rest (a.put o.dst (goInt x.size)) w') : wpList P ops Q (o :: rest) a w := by
  refine wpList_plain hgd fun K hK => ?_
  have hrun := Lib.run_copy_row_string (P := P) w dT sT o.type elem g off dLen dCap x cur.toArray t hu hsz hg hle (by simpa using hfit)
  unfold Oper.wp
  simp [execOp, ho, resolve, invoke, builtin, hd, hs, hrun, Result.andThen]
  refine hK _ _ (h _ ?_ (only_setRow _ _ _) (by rw [size_setRow]; exact Nat.le_refl _))
  have := setRow_heap w g cur.toArray (splice cur off (bc x.data.toList)).toArray t _ hg
  have hx : x.data.size = x.size := rfl
  simpa [splice, bc, Lib.byteCells, hx, Blk] using this

theorem run_min2 (x y z : Int) (h : z = min x y) (ts : Array TypeId) (t : TypeId) (W : World) : (Builtin.min_ ts t #[.int .i64 x, .int .i64 y]).run P W = .ok (.int .i64 z) W := by
  rw [run_min_int2]; congr 2; subst h; split <;> omega

theorem ext_take (t : ByteArray) (m : Nat) : (t.extract 0 m).data.toList = t.data.toList.take m := by simp [ByteArray.data_extract]
theorem ext_size (t : ByteArray) (i j : Nat) (hj : j ≤ t.size) : (t.extract i j).size = j - i := by simp [ByteArray.size_extract]; omega

/-- string(b[off:off+len]) of a block that is known whole. -/
theorem run_string_of_blk (W : World) (src dst e g : Nat) (t : TypeId) (hs : P.underlying src = some (.slice e)) (he : P.underlying e = some (.int .u8)) (hd : P.underlying dst = some .string)
    (off len cap : Nat) (l : List UInt8) (hb : Blk W g t (bc l).toArray) (hl : off + len ≤ l.length) :
    (convert src dst (.slice (some ⟨g, off, none⟩) len cap)).run P W = .ok (.string ⟨((l.drop off).take len).toArray⟩) W := by
  have hlen : ((l.drop off).take len).length = len := by simp; omega
  have := run_convert_bytes_arg (P := P) W src e hs he g off len cap (((l.drop off).take len).map fun b => (b.toNat : Int)) (by simpa using hlen) (fun i hi => by
    rw [hb.cell (off + i)]
    have : i < ((l.drop off).take len).length := by omega
    simp only [List.getElem?_toArray, bc_at]
    rw [List.getElem?_eq_getElem (by omega)]
    simp [List.getD, hi, List.getElem?_drop, List.getElem?_eq_getElem (show off + i < l.length by omega)]) dst hd
  rw [this]
  congr 2
  unfold strOfNums
  congr 2
  rw [List.map_map]
  have hid : ((fun n : Int => UInt8.ofNat n.toNat) ∘ fun b : UInt8 => (b.toNat : Int)) = id := by funext b; simp
  rw [hid, List.map_id]

/-- make([]T, n), one cell an element. -/
theorem run_make_one (t e : TypeId) (z : Value) (b : Nat) (ht : P.underlying t = some (.slice e)) (hinfo : (P.info? e).map (fun i => (i.zero, i.size, i.bytes)) = some (some z, 1, b)) (hz1 : z.cells = #[z])
    (x : Int) (n : Nat) (hx : x = n) (hb : b * n ≤ 281474976710656) (hn : n ≤ 9223372036854775807) (W : World) :
    (Instr.makeSlice t (.int .i64 x) (.int .i64 x)).run P W = .ok (.slice (some ⟨W.heap.size, 0, none⟩) n n) (W.alloc (.cells (List.replicate n z).toArray e)) := by
  subst hx
  obtain ⟨i, hi, h1, h2, h3⟩ := info_parts hinfo
  have hb' : (i.bytes : Int) * (n : Int) ≤ 281474976710656 := by
    rw [h3]
    have h : ((b * n : Nat) : Int) ≤ 281474976710656 := by omega
    rwa [Int.natCast_mul] at h
  have hr := run_make (P := P) W t e i z ht hi h1 .i64 .i64 n n (by omega) (by omega) hb' (by omega)
  simp only [Int.toNat_natCast] at hr
  rw [hr, h2, hz1, Nat.mul_one]
  have : madeCells #[z] n = (List.replicate n z).toArray := by
    apply Array.toList_inj.1
    rw [toList_madeCells_one]
  rw [this]

/-- x[lo:hi] inside the capacity, one cell an element. -/
theorem run_slice_in (t e : TypeId) (ht : P.underlying t = some (.slice e)) (hs : (P.info? e).map (·.size) = some 1) (g off len cap : Nat) (lo hi : Int) (x y : Nat) (hlo : lo = x) (hhi : hi = y)
    (hxy : x ≤ y) (hy : y ≤ cap) (hx : x < cap) (W : World) :
    (Instr.slice t (.slice (some ⟨g, off, none⟩) len cap) (some (.int .i64 lo)) (some (.int .i64 hi)) none).run P W = .ok (.slice (some ⟨g, off + x, none⟩) (y - x) (cap - x)) W := by
  subst hlo hhi
  have ht' : P.underlying t = some (.slice (P.elem t)) := by simp [Program.elem, ht]
  have he : P.elem t = e := by simp [Program.elem, ht]
  rw [run_slice_lh W t _ len cap ht' .i64 .i64 x y (by omega) (by omega) (by omega), he]
  cases hq : P.info? e with
  | none => simp [hq] at hs
  | some i =>
    have hi : i.size = 1 := by simpa [hq] using hs
    simp [sizeOf, typeInfo, hq, Result.andThen, sliced, hi, Addr.add]
    split
    · omega
    · split
      · subst_vars; simp
      · rfl

/-- A region that draws its order, all of whose operations but the last few only read: in the order of the text. -/
theorem wp_region_tail {id : Nat} {l : List Oper} (n : Nat) (hm : P.follows .mixedOrders = true) (hB : Region.lexTailB .any l.toArray n = true)
    (h : wpStill P l.toArray w.drew (fun a' => wpList P l.toArray Q (l.drop n) a' w.drew) (l.take n) a) : (Code.region id l.toArray true).wp P Q a w :=
  wp_region_still_tail n hm hB h
end
end Go.Proofs.Ytaicbllfkehhjaa

/- The queue: put, take; is. -/
namespace Go.Proofs.Ytaicbllfkehhjaa
open Go.RowKit

theorem addr_add1 (g off j : Nat) : (⟨g, off, none⟩ : Addr).add j = ⟨g, off + j, none⟩ := by unfold Addr.add; split <;> simp_all
theorem info_ll : (Try.prog.info? 41).map (fun i => (i.zero, i.size, i.bytes)) = some (some (.slice none 0 0), 1, 24) := by kernel_rfl

set_option maxRecDepth 100000 in
theorem qput_any (w : World) (q : Nat) (v x : Value) (l : List Value) (hq : Blk w q 75 #[v]) (hr : Row1 w 41 v l) (hlen : l.length ≤ 1000000) (hx : ∃ A k c, x = .slice A k c) :
    Calls Try.prog 44 #[.pointer (some ⟨q, 0, none⟩), x] w fun e w' => (∃ r, e = .returned r) ∧ ∃ v', Blk w' q 75 #[v'] ∧ Row1 w' 41 v' (l ++ [x]) ∧
      Only (fun g => g = q ∨ v.ownBlock = some g) w w' ∧ (v'.ownBlock = v.ownBlock ∨ ∃ g, v'.ownBlock = some g ∧ w.heap.size ≤ g) := by
  obtain ⟨xA, xk, xc, rfl⟩ := hx
  have hqv : v.ownBlock ≠ some q := hr.ne_blk hq (by decide)
  obtain ⟨A, cap, rfl⟩ := hr.form
  have hqa := hq.all
  obtain ⟨hc, hf, hl⟩ := hqa
  obtain ⟨i0, hi, hz0, hz1, hz2⟩ := info_parts info_ll
  have HR := Lib.hid hr
  have HQ := Lib.hid hq
  have HN := Lib.hid hqv
  have kX := Blk.new w 41 #[.slice xA xk xc]
  have hcx : (w.alloc (.cells #[.slice xA xk xc] 41)).cell? ⟨w.heap.size, 0, none⟩ = some (.slice xA xk xc) := kX.cell 0
  clear hr hq hqv
  go_enter Try.func44, Try.ntmps44
  go_wp2_with (at_builtin; refine wpList_append_row1 rfl _ _ 62 rfl 41 i0 _ Try.underlying62 hi hz0 hz1 hz2 rfl rfl (HR.out.only (Only.of_below (below_self_alloc _ _) fun _ => False) fun _ _ => id) hlen ⟨w.heap.size, 0, none⟩ 1 (.slice xA xk xc) rfl hcx rfl ?_; intro v' w1 hr1 ho1 hb1; have hq1 : Blk w1 q 75 #[.slice A l.length cap] := ho1.blk (HQ.out.alloc _) HN.out; obtain ⟨A1, cap1, hv1⟩ := hr1.form; subst hv1; have hqa1 := hq1.all; obtain ⟨hc1, hf1, hl1⟩ := hqa1)
  go_end0
  have hs := hr1.ne_blk hq1 (by decide)
  refine ⟨⟨_, rfl⟩, _, by simpa using hq1.set_ 0 (.slice A1 (l.length + 1) cap1), hr1.only ((Only.refl (fun g => g = q) w1).setCell (.inl rfl) _) (fun g hg e => hs (by rw [hg, e])), ?_, ?_⟩
  · exact ((((Only.refl _ w).alloc _).trans ho1 (fun i hi => .inl (.inr hi))).setCell (.inl (.inl rfl)) _)
  · rcases hb1 with h | h
    · exact .inl h
    · exact .inr ⟨_, h, by simp⟩

set_option maxRecDepth 100000 in
theorem row1_cut (b off n cap : Nat) (h : n + 1 ≤ cap) (W : World) : (Instr.slice 62 (.slice (some ⟨b, off, none⟩) (n + 1) cap) (some (.int .i64 1)) none none).run Try.prog W = .ok (.slice (some ⟨b, if cap = 1 then off else off + 1, none⟩) n (cap - 1)) W := by
  have ht : Try.prog.underlying 62 = some (.slice (Try.prog.elem 62)) := by kernel_rfl
  have he : Try.prog.elem 62 = 41 := by kernel_rfl
  rw [run_slice_l _ _ _ _ _ ht .i64 1 (by omega) (by omega), he, Try.sizeOf41 W]
  simp only [Result.andThen_ok, sliced]
  by_cases hc : cap = 1
  · subst hc
    obtain rfl : n = 0 := by omega
    rfl
  · have : ¬ cap - 1 = 0 := by omega
    simp [hc, addr_add1]

set_option maxRecDepth 100000 in
/-- take at a queue with something in it. -/
theorem qtake_any (w : World) (q : Nat) (v x : Value) (l : List Value) (hq : Blk w q 75 #[v]) (hr : Row1 w 41 v (x :: l)) (hlen : l.length ≤ 1000000) (hx : ∃ A k c, x = .slice A k c) :
    Calls Try.prog 45 #[.pointer (some ⟨q, 0, none⟩)] w fun e w' => e = .returned (.tuple #[x, .bool true]) ∧ ∃ v', Blk w' q 75 #[v'] ∧ Row1 w' 41 v' l ∧
      Only (fun g => g = q) w w' ∧ v'.ownBlock = v.ownBlock := by
  obtain ⟨xA, xk, xc, rfl⟩ := hx
  have hqv : v.ownBlock ≠ some q := hr.ne_blk hq (by decide)
  rcases hr with ⟨_, h0⟩ | ⟨b, off, cap, cs, rfl, h2, h3, h4, h6⟩
  · cases h0
  simp only [List.length_cons] at h4 hqv
  have hx0 := h6 0 _ rfl
  rw [Nat.add_zero] at hx0
  have hqa := hq.all
  obtain ⟨hc, hf, hl⟩ := hqa
  have hcx : w.cell? ⟨b, off, none⟩ = some (.slice xA xk xc) := by rw [h2.cell]; exact hx0
  have HQ := Lib.hid hq
  have H2 := Lib.hid h2
  have H3 := Lib.hid h3
  have H4 := Lib.hid h4
  have H6 := Lib.hid h6
  have HN := Lib.hid hqv
  obtain ⟨o', ho'⟩ : ∃ o', (if cap = 1 then off else off + 1) = o' := ⟨_, rfl⟩
  have hsl := row1_cut b off l.length cap h4
  rw [ho'] at hsl
  have HO := Lib.hid ho'
  clear ho'
  clear hq h2 h3 h4 h6 hqv hx0
  go_enter Try.func45, Try.ntmps45
  go_wp2_with fail
  refine wp_region_tail 13 (by kernel_rfl) (by kernel_rfl) ?_
  simp only [List.take_succ_cons, List.take_zero, List.drop_succ_cons, List.drop_zero]
  repeat still_step
  refine wpStill_nil ?_
  go_wp2_with fail
  refine bodyPost_ret (v := .tuple #[.slice xA xk xc, .bool true]) (by simp [results, Try.results45]) rfl ?_
  refine ⟨rfl, .slice (some ⟨b, o', none⟩) l.length (cap - 1), HQ.out.drew.set_ 0 (.slice (some ⟨b, o', none⟩) l.length (cap - 1)), ?_, (Only.refl (fun g => g = q) w).drew.setCell (.inl rfl) _, rfl⟩
  have h3 := H3.out
  have h4 := H4.out
  have ho := HO.out
  refine .inr ⟨b, o', cap - 1, cs, rfl, (H2.out.drew).far (fun e => HN.out (congrArg some e)) _, ?_, by omega, fun j u hu => ?_⟩
  · split at ho <;> omega
  · by_cases hc : cap = 1
    · have : l = [] := List.eq_nil_of_length_eq_zero (by omega)
      subst this
      cases hu
    · rw [if_neg hc] at ho
      rw [← ho, show off + 1 + j = off + (j + 1) by omega]
      exact H6.out (j + 1) u hu

set_option maxRecDepth 100000 in
theorem qtake_none (w : World) (q : Nat) (v : Value) (hq : Blk w q 75 #[v]) (hr : Row1 w 41 v []) :
    Calls Try.prog 45 #[.pointer (some ⟨q, 0, none⟩)] w fun e w' => e = .returned (.tuple #[.slice none 0 0, .bool false]) ∧ w' = w := by
  obtain ⟨A, cap, rfl⟩ := hr.form
  have hqa := hq.all
  obtain ⟨hc, hf, hl⟩ := hqa
  clear hq hr
  go_enter Try.func45, Try.ntmps45
  go_wp2_with fail
  refine bodyPost_ret (v := .tuple #[.slice none 0 0, .bool false]) (by simp [results, Try.results45]) rfl ?_
  exact ⟨rfl, rfl⟩

/-! ### is -/
set_option maxRecDepth 100000 in
theorem is_any (w : World) (p n cap : Nat) (sb : Option Addr) (m : Value) (h : Blk w p 68 #[.slice sb n cap, m]) (i : Int) :
    Calls Try.prog 39 #[.pointer (some ⟨p, 0, none⟩), .int .i64 i] w fun e w' => e = .returned (.bool (decide (0 ≤ i ∧ i < (n : Int)))) ∧ w' = w := by
  have ha := h.all
  obtain ⟨hc, hf, hl⟩ := ha
  clear h
  by_cases h0 : 0 ≤ i
  · by_cases h1 : i < (n : Int)
    · go_enter Try.func39, Try.ntmps39
      go_wp2_with fail
      go_ret
      simp [h0, h1]
    · go_enter Try.func39, Try.ntmps39
      go_wp2_with fail
      go_ret
      simp [h1]
  · go_enter Try.func39, Try.ntmps39
    go_wp2_with fail
    go_ret
    simp
    omega
set_option maxRecDepth 100000 in
theorem is_nil (w : World) (i : Value) :
    Calls Try.prog 39 #[.pointer none, i] w fun e w' => e = .returned (.bool false) ∧ w' = w := by
  go_enter Try.func39, Try.ntmps39
  go_wp2_with fail
  go_ret
  exact ⟨rfl, rfl⟩
end Go.Proofs.Ytaicbllfkehhjaa

/- A chamber in memory. -/
namespace Go.Proofs.Ytaicbllfkehhjaa
open Go.RowKit

/-- A queue: its block holds v, which reads as messages. -/
def Que (w : World) (S : Nat → Prop) (q : Nat) (v : Value) (ms : List (List Cl)) : Prop :=
  Blk w q 75 #[v] ∧ ∃ vs : List Value, Row1 w 41 v vs ∧ vs.length = ms.length ∧ (∀ (j : Nat) (x : Value) (m : List Cl), vs[j]? = some x → ms[j]? = some m → OwnCls w 0 x m) ∧ ∀ x ∈ vs, ∀ g, x.ownBlock = some g → ¬ S g
/-- The blocks that a chamber may turn, and what is no cells: maps, queues, what queues lie in. -/
def Wr (w : World) (g : Nat) : Prop := (∃ o : Obj, w.heap[g]? = some o ∧ o.isCells = false) ∨ (∃ cs, Blk w g 75 cs) ∨ ∃ cs, Blk w g 41 cs
theorem Wr.not_blk {w : World} {g : Nat} {t : TypeId} {cs : Array Value} (h : Wr w g) (k : Blk w g t cs) (h1 : t ≠ 75) (h2 : t ≠ 41) : False := by
  unfold Blk at k
  rcases h with ⟨o, h, hc⟩ | ⟨ds, h⟩ | ⟨ds, h⟩
  · rw [h] at k; injection k with k; subst k; cases hc
  · unfold Blk at h
    rw [h] at k
    injection k with k
    injection k with _ k
    exact h1 k.symm
  · unfold Blk at h
    rw [h] at k
    injection k with k
    injection k with _ k
    exact h2 k.symm
theorem OwnCls.not_wr {w : World} {B g : Nat} {v : Value} {l : List Cl} (h : OwnCls w B v l) (hg : v.ownBlock = some g) : ¬ Wr w g := by
  rcases h.2 with ⟨rfl, _⟩ | ⟨g', cap, cur, rfl, _, hh, _⟩
  · cases hg
  · have : g' = g := by simpa [Value.ownBlock] using hg
    subst this
    exact fun k => k.not_blk (t := 56) (cs := cur) hh (by decide) (by decide)
theorem OwnCls.only {w w' : World} {B : Nat} {v : Value} {l : List Cl} {F : Foot} (h : OwnCls w B v l) (o : Only F w w') (hF : ∀ g, F g → Wr w g) : OwnCls w' B v l := o.owns h fun g hg hf => h.not_wr hg (hF g hf)
theorem Que.only {w w' : World} {S : Nat → Prop} {q : Nat} {v : Value} {ms : List (List Cl)} {F : Foot} (h : Que w S q v ms) (o : Only F w w') (hq : ¬ F q) (hv : ∀ g, v.ownBlock = some g → ¬ F g) (hF : ∀ g, F g → Wr w g) : Que w' S q v ms := by
  obtain ⟨h1, vs, h2, h3, h4, h5⟩ := h
  exact ⟨o.blk h1 hq, vs, h2.only o hv, h3, fun j x m hx hm => (h4 j x m hx hm).only o hF, h5⟩

/-- Where a chamber lies; S: blocks that hold clauses of somebody else, no message lies there. -/
structure Lay where
  p : Nat
  sb : Nat
  cap : Nat
  mb : Nat
  cs : Array Value
  P : Nat → Nat
  M : Nat → Nat
  Q : Nat → Nat → Nat
  L : List (Value × Value)
  S : Nat → Prop := fun _ => False
def kyA (i k : Nat) : Array Value := #[.int .i64 (i : Int), .int .i64 (k : Int)]
def KyV (v : Value) : Prop := ∃ a b : Int, v = .agg #[.int .i64 a, .int .i64 b]
structure ChAt (w : World) (y : Lay) (V : Nat → Nat → Value) (n : Nat) (C : Ch) : Prop where
  len : C.pages.length = n
  pos : 0 < n
  max : n ≤ 1000
  blk : Blk w y.p 68 #[.slice (some ⟨y.sb, 0, none⟩) n y.cap, .map (some y.mb)]
  sts : Blk w y.sb 72 y.cs
  cap : n ≤ y.cap
  st : ∀ i, i < n → y.cs[i * 2]? = some (.pointer (some ⟨y.P i, 0, none⟩)) ∧ y.cs[i * 2 + 1]? = some (.int .i64 (i : Int))
  map : MapV w y.mb y.L
  key : ∀ p ∈ y.L, KyV p.1
  mem : ∀ i k, i < n → k < n → i ≠ k → (.agg (kyA i k), .pointer (some ⟨y.Q i k, 0, none⟩)) ∈ y.L
  pgs : ∀ i, i < n → PgAt w (y.P i) (y.M i) (C.pg i)
  ques : ∀ i k, i < n → k < n → i ≠ k → Que w y.S (y.Q i k) (V i k) (C.lines i k)
  slow : ∀ g, y.S g → g < w.heap.size
  injM : ∀ i j, i < n → j < n → y.M i = y.M j → i = j
  nemb : ∀ i, i < n → y.M i ≠ y.mb
  injQ : ∀ i k i' k', i < n → k < n → i' < n → k' < n → y.Q i k = y.Q i' k' → i = i' ∧ k = k'
  injV : ∀ i k i' k', i < n → k < n → i ≠ k → i' < n → k' < n → i' ≠ k' → ∀ g, (V i k).ownBlock = some g → (V i' k').ownBlock = some g → i = i' ∧ k = k'
/-- The chamber's own blocks that turn (and the map of its lines). -/
def Fo (y : Lay) (V : Nat → Nat → Value) (n : Nat) (g : Nat) : Prop := g = y.mb ∨ (∃ i, i < n ∧ g = y.M i) ∨ ∃ i k, i < n ∧ k < n ∧ i ≠ k ∧ (g = y.Q i k ∨ (V i k).ownBlock = some g)
section
variable {w w' : World} {y : Lay} {V : Nat → Nat → Value} {n : Nat} {C : Ch}
theorem PgAt.wr {p b : Nat} {L : List Cl} (h : PgAt w p b L) : Wr w b := by
  obtain ⟨L', ⟨es, c, h1, _⟩, _⟩ := h.map
  exact .inl ⟨_, h1, rfl⟩
theorem Row1.wr {v : Value} {l : List Value} (h : Row1 w 41 v l) {g : Nat} (hg : v.ownBlock = some g) : Wr w g := by
  rcases h with ⟨rfl, rfl⟩ | ⟨b, off, cap, cs, rfl, h2, _⟩
  · cases hg
  · have : b = g := by simpa [Value.ownBlock] using hg
    exact this ▸ .inr (.inr ⟨cs, h2⟩)
theorem ChAt.wr (h : ChAt w y V n C) : ∀ g, Fo y V n g → Wr w g := by
  rintro g (rfl | ⟨i, hi, rfl⟩ | ⟨i, k, hi, hk, hne, rfl | hg⟩)
  · obtain ⟨es, c, h1, _⟩ := h.map
    exact .inl ⟨_, h1, rfl⟩
  · exact (h.pgs i hi).wr
  · exact .inr (.inl ⟨_, (h.ques i k hi hk hne).1⟩)
  · obtain ⟨_, vs, h2, _⟩ := h.ques i k hi hk hne
    exact h2.wr hg
theorem Wr.lt {g : Nat} (h : Wr w g) : g < w.heap.size := by
  rcases Nat.lt_or_ge g w.heap.size with hlt | hge
  · exact hlt
  · have h0 := Array.getElem?_eq_none hge
    rcases h with ⟨o, h, _⟩ | ⟨ds, h⟩ | ⟨ds, h⟩
    · rw [h0] at h; cases h
    · unfold Blk at h; rw [h0] at h; cases h
    · unfold Blk at h; rw [h0] at h; cases h
theorem ChAt.lt (h : ChAt w y V n C) {g : Nat} (hg : Fo y V n g) : g < w.heap.size := (h.wr g hg).lt
/-- What leaves the chamber alone. -/
theorem ChAt.only {F : Foot} (h : ChAt w y V n C) (o : Only F w w') (hF : ∀ g, F g → ¬ Fo y V n g) (hW : ∀ g, F g → Wr w g) : ChAt w' y V n C where
  len := h.len
  pos := h.pos
  max := h.max
  blk := o.blk h.blk fun hf => (hW _ hf).not_blk h.blk (by decide) (by decide)
  sts := o.blk h.sts fun hf => (hW _ hf).not_blk h.sts (by decide) (by decide)
  cap := h.cap
  st := h.st
  map := h.map.only o fun hf => hF _ hf (.inl rfl)
  key := h.key
  mem := h.mem
  pgs := fun i hi => (h.pgs i hi).only o (fun hf => (hW _ hf).not_blk (h.pgs i hi).blk (by decide) (by decide)) fun hf => hF _ hf (.inr (.inl ⟨i, hi, rfl⟩))
  ques := fun i k hi hk hne => (h.ques i k hi hk hne).only o (fun hf => hF _ hf (.inr (.inr ⟨i, k, hi, hk, hne, .inl rfl⟩))) (fun g hg hf => hF _ hf (.inr (.inr ⟨i, k, hi, hk, hne, .inr hg⟩))) hW
  slow := fun g hg => Nat.lt_of_lt_of_le (h.slow g hg) o.size
  injM := h.injM
  nemb := h.nemb
  injQ := h.injQ
  injV := h.injV
theorem ChAt.below (h : ChAt w y V n C) (k : Below w.heap.size w w') : ChAt w' y V n C := h.only (Only.of_below k fun _ => False) (fun _ => False.elim) (fun _ => False.elim)
theorem ChAt.alloc (h : ChAt w y V n C) (o : Obj) : ChAt (w.alloc o) y V n C := h.below (below_self_alloc w o)
theorem ChAt.drewN (h : ChAt w y V n C) (q : Nat) : ChAt (w.drewN q) y V n C := h.below ⟨rfl, rfl, rfl, Nat.le_refl _, fun _ _ => rfl⟩
theorem ChAt.neP {p b : Nat} {L : List Cl} (h : ChAt w y V n C) (k : PgAt w p b L) {i j : Nat} (hi : i < n) (hj : j < n) (hne : i ≠ j) : y.Q i j ≠ b := by
  intro e
  have h1 := (h.ques i j hi hj hne).1
  obtain ⟨L', ⟨es, c, h2, _⟩, _⟩ := k.map
  unfold Blk at h1
  rw [e, h2] at h1
  cases h1
theorem Row1.nem {v : Value} {l : List Value} {e : TypeId} {b : Nat} {L : List (Value × Value)} (h : Row1 w e v l) (k : MapV w b L) : v.ownBlock ≠ some b := by
  intro hg
  rcases h with ⟨rfl, rfl⟩ | ⟨b', off, cap, cs, rfl, h2, _⟩
  · cases hg
  · have : b' = b := by simpa [Value.ownBlock] using hg
    subst this
    obtain ⟨es, c, h1, _⟩ := k
    unfold Blk at h2
    rw [h1] at h2
    cases h2
/-- A page turned. -/
theorem ChAt.page (h : ChAt w y V n C) {i : Nat} (hi : i < n) {L : List Cl} (o : Only (fun g => g = y.M i) w w') (hp : PgAt w' (y.P i) (y.M i) L) : ChAt w' y V n (C.upd i L) := by
  have hW : ∀ g, (fun g => g = y.M i) g → Wr w g := fun g e => e ▸ (h.pgs i hi).wr
  obtain ⟨Lm, hm, _⟩ := (h.pgs i hi).map
  exact {
    len := by simpa [Ch.upd] using h.len
    pos := h.pos
    max := h.max
    blk := o.blk h.blk fun hf => (hW _ hf).not_blk h.blk (by decide) (by decide)
    sts := o.blk h.sts fun hf => (hW _ hf).not_blk h.sts (by decide) (by decide)
    cap := h.cap
    st := h.st
    map := h.map.only o fun hf => h.nemb i hi hf.symm
    key := h.key
    mem := h.mem
    pgs := fun k hk => by
      by_cases e : k = i
      · subst e
        have : (C.upd k L).pg k = L := by
          unfold Ch.pg Ch.upd
          simp [List.getD_eq_getElem?_getD, h.len, hk]
        rw [this]
        exact hp
      · have : (C.upd i L).pg k = C.pg k := by
          unfold Ch.pg Ch.upd
          simp only [List.getD_eq_getElem?_getD, List.getElem?_set]
          rw [if_neg (Ne.symm e)]
        rw [this]
        exact (h.pgs k hk).only o (fun hf => (hW _ hf).not_blk (h.pgs k hk).blk (by decide) (by decide)) fun hf => e (h.injM k i hk hi hf)
    ques := fun a b ha hb hne => by
      have hq := h.ques a b ha hb hne
      obtain ⟨vs, hr, _⟩ := hq.2
      exact hq.only o (fun hf => h.neP (h.pgs i hi) ha hb hne hf) (fun g hg hf => hr.nem hm (by rw [hg, hf])) hW
    slow := fun g hg => Nat.lt_of_lt_of_le (h.slow g hg) o.size
    injM := h.injM
    nemb := h.nemb
    injQ := h.injQ
    injV := h.injV }
/-- A line turned. -/
def Ch.setL (C : Ch) (i k : Nat) (ms : List (List Cl)) : Ch := { C with lines := fun a b => if a = i ∧ b = k then ms else C.lines a b }
def updV (V : Nat → Nat → Value) (i k : Nat) (v : Value) : Nat → Nat → Value := fun a b => if a = i ∧ b = k then v else V a b
theorem updV_same (V : Nat → Nat → Value) (i k : Nat) (v : Value) : updV V i k v i k = v := if_pos ⟨rfl, rfl⟩
theorem updV_ne {V : Nat → Nat → Value} {i k a b : Nat} {v : Value} (h : ¬ (a = i ∧ b = k)) : updV V i k v a b = V a b := if_neg h
theorem setL_same (C : Ch) (i k : Nat) (ms : List (List Cl)) : (C.setL i k ms).lines i k = ms := if_pos ⟨rfl, rfl⟩
theorem setL_ne {C : Ch} {i k a b : Nat} {ms : List (List Cl)} (h : ¬ (a = i ∧ b = k)) : (C.setL i k ms).lines a b = C.lines a b := if_neg h
theorem ChAt.line (h : ChAt w y V n C) {i k : Nat} (hi : i < n) (hk : k < n) (hne : i ≠ k) {v' : Value} {ms : List (List Cl)} (o : Only (fun g => g = y.Q i k ∨ (V i k).ownBlock = some g) w w') (hq : Que w' y.S (y.Q i k) v' ms)
    (hv : v'.ownBlock = (V i k).ownBlock ∨ ∃ g, v'.ownBlock = some g ∧ w.heap.size ≤ g) : ChAt w' y (updV V i k v') n (C.setL i k ms) ∧ ∀ g, Fo y (updV V i k v') n g → Fo y V n g ∨ w.heap.size ≤ g := by
  have hW : ∀ g, (g = y.Q i k ∨ (V i k).ownBlock = some g) → Wr w g := fun g e => h.wr g (.inr (.inr ⟨i, k, hi, hk, hne, e⟩))
  obtain ⟨vs0, hr0, _⟩ := (h.ques i k hi hk hne).2
  have nomap : ∀ {b L}, MapV w b L → ¬ (b = y.Q i k ∨ (V i k).ownBlock = some b) := fun {b L} km e => by
    rcases e with e | e
    · have h1 := (h.ques i k hi hk hne).1
      obtain ⟨es, c, h2, _⟩ := km
      unfold Blk at h1
      rw [← e, h2] at h1
      cases h1
    · exact hr0.nem km e
  refine ⟨{
    len := h.len
    pos := h.pos
    max := h.max
    blk := o.blk h.blk fun hf => (hW _ hf).not_blk h.blk (by decide) (by decide)
    sts := o.blk h.sts fun hf => (hW _ hf).not_blk h.sts (by decide) (by decide)
    cap := h.cap
    st := h.st
    map := h.map.only o (nomap h.map)
    key := h.key
    mem := h.mem
    pgs := fun j hj => by
      obtain ⟨Lm, hm, _⟩ := (h.pgs j hj).map
      exact (h.pgs j hj).only o (fun hf => (hW _ hf).not_blk (h.pgs j hj).blk (by decide) (by decide)) (nomap hm)
    ques := fun a b ha hb hab => by
      by_cases e : a = i ∧ b = k
      · obtain ⟨rfl, rfl⟩ := e
        rw [updV_same, setL_same]
        exact hq
      · rw [updV_ne e, setL_ne e]
        obtain ⟨vs, hr, _⟩ := (h.ques a b ha hb hab).2
        refine (h.ques a b ha hb hab).only o (fun hf => ?_) (fun g hg hf => ?_) hW
        · rcases hf with hf | hf
          · exact e (h.injQ a b i k ha hb hi hk hf)
          · exact hr0.ne_blk (h.ques a b ha hb hab).1 (by decide) hf
        · rcases hf with hf | hf
          · exact hr.ne_blk (h.ques i k hi hk hne).1 (by decide) (by rw [hg, hf])
          · exact e (h.injV a b i k ha hb hab hi hk hne g hg hf)
    slow := fun g hg => Nat.lt_of_lt_of_le (h.slow g hg) o.size
    injM := h.injM
    nemb := h.nemb
    injQ := h.injQ
    injV := fun a b a' b' ha hb hab ha' hb' hab' g h1 h2 => by
      have old : ∀ a b, a < n → b < n → a ≠ b → ¬ (a = i ∧ b = k) → (V a b).ownBlock = some g → v'.ownBlock = some g → False := fun a b ha hb hab e h1 h2 => by
        rcases hv with hv | ⟨g', hv, hge⟩
        · rw [hv] at h2
          exact e (h.injV a b i k ha hb hab hi hk hne g h1 h2)
        · obtain ⟨vs, hr, _⟩ := (h.ques a b ha hb hab).2
          have := hr.ltb g h1
          rw [hv] at h2
          injection h2 with h2
          omega
      by_cases e : a = i ∧ b = k
      · by_cases e' : a' = i ∧ b' = k
        · exact ⟨e.1.trans e'.1.symm, e.2.trans e'.2.symm⟩
        · obtain ⟨rfl, rfl⟩ := e
          rw [updV_same] at h1
          rw [updV_ne e'] at h2
          exact (old a' b' ha' hb' hab' e' h2 h1).elim
      · rw [updV_ne e] at h1
        by_cases e' : a' = i ∧ b' = k
        · obtain ⟨rfl, rfl⟩ := e'
          rw [updV_same] at h2
          exact (old a b ha hb hab e h1 h2).elim
        · rw [updV_ne e'] at h2
          exact h.injV a b a' b' ha hb hab ha' hb' hab' g h1 h2 }, ?_⟩
  rintro g (hg | hg | ⟨a, b, ha, hb, hab, hg | hg⟩)
  · exact .inl (.inl hg)
  · exact .inl (.inr (.inl hg))
  · exact .inl (.inr (.inr ⟨a, b, ha, hb, hab, .inl hg⟩))
  · by_cases e : a = i ∧ b = k
    · obtain ⟨rfl, rfl⟩ := e
      rw [updV_same] at hg
      rcases hv with hv | ⟨g', hv, hge⟩
      · rw [hv] at hg
        exact .inl (.inr (.inr ⟨a, b, ha, hb, hab, .inr hg⟩))
      · rw [hv] at hg
        injection hg with hg
        exact .inr (hg ▸ hge)
    · rw [updV_ne e] at hg
      exact .inl (.inr (.inr ⟨a, b, ha, hb, hab, .inr hg⟩))
end
end Go.Proofs.Ytaicbllfkehhjaa

/- find. -/
namespace Go.Proofs.Ytaicbllfkehhjaa
open Go.RowKit

set_option maxRecDepth 100000 in
set_option maxHeartbeats 4000000 in
theorem find1_any (w : World) (c : Cl) (t : St2) (b : Nat) (h : Blk w b 33 (stA t)) :
    Calls Try.prog 63 #[.agg (clA c), .pointer (some ⟨b, 0, none⟩)] w fun e w' => e = .returned (.bool (decide (c.id = t))) ∧ Below w.heap.size w w' := by
  have hb := below_self_alloc w (.cells (clA c) 56)
  obtain ⟨c0, c1, -, -, -⟩ := cl_cells (Blk.new w 56 (clA c))
  have kS := h.alloc (.cells (clA c) 56)
  have s0 : (w.alloc (.cells (clA c) 56)).cell? ⟨b, 0, none⟩ = some (.int .i64 t.1) := kS.cell 0
  have s1 : (w.alloc (.cells (clA c) 56)).cell? ⟨b, 1, none⟩ = some (.int .i64 t.2) := kS.cell 1
  have hez : ∀ W : World, (Op.equalIn 10000 33 (.agg #[.int .i64 c.id.1, .int .i64 c.id.2]) (.agg #[.int .i64 t.1, .int .i64 t.2])).run Try.prog W = .ok (decide (c.id = t)) W := eq_st c.id t
  generalize decide (c.id = t) = R at *
  obtain ⟨CC, hCC⟩ : ∃ CC, clA c = CC := ⟨_, rfl⟩
  rw [hCC] at hb c0 c1 s0 s1 ⊢
  clear h kS hCC
  go_enter Try.func63, Try.ntmps63
  go_wp2_with fail
  go_ret
  exact ⟨rfl, hb⟩

set_option maxRecDepth 100000 in
set_option maxHeartbeats 4000000 in
theorem ixfind_any (w : World) (A : Option Addr) (cap : Nat) (l : List Cl) (h : ClsAt w w.heap.size A l) (hl : l.length ≤ 1000000) (t : St2) (b : Nat) (hb : Blk w b 33 (stA t)) :
    Calls Try.prog 62 #[.slice A l.length cap, .func (Fn.func 63) #[] #[.pointer (some ⟨b, 0, none⟩)]] w fun e w' => e = .returned (.int .i64 (findS l t)) ∧ Below w.heap.size w w' := by
  have HH := Lib.hid h
  have HB := Lib.hid hb
  obtain ⟨N, hN⟩ : ∃ N, l.length = N := ⟨_, rfl⟩
  obtain ⟨R, hR⟩ : ∃ R, findS l t = R := ⟨_, rfl⟩
  rw [hN] at hl ⊢
  rw [hR]
  have HN := Lib.hid hN
  have HR := Lib.hid hR
  clear h hb hN hR
  go_enter Try.func62, Try.ntmps62
  go_wp2_with fail
  go_loopw [8] (fun i wr => ∃ (k : Nat), k ≤ N ∧ i = .int .i64 (k : Int) ∧ Below w.heap.size w wr ∧ Hid (∀ j d, j < k → l[j]? = some d → d.id ≠ t)) (fun i _ => N - (intOf i).toNat)
  case atStart => exact ⟨0, Nat.zero_le _, rfl, Below.refl _ _, Lib.hid fun j x hj => by omega⟩
  case round =>
    obtain ⟨k, hkl, rfl, hbw, HK⟩ := hrel
    by_cases hlt : k < N
    · obtain ⟨c, hc⟩ : ∃ c, l[k]? = some c := ⟨_, List.getElem?_eq_getElem (by rw [HN.out]; exact hlt)⟩
      obtain ⟨g, off, hA, -, -⟩ := HH.out k c hc
      subst hA
      have hF := find1_any wr c t b (HB.out.below hbw HB.out.lt)
      have HC := Lib.hid hc
      have HL := Lib.hid (HH.out.below hbw)
      have hi0 : (0 : Int) ≤ (k : Int) := by omega
      have hi1 : (k : Int) < (N : Int) := by omega
      clear hc
      by_cases he : c.id = t
      · rw [decide_eq_true he] at hF
        have HF := Lib.hid hF
        obtain rfl : R = (k : Int) := by rw [← HR.out]; exact find_at HK.out HC.out he
        clear he HK HR hF
        go_wp2_with (first | (refine wpList_val rfl rfl (.agg (clA c)) (exec_load_at (x := .tmp 14) rfl rfl HL.out rfl HC.out) ?_) | (go_at_call 63; refine HF.out.mono ?_; rintro e w3 ⟨rfl, hb3⟩))
        go_ret
        exact ⟨rfl, hbw.trans (hb3.mono hbw.size)⟩
      · rw [decide_eq_false he] at hF
        have HF := Lib.hid hF
        have HK2 := Lib.hid (show ∀ j d, j < k + 1 → l[j]? = some d → d.id ≠ t from fun j x hj hjx => by
          rcases Nat.lt_or_ge j k with h1 | h1
          · exact HK.out j x h1 hjx
          · obtain rfl : j = k := by omega
            rw [HC.out] at hjx
            injection hjx with hjx
            subst hjx
            exact he)
        clear he HK hF
        go_wp2_with (first | (refine wpList_val rfl rfl (.agg (clA c)) (exec_load_at (x := .tmp 14) rfl rfl HL.out rfl HC.out) ?_) | (go_at_call 63; refine HF.out.mono ?_; rintro e w3 ⟨rfl, hb3⟩))
        go_roundw
        case rel => exact ⟨k + 1, by omega, by go_num, hbw.trans (hb3.mono hbw.size), HK2⟩
        case measure => simp [intOf]; omega
    · obtain rfl : k = N := by omega
      obtain rfl : R = -1 := by rw [← HR.out]; exact find_no fun j d hj hd => HK.out j d (by rw [← HN.out]; exact hj) hd
      clear HK HR
      go_wp2
      go_ret
      exact ⟨rfl, hbw⟩

set_option maxRecDepth 100000 in
set_option maxHeartbeats 4000000 in
/-- find, at a list whose Ids are unique. -/
theorem find_any (w : World) (B : Nat) (v : Value) (l : List Cl) (h : OwnCls w B v l) (hu : Uq l) (hl : l.length ≤ 1000000) (t : St2) :
    Calls Try.prog 47 #[v, .agg (stA t)] w fun e w' => e = .returned (.tuple #[.agg (clA ((getC l t).getD zcl)), .bool (getC l t).isSome]) ∧ Below w.heap.size w w' := by
  obtain ⟨A, cap, rfl, hA⟩ := h.form
  have kS := Blk.new w 33 (stA t)
  have kZ : Blk ((w.alloc (.cells (stA t) 33)).alloc (.cells (clA zcl) 56)) (w.heap.size + 1) 56 (clA zcl) := Blk.new1 w _ _ _
  have hb := (below_self_alloc w (.cells (stA t) 33)).alloc (by simp) (.cells (clA zcl) 56)
  have hI := ixfind_any ((w.alloc (.cells (stA t) 33)).alloc (.cells (clA zcl) 56)) A cap l ((hA.below hb).wide hb.size) hl t w.heap.size (kS.alloc _)
  have HA := Lib.hid hA
  have HI := Lib.hid hI
  have HZ := Lib.hid kZ
  have HB := Lib.hid hb
  clear h hA hI kS kZ hb
  rcases find_cases hu t with ⟨h1, h2⟩ | ⟨k, c, h1, h2, h3⟩
  · rw [h2] at HI
    rw [h1]
    clear h1 h2 hu
    go_enter Try.func47, Try.ntmps47
    go_wp2_with (first | (refine wpList_store_row rfl 56 (.tmp 4) (.tmp 12) rfl (w.heap.size + 1) (clA zcl) rfl rfl _ (clA zcl) kR (by kernel_rfl) rfl (clA_one zcl) ?_) | (go_at_call 62; refine HI.out.mono ?_; rintro e w3 ⟨rfl, hb3⟩; have kR := HZ.out.below hb3 HZ.out.lt; have hbb := HB.out.trans (hb3.mono HB.out.size)))
    have kR7 := blk_setRow (C := clA zcl) kR
    have hb7 := below_setRow (g := w.heap.size + 1) (clA zcl) hbb (by omega)
    have hlv := run_loadVar_row (P := Try.prog) _ _ 56 56 _ (0, 0) _ kR7 Try.underlying56 rfl (by rw [clA_size]; kernel_rfl)
    exact bodyPost_ret (v := .tuple #[.agg (clA zcl), .bool false]) (by simp [results, Try.results47, asAddr, hlv]) rfl ⟨rfl, hb7⟩
  · rw [h3] at HI
    rw [h1]
    have hkl : k < l.length := (List.getElem?_eq_some_iff.1 h2).1
    obtain ⟨g, off, hAA, -, -⟩ := HA.out k c h2
    subst hAA
    have HC := Lib.hid h2
    have hi0 : (0 : Int) ≤ (k : Int) := by omega
    have hi1 : (k : Int) < (l.length : Int) := by omega
    clear h1 h2 h3 hu
    go_enter Try.func47, Try.ntmps47
    go_wp2_with (first | (refine wpList_val rfl rfl (.agg (clA c)) (exec_load_at (x := .tmp 15) rfl rfl HL.out rfl HC.out) ?_) | (go_at_call 62; refine HI.out.mono ?_; rintro e w3 ⟨rfl, hb3⟩; have kR := HZ.out.below hb3 HZ.out.lt; have hbb := HB.out.trans (hb3.mono HB.out.size); have HL := Lib.hid (HA.out.below hbb)) | (refine wpList_store_row rfl 56 (.tmp 4) (.tmp 16) rfl (w.heap.size + 1) (clA c) rfl rfl _ (clA zcl) kR (by kernel_rfl) rfl (clA_one c) ?_))
    have kR7 := blk_setRow (C := clA c) kR
    have hb7 := below_setRow (g := w.heap.size + 1) (clA c) hbb (by omega)
    have hlv := run_loadVar_row (P := Try.prog) _ _ 56 56 _ (0, 0) _ kR7 Try.underlying56 rfl (by rw [clA_size]; kernel_rfl)
    exact bodyPost_ret (v := .tuple #[.agg (clA c), .bool true]) (by simp [results, Try.results47, asAddr, hlv]) rfl ⟨rfl, hb7⟩
end Go.Proofs.Ytaicbllfkehhjaa

/- View, Propose's and Withdraw's parts. -/
namespace Go.Proofs.Ytaicbllfkehhjaa
open Go.RowKit

/-- The pages are what pages are, and not great. -/
def Sane (n : Nat) (C : Ch) : Prop := ∀ i, i < n → Pg (C.pg i) ∧ (C.pg i).length ≤ 100000
section
variable {w w' : World} {y : Lay} {V : Nat → Nat → Value} {n : Nat} {C : Ch}
/-- What a walk reads of a chamber and a seat. -/
theorem ChAt.cells (h : ChAt w y V n C) : w.cell? ⟨y.p, 0, none⟩ = some (.slice (some ⟨y.sb, 0, none⟩) n y.cap) ∧ w.cell? ⟨y.p, 1, none⟩ = some (.map (some y.mb)) := ⟨h.blk.cell 0, h.blk.cell 1⟩
theorem ChAt.seat (h : ChAt w y V n C) {i : Nat} (hi : i < n) : w.cell? ⟨y.sb, i * 2, none⟩ = some (.pointer (some ⟨y.P i, 0, none⟩)) ∧ w.cell? ⟨y.sb, i * 2 + 1, none⟩ = some (.int .i64 (i : Int)) :=
  ⟨(h.sts.cell _).trans (h.st i hi).1, (h.sts.cell _).trans (h.st i hi).2⟩
theorem ChAt.pg_list (h : ChAt w y V n C) (hg : Sane n C) {i : Nat} (hi : i < n) :
    Calls Try.prog 40 #[.pointer (some ⟨y.P i, 0, none⟩)] w fun e w' => ∃ v, e = .returned v ∧ OwnCls w' w.heap.size v (walkS (C.pg i)) ∧ Below w.heap.size w w' :=
  list_any w _ _ _ (h.pgs i hi) (hg i hi).1.tr (pg_bound (hg i hi).1) (by have := (hg i hi).2; omega)
end
def viewS (n : Nat) (C : Ch) (i : Int) : List Cl := if 0 ≤ i ∧ i < (n : Int) then walkS (C.pg i.toNat) else []

set_option maxRecDepth 100000 in
theorem view_any (w : World) (y : Lay) (V : Nat → Nat → Value) (n : Nat) (C : Ch) (h : ChAt w y V n C) (hg : Sane n C) (i : Int) :
    Calls Try.prog 20 #[.pointer (some ⟨y.p, 0, none⟩), .int .i64 i] w fun e w' => ∃ v, e = .returned v ∧ OwnCls w' w.heap.size v (viewS n C i) ∧ Below w.heap.size w w' := by
  have hI := is_any w y.p n y.cap _ _ h.blk i
  obtain ⟨c0, c1⟩ := h.cells
  have hmax := h.max
  unfold viewS
  by_cases hi : 0 ≤ i ∧ i < (n : Int)
  · rw [if_pos hi]
    rw [decide_eq_true hi] at hI
    obtain ⟨k, rfl⟩ := Int.eq_ofNat_of_zero_le hi.1
    rw [Int.toNat_natCast]
    have hk : k < n := by omega
    obtain ⟨s0, s1⟩ := h.seat hk
    have HL := Lib.hid (h.pg_list hg hk)
    have HI := Lib.hid hI
    have hcap := h.cap
    have hi0 : (0 : Int) ≤ (k : Int) := hi.1
    have hi1 : (k : Int) < (n : Int) := hi.2
    clear h hg hI hi
    go_enter Try.func20, Try.ntmps20
    go_wp2_with (first | (go_at_call 39; refine HI.out.mono ?_; rintro e w1 ⟨rfl, rfl⟩) | (go_at_call 40; refine HL.out.mono ?_; rintro e w1 ⟨v, rfl, hv, hb⟩))
    go_ret
    exact ⟨_, rfl, hv, hb⟩
  · rw [if_neg hi]
    rw [decide_eq_false hi] at hI
    have HI := Lib.hid hI
    clear h hg hI hi
    go_enter Try.func20, Try.ntmps20
    go_wp2_with (go_at_call 39; refine HI.out.mono ?_; rintro e w1 ⟨rfl, rfl⟩)
    go_ret
    exact ⟨_, rfl, World.ownsRow_nil _ _ _ _, Below.refl _ _⟩
end Go.Proofs.Ytaicbllfkehhjaa
