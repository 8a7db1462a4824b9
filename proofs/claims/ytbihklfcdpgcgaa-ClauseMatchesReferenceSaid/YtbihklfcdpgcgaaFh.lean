/- ClauseStable, walked. -/
import Derived.Test.YtbihklfcdpgcgaaFg
namespace Go.Proofs.Ytbihklfcdpgcgaa
open Go.RowKit

set_option maxRecDepth 100000 in
theorem cls_slice_to (g m cap k : Nat) (hk : k ≤ cap) (W : World) : (Instr.slice 42 (.slice (some ⟨g, 0, none⟩) m cap) none (some (.int .i64 (k : Int))) none).run Try.prog W = .ok (.slice (some ⟨g, 0, none⟩) k cap) W := by
  have ht : Try.prog.underlying 42 = some (.slice (Try.prog.elem 42)) := by kernel_rfl
  have he : Try.prog.elem 42 = 35 := by kernel_rfl
  rw [run_slice_h _ _ _ _ _ ht .i64 (k : Int) (by omega) (by omega), he, Try.sizeOf35 W]
  simp only [Result.andThen_ok, sliced]
  congr 1
  simp [Addr.add]
set_option maxRecDepth 100000 in
theorem cls_slice_from (g m cap k : Nat) (hk : k ≤ m) (hm : m ≤ cap) : ∃ A' : Option Addr, (∀ W : World, (Instr.slice 42 (.slice (some ⟨g, 0, none⟩) m cap) (some (.int .i64 (k : Int))) none none).run Try.prog W = .ok (.slice A' (m - k) (cap - k)) W) ∧
    ∀ (W : World) (B : Nat) (l : List Cl), ClsAt W B (some ⟨g, 0, none⟩) l → l.length = m → ClsAt W B A' (l.drop k) := by
  have ht : Try.prog.underlying 42 = some (.slice (Try.prog.elem 42)) := by kernel_rfl
  have he : Try.prog.elem 42 = 35 := by kernel_rfl
  refine ⟨if cap = k then some ⟨g, 0, none⟩ else some ⟨g, k * 20, none⟩, fun W => ?_, fun W B l h hl => ?_⟩
  · rw [run_slice_l _ _ _ _ _ ht .i64 (k : Int) (by omega) (by omega), he, Try.sizeOf35 W]
    simp only [Result.andThen_ok, sliced]
    congr 2
    split
    · rename_i h
      rw [if_pos (by simpa using h)]
    · rename_i h
      rw [if_neg (by simpa using h)]
      simp only [Option.map_some]
      rw [addr_add]
      simp
  · split
    · rename_i h'
      have : l.drop k = [] := List.drop_eq_nil_of_le (by omega)
      rw [this]
      exact ClsAt.nil _ _ _
    · intro i c hi
      rw [List.getElem?_drop] at hi
      obtain ⟨g', off', h1, h2, h3⟩ := h (k + i) c hi
      injection h1 with h1
      injection h1 with hg ho _
      subst hg ho
      refine ⟨g, k * 20, rfl, h2, fun j v hv => ?_⟩
      have := h3 j v hv
      rwa [show 0 + (k + i) * 20 + j = k * 20 + i * 20 + j by omega] at this
theorem exec_load_row {ev : Operand → Value} {o : Oper} {W : World} {x : Operand} (ho : o.op = .load 35 x) {base g n cap k : Nat} {l : List Cl} (hx : ev x = .pointer (some ⟨g, k * 20, none⟩))
    (hr : OwnCls W base (.slice (some ⟨g, 0, none⟩) n cap) l) (hn : l.length = n) {c : Cl} (hk : l[k]? = some c) : (execOp ev o).run Try.prog W = .ok (.value (.agg (clA c))) W := by
  have h2 : W.ownsRow base 35 20 (.slice (some ⟨g, 0, none⟩) n cap) n (cls l) := by
    unfold OwnCls at hr
    rw [hn] at hr
    exact hr
  unfold execOp
  simp only [ho, hx, Instr.loadAt, Instr.sureAddr, Sem.run_bind, Sem.run_pure, Result.andThen_ok, row_load h2 hn hk]
def allB (S : List Cl) (n : Int) : Bool := S.all fun c => decide (c.id.2 < n)
theorem allB_take {S : List Cl} {k : Nat} {c : Cl} (h : S[k]? = some c) (n : Int) : allB (S.take (k + 1)) n = (allB (S.take k) n && decide (c.id.2 < n)) := by
  rw [List.take_add_one, h]
  unfold allB
  rw [List.all_append]
  simp
theorem own_cap {w : World} {base g n cap : Nat} {l : List Cl} (h : OwnCls w base (.slice (some ⟨g, 0, none⟩) n cap) l) : n ≤ cap := by
  rcases h.2 with ⟨h0, _⟩ | ⟨g', cap', cur, hv, _, _, hn, hcap, _⟩
  · cases h0
  · injection hv with _ h1 h2
    subst h2
    omega
set_option maxRecDepth 100000 in
set_option maxHeartbeats 8000000 in
theorem stable_walk (w : World) (A : Option Addr) (cap : Nat) (l : List Cl) (h : ClsAt w w.heap.size A l) (x : Cl) :
    Calls Try.prog 6 #[.slice A l.length cap, .agg (clA x)] w fun e w' => e = .returned (.bool true) ∧ Below w.heap.size w w' := by
  have HH := Lib.hid h
  obtain ⟨N, hN⟩ : ∃ N, l.length = N := ⟨_, rfl⟩
  rw [hN]
  have HN := Lib.hid hN
  obtain ⟨CX, hCX⟩ : ∃ q, clA x = q := ⟨_, rfl⟩
  have B0 := Lib.hid (below_self_alloc w (.cells (clA x) 35))
  have K0 := Lib.hid (Blk.new w 35 (clA x))
  rw [hCX] at B0 K0 ⊢
  have HCX := Lib.hid hCX
  obtain ⟨i1, hi1, hy0, hy1, hy2⟩ := info_parts Try.infoCl
  clear h hN hCX
  go_enter Try.func6, Try.ntmps6
  go_wp2_with fail
  generalize w.alloc (.cells CX 35) = w0 at *
  refine (head_any _).mono ?_
  rintro e w1 ⟨rfl, b1⟩
  have HB1 := Lib.hid (B0.out.trans (b1.mono B0.out.size))
  have K1 := Lib.hid (K0.out.below b1 K0.out.lt)
  clear b1 B0 K0
  go_wp2_with fail
  refine (ex_few w1 [(A, N, cap)] (by simp) 1 rfl).mono ?_
  rintro e w2 ⟨rfl, b2⟩
  have HB2 := Lib.hid (HB1.out.trans (b2.mono HB1.out.size))
  have K2 := Lib.hid (K1.out.below b2 K1.out.lt)
  clear b2 HB1 K1
  by_cases hf : N ≤ 80
  · have hfw : fewS [(A, N, cap)] = true := by simp [fewS, hf]
    rw [hfw]
    have HF := Lib.hid hf
    clear hf hfw
    have PL : ∀ W, Below w.heap.size w W → Calls Try.prog 25 #[.slice A N cap] W fun e w' => ∃ p b : Nat, e = .returned (.pointer (some ⟨p, 0, none⟩)) ∧ PP w' w.heap.size p b 160 (pageS l) ∧ W.heap.size ≤ p ∧ W.heap.size ≤ b ∧ Below W.heap.size W w' := fun W hW => by
      have := pp_page W w.heap.size _ A cap l (HH.out.below hW) hW.size (by have := HN.out; have := HF.out; omega) hW.size
      rwa [HN.out] at this
    have HPL := Lib.hid PL
    obtain ⟨L, hL⟩ : ∃ L, pageS l = L := ⟨_, rfl⟩
    have GL := Lib.hid (page_pg l)
    rw [hL] at HPL GL
    clear PL hL HH HN HF
    go_wp2_with fail
    refine (HPL.out _ HB2.out).mono ?_
    rintro e w3 ⟨p, b, rfl, P3, -, -, b3⟩
    have HB3 := Lib.hid (HB2.out.trans (b3.mono HB2.out.size))
    have K3 := Lib.hid (K2.out.below b3 K2.out.lt)
    have HP3 := Lib.hid P3
    clear HB2 b3 P3 K2 HPL
    go_wp2_with fail
    refine (pp_list _ HP3.out (by decide)).mono ?_
    rintro e w4 ⟨v4, rfl, o4, b4⟩
    have HB4 := Lib.hid (HB3.out.trans (b4.mono HB3.out.size))
    have HP4 := Lib.hid (HP3.out.below b4)
    have K4 := Lib.hid (K3.out.below b4 K3.out.lt)
    have HO4 := Lib.hid o4
    clear HB3 HP3 b4 o4 K3
    have hSl : (walkS L).length ≤ 160 := by rw [walk_len GL.out]; exact HP4.out.len
    have hop : openN (walkS L) ≤ 64 := by rw [openN_perm (walk_perm GL.out.tr)]; exact GL.out.few
    have ST := Lib.hid (stable_law GL.out (x := x))
    obtain ⟨S, hS⟩ : ∃ S, walkS L = S := ⟨_, rfl⟩
    rw [hS] at HO4 hSl hop ST
    obtain ⟨n, hn⟩ : ∃ n, S.length = n := ⟨_, rfl⟩
    rw [hn] at hSl ST
    have HNS := Lib.hid hn
    obtain ⟨V4, c4, hv4⟩ := HO4.out.len
    rw [hn] at hv4
    subst hv4
    obtain ⟨O, hO⟩ : ∃ O, openN S = O := ⟨_, rfl⟩
    have OPN : ∀ W, OwnCls W w3.heap.size (.slice V4 n c4) S → Calls Try.prog 26 #[.slice V4 n c4] W fun e w' => e = .returned (.int .i64 (O : Nat)) ∧ w' = W := fun W h => by
      have := own_open W h (by rw [HNS.out]; omega)
      rw [hO] at this
      exact this
    have HOPN := Lib.hid OPN
    rw [hO] at hop
    have HSL := Lib.hid hSl
    have f1 : decide ((64 : Int) < (O : Int)) = false := decide_eq_false (by omega)
    have f2 : decide ((O : Int) ≤ 64) = true := decide_eq_true (by omega)
    clear OPN hS hn hO hop hSl
    go_wp2_with fail
    refine (HOPN.out _ HO4.out).mono ?_
    rintro e w5 ⟨rfl, rfl⟩
    obtain ⟨s0, s1, s2, s3, -⟩ := cl_cells (c := x) (by rw [HCX.out]; exact K4.out)
    obtain ⟨R1, hR1⟩ : ∃ r, findS S x.id = r := ⟨_, rfl⟩
    have FND := Lib.hid (own_find _ HO4.out (by rw [HNS.out]; have := HSL.out; omega) x.id)
    rw [hR1] at FND ST
    clear hR1
    go_wp2_with fail
    refine FND.out.mono ?_
    rintro e w6 ⟨rfl, b6⟩
    have HB6 := Lib.hid (HB4.out.trans (b6.mono HB4.out.size))
    have HP6 := Lib.hid (HP4.out.below b6)
    have K6 := Lib.hid (K4.out.below b6 K4.out.lt)
    have HO6 := Lib.hid (HO4.out.below b6)
    clear HB4 HP4 K4 HO4 b6 s0 s1 s2 s3 FND
    by_cases hr : R1 < 0
    rotate_left
    · have e1 : decide (0 ≤ R1) = true := decide_eq_true (by omega)
      clear hr ST
      go_wp2_with fail
      refine (HOPN.out _ HO6.out).mono ?_
      rintro e w7 ⟨rfl, rfl⟩
      go_wp2
      go_ret
      exact ⟨rfl, HB6.out⟩
    have e1 : decide (0 ≤ R1) = false := decide_eq_false (by omega)
    have HR := Lib.hid hr
    clear hr
    have HPU := Lib.hid (pp_put _ HP6.out (by decide) x)
    rw [HCX.out] at HPU
    go_wp2_with (refine load_clg (by kernel_rfl) (x := .tmp 3) rfl rfl (c := x) (by rw [HCX.out]; exact K6.out) ?_; rw [HCX.out])
    refine HPU.out.mono ?_
    rintro e w7 ⟨rfl, P7, o7⟩
    have HB7 := Lib.hid (HB6.out.trans (o7.below HB6.out.size fun i hi => by rw [hi]; exact HP6.out.lob))
    have HP7 := Lib.hid P7
    have K7 := Lib.hid (o7.blk K6.out (fun e => by obtain ⟨L', q, _⟩ := HP6.out.at_.map; exact K6.out.ne_map q e))
    have HO7 := Lib.hid (HO6.out.far HP6.out.at_ o7)
    obtain ⟨F, hF⟩ : ∃ F, (putS L x).2 = F := ⟨_, rfl⟩
    obtain ⟨L', hL'⟩ : ∃ F, (putS L x).1 = F := ⟨_, rfl⟩
    have GL' := Lib.hid (show Pg L' from by rw [← hL']; exact GL.out.put x)
    rw [hF, hL'] at ST
    rw [hL'] at HP7
    rw [hF]
    clear HB6 HP6 K6 HO6 P7 o7 HPU hF hL' e1 GL
    by_cases hF0 : F = 0
    rotate_left
    · have e1 : (F != 0) = true := by simpa using hF0
      clear hF0 ST
      go_wp2_with fail
      refine (HOPN.out _ HO7.out).mono ?_
      rintro e w8 ⟨rfl, rfl⟩
      go_wp2
      go_ret
      exact ⟨rfl, HB7.out⟩
    subst hF0
    have STL := Lib.hid (ST.out HR.out rfl)
    clear ST HR HOPN f1 f2
    obtain ⟨k, t1, t2, t3, t4, t5, t6, t7⟩ := STL.out
    clear STL
    obtain ⟨T, hT⟩ : ∃ T, walkS L' = T := ⟨_, rfl⟩
    have HT := Lib.hid hT
    rw [hT] at t1 t2 t3 t4 t5 t6 t7
    obtain ⟨a, ha⟩ : ∃ a, findS T x.after = a := ⟨_, rfl⟩
    rw [ha] at t5 t6 t7
    have HA := Lib.hid ha
    have HT1 := Lib.hid t1
    have HT2 := Lib.hid t2
    have HT4 := Lib.hid t4
    have HT5 := Lib.hid t5
    have HT6 := Lib.hid t6
    have HT7 := Lib.hid t7
    obtain ⟨m, hm⟩ : ∃ m, T.length = m := ⟨_, rfl⟩
    have HTM := Lib.hid hm
    have hmn : m = n + 1 := by rw [← hm, t3]
    have hkm : k < m := by rw [← hm]; exact (List.getElem?_eq_some_iff.1 t2).1
    have HMN := Lib.hid hmn
    have HKM := Lib.hid hkm
    clear hT ha t1 t2 t3 t4 t5 t6 t7 hm hmn hkm
    go_wp2_with fail
    refine (pp_list _ HP7.out (by decide)).mono ?_
    rintro e w8 ⟨v8, rfl, o8, b8⟩
    rw [HT.out] at o8
    have HB8 := Lib.hid (HB7.out.trans (b8.mono HB7.out.size))
    have K8 := Lib.hid (K7.out.below b8 K7.out.lt)
    have HO8 := Lib.hid (HO7.out.below b8)
    have HW8 := Lib.hid o8
    clear HB7 HP7 K7 HO7 o8 b8 HT
    obtain ⟨gn, cn, hvn, hgn⟩ := own_some HW8.out (by rw [HTM.out]; have := HKM.out; omega)
    rw [HTM.out] at hvn
    subst hvn
    obtain ⟨s0, s1, s2, s3, -⟩ := cl_cells (c := x) (by rw [HCX.out]; exact K8.out)
    go_wp2_with fail
    refine (own_find _ HW8.out (by rw [HTM.out]; have := HMN.out; have := HSL.out; omega) x.id).mono ?_
    rintro e w9 ⟨he, b9⟩
    obtain rfl : e = .returned (.int .i64 (k : Int)) := he.trans (by rw [HT1.out])
    have HB9 := Lib.hid (HB8.out.trans (b9.mono HB8.out.size))
    have K9 := Lib.hid (K8.out.below b9 K8.out.lt)
    have HO9 := Lib.hid (HO8.out.below b9)
    have HW9 := Lib.hid (HW8.out.below b9)
    clear HB8 K8 HO8 HW8 b9 he s0 s1 s2 s3
    go_upto_region 10 with fail
    have e1 : decide ((k : Int) < 0) = false := decide_eq_false (by omega)
    have e2 : IntKind.i64.wrap ((n : Int) + 1) = (m : Int) := by
      have := HMN.out
      have := HSL.out
      rw [IntWalk.i64_in _ (by omega)]
      omega
    have hkm := HKM.out
    refine wp_region_stages [.free [0, 1, 2, 3, 4, 5, 6, 7, 8, 9, 10, 11, 12, 13], .hold (fun W => OwnCls W w7.heap.size (.slice (some ⟨gn, 0, none⟩) m cn) T ∧ Blk W w.heap.size 35 CX) [14, 15] [], .run [16, 17]] (by kernel_rfl) (by kernel_rfl) (fun _ d _ _ _ h => by cases d <;> exact h) ?_
    simp only [wpStg, wpRun, wpEarly, pick, List.drop_succ_cons, List.drop_zero, List.head?_cons, Option.toList_some, List.cons_append, List.nil_append, List.append_nil]
    iterate 14 ((first | (refine wpHeld_step ?_ rfl ?_ ?_; rotate_left; · (intro W hW; go_simp; with_reducible rfl)) | (refine wpHeld_want ?_ (by kernel_rfl) ?_ ?_; rotate_left; · (intro W hW; go_simp; with_reducible rfl))); simp only [Act.put, List.setIfInBounds_toArray, List.set_cons_succ, List.set_cons_zero])
    refine wpHeld_nil ?_
    refine ⟨⟨HW9.out, K9.out.drew⟩, ?_⟩
    refine wpHeld_want (.agg CX) (by kernel_rfl) ?_ ?_
    · intro W hW; rw [← HCX.out]; refine exec_load_row (x := .tmp 65) ?_ ?_ hW.1 HTM.out HT2.out <;> rfl
    refine wpHeld_want (.agg CX) (by kernel_rfl) ?_ ?_
    · intro W hW; rw [← HCX.out]; refine exec_load_cl (x := .tmp 3) ?_ ?_ (by rw [HCX.out]; exact hW.2) <;> rfl
    simp only [Act.put, List.setIfInBounds_toArray, List.set_cons_succ, List.set_cons_zero]
    refine wpHeld_nil ?_
    have hez := eq_cl x x
    rw [HCX.out, decide_eq_true rfl] at hez
    have HB10 := Lib.hid (below_drew1 HB9.out)
    have K10 := Lib.hid K9.out.drew
    have HO10 := Lib.hid (show OwnCls w9.drew w3.heap.size (.slice V4 n c4) S from HO9.out)
    have HW10 := Lib.hid (show OwnCls w9.drew w7.heap.size (.slice (some ⟨gn, 0, none⟩) m cn) T from HW9.out)
    clear HB9 K9 HO9 HW9
    generalize w9.drew = w10 at *
    go_upto_region 12 with fail
    have hcap := own_cap HW10.out
    have hsl1 := cls_slice_to gn m cn k (by omega)
    obtain ⟨k1, hk1⟩ : ∃ q, q = k + 1 := ⟨_, rfl⟩
    obtain ⟨A9, hsl2, hcl⟩ := cls_slice_from gn m cn k1 (by omega) hcap
    have e3 : IntKind.i64.wrap ((k : Int) + 1) = (k1 : Int) := by
      have := HMN.out
      have := HSL.out
      rw [IntWalk.i64_in _ (by omega)]
      omega
    obtain ⟨d, hd⟩ : ∃ q, m - k1 = q := ⟨_, rfl⟩
    obtain ⟨dc, hdc⟩ : ∃ q, cn - k1 = q := ⟨_, rfl⟩
    rw [hd, hdc] at hsl2
    have HK1 := Lib.hid hk1
    have HD := Lib.hid hd
    have HCL := Lib.hid hcl
    clear hk1 hd hdc hcl e1 e2 hez
    refine wp_region_stages [.free [1, 2, 3, 5, 6, 7, 8], .run [0, 4, 9, 10]] (by kernel_rfl) (by kernel_rfl) (fun _ d _ _ _ h => by cases d <;> exact h) ?_
    simp only [wpStg, wpRun, pick, List.drop_succ_cons, List.drop_zero, List.head?_cons, Option.toList_some, List.cons_append, List.nil_append, List.append_nil]
    iterate 7 ((first | (refine wpHeld_step ?_ rfl ?_ ?_; rotate_left; · (intro W hW; go_simp; with_reducible rfl)) | (refine wpHeld_want ?_ (by kernel_rfl) ?_ ?_; rotate_left; · (intro W hW; go_simp; with_reducible rfl))); simp only [Act.put, List.setIfInBounds_toArray, List.set_cons_succ, List.set_cons_zero])
    refine wpHeld_nil ?_
    have HB11 := Lib.hid (below_drew1 HB10.out)
    have K11 := Lib.hid K10.out.drew
    have HO11 := Lib.hid (show OwnCls w10.drew w3.heap.size (.slice V4 n c4) S from HO10.out)
    have HW11 := Lib.hid (show OwnCls w10.drew w7.heap.size (.slice (some ⟨gn, 0, none⟩) m cn) T from HW10.out)
    clear HB10 K10 HO10 HW10 hsl1 hsl2 e3 hcap
    generalize w10.drew = w11 at *
    have HOWN0 := Lib.hid (show (w11.alloc (.cells #[] 35)).ownsRow w11.heap.size 35 20 (.slice (some ⟨w11.heap.size, 0, none⟩) 0 0) 0 [] from World.ownsRow_lit w11 #[] 0 (Nat.le_refl _) (by unfold maxLen; omega) rfl)
    have B12 := Lib.hid (below_self_alloc w11 (.cells #[] 35))
    have CA := Lib.hid (show ClsAt w11 w11.heap.size (some ⟨gn, 0, none⟩) T from by
      obtain ⟨A', q, hv, hA⟩ := HW11.out.form
      injection hv with hv _ _
      subst hv
      exact hA)
    have TK := Lib.hid (show ClsAt w11 w11.heap.size (some ⟨gn, 0, none⟩) (T.take k) from fun i c hi => by
      rw [List.getElem?_take] at hi
      split at hi
      · exact CA.out i c hi
      · cases hi)
    have DR := Lib.hid (HCL.out w11 w11.heap.size T CA.out HTM.out)
    have N1 := Lib.hid (cls_news (TK.out.below B12.out))
    have L1 := Lib.hid (show (cls (T.take k)).length = k * 20 by rw [cls_len, List.length_take, HTM.out]; congr 1; omega)
    have L2 := Lib.hid (show (cls (T.drop k1)).length = d * 20 by rw [cls_len, List.length_drop, HTM.out, HD.out])
    have O1 := Lib.hid (cls_one (T.take k))
    have O2 := Lib.hid (cls_one (T.drop k1))
    have hk160 : k ≤ 160 := by have := HMN.out; have := HSL.out; omega
    have hd160 : d ≤ 161 := by have := HD.out; have := HMN.out; have := HSL.out; omega
    go_upto_region 13 with (first | (at_builtin; refine wpList_append_any rfl _ _ 42 rfl w11.heap.size 35 i1 _ 20 248 Try.underlying42 hi1 hy0 hy1 hy2 rfl (by omega) (.slice (some ⟨w11.heap.size, 0, none⟩) 0 0) 0 [] rfl HOWN0.out (some ⟨gn, 0, none⟩) k cn (cls (T.take k)) rfl L1.out N1.out O1.out (by unfold maxLen; omega) (by omega) (by simp) ?_; intro v12 w12 own12 gr12 l12) | (at_builtin; refine wpList_append_any rfl _ _ 42 rfl w11.heap.size 35 i1 _ 20 248 Try.underlying42 hi1 hy0 hy1 hy2 rfl (by omega) v12 (0 + k) ([] ++ cls (T.take k)) rfl own12 A9 d dc (cls (T.drop k1)) rfl L2.out (cls_news (DR.out.below (B12.out.grown gr12 B12.out.size (fun y hy => (HOWN0.out.lt y hy).1)))) O2.out (by unfold maxLen; omega) (by omega) (B12.out.grown gr12 B12.out.size (fun y hy => (HOWN0.out.lt y hy).1)).size ?_; intro v13 w13 own13 gr13 l13))
    have hrest : OwnCls w13 w11.heap.size v13 S := by
      unfold OwnCls
      have hlen : 0 + k + d = S.length := by
        have h1 := HD.out
        have h2 := HMN.out
        have h3 := HNS.out
        have h4 := HK1.out
        omega
      have hcs : [] ++ cls (T.take k) ++ cls (T.drop k1) = cls S := by
        rw [List.nil_append, ← HT4.out, HK1.out]
        unfold cls
        rw [List.flatMap_append]
      have := own13
      rw [hlen, hcs] at this
      exact this
    have b12 := B12.out.grown gr12 B12.out.size (fun y hy => (HOWN0.out.lt y hy).1)
    have b13 := b12.grown gr13 b12.size (fun y hy => (own12.lt y hy).1)
    have HB13 := Lib.hid (HB11.out.trans (b13.mono HB11.out.size))
    have K13 := Lib.hid (K11.out.below b13 K11.out.lt)
    have HO13 := Lib.hid (HO11.out.below b13)
    have HW13 := Lib.hid (HW11.out.below b13)
    have HRE := Lib.hid hrest
    clear hrest b12 b13 own12 own13 gr12 gr13 l12 l13 B12 HOWN0 CA TK DR N1 L1 L2 O1 O2 HB11 K11 HO11 HW11
    obtain ⟨VR, cR, hvR⟩ := HRE.out.len
    rw [HNS.out] at hvR
    subst hvR
    obtain ⟨s0, s1, s2, s3, -⟩ := cl_cells (c := x) (by rw [HCX.out]; exact K13.out)
    go_wp2_with fail
    refine (own_find _ HW13.out (by rw [HTM.out]; have := HMN.out; have := HSL.out; omega) x.after).mono ?_
    rintro e w14 ⟨he, b14⟩
    obtain rfl : e = .returned (.int .i64 a) := he.trans (by rw [HA.out])
    have HB14 := Lib.hid (HB13.out.trans (b14.mono HB13.out.size))
    have K14 := Lib.hid (K13.out.below b14 K13.out.lt)
    have HO14 := Lib.hid (HO13.out.below b14)
    have HRE14 := Lib.hid (HRE.out.below b14)
    clear HB13 K13 HO13 HW13 HRE b14 he s0 s1 s2 s3
    obtain ⟨s0, s1, s2, s3, -⟩ := cl_cells (c := x) (by rw [HCX.out]; exact K14.out)
    obtain ⟨gs, hgs⟩ : ∃ gs, 0 < n → V4 = some ⟨gs, 0, none⟩ := by
      rcases Nat.eq_zero_or_pos n with h0 | h0
      · exact ⟨0, fun h => by omega⟩
      · obtain ⟨g, cq, hv, _⟩ := own_some HO14.out (by rw [HNS.out]; exact h0)
        injection hv with hv _ _
        exact ⟨g, fun _ => hv⟩
    have HGS := Lib.hid hgs
    clear hgs
    go_wp2_with fail
    have hn160 := HSL.out
    go_loopw [12, 13] (fun g i wr => ∃ j q0 : Nat, wr = w14.drewN q0 ∧ j ≤ n ∧ i = .int .i64 (j : Int) ∧ g = .bool (allB (S.take j) x.id.2)) (fun _ i _ => n - (intOf i).toNat)
    case atStart => exact ⟨0, 0, rfl, Nat.zero_le _, rfl, rfl⟩
    case round =>
      obtain ⟨j, q0, rfl, hj, rfl, rfl⟩ := hrel
      by_cases hjn : j < n
      · obtain ⟨c, hc⟩ : ∃ c, S[j]? = some c := ⟨_, List.getElem?_eq_getElem (by rw [HNS.out]; exact hjn)⟩
        obtain rfl := HGS.out (by omega)
        have e1 : decide ((j : Int) < (n : Int)) = true := decide_eq_true (by omega)
        have hrow : w14.ownsRow w3.heap.size 35 20 (.slice (some ⟨gs, 0, none⟩) n c4) n (cls S) := by
          have := HO14.out
          unfold OwnCls at this
          rw [HNS.out] at this
          exact this
        obtain ⟨d1, -⟩ := own_cell hrow HNS.out hc (j := 1) rfl
        have hat := allB_take hc x.id.2
        have HKN := Lib.hid hjn
        obtain ⟨bg, hbg⟩ : ∃ q, allB (S.take j) x.id.2 = q := ⟨_, rfl⟩
        obtain ⟨bl, hbl⟩ : ∃ q, decide (c.id.2 < x.id.2) = q := ⟨_, rfl⟩
        rw [hbg, hbl] at hat
        rw [hbg]
        have HAT := Lib.hid hat
        clear hat hrow hc hjn hbg
        cases bg
        all_goals
          go_wp2_with fail
          go_quiet (fail)
          go_wp2_with fail
          refine ⟨⟨j + 1, q0 + nq, rfl, HKN.out, by go_num, by rw [HAT.out]; first | rfl | (rw [Bool.true_and])⟩, ?_⟩
          have := HKN.out
          simp [intOf]
          omega
      · obtain rfl : j = n := by omega
        have htk : S.take j = S := List.take_of_length_le (by rw [HNS.out]; exact Nat.le_refl _)
        rw [htk]
        obtain ⟨bg, hbg⟩ : ∃ q, allB S x.id.2 = q := ⟨_, rfl⟩
        rw [hbg]
        have HB15 := Lib.hid (below_drewN HB14.out q0)
        have K15 := Lib.hid (K14.out.drewN q0)
        have HO15 := Lib.hid (HO14.out.dN q0)
        have HRE15 := Lib.hid (HRE14.out.dN q0)
        have HBG := Lib.hid hbg
        clear s0 s1 s2 s3 htk hbg HB14 K14 HO14 HRE14
        generalize w14.drewN q0 = w15 at *
        obtain ⟨s0, s1, s2, s3, -⟩ := cl_cells (c := x) (by rw [HCX.out]; exact K15.out)
        have hez : ∀ W : World, (Op.equalIn 10000 29 (.agg #[.int .i64 x.after.1, .int .i64 x.after.2]) (.agg #[.int .i64 0, .int .i64 0])).run Try.prog W = .ok (decide (x.after = z2)) W := eq_st x.after z2
        obtain ⟨bz, hbz⟩ : ∃ q, decide (x.after = z2) = q := ⟨_, rfl⟩
        rw [hbz] at hez
        have ha5 := HT5.out
        have f1 : decide ((k : Int) ≤ a) = false := decide_eq_false (by omega)
        have f3 : bz = false → decide (a < 0) = false := fun h => by
          rw [h] at hbz
          have := HT6.out (of_decide_eq_false hbz)
          exact decide_eq_false (by omega)
        have f4 : bg = true → IntKind.i64.wrap (a + 1) = (k : Int) := fun h => by
          have h1 : ∀ c ∈ S, c.id.2 < x.id.2 := fun c hc => by
            have h2 := HBG.out.trans h
            unfold allB at h2
            rw [List.all_eq_true] at h2
            simpa using h2 c hc
          have h3 := HT7.out h1
          have h4 := HKM.out
          have h5 := HMN.out
          have h6 := HSL.out
          rw [IntWalk.i64_in _ (by omega)]
          omega
        have SM := Lib.hid (own_same w15 HRE15.out HO15.out (by rw [HNS.out]; omega) (by rw [HNS.out]; omega))
        rw [decide_eq_true rfl] at SM
        clear hbz ha5 HBG
        cases bz with
        | true =>
          clear f3
          cases bg with
          | true =>
            have f5 := f4 rfl
            clear f4
            go_wp2_with fail
            refine SM.out.mono ?_
            rintro e w16 ⟨rfl, q, rfl⟩
            go_wp2
            go_ret
            exact ⟨rfl, below_drewN HB15.out q⟩
          | false =>
            clear f4
            go_wp2_with fail
            refine SM.out.mono ?_
            rintro e w16 ⟨rfl, q, rfl⟩
            go_wp2
            go_ret
            exact ⟨rfl, below_drewN HB15.out q⟩
        | false =>
          have f6 := f3 rfl
          clear f3
          cases bg with
          | true =>
            have f5 := f4 rfl
            clear f4
            go_wp2_with fail
            refine SM.out.mono ?_
            rintro e w16 ⟨rfl, q, rfl⟩
            go_wp2
            go_ret
            exact ⟨rfl, below_drewN HB15.out q⟩
          | false =>
            clear f4
            go_wp2_with fail
            refine SM.out.mono ?_
            rintro e w16 ⟨rfl, q, rfl⟩
            go_wp2
            go_ret
            exact ⟨rfl, below_drewN HB15.out q⟩
  · have hfw : fewS [(A, N, cap)] = false := by simp [fewS, hf]
    rw [hfw]
    clear hf hfw
    go_wp2
    go_ret
    exact ⟨rfl, HB2.out⟩
end Go.Proofs.Ytbihklfcdpgcgaa
