/- Drop and Put on a page. -/
import Derived.Test.YtbihklfcdpgcgaaEf
namespace Go.Proofs.Ytbihklfcdpgcgaa
open Go.RowKit

theorem zeroCl (w : World) : (zeroValue 35).run Try.prog w = .ok (.agg #[.int .i64 0, .int .i64 0, .int .i64 0, .int .i64 0, .int .i64 0, .string ⟨#[]⟩, .string ⟨#[]⟩, .string ⟨#[]⟩, .string ⟨#[]⟩, .int .i64 0, .string ⟨#[]⟩, .string ⟨#[]⟩, .string ⟨#[]⟩, .string ⟨#[]⟩, .string ⟨#[]⟩, .bool false, .int .i64 0, .string ⟨#[]⟩, .string ⟨#[]⟩, .bool false]) w := by kernel_rfl
def zcl : Cl := ⟨z2, z2, (0, ⟨#[]⟩, ⟨#[]⟩, ⟨#[]⟩, ⟨#[]⟩, (0, ⟨#[]⟩, ⟨#[]⟩, ⟨#[]⟩, ⟨#[]⟩, ⟨#[]⟩, false), 0, ⟨#[]⟩, ⟨#[]⟩), false⟩
theorem zcl_A : clA zcl = #[.int .i64 0, .int .i64 0, .int .i64 0, .int .i64 0, .int .i64 0, .string ⟨#[]⟩, .string ⟨#[]⟩, .string ⟨#[]⟩, .string ⟨#[]⟩, .int .i64 0, .string ⟨#[]⟩, .string ⟨#[]⟩, .string ⟨#[]⟩, .string ⟨#[]⟩, .string ⟨#[]⟩, .bool false, .int .i64 0, .string ⟨#[]⟩, .string ⟨#[]⟩, .bool false] := rfl
theorem getC_in {L L' : List Cl} (_hu : Uq L) (p : L'.Perm L) {t : St2} {c : Cl} (h : getC L t = some c) : (Value.agg (stA t), Value.agg (clA c)) ∈ kvs L' := by
  obtain ⟨h1, h2⟩ := getC_mem h
  subst h2
  exact List.mem_map.2 ⟨c, p.mem_iff.2 h1, rfl⟩
theorem getC_out {L L' : List Cl} (p : L'.Perm L) {t : St2} (h : getC L t = none) : ∀ q ∈ kvs L', q.1 ≠ .agg (stA t) := fun q hq e => by
  obtain ⟨c, hc, rfl⟩ := List.mem_map.1 hq
  exact getC_none.1 h c (p.mem_iff.1 hc) (stA_inj e)
/-- The clause at a stamp, or none. -/
def atC (L : List Cl) (t : St2) : Cl := (getC L t).getD zcl
theorem look_any {w : World} {b : Nat} {L L' : List Cl} (hu : Uq L) (h : MapV w b (kvs L')) (p : L'.Perm L) (t : St2) :
    (Instr.lookup 63 (.map (some b)) (.agg #[.int .i64 t.1, .int .i64 t.2]) true).run Try.prog w = .ok (.tuple #[.agg (clA (atC L t)), .bool (getC L t).isSome]) w := by
  cases hg : getC L t with
  | some c =>
    have := h.look_some (P := Try.prog) kysS Try.underlying63 kvs_key (getC_in hu p hg) true
    unfold atC
    rw [hg]
    exact this
  | none =>
    have := h.look_none (P := Try.prog) kysS Try.underlying63 kvs_key ⟨t, rfl⟩ (getC_out p hg) (zeroCl w) true
    unfold atC
    rw [hg]
    exact this
theorem kvs_set {L : List Cl} {c : Cl} : (kvs L).map (upV (.agg (stA c.id)) (.agg (clA c))) = kvs (setC L c) := by
  unfold kvs setC
  rw [List.map_map, List.map_map]
  refine List.map_congr_left fun x _ => ?_
  simp only [Function.comp_apply]
  by_cases h : x.id = c.id
  · rw [upV_pos (show (kvC x).1 = _ by unfold kvC; rw [h]), show repC c x = c from if_pos h]; rfl
  · rw [upV_neg (show ¬ (kvC x).1 = _ from fun e => h (stA_inj e)), show repC c x = x from if_neg h]
theorem upd_old {w : World} {b : Nat} {L L' : List Cl} (hu : Uq L) (h : MapV w b (kvs L')) (p : L'.Perm L) {c old : Cl} {t : St2} (ht : c.id = t) (ho : getC L t = some old) :
    ∃ w', (Instr.mapUpdate 63 (.map (some b)) (.agg #[.int .i64 t.1, .int .i64 t.2]) (.agg (clA c))).run Try.prog w = .ok () w' ∧ MapV w' b (kvs (setC L' c)) ∧ (setC L' c).Perm (setC L c) ∧ w.grownBy w' (some b) := by
  subst ht
  obtain ⟨w', h1, h2, h3⟩ := h.upd_some (P := Try.prog) kysS Try.underlying63 kvs_key (getC_in hu p ho) (.agg (clA c))
  rw [kvs_set] at h2
  exact ⟨w', h1, h2, p.map _, h3⟩
theorem upd_new {w : World} {b : Nat} {L L' : List Cl} (h : MapV w b (kvs L')) (p : L'.Perm L) {c : Cl} {t : St2} (ht : c.id = t) (ho : getC L t = none) :
    ∃ w', (Instr.mapUpdate 63 (.map (some b)) (.agg #[.int .i64 t.1, .int .i64 t.2]) (.agg (clA c))).run Try.prog w = .ok () w' ∧ MapV w' b (kvs (L' ++ [c])) ∧ (L' ++ [c]).Perm (L ++ [c]) ∧ w.grownBy w' (some b) := by
  subst ht
  obtain ⟨w', h1, h2, h3⟩ := h.upd_none (P := Try.prog) kysS Try.underlying63 kvs_key ⟨c.id, rfl⟩ (getC_out p ho) (.agg (clA c))
  refine ⟨w', h1, ?_, p.append_right _, h3⟩
  unfold kvs at *
  rw [List.map_append]
  exact h2
set_option maxRecDepth 100000 in
set_option maxHeartbeats 8000000 in
theorem drop_any (w : World) (p b : Nat) (L : List Cl) (h : PgAt w p b L) (hu : Uq L) (t : St2) :
    Calls Try.prog 12 #[.pointer (some ⟨p, 0, none⟩), .agg (stA t)] w fun e w' => e = .returned (.int .i64 (dropS L t).2) ∧ PgAt w' p b (dropS L t).1 ∧ Only (fun i => i = b) w w' := by
  have hpb := h.ne
  obtain ⟨hp, L', hm, hperm⟩ := h
  have kS := Blk.new w 29 (stA t)
  have kP := hp.alloc (.cells (stA t) 29)
  have kM := hm.alloc (.cells (stA t) 29)
  have hb := (Below.refl w.heap.size w).alloc (Nat.le_refl _) (.cells (stA t) 29)
  have HD := Lib.hid (show dropS L t = dropS L t from rfl)
  obtain ⟨D, hD⟩ : ∃ d, dropS L t = d := ⟨_, rfl⟩
  rw [hD]
  clear HD
  have HD := Lib.hid hD
  clear hD
  go_enter Try.func12, Try.ntmps12
  go_upto_region 3 with fail
  generalize w.alloc (.cells (stA t) 29) = w2 at *
  go_cut [5, 6] from 9 to 17 (fun v5 v6 wx => v5 = .pointer (some ⟨w2.heap.size, 0, none⟩) ∧ v6 = .bool (getC L t).isSome ∧ wx = w2.drew.alloc (.cells (clA (atC L t)) 35))
  case first =>
    refine wp_region_bush (fun W => Blk W p 65 #[.map (some b)] ∧ Blk W w.heap.size 29 (stA t) ∧ MapV W b (kvs L')) [0, 1, 2, 3, 4, 5, 6, 7] 3 [] [11] (by kernel_rfl) (by kernel_rfl) (fun _ d _ _ _ h => by cases d <;> exact h) ⟨kP.drew, kS.drew, kM⟩ ?_
    simp only [pick, List.drop_succ_cons, List.drop_zero, List.head?_cons, Option.toList_some, List.cons_append, List.nil_append, List.append_nil]
    repeat (refine wpHeld_step ?_ rfl ?_ ?_; rotate_left; · (intro W hW; have g1 : W.cell? ⟨p, 0, none⟩ = some (.map (some b)) := hW.1.cell 0; have g2 : W.cell? ⟨w.heap.size, 0, none⟩ = some (.int .i64 t.1) := hW.2.1.cell 0; have g3 : W.cell? ⟨w.heap.size, 1, none⟩ = some (.int .i64 t.2) := hW.2.1.cell 1; have g4 := look_any hu hW.2.2 hperm t; go_simp; with_reducible rfl))
    refine wpHeld_nil ?_
    have kP3 := kP.drew
    have kS3 := kS.drew
    have kM3 := (show MapV w2.drew _ _ from kM)
    obtain ⟨w3, hw3⟩ : ∃ W, w2.drew = W := ⟨_, rfl⟩
    rw [hw3] at kP3
    rw [hw3] at kS3
    rw [hw3] at kM3
    simp only [hw3]
    have HW3 := Lib.hid hw3
    clear hw3
    have hcz := clA_size (atC L t)
    have hpc := put_cl w3 (atC L t)
    refine wpBush_two 8 9 (by kernel_rfl) ?_ ?_
    · simp only [pick, List.drop_succ_cons, List.drop_zero, List.head?_cons, Option.toList_some, List.append_nil]
      go_wp2_with fail
      refine ⟨⟨kP3, kS3, kM3⟩, ?_⟩
      refine wpBush_one 9 (by kernel_rfl) ?_
      simp only [pick, List.drop_succ_cons, List.drop_zero, List.head?_cons, Option.toList_some, List.append_nil]
      go_wp2_with fail
      refine ⟨⟨kP3.alloc _, kS3.alloc _, kM3.alloc _⟩, ?_⟩
      refine wpBush_one 10 (by kernel_rfl) ?_
      simp only [pick, List.drop_succ_cons, List.drop_zero, List.head?_cons, Option.toList_some, List.append_nil]
      go_wp2_with fail
      refine ⟨⟨kP3.alloc _, kS3.alloc _, kM3.alloc _⟩, ?_⟩
      refine wpBush_end (by kernel_rfl) (by kernel_rfl) (by kernel_rfl) ?_
      simp only [pick, List.drop_succ_cons, List.drop_zero, List.head?_cons, Option.toList_some, List.append_nil]
      refine wpHeld_nil ?_
      go_wp2_with fail
      go_meet
      subst_eqs; obtain rfl := HW3.out; exact ⟨rfl, rfl, rfl⟩
    · simp only [pick, List.drop_succ_cons, List.drop_zero, List.head?_cons, Option.toList_some, List.append_nil]
      go_wp2_with fail
      refine ⟨⟨kP3.alloc _, kS3.alloc _, kM3.alloc _⟩, ?_⟩
      refine wpBush_two 8 10 (by kernel_rfl) ?_ ?_
      · simp only [pick, List.drop_succ_cons, List.drop_zero, List.head?_cons, Option.toList_some, List.append_nil]
        go_wp2_with fail
        refine ⟨⟨kP3.alloc _, kS3.alloc _, kM3.alloc _⟩, ?_⟩
        refine wpBush_one 10 (by kernel_rfl) ?_
        simp only [pick, List.drop_succ_cons, List.drop_zero, List.head?_cons, Option.toList_some, List.append_nil]
        go_wp2_with fail
        refine ⟨⟨kP3.alloc _, kS3.alloc _, kM3.alloc _⟩, ?_⟩
        refine wpBush_end (by kernel_rfl) (by kernel_rfl) (by kernel_rfl) ?_
        simp only [pick, List.drop_succ_cons, List.drop_zero, List.head?_cons, Option.toList_some, List.append_nil]
        refine wpHeld_nil ?_
        go_wp2_with fail
        go_meet
        subst_eqs; obtain rfl := HW3.out; exact ⟨rfl, rfl, rfl⟩
      · simp only [pick, List.drop_succ_cons, List.drop_zero, List.head?_cons, Option.toList_some, List.append_nil]
        go_wp2_with fail
        refine ⟨⟨kP3.alloc _, kS3.alloc _, kM3.alloc _⟩, ?_⟩
        refine wpBush_one 8 (by kernel_rfl) ?_
        simp only [pick, List.drop_succ_cons, List.drop_zero, List.head?_cons, Option.toList_some, List.append_nil]
        go_wp2_with fail
        refine ⟨⟨kP3.alloc _, kS3.alloc _, kM3.alloc _⟩, ?_⟩
        refine wpBush_end (by kernel_rfl) (by kernel_rfl) (by kernel_rfl) ?_
        simp only [pick, List.drop_succ_cons, List.drop_zero, List.head?_cons, Option.toList_some, List.append_nil]
        refine wpHeld_nil ?_
        go_wp2_with fail
        go_meet
        subst_eqs; obtain rfl := HW3.out; exact ⟨rfl, rfl, rfl⟩
  case rest =>
    obtain ⟨rfl, rfl, rfl⟩ := hcut
    have kC := Blk.new w2.drew 35 (clA (atC L t))
    have kP3 := kP.drew.alloc (.cells (clA (atC L t)) 35)
    have kS3 := kS.drew.alloc (.cells (clA (atC L t)) 35)
    have kM3 : MapV (w2.drew.alloc (.cells (clA (atC L t)) 35)) b (kvs L') := (show MapV w2.drew _ _ from kM).alloc _
    have hb3 := hb.drew.alloc hb.size (.cells (clA (atC L t)) 35)
    have hsz : w2.drew.heap.size = w2.heap.size := rfl
    rw [hsz] at kC
    have hltS := kS.lt
    have hltb := kM.lt
    have hltp := kP.lt
    have hg0 := hm.lt
    have hp0 := hp.lt
    generalize w2.drew.alloc (.cells (clA (atC L t)) 35) = w4 at *
    generalize w2.heap.size = gc at *
    clear hsz kP kS kM hb
    cases hgt : getC L t with
    | none =>
      have hfin : D = (L, 11) := by rw [← HD.out]; unfold dropS; rw [hgt]
      subst hfin
      clear HD kC kS3
      go_wp2
      go_ret
      exact ⟨rfl, ⟨kP3, L', kM3, hperm⟩, Only.of_below hb3 _⟩
    | some c =>
      have hat : atC L t = c := by unfold atC; rw [hgt]; rfl
      rw [hat] at kC
      have hfin : D = (setC L { c with gone := true }, 0) := by rw [← HD.out]; unfold dropS; rw [hgt]
      subst hfin
      obtain ⟨rfl⟩ : c.id = t := (getC_mem hgt).2
      clear HD hat
      have c19 := kC.cell 19
      rw [show (clA c)[19]? = some (.bool c.gone) from rfl] at c19
      have f19 := kC.frozen 19
      go_upto_region 7 with fail
      clear c19 f19
      have kC4 := kC.set_ 19 (.bool true)
      rw [clA_set] at kC4
      have kP4 := kP3.far (p := ⟨gc, 19, none⟩) (by show p ≠ gc; omega) (.bool true)
      have kS4 := kS3.far (p := ⟨gc, 19, none⟩) (by show w.heap.size ≠ gc; omega) (.bool true)
      have kM4 : MapV (w4.setCell ⟨gc, 19, none⟩ (.bool true)) b (kvs L') := kM3.of_block (Below.heap_setCell w4 ⟨gc, 19, none⟩ (.bool true) b (by show b ≠ gc; omega))
      have hb4 := hb3.setCell (p := ⟨gc, 19, none⟩) (by show w.heap.size ≤ gc; omega) (.bool true)
      generalize w4.setCell ⟨gc, 19, none⟩ (.bool true) = w5 at *
      clear kC kP3 kS3 kM3 hb3
      refine wp_region_hold (fun W => Blk W p 65 #[.map (some b)] ∧ Blk W w.heap.size 29 (stA c.id) ∧ Blk W gc 35 (clA (setG c true))) [0, 1, 2, 3, 4, 5] [] [6] (by kernel_rfl) (by kernel_rfl) (fun _ d _ _ _ h => by cases d <;> exact h) ⟨kP4.drew, kS4.drew, kC4.drew⟩ ?_
      simp only [pick, List.drop_succ_cons, List.drop_zero, List.head?_cons, Option.toList_some, List.cons_append, List.nil_append, List.append_nil]
      iterate 5 (refine wpHeld_step ?_ rfl ?_ ?_; rotate_left; · (intro W hW; have g1 : W.cell? ⟨p, 0, none⟩ = some (.map (some b)) := hW.1.cell 0; have g2 : W.cell? ⟨w.heap.size, 0, none⟩ = some (.int .i64 c.id.1) := hW.2.1.cell 0; have g3 : W.cell? ⟨w.heap.size, 1, none⟩ = some (.int .i64 c.id.2) := hW.2.1.cell 1; go_simp; with_reducible rfl))
      refine wpHeld_step ?_ rfl ?_ ?_
      rotate_left
      · intro W hW; refine exec_load_cl (x := .tmp 5) ?_ ?_ hW.2.2 <;> rfl
      refine wpHeld_nil ?_
      simp only [wpEarly]
      obtain ⟨w6, hrun, hM, hPerm, hgr⟩ := upd_old hu (show MapV w5.drew b (kvs L') from kM4) hperm (c := setG c true) (t := c.id) rfl hgt
      have kP6 := kP4.drew.grown hgr (by intro e; injection e with e; omega)
      have hO : Only (fun i => i = b) w w6 := (Only.of_below hb4.drew _).trans ((Only.of_grown hgr).mono fun i hi => by injection hi with hi; exact hi.symm) fun i hi => .inl hi
      clear kP4 kS4 kC4 kM4 hb4 hgr
      generalize clA (setG c true) = CC at *
      generalize w5.drew = w7 at *
      go_wp2_with fail
      go_ret
      exact ⟨rfl, ⟨kP6, _, hM, hPerm⟩, hO⟩

set_option maxRecDepth 100000 in
set_option maxHeartbeats 16000000 in
theorem put_any (w : World) (p b : Nat) (L : List Cl) (h : PgAt w p b L) (hu : Uq L) (hl : L.length ≤ 1000000) (c : Cl) :
    Calls Try.prog 14 #[.pointer (some ⟨p, 0, none⟩), .agg (clA c)] w fun e w' => e = .returned (.int .i64 (putS L c).2) ∧ PgAt w' p b (putS L c).1 ∧ Only (fun i => i = b) w w' := by
  have hpb := h.ne
  obtain ⟨hp, L', hm, hperm⟩ := h
  have hlp := hp.lt
  have hlb := hm.lt
  have kC := Blk.new w 35 (clA c)
  have kP := hp.alloc (.cells (clA c) 35)
  have kM := hm.alloc (.cells (clA c) 35)
  have hb := (Below.refl w.heap.size w).alloc (Nat.le_refl _) (.cells (clA c) 35)
  have hez : ∀ W : World, (Op.equalIn 10000 29 (.agg #[.int .i64 c.after.1, .int .i64 c.after.2]) (.agg #[.int .i64 0, .int .i64 0])).run Try.prog W = .ok (decide (c.after = z2)) W := eq_st c.after z2
  have HPR := Lib.hid (fun W => proper_any W c)
  obtain ⟨D, hD⟩ : ∃ d, putS L c = d := ⟨_, rfl⟩
  rw [hD]
  have HD := Lib.hid hD
  have hcz := clA_size c
  clear hD hp hm
  go_enter Try.func14, Try.ntmps14
  go_wp2_with (refine load_clg rfl (x := .tmp 3) rfl rfl kC ?_)
  refine (HPR.out _).mono ?_
  rintro e w2 ⟨rfl, q1⟩
  have hb2 := hb.trans (q1.mono hb.size)
  have kC2 := kC.below q1 kC.lt
  have kP2 := kP.below q1 kP.lt
  have kM2 := kM.below q1 kM.lt
  clear kC kP kM hb q1 HPR
  obtain ⟨pr, hpr⟩ : ∃ x, properC c = x := ⟨_, rfl⟩
  rw [hpr]
  cases pr with
  | false =>
    have hfin : D = (L, 1) := by rw [← HD.out]; unfold putS; rw [if_pos hpr]
    subst hfin
    clear HD hpr hez
    go_wp2
    go_ret
    exact ⟨rfl, ⟨kP2, L', kM2, hperm⟩, Only.of_below hb2 _⟩
  | true =>
    have HPT := Lib.hid hpr
    have hltC := kC2.lt
    clear hpr
    go_upto_region 3 with fail
    go_cut [5, 6] from 18 to 27 (fun v5 v6 wx => v5 = .pointer (some ⟨w2.heap.size, 0, none⟩) ∧ v6 = .bool (getC L c.id).isSome ∧ wx = w2.drew.alloc (.cells (clA (atC L c.id)) 35))
    case first =>
      clear hez
      refine wp_region_bush (fun W => Blk W p 65 #[.map (some b)] ∧ Blk W w.heap.size 35 (clA c) ∧ MapV W b (kvs L')) [0, 1, 2, 3, 4, 5, 6, 7, 8] 3 [] [12] (by kernel_rfl) (by kernel_rfl) (fun _ d _ _ _ h => by cases d <;> exact h) ⟨kP2.drew, kC2.drew, kM2⟩ ?_
      simp only [pick, List.drop_succ_cons, List.drop_zero, List.head?_cons, Option.toList_some, List.cons_append, List.nil_append, List.append_nil]
      repeat (refine wpHeld_step ?_ rfl ?_ ?_; rotate_left; · (intro W hW; have g1 : W.cell? ⟨p, 0, none⟩ = some (.map (some b)) := hW.1.cell 0; obtain ⟨e0, e1, e2, e3, -⟩ := cl_cells hW.2.1; have g4 := look_any hu hW.2.2 hperm c.id; go_simp; with_reducible rfl))
      refine wpHeld_nil ?_
      have kP := kP2
      have kC := kC2
      have kM := kM2
      have kP3 := kP.drew
      have kC3 := kC.drew
      have kM3 := (show MapV w2.drew _ _ from kM)
      obtain ⟨w3, hw3⟩ : ∃ W, w2.drew = W := ⟨_, rfl⟩
      rw [hw3] at kP3
      rw [hw3] at kC3
      rw [hw3] at kM3
      simp only [hw3]
      have HW3 := Lib.hid hw3
      clear hw3
      have hcz := clA_size (atC L c.id)
      have hpc := put_cl w3 (atC L c.id)
      refine wpBush_two 9 10 (by kernel_rfl) ?_ ?_
      · simp only [pick, List.drop_succ_cons, List.drop_zero, List.head?_cons, Option.toList_some, List.append_nil]
        go_wp2_with fail
        refine ⟨⟨kP3, kC3, kM3⟩, ?_⟩
        refine wpBush_one 10 (by kernel_rfl) ?_
        simp only [pick, List.drop_succ_cons, List.drop_zero, List.head?_cons, Option.toList_some, List.append_nil]
        go_wp2_with fail
        refine ⟨⟨kP3.alloc _, kC3.alloc _, kM3.alloc _⟩, ?_⟩
        refine wpBush_one 11 (by kernel_rfl) ?_
        simp only [pick, List.drop_succ_cons, List.drop_zero, List.head?_cons, Option.toList_some, List.append_nil]
        go_wp2_with fail
        refine ⟨⟨kP3.alloc _, kC3.alloc _, kM3.alloc _⟩, ?_⟩
        refine wpBush_end (by kernel_rfl) (by kernel_rfl) (by kernel_rfl) ?_
        simp only [pick, List.drop_succ_cons, List.drop_zero, List.head?_cons, Option.toList_some, List.append_nil]
        refine wpHeld_nil ?_
        go_wp2_with fail
        go_meet
        subst_eqs; obtain rfl := HW3.out; exact ⟨rfl, rfl, rfl⟩
      · simp only [pick, List.drop_succ_cons, List.drop_zero, List.head?_cons, Option.toList_some, List.append_nil]
        go_wp2_with fail
        refine ⟨⟨kP3.alloc _, kC3.alloc _, kM3.alloc _⟩, ?_⟩
        refine wpBush_two 9 11 (by kernel_rfl) ?_ ?_
        · simp only [pick, List.drop_succ_cons, List.drop_zero, List.head?_cons, Option.toList_some, List.append_nil]
          go_wp2_with fail
          refine ⟨⟨kP3.alloc _, kC3.alloc _, kM3.alloc _⟩, ?_⟩
          refine wpBush_one 11 (by kernel_rfl) ?_
          simp only [pick, List.drop_succ_cons, List.drop_zero, List.head?_cons, Option.toList_some, List.append_nil]
          go_wp2_with fail
          refine ⟨⟨kP3.alloc _, kC3.alloc _, kM3.alloc _⟩, ?_⟩
          refine wpBush_end (by kernel_rfl) (by kernel_rfl) (by kernel_rfl) ?_
          simp only [pick, List.drop_succ_cons, List.drop_zero, List.head?_cons, Option.toList_some, List.append_nil]
          refine wpHeld_nil ?_
          go_wp2_with fail
          go_meet
          subst_eqs; obtain rfl := HW3.out; exact ⟨rfl, rfl, rfl⟩
        · simp only [pick, List.drop_succ_cons, List.drop_zero, List.head?_cons, Option.toList_some, List.append_nil]
          go_wp2_with fail
          refine ⟨⟨kP3.alloc _, kC3.alloc _, kM3.alloc _⟩, ?_⟩
          refine wpBush_one 9 (by kernel_rfl) ?_
          simp only [pick, List.drop_succ_cons, List.drop_zero, List.head?_cons, Option.toList_some, List.append_nil]
          go_wp2_with fail
          refine ⟨⟨kP3.alloc _, kC3.alloc _, kM3.alloc _⟩, ?_⟩
          refine wpBush_end (by kernel_rfl) (by kernel_rfl) (by kernel_rfl) ?_
          simp only [pick, List.drop_succ_cons, List.drop_zero, List.head?_cons, Option.toList_some, List.append_nil]
          refine wpHeld_nil ?_
          go_wp2_with fail
          go_meet
          subst_eqs; obtain rfl := HW3.out; exact ⟨rfl, rfl, rfl⟩
    case rest =>
      obtain ⟨rfl, rfl, rfl⟩ := hcut
      have kO := Blk.new w2.drew 35 (clA (atC L c.id))
      have kP3 := kP2.drew.alloc (.cells (clA (atC L c.id)) 35)
      have kC3 := kC2.drew.alloc (.cells (clA (atC L c.id)) 35)
      have kM3 : MapV (w2.drew.alloc (.cells (clA (atC L c.id)) 35)) b (kvs L') := (show MapV w2.drew _ _ from kM2).alloc _
      have hb3 := hb2.drew.alloc hb2.size (.cells (clA (atC L c.id)) 35)
      have hsz : w2.drew.heap.size = w2.heap.size := rfl
      rw [hsz] at kO
      generalize w2.drew.alloc (.cells (clA (atC L c.id)) 35) = w4 at *
      generalize w2.heap.size = gc at *
      clear hsz kP2 kC2 kM2 hb2
      cases hgt : getC L c.id with
      | some old =>
        have hat : atC L c.id = old := by unfold atC; rw [hgt]; rfl
        rw [hat] at kO
        clear hat hez
        have HMR := Lib.hid (fun W => merge_any W old c)
        go_wp2_with (first
          | (refine load_cl rfl (x := .tmp 5) rfl rfl kO ?_)
          | (refine load_cl rfl (x := .tmp 3) rfl rfl kC3 ?_))
        refine (HMR.out _).mono ?_
        rintro e w5 ⟨rfl, q1⟩
        have hb5 := hb3.trans (q1.mono hb3.size)
        have kC5 := kC3.below q1 kC3.lt
        have kP5 := kP3.below q1 kP3.lt
        have kM5 := kM3.below q1 kM3.lt
        clear HMR kO kP3 kC3 kM3 hb3 q1
        obtain ⟨same, hsame⟩ : ∃ x, sameC old c = x := ⟨_, rfl⟩
        have hpc := put_cl w5 (mrgC old c)
        have hcm := clA_size (mrgC old c)
        have kN := Blk.new w5 35 (clA (mrgC old c))
        have kC6 := kC5.alloc (.cells (clA (mrgC old c)) 35)
        have kP6 := kP5.alloc (.cells (clA (mrgC old c)) 35)
        have kM6 := kM5.alloc (.cells (clA (mrgC old c)) 35)
        have hb6 := hb5.alloc hb5.size (.cells (clA (mrgC old c)) 35)
        have hs5 := hb5.size
        clear kC5 kP5 kM5 hb5
        unfold TupC
        rw [hsame]
        cases same with
        | false =>
          have hfin : D = (L, 9) := by rw [← HD.out]; unfold putS; rw [if_neg (by rw [HPT.out]; decide), hgt]; simp only; rw [hsame]; rfl
          subst hfin
          clear HD HPT hsame kN kC6
          go_wp2
          go_ret
          exact ⟨rfl, ⟨kP6, L', kM6, hperm⟩, Only.of_below hb6 _⟩
        | true =>
          have hfin : D = (setC L (mrgC old c), 0) := by rw [← HD.out]; unfold putS; rw [if_neg (by rw [HPT.out]; decide), hgt]; simp only; rw [hsame]; rfl
          have hid : (mrgC old c).id = c.id := (getC_mem hgt).2
          subst hfin
          clear HD HPT hsame
          go_upto_region 8 with fail
          clear hpc
          generalize w5.alloc (.cells (clA (mrgC old c)) 35) = w6 at *
          generalize w5.heap.size = gm at *
          refine wp_region_hold (fun W => Blk W p 65 #[.map (some b)] ∧ Blk W w.heap.size 35 (clA c) ∧ Blk W gm 35 (clA (mrgC old c))) [0, 1, 2, 3, 4, 5, 6] [] [7] (by kernel_rfl) (by kernel_rfl) (fun _ d _ _ _ h => by cases d <;> exact h) ⟨kP6.drew, kC6.drew, kN.drew⟩ ?_
          simp only [pick, List.drop_succ_cons, List.drop_zero, List.head?_cons, Option.toList_some, List.cons_append, List.nil_append, List.append_nil]
          iterate 6 (refine wpHeld_step ?_ rfl ?_ ?_; rotate_left; · (intro W hW; have g1 : W.cell? ⟨p, 0, none⟩ = some (.map (some b)) := hW.1.cell 0; obtain ⟨e0, e1, e2, e3, -⟩ := cl_cells hW.2.1; go_simp; with_reducible rfl))
          refine wpHeld_step ?_ rfl ?_ ?_
          rotate_left
          · intro W hW; refine exec_load_cl (x := .tmp 7) ?_ ?_ hW.2.2 <;> rfl
          refine wpHeld_nil ?_
          simp only [wpEarly]
          obtain ⟨w7, hrun, hM, hPerm, hgr⟩ := upd_old hu (show MapV w6.drew b (kvs L') from kM6) hperm (c := mrgC old c) (t := c.id) hid hgt
          have kP7 := kP6.drew.grown hgr (by intro e; injection e with e; omega)
          have hO : Only (fun i => i = b) w w7 := (Only.of_below hb6.drew _).trans ((Only.of_grown hgr).mono fun i hi => by injection hi with hi; exact hi.symm) fun i hi => .inl hi
          clear kP6 kC6 kN kM6 hb6 hgr hid
          generalize clA (mrgC old c) = CC at *
          generalize w6.drew = w8 at *
          go_wp2_with fail
          go_ret
          exact ⟨rfl, ⟨kP7, _, hM, hPerm⟩, hO⟩
      | none =>
        clear kO
        go_upto_region 10 with fail
        go_cut [9, 10] from 44 to 53 (fun v9 v10 wx => v9 = .pointer (some ⟨w4.heap.size, 0, none⟩) ∧ v10 = .bool (getC L c.after).isSome ∧ wx = w4.drew.alloc (.cells (clA (atC L c.after)) 35))
        case first =>
          clear hez
          refine wp_region_bush (fun W => Blk W p 65 #[.map (some b)] ∧ Blk W w.heap.size 35 (clA c) ∧ MapV W b (kvs L')) [0, 1, 2, 3, 4, 5, 6, 7, 8] 3 [] [12] (by kernel_rfl) (by kernel_rfl) (fun _ d _ _ _ h => by cases d <;> exact h) ⟨kP3.drew, kC3.drew, kM3⟩ ?_
          simp only [pick, List.drop_succ_cons, List.drop_zero, List.head?_cons, Option.toList_some, List.cons_append, List.nil_append, List.append_nil]
          repeat (refine wpHeld_step ?_ rfl ?_ ?_; rotate_left; · (intro W hW; have g1 : W.cell? ⟨p, 0, none⟩ = some (.map (some b)) := hW.1.cell 0; obtain ⟨e0, e1, e2, e3, -⟩ := cl_cells hW.2.1; have g4 := look_any hu hW.2.2 hperm c.after; go_simp; with_reducible rfl))
          refine wpHeld_nil ?_
          have kP := kP3
          have kC := kC3
          have kM := kM3
          clear kP3 kC3 kM3
          have kP3 := kP.drew
          have kC3 := kC.drew
          have kM3 := (show MapV w4.drew _ _ from kM)
          obtain ⟨w3, hw3⟩ : ∃ W, w4.drew = W := ⟨_, rfl⟩
          rw [hw3] at kP3
          rw [hw3] at kC3
          rw [hw3] at kM3
          simp only [hw3]
          have HW3 := Lib.hid hw3
          clear hw3
          have hcz := clA_size (atC L c.after)
          have hpc := put_cl w3 (atC L c.after)
          refine wpBush_two 9 10 (by kernel_rfl) ?_ ?_
          · simp only [pick, List.drop_succ_cons, List.drop_zero, List.head?_cons, Option.toList_some, List.append_nil]
            go_wp2_with fail
            refine ⟨⟨kP3, kC3, kM3⟩, ?_⟩
            refine wpBush_one 10 (by kernel_rfl) ?_
            simp only [pick, List.drop_succ_cons, List.drop_zero, List.head?_cons, Option.toList_some, List.append_nil]
            go_wp2_with fail
            refine ⟨⟨kP3.alloc _, kC3.alloc _, kM3.alloc _⟩, ?_⟩
            refine wpBush_one 11 (by kernel_rfl) ?_
            simp only [pick, List.drop_succ_cons, List.drop_zero, List.head?_cons, Option.toList_some, List.append_nil]
            go_wp2_with fail
            refine ⟨⟨kP3.alloc _, kC3.alloc _, kM3.alloc _⟩, ?_⟩
            refine wpBush_end (by kernel_rfl) (by kernel_rfl) (by kernel_rfl) ?_
            simp only [pick, List.drop_succ_cons, List.drop_zero, List.head?_cons, Option.toList_some, List.append_nil]
            refine wpHeld_nil ?_
            go_wp2_with fail
            go_meet
            subst_eqs; obtain rfl := HW3.out; exact ⟨rfl, rfl, rfl⟩
          · simp only [pick, List.drop_succ_cons, List.drop_zero, List.head?_cons, Option.toList_some, List.append_nil]
            go_wp2_with fail
            refine ⟨⟨kP3.alloc _, kC3.alloc _, kM3.alloc _⟩, ?_⟩
            refine wpBush_two 9 11 (by kernel_rfl) ?_ ?_
            · simp only [pick, List.drop_succ_cons, List.drop_zero, List.head?_cons, Option.toList_some, List.append_nil]
              go_wp2_with fail
              refine ⟨⟨kP3.alloc _, kC3.alloc _, kM3.alloc _⟩, ?_⟩
              refine wpBush_one 11 (by kernel_rfl) ?_
              simp only [pick, List.drop_succ_cons, List.drop_zero, List.head?_cons, Option.toList_some, List.append_nil]
              go_wp2_with fail
              refine ⟨⟨kP3.alloc _, kC3.alloc _, kM3.alloc _⟩, ?_⟩
              refine wpBush_end (by kernel_rfl) (by kernel_rfl) (by kernel_rfl) ?_
              simp only [pick, List.drop_succ_cons, List.drop_zero, List.head?_cons, Option.toList_some, List.append_nil]
              refine wpHeld_nil ?_
              go_wp2_with fail
              go_meet
              subst_eqs; obtain rfl := HW3.out; exact ⟨rfl, rfl, rfl⟩
            · simp only [pick, List.drop_succ_cons, List.drop_zero, List.head?_cons, Option.toList_some, List.append_nil]
              go_wp2_with fail
              refine ⟨⟨kP3.alloc _, kC3.alloc _, kM3.alloc _⟩, ?_⟩
              refine wpBush_one 9 (by kernel_rfl) ?_
              simp only [pick, List.drop_succ_cons, List.drop_zero, List.head?_cons, Option.toList_some, List.append_nil]
              go_wp2_with fail
              refine ⟨⟨kP3.alloc _, kC3.alloc _, kM3.alloc _⟩, ?_⟩
              refine wpBush_end (by kernel_rfl) (by kernel_rfl) (by kernel_rfl) ?_
              simp only [pick, List.drop_succ_cons, List.drop_zero, List.head?_cons, Option.toList_some, List.append_nil]
              refine wpHeld_nil ?_
              go_wp2_with fail
              go_meet
              subst_eqs; obtain rfl := HW3.out; exact ⟨rfl, rfl, rfl⟩
        case rest =>
          obtain ⟨rfl, rfl, rfl⟩ := hcut
          have kP6 := kP3.drew.alloc (.cells (clA (atC L c.after)) 35)
          have kC6 := kC3.drew.alloc (.cells (clA (atC L c.after)) 35)
          have kM6 : MapV (w4.drew.alloc (.cells (clA (atC L c.after)) 35)) b (kvs L') := (show MapV w4.drew _ _ from kM3).alloc _
          have hb6 := hb3.drew.alloc hb3.size (.cells (clA (atC L c.after)) 35)
          generalize w4.drew.alloc (.cells (clA (atC L c.after)) 35) = w6 at *
          generalize w4.heap.size = ga at *
          clear kP3 kC3 kM3 hb3
          cases hga : getC L c.after with
          | some d =>
            have hop := open_any w6 b L' kM6 (by rw [hperm.length_eq]; exact hl)
            rw [openN_perm hperm] at hop
            have HOP := Lib.hid hop
            have hol : openN L ≤ 1000000 := Nat.le_trans List.countP_le_length hl
            clear hop hez
            obtain ⟨f0, f1, f2, f3, f19⟩ := cl_cells kC6
            have g1 : w6.cell? ⟨p, 0, none⟩ = some (.map (some b)) := kP6.cell 0
            cases hgn : c.gone with
            | true =>
              rw [hgn] at f19
              have hfin : D = (L ++ [c], 0) := by rw [← HD.out]; unfold putS; rw [if_neg (by rw [HPT.out]; decide), hgt]; simp only; rw [if_neg (fun h => by rw [hga] at h; exact absurd h.2 (by simp)), if_neg (by rw [hgn]; simp)]
              subst hfin
              clear HD HPT HOP hgn
              go_upto_region 15 with fail
              refine wp_region_hold (fun W => Blk W p 65 #[.map (some b)] ∧ Blk W w.heap.size 35 (clA c)) [0, 1, 2, 3, 4, 5, 6] [] [7] (by kernel_rfl) (by kernel_rfl) (fun _ d _ _ _ h => by cases d <;> exact h) ⟨kP6.drew, kC6.drew⟩ ?_
              simp only [pick, List.drop_succ_cons, List.drop_zero, List.head?_cons, Option.toList_some, List.cons_append, List.nil_append, List.append_nil]
              iterate 6 (refine wpHeld_step ?_ rfl ?_ ?_; rotate_left; · (intro W hW; have g1 : W.cell? ⟨p, 0, none⟩ = some (.map (some b)) := hW.1.cell 0; obtain ⟨e0, e1, e2, e3, -⟩ := cl_cells hW.2; go_simp; with_reducible rfl))
              refine wpHeld_step ?_ rfl ?_ ?_
              rotate_left
              · intro W hW; refine exec_load_cl (x := .tmp 3) ?_ ?_ hW.2 <;> rfl
              refine wpHeld_nil ?_
              simp only [wpEarly]
              obtain ⟨w8, hrun, hM, hPerm, hgr⟩ := upd_new (show MapV w6.drew b (kvs L') from kM6) hperm (c := c) (t := c.id) rfl hgt
              have kP8 := kP6.drew.grown hgr (by intro e; injection e with e; omega)
              have hO : Only (fun i => i = b) w w8 := (Only.of_below hb6.drew _).trans ((Only.of_grown hgr).mono fun i hi => by injection hi with hi; exact hi.symm) fun i hi => .inl hi
              clear kP6 kC6 kM6 hb6 hgr
              generalize clA c = CC at *
              generalize w6.drew = w9 at *
              go_wp2_with fail
              go_ret
              exact ⟨rfl, ⟨kP8, _, hM, hPerm⟩, hO⟩
            | false =>
              rw [hgn] at f19
              by_cases h64 : 64 ≤ openN L
              · have hd64 : decide (64 ≤ ((openN L : Nat) : Int)) = true := decide_eq_true (by omega)
                have hfin : D = (L, 27) := by rw [← HD.out]; unfold putS; rw [if_neg (by rw [HPT.out]; decide), hgt]; simp only; rw [if_neg (fun h => by rw [hga] at h; exact absurd h.2 (by simp)), if_pos ⟨hgn, h64⟩]
                subst hfin
                clear HD HPT hgn h64
                go_wp2_with fail
                refine HOP.out.mono ?_
                rintro e w7 ⟨rfl, q2⟩
                have hb7 := hb6.trans (q2.mono hb6.size)
                have kP7 := kP6.below q2 kP6.lt
                have kM7 := kM6.below q2 kM6.lt
                clear HOP kP6 kM6 kC6 hb6 q2 g1 f0 f1 f2 f3 f19
                go_wp2
                go_ret
                exact ⟨rfl, ⟨kP7, L', kM7, hperm⟩, Only.of_below hb7 _⟩
              · have hd64 : decide (64 ≤ ((openN L : Nat) : Int)) = false := decide_eq_false (by omega)
                have hfin : D = (L ++ [c], 0) := by rw [← HD.out]; unfold putS; rw [if_neg (by rw [HPT.out]; decide), hgt]; simp only; rw [if_neg (fun h => by rw [hga] at h; exact absurd h.2 (by simp)), if_neg (fun h => h64 h.2)]
                subst hfin
                clear HD HPT hgn h64
                go_wp2_with fail
                refine HOP.out.mono ?_
                rintro e w7 ⟨rfl, q2⟩
                have hb7 := hb6.trans (q2.mono hb6.size)
                have kP7 := kP6.below q2 kP6.lt
                have kC7 := kC6.below q2 kC6.lt
                have kM7 := kM6.below q2 kM6.lt
                clear HOP kP6 kM6 kC6 hb6 q2 g1 f0 f1 f2 f3 f19
                go_upto_region 15 with fail
                refine wp_region_hold (fun W => Blk W p 65 #[.map (some b)] ∧ Blk W w.heap.size 35 (clA c)) [0, 1, 2, 3, 4, 5, 6] [] [7] (by kernel_rfl) (by kernel_rfl) (fun _ d _ _ _ h => by cases d <;> exact h) ⟨kP7.drew, kC7.drew⟩ ?_
                simp only [pick, List.drop_succ_cons, List.drop_zero, List.head?_cons, Option.toList_some, List.cons_append, List.nil_append, List.append_nil]
                iterate 6 (refine wpHeld_step ?_ rfl ?_ ?_; rotate_left; · (intro W hW; have g1 : W.cell? ⟨p, 0, none⟩ = some (.map (some b)) := hW.1.cell 0; obtain ⟨e0, e1, e2, e3, -⟩ := cl_cells hW.2; go_simp; with_reducible rfl))
                refine wpHeld_step ?_ rfl ?_ ?_
                rotate_left
                · intro W hW; refine exec_load_cl (x := .tmp 3) ?_ ?_ hW.2 <;> rfl
                refine wpHeld_nil ?_
                simp only [wpEarly]
                obtain ⟨w8, hrun, hM, hPerm, hgr⟩ := upd_new (show MapV w7.drew b (kvs L') from kM7) hperm (c := c) (t := c.id) rfl hgt
                have kP8 := kP7.drew.grown hgr (by intro e; injection e with e; omega)
                have hO : Only (fun i => i = b) w w8 := (Only.of_below hb7.drew _).trans ((Only.of_grown hgr).mono fun i hi => by injection hi with hi; exact hi.symm) fun i hi => .inl hi
                clear kP7 kC7 kM7 hb7 hgr
                generalize clA c = CC at *
                generalize w7.drew = w9 at *
                go_wp2_with fail
                go_ret
                exact ⟨rfl, ⟨kP8, _, hM, hPerm⟩, hO⟩
          | none =>
            by_cases hz : c.after = z2
            · rw [decide_eq_true hz] at hez
              have hezH := Lib.hid hez
              obtain ⟨m0, m1, m2, m3, -⟩ := cl_cells kC6
              have hop := open_any w6 b L' kM6 (by rw [hperm.length_eq]; exact hl)
              rw [openN_perm hperm] at hop
              have HOP := Lib.hid hop
              have hol : openN L ≤ 1000000 := Nat.le_trans List.countP_le_length hl
              clear hop
              obtain ⟨f0, f1, f2, f3, f19⟩ := cl_cells kC6
              have g1 : w6.cell? ⟨p, 0, none⟩ = some (.map (some b)) := kP6.cell 0
              cases hgn : c.gone with
              | true =>
                rw [hgn] at f19
                have hfin : D = (L ++ [c], 0) := by rw [← HD.out]; unfold putS; rw [if_neg (by rw [HPT.out]; decide), hgt]; simp only; rw [if_neg (fun h => h.1 hz), if_neg (by rw [hgn]; simp)]
                subst hfin
                clear HD HPT HOP hgn
                go_upto_region 15 with fail
                refine wp_region_hold (fun W => Blk W p 65 #[.map (some b)] ∧ Blk W w.heap.size 35 (clA c)) [0, 1, 2, 3, 4, 5, 6] [] [7] (by kernel_rfl) (by kernel_rfl) (fun _ d _ _ _ h => by cases d <;> exact h) ⟨kP6.drew, kC6.drew⟩ ?_
                simp only [pick, List.drop_succ_cons, List.drop_zero, List.head?_cons, Option.toList_some, List.cons_append, List.nil_append, List.append_nil]
                iterate 6 (refine wpHeld_step ?_ rfl ?_ ?_; rotate_left; · (intro W hW; have g1 : W.cell? ⟨p, 0, none⟩ = some (.map (some b)) := hW.1.cell 0; obtain ⟨e0, e1, e2, e3, -⟩ := cl_cells hW.2; go_simp; with_reducible rfl))
                refine wpHeld_step ?_ rfl ?_ ?_
                rotate_left
                · intro W hW; refine exec_load_cl (x := .tmp 3) ?_ ?_ hW.2 <;> rfl
                refine wpHeld_nil ?_
                simp only [wpEarly]
                obtain ⟨w8, hrun, hM, hPerm, hgr⟩ := upd_new (show MapV w6.drew b (kvs L') from kM6) hperm (c := c) (t := c.id) rfl hgt
                have kP8 := kP6.drew.grown hgr (by intro e; injection e with e; omega)
                have hO : Only (fun i => i = b) w w8 := (Only.of_below hb6.drew _).trans ((Only.of_grown hgr).mono fun i hi => by injection hi with hi; exact hi.symm) fun i hi => .inl hi
                clear kP6 kC6 kM6 hb6 hgr
                generalize clA c = CC at *
                generalize w6.drew = w9 at *
                go_wp2_with fail
                go_ret
                exact ⟨rfl, ⟨kP8, _, hM, hPerm⟩, hO⟩
              | false =>
                rw [hgn] at f19
                by_cases h64 : 64 ≤ openN L
                · have hd64 : decide (64 ≤ ((openN L : Nat) : Int)) = true := decide_eq_true (by omega)
                  have hfin : D = (L, 27) := by rw [← HD.out]; unfold putS; rw [if_neg (by rw [HPT.out]; decide), hgt]; simp only; rw [if_neg (fun h => h.1 hz), if_pos ⟨hgn, h64⟩]
                  subst hfin
                  clear HD HPT hgn h64
                  go_wp2_with fail
                  refine HOP.out.mono ?_
                  rintro e w7 ⟨rfl, q2⟩
                  have hb7 := hb6.trans (q2.mono hb6.size)
                  have kP7 := kP6.below q2 kP6.lt
                  have kM7 := kM6.below q2 kM6.lt
                  clear HOP kP6 kM6 kC6 hb6 q2 g1 f0 f1 f2 f3 f19
                  go_wp2
                  go_ret
                  exact ⟨rfl, ⟨kP7, L', kM7, hperm⟩, Only.of_below hb7 _⟩
                · have hd64 : decide (64 ≤ ((openN L : Nat) : Int)) = false := decide_eq_false (by omega)
                  have hfin : D = (L ++ [c], 0) := by rw [← HD.out]; unfold putS; rw [if_neg (by rw [HPT.out]; decide), hgt]; simp only; rw [if_neg (fun h => h.1 hz), if_neg (fun h => h64 h.2)]
                  subst hfin
                  clear HD HPT hgn h64
                  go_wp2_with fail
                  refine HOP.out.mono ?_
                  rintro e w7 ⟨rfl, q2⟩
                  have hb7 := hb6.trans (q2.mono hb6.size)
                  have kP7 := kP6.below q2 kP6.lt
                  have kC7 := kC6.below q2 kC6.lt
                  have kM7 := kM6.below q2 kM6.lt
                  clear HOP kP6 kM6 kC6 hb6 q2 g1 f0 f1 f2 f3 f19
                  go_upto_region 15 with fail
                  refine wp_region_hold (fun W => Blk W p 65 #[.map (some b)] ∧ Blk W w.heap.size 35 (clA c)) [0, 1, 2, 3, 4, 5, 6] [] [7] (by kernel_rfl) (by kernel_rfl) (fun _ d _ _ _ h => by cases d <;> exact h) ⟨kP7.drew, kC7.drew⟩ ?_
                  simp only [pick, List.drop_succ_cons, List.drop_zero, List.head?_cons, Option.toList_some, List.cons_append, List.nil_append, List.append_nil]
                  iterate 6 (refine wpHeld_step ?_ rfl ?_ ?_; rotate_left; · (intro W hW; have g1 : W.cell? ⟨p, 0, none⟩ = some (.map (some b)) := hW.1.cell 0; obtain ⟨e0, e1, e2, e3, -⟩ := cl_cells hW.2; go_simp; with_reducible rfl))
                  refine wpHeld_step ?_ rfl ?_ ?_
                  rotate_left
                  · intro W hW; refine exec_load_cl (x := .tmp 3) ?_ ?_ hW.2 <;> rfl
                  refine wpHeld_nil ?_
                  simp only [wpEarly]
                  obtain ⟨w8, hrun, hM, hPerm, hgr⟩ := upd_new (show MapV w7.drew b (kvs L') from kM7) hperm (c := c) (t := c.id) rfl hgt
                  have kP8 := kP7.drew.grown hgr (by intro e; injection e with e; omega)
                  have hO : Only (fun i => i = b) w w8 := (Only.of_below hb7.drew _).trans ((Only.of_grown hgr).mono fun i hi => by injection hi with hi; exact hi.symm) fun i hi => .inl hi
                  clear kP7 kC7 kM7 hb7 hgr
                  generalize clA c = CC at *
                  generalize w7.drew = w9 at *
                  go_wp2_with fail
                  go_ret
                  exact ⟨rfl, ⟨kP8, _, hM, hPerm⟩, hO⟩
            · rw [decide_eq_false hz] at hez
              obtain ⟨m0, m1, m2, m3, -⟩ := cl_cells kC6
              have hfin : D = (L, 11) := by rw [← HD.out]; unfold putS; rw [if_neg (by rw [HPT.out]; decide), hgt]; simp only; rw [if_pos ⟨hz, hga⟩]
              subst hfin
              clear HD HPT hz
              go_wp2
              go_ret
              exact ⟨rfl, ⟨kP6, L', kM6, hperm⟩, Only.of_below hb6 _⟩
end Go.Proofs.Ytbihklfcdpgcgaa
