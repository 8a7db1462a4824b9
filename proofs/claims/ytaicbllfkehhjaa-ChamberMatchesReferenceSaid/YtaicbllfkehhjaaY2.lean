/- Part 2 of what the laws of this seat stand on: Eg, Es, Ej, Ek, El, Em. -/
import Derived.Test.YtaicbllfkehhjaaY1
import Derived.Shelf.SlGeneric
import Derived.Shelf.SlSortCmp.WholeK
import Derived.Shelf.SlSortCmp.NoneTotal
import Derived.Test.YtaicbllfkehhjaaProg
import Derived.Lib.Strings
import Derived.Lib.OwnKind

/- Drop and Put on a page. -/
namespace Go.Proofs.Ytaicbllfkehhjaa
open Go.RowKit

theorem zeroCl (w : World) : (zeroValue 56).run Try.prog w = .ok (.agg #[.int .i64 0, .int .i64 0, .int .i64 0, .int .i64 0, .int .i64 0, .string ⟨#[]⟩, .string ⟨#[]⟩, .string ⟨#[]⟩, .string ⟨#[]⟩, .int .i64 0, .string ⟨#[]⟩, .string ⟨#[]⟩, .string ⟨#[]⟩, .string ⟨#[]⟩, .string ⟨#[]⟩, .bool false, .int .i64 0, .string ⟨#[]⟩, .string ⟨#[]⟩, .bool false]) w := by kernel_rfl
def zcl : Cl := ⟨z2, z2, (0, ⟨#[]⟩, ⟨#[]⟩, ⟨#[]⟩, ⟨#[]⟩, (0, ⟨#[]⟩, ⟨#[]⟩, ⟨#[]⟩, ⟨#[]⟩, ⟨#[]⟩, false), 0, ⟨#[]⟩, ⟨#[]⟩), false⟩
theorem zcl_A : clA zcl = #[.int .i64 0, .int .i64 0, .int .i64 0, .int .i64 0, .int .i64 0, .string ⟨#[]⟩, .string ⟨#[]⟩, .string ⟨#[]⟩, .string ⟨#[]⟩, .int .i64 0, .string ⟨#[]⟩, .string ⟨#[]⟩, .string ⟨#[]⟩, .string ⟨#[]⟩, .string ⟨#[]⟩, .bool false, .int .i64 0, .string ⟨#[]⟩, .string ⟨#[]⟩, .bool false] := rfl
theorem getC_in {L L' : List Cl} (_hu : Uq L) (p : L'.Perm L) {t : St2} {c : Cl} (h : getC L t = some c) : (Value.agg (stA t), Value.agg (clA c)) ∈ kvs L' := by
  obtain ⟨h1, h2⟩ := getC_mem h
  subst h2
  exact List.mem_map.2 ⟨c, p.mem_iff.2 h1, rfl⟩
theorem getC_out {L L' : List Cl} (p : L'.Perm L) {t : St2} (h : getC L t = none) : ∀ q ∈ kvs L', q.1 ≠ .agg (stA t) := fun q hq e => by
  obtain ⟨c, hc, rfl⟩ := List.mem_map.1 hq
  exact getC_none.1 h c (p.mem_iff.1 hc) (stA_inj e)
/-- The clause at a stamp, or none. -/
def atC (L : List Cl) (t : St2) : Cl := (getC L t).getD zcl
theorem look_any {w : World} {b : Nat} {L L' : List Cl} (hu : Uq L) (h : MapV w b (kvs L')) (p : L'.Perm L) (t : St2) :
    (Instr.lookup 53 (.map (some b)) (.agg #[.int .i64 t.1, .int .i64 t.2]) true).run Try.prog w = .ok (.tuple #[.agg (clA (atC L t)), .bool (getC L t).isSome]) w := by
  cases hg : getC L t with
  | some c =>
    have := h.look_some (P := Try.prog) kysS Try.underlying53 kvs_key (getC_in hu p hg) true
    unfold atC
    rw [hg]
    exact this
  | none =>
    have := h.look_none (P := Try.prog) kysS Try.underlying53 kvs_key ⟨t, rfl⟩ (getC_out p hg) (zeroCl w) true
    unfold atC
    rw [hg]
    exact this
theorem kvs_set {L : List Cl} {c : Cl} : (kvs L).map (upV (.agg (stA c.id)) (.agg (clA c))) = kvs (setC L c) := by
  unfold kvs setC
  rw [List.map_map, List.map_map]
  refine List.map_congr_left fun x _ => ?_
  simp only [Function.comp_apply]
  by_cases h : x.id = c.id
  · rw [upV_pos (show (kvC x).1 = _ by unfold kvC; rw [h]), show repC c x = c from if_pos h]; rfl
  · rw [upV_neg (show ¬ (kvC x).1 = _ from fun e => h (stA_inj e)), show repC c x = x from if_neg h]
theorem upd_old {w : World} {b : Nat} {L L' : List Cl} (hu : Uq L) (h : MapV w b (kvs L')) (p : L'.Perm L) {c old : Cl} {t : St2} (ht : c.id = t) (ho : getC L t = some old) :
    ∃ w', (Instr.mapUpdate 53 (.map (some b)) (.agg #[.int .i64 t.1, .int .i64 t.2]) (.agg (clA c))).run Try.prog w = .ok () w' ∧ MapV w' b (kvs (setC L' c)) ∧ (setC L' c).Perm (setC L c) ∧ w.grownBy w' (some b) := by
  subst ht
  obtain ⟨w', h1, h2, h3⟩ := h.upd_some (P := Try.prog) kysS Try.underlying53 kvs_key (getC_in hu p ho) (.agg (clA c))
  rw [kvs_set] at h2
  exact ⟨w', h1, h2, p.map _, h3⟩
theorem upd_new {w : World} {b : Nat} {L L' : List Cl} (h : MapV w b (kvs L')) (p : L'.Perm L) {c : Cl} {t : St2} (ht : c.id = t) (ho : getC L t = none) :
    ∃ w', (Instr.mapUpdate 53 (.map (some b)) (.agg #[.int .i64 t.1, .int .i64 t.2]) (.agg (clA c))).run Try.prog w = .ok () w' ∧ MapV w' b (kvs (L' ++ [c])) ∧ (L' ++ [c]).Perm (L ++ [c]) ∧ w.grownBy w' (some b) := by
  subst ht
  obtain ⟨w', h1, h2, h3⟩ := h.upd_none (P := Try.prog) kysS Try.underlying53 kvs_key ⟨c.id, rfl⟩ (getC_out p ho) (.agg (clA c))
  refine ⟨w', h1, ?_, p.append_right _, h3⟩
  unfold kvs at *
  rw [List.map_append]
  exact h2
set_option maxRecDepth 100000 in
set_option maxHeartbeats 8000000 in
theorem drop_any (w : World) (p b : Nat) (L : List Cl) (h : PgAt w p b L) (hu : Uq L) (t : St2) :
    Calls Try.prog 49 #[.pointer (some ⟨p, 0, none⟩), .agg (stA t)] w fun e w' => e = .returned (.int .i64 (dropS L t).2) ∧ PgAt w' p b (dropS L t).1 ∧ Only (fun i => i = b) w w' := by
  have hpb := h.ne
  obtain ⟨hp, L', hm, hperm⟩ := h
  have kS := Blk.new w 33 (stA t)
  have kP := hp.alloc (.cells (stA t) 33)
  have kM := hm.alloc (.cells (stA t) 33)
  have hb := (Below.refl w.heap.size w).alloc (Nat.le_refl _) (.cells (stA t) 33)
  have HD := Lib.hid (show dropS L t = dropS L t from rfl)
  obtain ⟨D, hD⟩ : ∃ d, dropS L t = d := ⟨_, rfl⟩
  rw [hD]
  clear HD
  have HD := Lib.hid hD
  clear hD
  go_enter Try.func49, Try.ntmps49
  go_upto_region 3 with fail
  generalize w.alloc (.cells (stA t) 33) = w2 at *
  go_cut [5, 6] from 9 to 17 (fun v5 v6 wx => v5 = .pointer (some ⟨w2.heap.size, 0, none⟩) ∧ v6 = .bool (getC L t).isSome ∧ wx = w2.drew.alloc (.cells (clA (atC L t)) 56))
  case first =>
    refine wp_region_bush (fun W => Blk W p 98 #[.map (some b)] ∧ Blk W w.heap.size 33 (stA t) ∧ MapV W b (kvs L')) [0, 1, 2, 3, 4, 5, 6, 7] 3 [] [11] (by kernel_rfl) (by kernel_rfl) (fun _ d _ _ _ h => by cases d <;> exact h) ⟨kP.drew, kS.drew, kM⟩ ?_
    simp only [pick, List.drop_succ_cons, List.drop_zero, List.head?_cons, Option.toList_some, List.cons_append, List.nil_append, List.append_nil]
    repeat (refine wpHeld_step ?_ rfl ?_ ?_; rotate_left; · (intro W hW; have g1 : W.cell? ⟨p, 0, none⟩ = some (.map (some b)) := hW.1.cell 0; have g2 : W.cell? ⟨w.heap.size, 0, none⟩ = some (.int .i64 t.1) := hW.2.1.cell 0; have g3 : W.cell? ⟨w.heap.size, 1, none⟩ = some (.int .i64 t.2) := hW.2.1.cell 1; have g4 := look_any hu hW.2.2 hperm t; go_simp; with_reducible rfl))
    refine wpHeld_nil ?_
    have kP3 := kP.drew
    have kS3 := kS.drew
    have kM3 := (show MapV w2.drew _ _ from kM)
    obtain ⟨w3, hw3⟩ : ∃ W, w2.drew = W := ⟨_, rfl⟩
    rw [hw3] at kP3
    rw [hw3] at kS3
    rw [hw3] at kM3
    simp only [hw3]
    have HW3 := Lib.hid hw3
    clear hw3
    have hcz := clA_size (atC L t)
    have hpc := put_cl w3 (atC L t)
    refine wpBush_two 8 9 (by kernel_rfl) ?_ ?_
    · simp only [pick, List.drop_succ_cons, List.drop_zero, List.head?_cons, Option.toList_some, List.append_nil]
      go_wp2_with fail
      refine ⟨⟨kP3, kS3, kM3⟩, ?_⟩
      refine wpBush_one 9 (by kernel_rfl) ?_
      simp only [pick, List.drop_succ_cons, List.drop_zero, List.head?_cons, Option.toList_some, List.append_nil]
      go_wp2_with fail
      refine ⟨⟨kP3.alloc _, kS3.alloc _, kM3.alloc _⟩, ?_⟩
      refine wpBush_one 10 (by kernel_rfl) ?_
      simp only [pick, List.drop_succ_cons, List.drop_zero, List.head?_cons, Option.toList_some, List.append_nil]
      go_wp2_with fail
      refine ⟨⟨kP3.alloc _, kS3.alloc _, kM3.alloc _⟩, ?_⟩
      refine wpBush_end (by kernel_rfl) (by kernel_rfl) (by kernel_rfl) ?_
      simp only [pick, List.drop_succ_cons, List.drop_zero, List.head?_cons, Option.toList_some, List.append_nil]
      refine wpHeld_nil ?_
      go_wp2_with fail
      go_meet
      subst_eqs; obtain rfl := HW3.out; exact ⟨rfl, rfl, rfl⟩
    · simp only [pick, List.drop_succ_cons, List.drop_zero, List.head?_cons, Option.toList_some, List.append_nil]
      go_wp2_with fail
      refine ⟨⟨kP3.alloc _, kS3.alloc _, kM3.alloc _⟩, ?_⟩
      refine wpBush_two 8 10 (by kernel_rfl) ?_ ?_
      · simp only [pick, List.drop_succ_cons, List.drop_zero, List.head?_cons, Option.toList_some, List.append_nil]
        go_wp2_with fail
        refine ⟨⟨kP3.alloc _, kS3.alloc _, kM3.alloc _⟩, ?_⟩
        refine wpBush_one 10 (by kernel_rfl) ?_
        simp only [pick, List.drop_succ_cons, List.drop_zero, List.head?_cons, Option.toList_some, List.append_nil]
        go_wp2_with fail
        refine ⟨⟨kP3.alloc _, kS3.alloc _, kM3.alloc _⟩, ?_⟩
        refine wpBush_end (by kernel_rfl) (by kernel_rfl) (by kernel_rfl) ?_
        simp only [pick, List.drop_succ_cons, List.drop_zero, List.head?_cons, Option.toList_some, List.append_nil]
        refine wpHeld_nil ?_
        go_wp2_with fail
        go_meet
        subst_eqs; obtain rfl := HW3.out; exact ⟨rfl, rfl, rfl⟩
      · simp only [pick, List.drop_succ_cons, List.drop_zero, List.head?_cons, Option.toList_some, List.append_nil]
        go_wp2_with fail
        refine ⟨⟨kP3.alloc _, kS3.alloc _, kM3.alloc _⟩, ?_⟩
        refine wpBush_one 8 (by kernel_rfl) ?_
        simp only [pick, List.drop_succ_cons, List.drop_zero, List.head?_cons, Option.toList_some, List.append_nil]
        go_wp2_with fail
        refine ⟨⟨kP3.alloc _, kS3.alloc _, kM3.alloc _⟩, ?_⟩
        refine wpBush_end (by kernel_rfl) (by kernel_rfl) (by kernel_rfl) ?_
        simp only [pick, List.drop_succ_cons, List.drop_zero, List.head?_cons, Option.toList_some, List.append_nil]
        refine wpHeld_nil ?_
        go_wp2_with fail
        go_meet
        subst_eqs; obtain rfl := HW3.out; exact ⟨rfl, rfl, rfl⟩
  case rest =>
    obtain ⟨rfl, rfl, rfl⟩ := hcut
    have kC := Blk.new w2.drew 56 (clA (atC L t))
    have kP3 := kP.drew.alloc (.cells (clA (atC L t)) 56)
    have kS3 := kS.drew.alloc (.cells (clA (atC L t)) 56)
    have kM3 : MapV (w2.drew.alloc (.cells (clA (atC L t)) 56)) b (kvs L') := (show MapV w2.drew _ _ from kM).alloc _
    have hb3 := hb.drew.alloc hb.size (.cells (clA (atC L t)) 56)
    have hsz : w2.drew.heap.size = w2.heap.size := rfl
    rw [hsz] at kC
    have hltS := kS.lt
    have hltb := kM.lt
    have hltp := kP.lt
    have hg0 := hm.lt
    have hp0 := hp.lt
    generalize w2.drew.alloc (.cells (clA (atC L t)) 56) = w4 at *
    generalize w2.heap.size = gc at *
    clear hsz kP kS kM hb
    cases hgt : getC L t with
    | none =>
      have hfin : D = (L, 11) := by rw [← HD.out]; unfold dropS; rw [hgt]
      subst hfin
      clear HD kC kS3
      go_wp2
      go_ret
      exact ⟨rfl, ⟨kP3, L', kM3, hperm⟩, Only.of_below hb3 _⟩
    | some c =>
      have hat : atC L t = c := by unfold atC; rw [hgt]; rfl
      rw [hat] at kC
      have hfin : D = (setC L { c with gone := true }, 0) := by rw [← HD.out]; unfold dropS; rw [hgt]
      subst hfin
      obtain ⟨rfl⟩ : c.id = t := (getC_mem hgt).2
      clear HD hat
      have c19 := kC.cell 19
      rw [show (clA c)[19]? = some (.bool c.gone) from rfl] at c19
      have f19 := kC.frozen 19
      go_upto_region 7 with fail
      clear c19 f19
      have kC4 := kC.set_ 19 (.bool true)
      rw [clA_set] at kC4
      have kP4 := kP3.far (p := ⟨gc, 19, none⟩) (by show p ≠ gc; omega) (.bool true)
      have kS4 := kS3.far (p := ⟨gc, 19, none⟩) (by show w.heap.size ≠ gc; omega) (.bool true)
      have kM4 : MapV (w4.setCell ⟨gc, 19, none⟩ (.bool true)) b (kvs L') := kM3.of_block (Below.heap_setCell w4 ⟨gc, 19, none⟩ (.bool true) b (by show b ≠ gc; omega))
      have hb4 := hb3.setCell (p := ⟨gc, 19, none⟩) (by show w.heap.size ≤ gc; omega) (.bool true)
      generalize w4.setCell ⟨gc, 19, none⟩ (.bool true) = w5 at *
      clear kC kP3 kS3 kM3 hb3
      refine wp_region_hold (fun W => Blk W p 98 #[.map (some b)] ∧ Blk W w.heap.size 33 (stA c.id) ∧ Blk W gc 56 (clA (setG c true))) [0, 1, 2, 3, 4, 5] [] [6] (by kernel_rfl) (by kernel_rfl) (fun _ d _ _ _ h => by cases d <;> exact h) ⟨kP4.drew, kS4.drew, kC4.drew⟩ ?_
      simp only [pick, List.drop_succ_cons, List.drop_zero, List.head?_cons, Option.toList_some, List.cons_append, List.nil_append, List.append_nil]
      iterate 5 (refine wpHeld_step ?_ rfl ?_ ?_; rotate_left; · (intro W hW; have g1 : W.cell? ⟨p, 0, none⟩ = some (.map (some b)) := hW.1.cell 0; have g2 : W.cell? ⟨w.heap.size, 0, none⟩ = some (.int .i64 c.id.1) := hW.2.1.cell 0; have g3 : W.cell? ⟨w.heap.size, 1, none⟩ = some (.int .i64 c.id.2) := hW.2.1.cell 1; go_simp; with_reducible rfl))
      refine wpHeld_step ?_ rfl ?_ ?_
      rotate_left
      · intro W hW; refine exec_load_cl (x := .tmp 5) ?_ ?_ hW.2.2 <;> rfl
      refine wpHeld_nil ?_
      simp only [wpEarly]
      obtain ⟨w6, hrun, hM, hPerm, hgr⟩ := upd_old hu (show MapV w5.drew b (kvs L') from kM4) hperm (c := setG c true) (t := c.id) rfl hgt
      have kP6 := kP4.drew.grown hgr (by intro e; injection e with e; omega)
      have hO : Only (fun i => i = b) w w6 := (Only.of_below hb4.drew _).trans ((Only.of_grown hgr).mono fun i hi => by injection hi with hi; exact hi.symm) fun i hi => .inl hi
      clear kP4 kS4 kC4 kM4 hb4 hgr
      generalize clA (setG c true) = CC at *
      generalize w5.drew = w7 at *
      go_wp2_with fail
      go_ret
      exact ⟨rfl, ⟨kP6, _, hM, hPerm⟩, hO⟩

set_option maxRecDepth 100000 in
set_option maxHeartbeats 16000000 in
theorem put_any (w : World) (p b : Nat) (L : List Cl) (h : PgAt w p b L) (hu : Uq L) (hl : L.length ≤ 1000000) (c : Cl) :
    Calls Try.prog 46 #[.pointer (some ⟨p, 0, none⟩), .agg (clA c)] w fun e w' => e = .returned (.int .i64 (putS L c).2) ∧ PgAt w' p b (putS L c).1 ∧ Only (fun i => i = b) w w' := by
  have hpb := h.ne
  obtain ⟨hp, L', hm, hperm⟩ := h
  have hlp := hp.lt
  have hlb := hm.lt
  have kC := Blk.new w 56 (clA c)
  have kP := hp.alloc (.cells (clA c) 56)
  have kM := hm.alloc (.cells (clA c) 56)
  have hb := (Below.refl w.heap.size w).alloc (Nat.le_refl _) (.cells (clA c) 56)
  have hez : ∀ W : World, (Op.equalIn 10000 33 (.agg #[.int .i64 c.after.1, .int .i64 c.after.2]) (.agg #[.int .i64 0, .int .i64 0])).run Try.prog W = .ok (decide (c.after = z2)) W := eq_st c.after z2
  have HPR := Lib.hid (fun W => proper_any W c)
  obtain ⟨D, hD⟩ : ∃ d, putS L c = d := ⟨_, rfl⟩
  rw [hD]
  have HD := Lib.hid hD
  have hcz := clA_size c
  clear hD hp hm
  go_enter Try.func46, Try.ntmps46
  go_wp2_with (refine load_clg rfl (x := .tmp 3) rfl rfl kC ?_)
  refine (HPR.out _).mono ?_
  rintro e w2 ⟨rfl, q1⟩
  have hb2 := hb.trans (q1.mono hb.size)
  have kC2 := kC.below q1 kC.lt
  have kP2 := kP.below q1 kP.lt
  have kM2 := kM.below q1 kM.lt
  clear kC kP kM hb q1 HPR
  obtain ⟨pr, hpr⟩ : ∃ x, properC c = x := ⟨_, rfl⟩
  rw [hpr]
  cases pr with
  | false =>
    have hfin : D = (L, 1) := by rw [← HD.out]; unfold putS; rw [if_pos hpr]
    subst hfin
    clear HD hpr hez
    go_wp2
    go_ret
    exact ⟨rfl, ⟨kP2, L', kM2, hperm⟩, Only.of_below hb2 _⟩
  | true =>
    have HPT := Lib.hid hpr
    have hltC := kC2.lt
    clear hpr
    go_upto_region 3 with fail
    go_cut [5, 6] from 18 to 27 (fun v5 v6 wx => v5 = .pointer (some ⟨w2.heap.size, 0, none⟩) ∧ v6 = .bool (getC L c.id).isSome ∧ wx = w2.drew.alloc (.cells (clA (atC L c.id)) 56))
    case first =>
      clear hez
      refine wp_region_bush (fun W => Blk W p 98 #[.map (some b)] ∧ Blk W w.heap.size 56 (clA c) ∧ MapV W b (kvs L')) [0, 1, 2, 3, 4, 5, 6, 7, 8] 3 [] [12] (by kernel_rfl) (by kernel_rfl) (fun _ d _ _ _ h => by cases d <;> exact h) ⟨kP2.drew, kC2.drew, kM2⟩ ?_
      simp only [pick, List.drop_succ_cons, List.drop_zero, List.head?_cons, Option.toList_some, List.cons_append, List.nil_append, List.append_nil]
      repeat (refine wpHeld_step ?_ rfl ?_ ?_; rotate_left; · (intro W hW; have g1 : W.cell? ⟨p, 0, none⟩ = some (.map (some b)) := hW.1.cell 0; obtain ⟨e0, e1, e2, e3, -⟩ := cl_cells hW.2.1; have g4 := look_any hu hW.2.2 hperm c.id; go_simp; with_reducible rfl))
      refine wpHeld_nil ?_
      have kP := kP2
      have kC := kC2
      have kM := kM2
      have kP3 := kP.drew
      have kC3 := kC.drew
      have kM3 := (show MapV w2.drew _ _ from kM)
      obtain ⟨w3, hw3⟩ : ∃ W, w2.drew = W := ⟨_, rfl⟩
      rw [hw3] at kP3
      rw [hw3] at kC3
      rw [hw3] at kM3
      simp only [hw3]
      have HW3 := Lib.hid hw3
      clear hw3
      have hcz := clA_size (atC L c.id)
      have hpc := put_cl w3 (atC L c.id)
      refine wpBush_two 9 10 (by kernel_rfl) ?_ ?_
      · simp only [pick, List.drop_succ_cons, List.drop_zero, List.head?_cons, Option.toList_some, List.append_nil]
        go_wp2_with fail
        refine ⟨⟨kP3, kC3, kM3⟩, ?_⟩
        refine wpBush_one 10 (by kernel_rfl) ?_
        simp only [pick, List.drop_succ_cons, List.drop_zero, List.head?_cons, Option.toList_some, List.append_nil]
        go_wp2_with fail
        refine ⟨⟨kP3.alloc _, kC3.alloc _, kM3.alloc _⟩, ?_⟩
        refine wpBush_one 11 (by kernel_rfl) ?_
        simp only [pick, List.drop_succ_cons, List.drop_zero, List.head?_cons, Option.toList_some, List.append_nil]
        go_wp2_with fail
        refine ⟨⟨kP3.alloc _, kC3.alloc _, kM3.alloc _⟩, ?_⟩
        refine wpBush_end (by kernel_rfl) (by kernel_rfl) (by kernel_rfl) ?_
        simp only [pick, List.drop_succ_cons, List.drop_zero, List.head?_cons, Option.toList_some, List.append_nil]
        refine wpHeld_nil ?_
        go_wp2_with fail
        go_meet
        subst_eqs; obtain rfl := HW3.out; exact ⟨rfl, rfl, rfl⟩
      · simp only [pick, List.drop_succ_cons, List.drop_zero, List.head?_cons, Option.toList_some, List.append_nil]
        go_wp2_with fail
        refine ⟨⟨kP3.alloc _, kC3.alloc _, kM3.alloc _⟩, ?_⟩
        refine wpBush_two 9 11 (by kernel_rfl) ?_ ?_
        · simp only [pick, List.drop_succ_cons, List.drop_zero, List.head?_cons, Option.toList_some, List.append_nil]
          go_wp2_with fail
          refine ⟨⟨kP3.alloc _, kC3.alloc _, kM3.alloc _⟩, ?_⟩
          refine wpBush_one 11 (by kernel_rfl) ?_
          simp only [pick, List.drop_succ_cons, List.drop_zero, List.head?_cons, Option.toList_some, List.append_nil]
          go_wp2_with fail
          refine ⟨⟨kP3.alloc _, kC3.alloc _, kM3.alloc _⟩, ?_⟩
          refine wpBush_end (by kernel_rfl) (by kernel_rfl) (by kernel_rfl) ?_
          simp only [pick, List.drop_succ_cons, List.drop_zero, List.head?_cons, Option.toList_some, List.append_nil]
          refine wpHeld_nil ?_
          go_wp2_with fail
          go_meet
          subst_eqs; obtain rfl := HW3.out; exact ⟨rfl, rfl, rfl⟩
        · simp only [pick, List.drop_succ_cons, List.drop_zero, List.head?_cons, Option.toList_some, List.append_nil]
          go_wp2_with fail
          refine ⟨⟨kP3.alloc _, kC3.alloc _, kM3.alloc _⟩, ?_⟩
          refine wpBush_one 9 (by kernel_rfl) ?_
          simp only [pick, List.drop_succ_cons, List.drop_zero, List.head?_cons, Option.toList_some, List.append_nil]
          go_wp2_with fail
          refine ⟨⟨kP3.alloc _, kC3.alloc _, kM3.alloc _⟩, ?_⟩
          refine wpBush_end (by kernel_rfl) (by kernel_rfl) (by kernel_rfl) ?_
          simp only [pick, List.drop_succ_cons, List.drop_zero, List.head?_cons, Option.toList_some, List.append_nil]
          refine wpHeld_nil ?_
          go_wp2_with fail
          go_meet
          subst_eqs; obtain rfl := HW3.out; exact ⟨rfl, rfl, rfl⟩
    case rest =>
      obtain ⟨rfl, rfl, rfl⟩ := hcut
      have kO := Blk.new w2.drew 56 (clA (atC L c.id))
      have kP3 := kP2.drew.alloc (.cells (clA (atC L c.id)) 56)
      have kC3 := kC2.drew.alloc (.cells (clA (atC L c.id)) 56)
      have kM3 : MapV (w2.drew.alloc (.cells (clA (atC L c.id)) 56)) b (kvs L') := (show MapV w2.drew _ _ from kM2).alloc _
      have hb3 := hb2.drew.alloc hb2.size (.cells (clA (atC L c.id)) 56)
      have hsz : w2.drew.heap.size = w2.heap.size := rfl
      rw [hsz] at kO
      generalize w2.drew.alloc (.cells (clA (atC L c.id)) 56) = w4 at *
      generalize w2.heap.size = gc at *
      clear hsz kP2 kC2 kM2 hb2
      cases hgt : getC L c.id with
      | some old =>
        have hat : atC L c.id = old := by unfold atC; rw [hgt]; rfl
        rw [hat] at kO
        clear hat hez
        have HMR := Lib.hid (fun W => merge_any W old c)
        go_wp2_with (first
          | (refine load_cl rfl (x := .tmp 5) rfl rfl kO ?_)
          | (refine load_cl rfl (x := .tmp 3) rfl rfl kC3 ?_))
        refine (HMR.out _).mono ?_
        rintro e w5 ⟨rfl, q1⟩
        have hb5 := hb3.trans (q1.mono hb3.size)
        have kC5 := kC3.below q1 kC3.lt
        have kP5 := kP3.below q1 kP3.lt
        have kM5 := kM3.below q1 kM3.lt
        clear HMR kO kP3 kC3 kM3 hb3 q1
        obtain ⟨same, hsame⟩ : ∃ x, sameC old c = x := ⟨_, rfl⟩
        have hpc := put_cl w5 (mrgC old c)
        have hcm := clA_size (mrgC old c)
        have kN := Blk.new w5 56 (clA (mrgC old c))
        have kC6 := kC5.alloc (.cells (clA (mrgC old c)) 56)
        have kP6 := kP5.alloc (.cells (clA (mrgC old c)) 56)
        have kM6 := kM5.alloc (.cells (clA (mrgC old c)) 56)
        have hb6 := hb5.alloc hb5.size (.cells (clA (mrgC old c)) 56)
        have hs5 := hb5.size
        clear kC5 kP5 kM5 hb5
        unfold TupC
        rw [hsame]
        cases same with
        | false =>
          have hfin : D = (L, 9) := by rw [← HD.out]; unfold putS; rw [if_neg (by rw [HPT.out]; decide), hgt]; simp only; rw [hsame]; rfl
          subst hfin
          clear HD HPT hsame kN kC6
          go_wp2
          go_ret
          exact ⟨rfl, ⟨kP6, L', kM6, hperm⟩, Only.of_below hb6 _⟩
        | true =>
          have hfin : D = (setC L (mrgC old c), 0) := by rw [← HD.out]; unfold putS; rw [if_neg (by rw [HPT.out]; decide), hgt]; simp only; rw [hsame]; rfl
          have hid : (mrgC old c).id = c.id := (getC_mem hgt).2
          subst hfin
          clear HD HPT hsame
          go_upto_region 8 with fail
          clear hpc
          generalize w5.alloc (.cells (clA (mrgC old c)) 56) = w6 at *
          generalize w5.heap.size = gm at *
          refine wp_region_hold (fun W => Blk W p 98 #[.map (some b)] ∧ Blk W w.heap.size 56 (clA c) ∧ Blk W gm 56 (clA (mrgC old c))) [0, 1, 2, 3, 4, 5, 6] [] [7] (by kernel_rfl) (by kernel_rfl) (fun _ d _ _ _ h => by cases d <;> exact h) ⟨kP6.drew, kC6.drew, kN.drew⟩ ?_
          simp only [pick, List.drop_succ_cons, List.drop_zero, List.head?_cons, Option.toList_some, List.cons_append, List.nil_append, List.append_nil]
          iterate 6 (refine wpHeld_step ?_ rfl ?_ ?_; rotate_left; · (intro W hW; have g1 : W.cell? ⟨p, 0, none⟩ = some (.map (some b)) := hW.1.cell 0; obtain ⟨e0, e1, e2, e3, -⟩ := cl_cells hW.2.1; go_simp; with_reducible rfl))
          refine wpHeld_step ?_ rfl ?_ ?_
          rotate_left
          · intro W hW; refine exec_load_cl (x := .tmp 7) ?_ ?_ hW.2.2 <;> rfl
          refine wpHeld_nil ?_
          simp only [wpEarly]
          obtain ⟨w7, hrun, hM, hPerm, hgr⟩ := upd_old hu (show MapV w6.drew b (kvs L') from kM6) hperm (c := mrgC old c) (t := c.id) hid hgt
          have kP7 := kP6.drew.grown hgr (by intro e; injection e with e; omega)
          have hO : Only (fun i => i = b) w w7 := (Only.of_below hb6.drew _).trans ((Only.of_grown hgr).mono fun i hi => by injection hi with hi; exact hi.symm) fun i hi => .inl hi
          clear kP6 kC6 kN kM6 hb6 hgr hid
          generalize clA (mrgC old c) = CC at *
          generalize w6.drew = w8 at *
          go_wp2_with fail
          go_ret
          exact ⟨rfl, ⟨kP7, _, hM, hPerm⟩, hO⟩
      | none =>
        clear kO
        go_upto_region 10 with fail
        go_cut [9, 10] from 44 to 53 (fun v9 v10 wx => v9 = .pointer (some ⟨w4.heap.size, 0, none⟩) ∧ v10 = .bool (getC L c.after).isSome ∧ wx = w4.drew.alloc (.cells (clA (atC L c.after)) 56))
        case first =>
          clear hez
          refine wp_region_bush (fun W => Blk W p 98 #[.map (some b)] ∧ Blk W w.heap.size 56 (clA c) ∧ MapV W b (kvs L')) [0, 1, 2, 3, 4, 5, 6, 7, 8] 3 [] [12] (by kernel_rfl) (by kernel_rfl) (fun _ d _ _ _ h => by cases d <;> exact h) ⟨kP3.drew, kC3.drew, kM3⟩ ?_
          simp only [pick, List.drop_succ_cons, List.drop_zero, List.head?_cons, Option.toList_some, List.cons_append, List.nil_append, List.append_nil]
          repeat (refine wpHeld_step ?_ rfl ?_ ?_; rotate_left; · (intro W hW; have g1 : W.cell? ⟨p, 0, none⟩ = some (.map (some b)) := hW.1.cell 0; obtain ⟨e0, e1, e2, e3, -⟩ := cl_cells hW.2.1; have g4 := look_any hu hW.2.2 hperm c.after; go_simp; with_reducible rfl))
          refine wpHeld_nil ?_
          have kP := kP3
          have kC := kC3
          have kM := kM3
          clear kP3 kC3 kM3
          have kP3 := kP.drew
          have kC3 := kC.drew
          have kM3 := (show MapV w4.drew _ _ from kM)
          obtain ⟨w3, hw3⟩ : ∃ W, w4.drew = W := ⟨_, rfl⟩
          rw [hw3] at kP3
          rw [hw3] at kC3
          rw [hw3] at kM3
          simp only [hw3]
          have HW3 := Lib.hid hw3
          clear hw3
          have hcz := clA_size (atC L c.after)
          have hpc := put_cl w3 (atC L c.after)
          refine wpBush_two 9 10 (by kernel_rfl) ?_ ?_
          · simp only [pick, List.drop_succ_cons, List.drop_zero, List.head?_cons, Option.toList_some, List.append_nil]
            go_wp2_with fail
            refine ⟨⟨kP3, kC3, kM3⟩, ?_⟩
            refine wpBush_one 10 (by kernel_rfl) ?_
            simp only [pick, List.drop_succ_cons, List.drop_zero, List.head?_cons, Option.toList_some, List.append_nil]
            go_wp2_with fail
            refine ⟨⟨kP3.alloc _, kC3.alloc _, kM3.alloc _⟩, ?_⟩
            refine wpBush_one 11 (by kernel_rfl) ?_
            simp only [pick, List.drop_succ_cons, List.drop_zero, List.head?_cons, Option.toList_some, List.append_nil]
            go_wp2_with fail
            refine ⟨⟨kP3.alloc _, kC3.alloc _, kM3.alloc _⟩, ?_⟩
            refine wpBush_end (by kernel_rfl) (by kernel_rfl) (by kernel_rfl) ?_
            simp only [pick, List.drop_succ_cons, List.drop_zero, List.head?_cons, Option.toList_some, List.append_nil]
            refine wpHeld_nil ?_
            go_wp2_with fail
            go_meet
            subst_eqs; obtain rfl := HW3.out; exact ⟨rfl, rfl, rfl⟩
          · simp only [pick, List.drop_succ_cons, List.drop_zero, List.head?_cons, Option.toList_some, List.append_nil]
            go_wp2_with fail
            refine ⟨⟨kP3.alloc _, kC3.alloc _, kM3.alloc _⟩, ?_⟩
            refine wpBush_two 9 11 (by kernel_rfl) ?_ ?_
            · simp only [pick, List.drop_succ_cons, List.drop_zero, List.head?_cons, Option.toList_some, List.append_nil]
              go_wp2_with fail
              refine ⟨⟨kP3.alloc _, kC3.alloc _, kM3.alloc _⟩, ?_⟩
              refine wpBush_one 11 (by kernel_rfl) ?_
              simp only [pick, List.drop_succ_cons, List.drop_zero, List.head?_cons, Option.toList_some, List.append_nil]
              go_wp2_with fail
              refine ⟨⟨kP3.alloc _, kC3.alloc _, kM3.alloc _⟩, ?_⟩
              refine wpBush_end (by kernel_rfl) (by kernel_rfl) (by kernel_rfl) ?_
              simp only [pick, List.drop_succ_cons, List.drop_zero, List.head?_cons, Option.toList_some, List.append_nil]
              refine wpHeld_nil ?_
              go_wp2_with fail
              go_meet
              subst_eqs; obtain rfl := HW3.out; exact ⟨rfl, rfl, rfl⟩
            · simp only [pick, List.drop_succ_cons, List.drop_zero, List.head?_cons, Option.toList_some, List.append_nil]
              go_wp2_with fail
              refine ⟨⟨kP3.alloc _, kC3.alloc _, kM3.alloc _⟩, ?_⟩
              refine wpBush_one 9 (by kernel_rfl) ?_
              simp only [pick, List.drop_succ_cons, List.drop_zero, List.head?_cons, Option.toList_some, List.append_nil]
              go_wp2_with fail
              refine ⟨⟨kP3.alloc _, kC3.alloc _, kM3.alloc _⟩, ?_⟩
              refine wpBush_end (by kernel_rfl) (by kernel_rfl) (by kernel_rfl) ?_
              simp only [pick, List.drop_succ_cons, List.drop_zero, List.head?_cons, Option.toList_some, List.append_nil]
              refine wpHeld_nil ?_
              go_wp2_with fail
              go_meet
              subst_eqs; obtain rfl := HW3.out; exact ⟨rfl, rfl, rfl⟩
        case rest =>
          obtain ⟨rfl, rfl, rfl⟩ := hcut
          have kP6 := kP3.drew.alloc (.cells (clA (atC L c.after)) 56)
          have kC6 := kC3.drew.alloc (.cells (clA (atC L c.after)) 56)
          have kM6 : MapV (w4.drew.alloc (.cells (clA (atC L c.after)) 56)) b (kvs L') := (show MapV w4.drew _ _ from kM3).alloc _
          have hb6 := hb3.drew.alloc hb3.size (.cells (clA (atC L c.after)) 56)
          generalize w4.drew.alloc (.cells (clA (atC L c.after)) 56) = w6 at *
          generalize w4.heap.size = ga at *
          clear kP3 kC3 kM3 hb3
          cases hga : getC L c.after with
          | some d =>
            have hop := open_any w6 b L' kM6 (by rw [hperm.length_eq]; exact hl)
            rw [openN_perm hperm] at hop
            have HOP := Lib.hid hop
            have hol : openN L ≤ 1000000 := Nat.le_trans List.countP_le_length hl
            clear hop hez
            obtain ⟨f0, f1, f2, f3, f19⟩ := cl_cells kC6
            have g1 : w6.cell? ⟨p, 0, none⟩ = some (.map (some b)) := kP6.cell 0
            cases hgn : c.gone with
            | true =>
              rw [hgn] at f19
              have hfin : D = (L ++ [c], 0) := by rw [← HD.out]; unfold putS; rw [if_neg (by rw [HPT.out]; decide), hgt]; simp only; rw [if_neg (fun h => by rw [hga] at h; exact absurd h.2 (by simp)), if_neg (by rw [hgn]; simp)]
              subst hfin
              clear HD HPT HOP hgn
              go_upto_region 15 with fail
              refine wp_region_hold (fun W => Blk W p 98 #[.map (some b)] ∧ Blk W w.heap.size 56 (clA c)) [0, 1, 2, 3, 4, 5, 6] [] [7] (by kernel_rfl) (by kernel_rfl) (fun _ d _ _ _ h => by cases d <;> exact h) ⟨kP6.drew, kC6.drew⟩ ?_
              simp only [pick, List.drop_succ_cons, List.drop_zero, List.head?_cons, Option.toList_some, List.cons_append, List.nil_append, List.append_nil]
              iterate 6 (refine wpHeld_step ?_ rfl ?_ ?_; rotate_left; · (intro W hW; have g1 : W.cell? ⟨p, 0, none⟩ = some (.map (some b)) := hW.1.cell 0; obtain ⟨e0, e1, e2, e3, -⟩ := cl_cells hW.2; go_simp; with_reducible rfl))
              refine wpHeld_step ?_ rfl ?_ ?_
              rotate_left
              · intro W hW; refine exec_load_cl (x := .tmp 3) ?_ ?_ hW.2 <;> rfl
              refine wpHeld_nil ?_
              simp only [wpEarly]
              obtain ⟨w8, hrun, hM, hPerm, hgr⟩ := upd_new (show MapV w6.drew b (kvs L') from kM6) hperm (c := c) (t := c.id) rfl hgt
              have kP8 := kP6.drew.grown hgr (by intro e; injection e with e; omega)
              have hO : Only (fun i => i = b) w w8 := (Only.of_below hb6.drew _).trans ((Only.of_grown hgr).mono fun i hi => by injection hi with hi; exact hi.symm) fun i hi => .inl hi
              clear kP6 kC6 kM6 hb6 hgr
              generalize clA c = CC at *
              generalize w6.drew = w9 at *
              go_wp2_with fail
              go_ret
              exact ⟨rfl, ⟨kP8, _, hM, hPerm⟩, hO⟩
            | false =>
              rw [hgn] at f19
              by_cases h64 : 64 ≤ openN L
              · have hd64 : decide (64 ≤ ((openN L : Nat) : Int)) = true := decide_eq_true (by omega)
                have hfin : D = (L, 27) := by rw [← HD.out]; unfold putS; rw [if_neg (by rw [HPT.out]; decide), hgt]; simp only; rw [if_neg (fun h => by rw [hga] at h; exact absurd h.2 (by simp)), if_pos ⟨hgn, h64⟩]
                subst hfin
                clear HD HPT hgn h64
                go_wp2_with fail
                refine HOP.out.mono ?_
                rintro e w7 ⟨rfl, q2⟩
                have hb7 := hb6.trans (q2.mono hb6.size)
                have kP7 := kP6.below q2 kP6.lt
                have kM7 := kM6.below q2 kM6.lt
                clear HOP kP6 kM6 kC6 hb6 q2 g1 f0 f1 f2 f3 f19
                go_wp2
                go_ret
                exact ⟨rfl, ⟨kP7, L', kM7, hperm⟩, Only.of_below hb7 _⟩
              · have hd64 : decide (64 ≤ ((openN L : Nat) : Int)) = false := decide_eq_false (by omega)
                have hfin : D = (L ++ [c], 0) := by rw [← HD.out]; unfold putS; rw [if_neg (by rw [HPT.out]; decide), hgt]; simp only; rw [if_neg (fun h => by rw [hga] at h; exact absurd h.2 (by simp)), if_neg (fun h => h64 h.2)]
                subst hfin
                clear HD HPT hgn h64
                go_wp2_with fail
                refine HOP.out.mono ?_
                rintro e w7 ⟨rfl, q2⟩
                have hb7 := hb6.trans (q2.mono hb6.size)
                have kP7 := kP6.below q2 kP6.lt
                have kC7 := kC6.below q2 kC6.lt
                have kM7 := kM6.below q2 kM6.lt
                clear HOP kP6 kM6 kC6 hb6 q2 g1 f0 f1 f2 f3 f19
                go_upto_region 15 with fail
                refine wp_region_hold (fun W => Blk W p 98 #[.map (some b)] ∧ Blk W w.heap.size 56 (clA c)) [0, 1, 2, 3, 4, 5, 6] [] [7] (by kernel_rfl) (by kernel_rfl) (fun _ d _ _ _ h => by cases d <;> exact h) ⟨kP7.drew, kC7.drew⟩ ?_
                simp only [pick, List.drop_succ_cons, List.drop_zero, List.head?_cons, Option.toList_some, List.cons_append, List.nil_append, List.append_nil]
                iterate 6 (refine wpHeld_step ?_ rfl ?_ ?_; rotate_left; · (intro W hW; have g1 : W.cell? ⟨p, 0, none⟩ = some (.map (some b)) := hW.1.cell 0; obtain ⟨e0, e1, e2, e3, -⟩ := cl_cells hW.2; go_simp; with_reducible rfl))
                refine wpHeld_step ?_ rfl ?_ ?_
                rotate_left
                · intro W hW; refine exec_load_cl (x := .tmp 3) ?_ ?_ hW.2 <;> rfl
                refine wpHeld_nil ?_
                simp only [wpEarly]
                obtain ⟨w8, hrun, hM, hPerm, hgr⟩ := upd_new (show MapV w7.drew b (kvs L') from kM7) hperm (c := c) (t := c.id) rfl hgt
                have kP8 := kP7.drew.grown hgr (by intro e; injection e with e; omega)
                have hO : Only (fun i => i = b) w w8 := (Only.of_below hb7.drew _).trans ((Only.of_grown hgr).mono fun i hi => by injection hi with hi; exact hi.symm) fun i hi => .inl hi
                clear kP7 kC7 kM7 hb7 hgr
                generalize clA c = CC at *
                generalize w7.drew = w9 at *
                go_wp2_with fail
                go_ret
                exact ⟨rfl, ⟨kP8, _, hM, hPerm⟩, hO⟩
          | none =>
            by_cases hz : c.after = z2
            · rw [decide_eq_true hz] at hez
              have hezH := Lib.hid hez
              obtain ⟨m0, m1, m2, m3, -⟩ := cl_cells kC6
              have hop := open_any w6 b L' kM6 (by rw [hperm.length_eq]; exact hl)
              rw [openN_perm hperm] at hop
              have HOP := Lib.hid hop
              have hol : openN L ≤ 1000000 := Nat.le_trans List.countP_le_length hl
              clear hop
              obtain ⟨f0, f1, f2, f3, f19⟩ := cl_cells kC6
              have g1 : w6.cell? ⟨p, 0, none⟩ = some (.map (some b)) := kP6.cell 0
              cases hgn : c.gone with
              | true =>
                rw [hgn] at f19
                have hfin : D = (L ++ [c], 0) := by rw [← HD.out]; unfold putS; rw [if_neg (by rw [HPT.out]; decide), hgt]; simp only; rw [if_neg (fun h => h.1 hz), if_neg (by rw [hgn]; simp)]
                subst hfin
                clear HD HPT HOP hgn
                go_upto_region 15 with fail
                refine wp_region_hold (fun W => Blk W p 98 #[.map (some b)] ∧ Blk W w.heap.size 56 (clA c)) [0, 1, 2, 3, 4, 5, 6] [] [7] (by kernel_rfl) (by kernel_rfl) (fun _ d _ _ _ h => by cases d <;> exact h) ⟨kP6.drew, kC6.drew⟩ ?_
                simp only [pick, List.drop_succ_cons, List.drop_zero, List.head?_cons, Option.toList_some, List.cons_append, List.nil_append, List.append_nil]
                iterate 6 (refine wpHeld_step ?_ rfl ?_ ?_; rotate_left; · (intro W hW; have g1 : W.cell? ⟨p, 0, none⟩ = some (.map (some b)) := hW.1.cell 0; obtain ⟨e0, e1, e2, e3, -⟩ := cl_cells hW.2; go_simp; with_reducible rfl))
                refine wpHeld_step ?_ rfl ?_ ?_
                rotate_left
                · intro W hW; refine exec_load_cl (x := .tmp 3) ?_ ?_ hW.2 <;> rfl
                refine wpHeld_nil ?_
                simp only [wpEarly]
                obtain ⟨w8, hrun, hM, hPerm, hgr⟩ := upd_new (show MapV w6.drew b (kvs L') from kM6) hperm (c := c) (t := c.id) rfl hgt
                have kP8 := kP6.drew.grown hgr (by intro e; injection e with e; omega)
                have hO : Only (fun i => i = b) w w8 := (Only.of_below hb6.drew _).trans ((Only.of_grown hgr).mono fun i hi => by injection hi with hi; exact hi.symm) fun i hi => .inl hi
                clear kP6 kC6 kM6 hb6 hgr
                generalize clA c = CC at *
                generalize w6.drew = w9 at *
                go_wp2_with fail
                go_ret
                exact ⟨rfl, ⟨kP8, _, hM, hPerm⟩, hO⟩
              | false =>
                rw [hgn] at f19
                by_cases h64 : 64 ≤ openN L
                · have hd64 : decide (64 ≤ ((openN L : Nat) : Int)) = true := decide_eq_true (by omega)
                  have hfin : D = (L, 27) := by rw [← HD.out]; unfold putS; rw [if_neg (by rw [HPT.out]; decide), hgt]; simp only; rw [if_neg (fun h => h.1 hz), if_pos ⟨hgn, h64⟩]
                  subst hfin
                  clear HD HPT hgn h64
                  go_wp2_with fail
                  refine HOP.out.mono ?_
                  rintro e w7 ⟨rfl, q2⟩
                  have hb7 := hb6.trans (q2.mono hb6.size)
                  have kP7 := kP6.below q2 kP6.lt
                  have kM7 := kM6.below q2 kM6.lt
                  clear HOP kP6 kM6 kC6 hb6 q2 g1 f0 f1 f2 f3 f19
                  go_wp2
                  go_ret
                  exact ⟨rfl, ⟨kP7, L', kM7, hperm⟩, Only.of_below hb7 _⟩
                · have hd64 : decide (64 ≤ ((openN L : Nat) : Int)) = false := decide_eq_false (by omega)
                  have hfin : D = (L ++ [c], 0) := by rw [← HD.out]; unfold putS; rw [if_neg (by rw [HPT.out]; decide), hgt]; simp only; rw [if_neg (fun h => h.1 hz), if_neg (fun h => h64 h.2)]
                  subst hfin
                  clear HD HPT hgn h64
                  go_wp2_with fail
                  refine HOP.out.mono ?_
                  rintro e w7 ⟨rfl, q2⟩
                  have hb7 := hb6.trans (q2.mono hb6.size)
                  have kP7 := kP6.below q2 kP6.lt
                  have kC7 := kC6.below q2 kC6.lt
                  have kM7 := kM6.below q2 kM6.lt
                  clear HOP kP6 kM6 kC6 hb6 q2 g1 f0 f1 f2 f3 f19
                  go_upto_region 15 with fail
                  refine wp_region_hold (fun W => Blk W p 98 #[.map (some b)] ∧ Blk W w.heap.size 56 (clA c)) [0, 1, 2, 3, 4, 5, 6] [] [7] (by kernel_rfl) (by kernel_rfl) (fun _ d _ _ _ h => by cases d <;> exact h) ⟨kP7.drew, kC7.drew⟩ ?_
                  simp only [pick, List.drop_succ_cons, List.drop_zero, List.head?_cons, Option.toList_some, List.cons_append, List.nil_append, List.append_nil]
                  iterate 6 (refine wpHeld_step ?_ rfl ?_ ?_; rotate_left; · (intro W hW; have g1 : W.cell? ⟨p, 0, none⟩ = some (.map (some b)) := hW.1.cell 0; obtain ⟨e0, e1, e2, e3, -⟩ := cl_cells hW.2; go_simp; with_reducible rfl))
                  refine wpHeld_step ?_ rfl ?_ ?_
                  rotate_left
                  · intro W hW; refine exec_load_cl (x := .tmp 3) ?_ ?_ hW.2 <;> rfl
                  refine wpHeld_nil ?_
                  simp only [wpEarly]
                  obtain ⟨w8, hrun, hM, hPerm, hgr⟩ := upd_new (show MapV w7.drew b (kvs L') from kM7) hperm (c := c) (t := c.id) rfl hgt
                  have kP8 := kP7.drew.grown hgr (by intro e; injection e with e; omega)
                  have hO : Only (fun i => i = b) w w8 := (Only.of_below hb7.drew _).trans ((Only.of_grown hgr).mono fun i hi => by injection hi with hi; exact hi.symm) fun i hi => .inl hi
                  clear kP7 kC7 kM7 hb7 hgr
                  generalize clA c = CC at *
                  generalize w7.drew = w9 at *
                  go_wp2_with fail
                  go_ret
                  exact ⟨rfl, ⟨kP8, _, hM, hPerm⟩, hO⟩
            · rw [decide_eq_false hz] at hez
              obtain ⟨m0, m1, m2, m3, -⟩ := cl_cells kC6
              have hfin : D = (L, 11) := by rw [← HD.out]; unfold putS; rw [if_neg (by rw [HPT.out]; decide), hgt]; simp only; rw [if_pos ⟨hz, hga⟩]
              subst hfin
              clear HD HPT hz
              go_wp2
              go_ret
              exact ⟨rfl, ⟨kP6, L', kM6, hperm⟩, Only.of_below hb6 _⟩
end Go.Proofs.Ytaicbllfkehhjaa

/- Contracts of the library laid at this program: the tables of numbers and the facts, as the shelf's tools print them in plain words. -/
namespace Go.Proofs.Ytaicbllfkehhjaa
open Go.Shelf
def sortL_ren : Go.Shelf.Ren := ⟨fun | 6 => 55 | 15 => 68 | 14 => 67 | 28 => 80 | 29 => 81 | 20 => 72 | 21 => 73 | 22 => 74 | 23 => 75 | 24 => 76 | 25 => 77 | 26 => 78 | 27 => 79 | 46 => 82 | 47 => 83 | 48 => 84 | 49 => 85 | 50 => 86 | 57 => 87 | n => n, fun | 22 => 41 | 24 => 56 | 25 => 109 | 3 => 3 | 39 => 120 | 0 => 0 | 53 => 133 | 55 => 135 | 4 => 4 | 46 => 126 | 45 => 125 | 50 => 130 | 5 => 5 | 9 => 9 | 66 => 136 | 70 => 140 | 76 => 142 | 77 => 143 | n => n, fun | n => n⟩
theorem sortL : Go.Proofs.SlLaysF0.n6 Try.prog sortL_ren := {
  mixed := by kernel_rfl
  f6 := ⟨Try.f55.name, by decide, Try.func55.trans (congrArg some (by kernel_rfl))⟩
  f14 := ⟨Try.f67.name, by decide, Try.func67.trans (congrArg some (by kernel_rfl))⟩
  f15 := Try.func68.trans (congrArg some (by kernel_rfl))
  f20 := ⟨Try.f72.name, by decide, Try.func72.trans (congrArg some (by kernel_rfl))⟩
  f21 := ⟨Try.f73.name, by decide, Try.func73.trans (congrArg some (by kernel_rfl))⟩
  f22 := ⟨Try.f74.name, by decide, Try.func74.trans (congrArg some (by kernel_rfl))⟩
  f23 := ⟨Try.f75.name, by decide, Try.func75.trans (congrArg some (by kernel_rfl))⟩
  f24 := ⟨Try.f76.name, by decide, Try.func76.trans (congrArg some (by kernel_rfl))⟩
  f25 := ⟨Try.f77.name, by decide, Try.func77.trans (congrArg some (by kernel_rfl))⟩
  f26 := ⟨Try.f78.name, by decide, Try.func78.trans (congrArg some (by kernel_rfl))⟩
  f27 := ⟨Try.f79.name, by decide, Try.func79.trans (congrArg some (by kernel_rfl))⟩
  f28 := Try.func80.trans (congrArg some (by kernel_rfl))
  f29 := Try.func81.trans (congrArg some (by kernel_rfl))
  f46 := ⟨Try.f82.name, by decide, Try.func82.trans (congrArg some (by kernel_rfl))⟩
  f47 := Try.func83.trans (congrArg some (by kernel_rfl))
  f48 := Try.func84.trans (congrArg some (by kernel_rfl))
  f49 := ⟨Try.f85.name, by decide, Try.func85.trans (congrArg some (by kernel_rfl))⟩
  f50 := ⟨Try.f86.name, by decide, Try.func86.trans (congrArg some (by kernel_rfl))⟩
  f57 := ⟨Try.f87.name, by decide, Try.func87.trans (congrArg some (by kernel_rfl))⟩
  t0 := Try.underlying0
  a0 := Try.isAgg0
  z0 := Try.sizeOf0
  v0 := Try.zeroValue0
  t3 := Try.underlying3
  a3 := Try.isAgg3
  z3 := Try.sizeOf3
  v3 := Try.zeroValue3
  t4 := Try.underlying4
  a4 := Try.isAgg4
  z4 := Try.sizeOf4
  v4 := Try.zeroValue4
  t5 := Try.underlying5
  a5 := Try.isAgg5
  z5 := Try.sizeOf5
  v5 := Try.zeroValue5
  t9 := Try.underlying9
  a9 := Try.isAgg9
  z9 := Try.sizeOf9
  v9 := Try.zeroValue9
  t22 := Try.underlying41
  a22 := Try.isAgg41
  z22 := Try.sizeOf41
  v22 := Try.zeroValue41
  t25 := Try.underlying109
  a25 := Try.isAgg109
  z25 := Try.sizeOf109
  v25 := Try.zeroValue109
  t39 := Try.underlying120
  a39 := Try.isAgg120
  z39 := Try.sizeOf120
  v39 := Try.zeroValue120
  t45 := Try.underlying125
  a45 := Try.isAgg125
  z45 := Try.sizeOf125
  v45 := Try.zeroValue125
  t46 := Try.underlying126
  a46 := Try.isAgg126
  z46 := Try.sizeOf126
  v46 := Try.zeroValue126
  t50 := Try.underlying130
  a50 := Try.isAgg130
  z50 := Try.sizeOf130
  v50 := Try.zeroValue130
  t53 := Try.underlying133
  a53 := Try.isAgg133
  z53 := Try.sizeOf133
  v53 := Try.zeroValue133
  t55 := Try.underlying135
  a55 := Try.isAgg135
  z55 := Try.sizeOf135
  v55 := Try.zeroValue135
  t66 := Try.underlying136
  a66 := Try.isAgg136
  z66 := Try.sizeOf136
  v66 := Try.zeroValue136
  t70 := Try.underlying140
  a70 := Try.isAgg140
  z70 := Try.sizeOf140
  v70 := Try.zeroValue140
  t76 := Try.underlying142
  a76 := Try.isAgg142
  z76 := Try.sizeOf142
  v76 := Try.zeroValue142
  t77 := Try.underlying143
  a77 := Try.isAgg143
  z77 := Try.sizeOf143
  v77 := Try.zeroValue143 }
end Go.Proofs.Ytaicbllfkehhjaa

/- Join of two pages. -/
namespace Go.Proofs.Ytaicbllfkehhjaa
open Go.RowKit

theorem addAll_app : ∀ (X Y L : List Cl), addAll L (X ++ Y) = (addAll L X).bind fun A => addAll A Y
  | [], Y, L => rfl
  | c :: X, Y, L => by
    show (addS L c).bind (fun L' => addAll L' (X ++ Y)) = ((addS L c).bind fun L' => addAll L' X).bind fun A => addAll A Y
    cases addS L c with
    | none => rfl
    | some A => exact addAll_app X Y A
theorem addS_len {L A : List Cl} {c : Cl} (h : addS L c = some A) : A.length ≤ L.length + 1 := by
  unfold addS at h
  split at h
  · simp only [Option.some.injEq] at h; subst h; simp
  · split at h
    · simp only [Option.some.injEq] at h; subst h; simp [setC]
    · cases h
theorem addAll_len : ∀ {X L A : List Cl}, addAll L X = some A → A.length ≤ L.length + X.length
  | [], L, A, h => by simp only [addAll, Option.some.injEq] at h; subst h; simp
  | c :: X, L, A, h => by
    unfold addAll at h
    cases h1 : addS L c with
    | none => rw [h1] at h; cases h
    | some B =>
      rw [h1] at h
      have := addAll_len (X := X) h
      have := addS_len h1
      simp only [List.length_cons]
      omega
/-- What a round of Join has come to. -/
def JoinRel (L' M' A T : List Cl) : Prop := ∃ X, (X ++ T).Perm M' ∧ addAll L' X = some A
theorem JoinRel.start (L' M' : List Cl) : JoinRel L' M' L' M' := ⟨[], List.Perm.refl _, rfl⟩
theorem JoinRel.uq {L' M' A T : List Cl} (h : JoinRel L' M' A T) (hl : Uq L') (hm : Uq M') : Uq A := by
  obtain ⟨X, h1, h2⟩ := h
  have hX : Uq X := (List.pairwise_append.1 (hm.perm h1.symm)).1
  exact (addAll_some hl hX h2).1
theorem JoinRel.len {L' M' A T : List Cl} (h : JoinRel L' M' A T) : A.length ≤ L'.length + M'.length := by
  obtain ⟨X, h1, h2⟩ := h
  have := addAll_len h2
  have := h1.length_eq
  rw [List.length_append] at this
  omega
theorem JoinRel.next {L' M' A B U V : List Cl} {c : Cl} (h : JoinRel L' M' A (U ++ c :: V)) (hs : addS A c = some B) : JoinRel L' M' B (U ++ V) := by
  obtain ⟨X, h1, h2⟩ := h
  refine ⟨X ++ [c], ?_, ?_⟩
  · refine List.Perm.trans ?_ h1
    rw [List.append_assoc, List.singleton_append]
    exact List.Perm.append_left X List.perm_middle.symm
  · rw [addAll_app, h2]
    simp [addAll, hs]
theorem JoinRel.fail {L M L' M' A U V : List Cl} {c : Cl} (h : JoinRel L' M' A (U ++ c :: V)) (hs : addS A c = none) (hl : Uq L) (hm : Uq M) (p : L'.Perm L) (q : M'.Perm M) : joinS L M = (L, 9) := by
  obtain ⟨X, h1, h2⟩ := h
  have hM2 : (X ++ c :: (U ++ V)).Perm M := ((List.Perm.append_left X List.perm_middle.symm).trans h1).trans q
  have hno : addAll L' (X ++ c :: (U ++ V)) = none := by
    rw [addAll_app, h2]
    simp [addAll, hs]
  have hl' := hl.perm p.symm
  have hm2 := hm.perm hM2.symm
  obtain ⟨t, ht⟩ := (addAll_none hl' hm2).1 hno
  rw [getC_perm hl' p, getC_perm hm2 hM2] at ht
  unfold joinS
  rw [(addAll_none hl hm).2 ⟨t, ht⟩]
theorem JoinRel.done {L M L' M' A : List Cl} (h : JoinRel L' M' A []) (hl : Uq L) (hm : Uq M) (p : L'.Perm L) (q : M'.Perm M) : ∃ B, A.Perm B ∧ joinS L M = if 64 < openN A then (L, 27) else (B, 0) := by
  obtain ⟨X, h1, h2⟩ := h
  rw [List.append_nil] at h1
  have hX := h1.trans q
  have hl' := hl.perm p.symm
  have hm2 := hm.perm hX.symm
  obtain ⟨k1, k2⟩ := addAll_some hl' hm2 h2
  cases hB : addAll L M with
  | none =>
    obtain ⟨t, ht⟩ := (addAll_none hl hm).1 hB
    rw [← getC_perm hl' p, ← getC_perm hm2 hX, (k2 t).1] at ht
    cases ht
  | some B =>
    obtain ⟨k3, k4⟩ := addAll_some hl hm hB
    have pq : A.Perm B := perm_of_getC k1 k3 fun t => by rw [(k2 t).2, (k4 t).2, getC_perm hl' p, getC_perm hm2 hX]
    refine ⟨B, pq, ?_⟩
    unfold joinS
    rw [hB, openN_perm pq]

end Go.Proofs.Ytaicbllfkehhjaa

/- Slices of clauses of the call's own; the comparison; slices.SortFunc. -/
namespace Go.Proofs.Ytaicbllfkehhjaa
open Go.RowKit Go.Shelf Go.Lib Go.Sort

theorem flat_len {α : Type} {f : α → List Value} {k : Nat} (h : ∀ x, (f x).length = k) : ∀ l : List α, (l.flatMap f).length = l.length * k
  | [] => by simp
  | x :: l => by
    rw [List.flatMap_cons, List.length_append, h, flat_len h l, List.length_cons, Nat.succ_mul]
    omega
theorem flat_at {α : Type} {f : α → List Value} {k : Nat} (h : ∀ x, (f x).length = k) : ∀ {l : List α} {i j : Nat} {x : α}, l[i]? = some x → j < k → (l.flatMap f)[i * k + j]? = (f x)[j]?
  | [], i, j, x, hi, _ => by simp at hi
  | y :: l, 0, j, x, hi, hj => by
    simp at hi
    subst hi
    rw [List.flatMap_cons, Nat.zero_mul, Nat.zero_add, List.getElem?_append_left (by rw [h]; exact hj)]
  | y :: l, i + 1, j, x, hi, hj => by
    rw [List.flatMap_cons, List.getElem?_append_right (by rw [h, Nat.succ_mul]; omega), h]
    have e : (i + 1) * k + j - k = i * k + j := by rw [Nat.succ_mul]; omega
    rw [e]
    exact flat_at h (by simpa using hi) hj
def encC (c : Cl) : List Value := (clA c).toList
theorem encC_len (c : Cl) : (encC c).length = 20 := rfl
theorem encC_one (c : Cl) : ∀ v ∈ encC c, v.oneCell' = true := fun v hv => (Array.all_eq_true_iff_forall_mem.1 (clA_one c)) v (by simpa [encC] using hv)
def cls (l : List Cl) : List Value := l.flatMap encC
theorem cls_len (l : List Cl) : (cls l).length = l.length * 20 := flat_len encC_len l
theorem cls_one (l : List Cl) : ∀ u ∈ cls l, u.oneCell' = true := fun u hu => by
  obtain ⟨c, _, h⟩ := List.mem_flatMap.1 hu
  exact encC_one c u h
/-- A slice of clauses of the call's own. -/
def OwnCls (w : World) (base : Nat) (v : Value) (l : List Cl) : Prop := w.ownsRow base 56 20 v l.length (cls l)

/-! ### the comparison -/
set_option maxRecDepth 100000 in
set_option maxHeartbeats 4000000 in
theorem or_any (w : World) (g : Nat) (x y : Int) (h : Blk w g 3 #[.int .i64 x, .int .i64 y]) : Calls Try.prog 57 #[.slice (some ⟨g, 0, none⟩) 2 2] w fun e w' => e = .returned (.int .i64 (if x ≠ 0 then x else y)) ∧ w = w' := by
  have c0 : w.cell? ⟨g, 0, none⟩ = some (.int .i64 x) := h.cell 0
  have c1 : w.cell? ⟨g, 1, none⟩ = some (.int .i64 y) := h.cell 1
  obtain ⟨R, hR⟩ : ∃ r, (if x ≠ 0 then x else y) = r := ⟨_, rfl⟩
  rw [hR]
  have HR := Lib.hid hR
  clear hR h
  go_enter Try.func57, Try.ntmps57
  go_wp2_with fail
  go_loopw [8] (fun i wr => wr = w ∧ ∃ k : Nat, k ≤ 2 ∧ i = .int .i64 (k : Int) ∧ (1 ≤ k → x = 0) ∧ (2 ≤ k → y = 0)) (fun i _ => 2 - (intOf i).toNat)
  case atStart => exact ⟨rfl, 0, by omega, rfl, fun h => by omega, fun h => by omega⟩
  case round =>
    obtain ⟨rfl, k, hk, rfl, h1, h2⟩ := hrel
    match k, hk, h1, h2 with
    | 0, _, _, _ =>
      by_cases hx : x = 0
      · have e : (x != 0) = false := by simp [hx]
        have HX := Lib.hid hx
        clear hx h1 h2
        go_wp2_with fail
        go_roundw
        case rel => exact ⟨by first | trivial | rfl, 1, by omega, by first | rfl | go_num, fun _ => HX.out, fun h => by omega⟩
        case measure => simp [intOf]
      · have e : (x != 0) = true := by simpa using hx
        obtain rfl : x = R := by have := HR.out; rw [if_pos hx] at this; exact this
        clear hx h1 h2 HR
        go_wp2
        go_ret
        exact ⟨rfl, rfl⟩
    | 1, _, h1, _ =>
      obtain rfl : y = R := by have := HR.out; rw [if_neg (by simp [h1 (by omega)])] at this; exact this
      by_cases hy : y = 0
      · have e : (y != 0) = false := by simp [hy]
        have HY := Lib.hid hy
        have HX := Lib.hid (h1 (by omega))
        clear hy h1 h2 HR
        go_wp2_with fail
        go_roundw
        case rel => exact ⟨by first | trivial | rfl, 2, by omega, by first | rfl | go_num, fun _ => HX.out, fun _ => HY.out⟩
        case measure => simp [intOf]
      · have e : (y != 0) = true := by simpa using hy
        clear hy h1 h2 HR
        go_wp2
        go_ret
        exact ⟨rfl, rfl⟩
    | 2, _, h1, h2 =>
      obtain rfl : R = 0 := by have := HR.out; rw [if_neg (by simp [h1 (by omega)]), h2 (by omega)] at this; exact this.symm
      clear h1 h2 HR
      go_wp2
      go_ret
      exact ⟨rfl, rfl⟩
/-- A clause whose Id is of a moderate size. -/
abbrev BCl := {c : Cl // -4000000 ≤ c.id.1 ∧ c.id.1 ≤ 4000000 ∧ -4000000 ≤ c.id.2 ∧ c.id.2 ≤ 4000000}
noncomputable instance : Inhabited BCl := ⟨⟨zcl, by decide⟩⟩
def encB (x : BCl) : List Value := encC x.1
def cfB (x y : BCl) : Int := if y.1.id.2 - x.1.id.2 ≠ 0 then y.1.id.2 - x.1.id.2 else y.1.id.1 - x.1.id.1
theorem ltB_ (x y : BCl) : ltOf cfB x y = bef x.1 y.1 := by
  rw [Bool.eq_iff_iff, bef_iff]
  unfold ltOf cfB
  simp only [decide_eq_true_eq]
  split <;> omega
theorem swoB : SWO (ltOf cfB) where
  irrefl x := by rw [ltB_]; cases h : bef x.1 x.1 with | false => rfl | true => exact (bef_asymm h h).elim
  trans x y z h1 h2 := by rw [ltB_] at *; exact bef_trans h1 h2
  ntrans x y z h1 h2 := by
    rw [ltB_] at *
    have a : ¬ bef x.1 y.1 = true := by rw [h1]; simp
    have b : ¬ bef y.1 z.1 = true := by rw [h2]; simp
    cases h : bef x.1 z.1 with
    | false => rfl
    | true => rw [bef_iff] at *; omega
set_option maxRecDepth 100000 in
set_option maxHeartbeats 4000000 in
theorem cmp_any (x y : BCl) (W : World) : Calls Try.prog 56 #[.agg (encB x).toArray, .agg (encB y).toArray] W fun e w' => e = .returned (.int .i64 (cfB x y)) ∧ ∃ q os', w' = grow (W.drewN q) os' := by
  obtain ⟨a, ha1, ha2, ha3, ha4⟩ := x
  obtain ⟨b, hb1, hb2, hb3, hb4⟩ := y
  show Calls Try.prog 56 #[.agg (clA a), .agg (clA b)] W fun e w' => e = .returned (.int .i64 (if b.id.2 - a.id.2 ≠ 0 then b.id.2 - a.id.2 else b.id.1 - a.id.1)) ∧ ∃ q os', w' = grow (W.drewN q) os'
  have kA : Blk ((W.alloc (.cells (clA a) 56)).alloc (.cells (clA b) 56)) W.heap.size 56 (clA a) := (Blk.new W _ _).alloc _
  have kB := Blk.new1 W (.cells (clA a) 56) 56 (clA b)
  obtain ⟨a0, a1, -, -, -⟩ := cl_cells kA
  obtain ⟨b0, b1, -, -, -⟩ := cl_cells kB
  have pq := or_any _ _ (b.id.2 - a.id.2) (b.id.1 - a.id.1) (Blk.new ((W.alloc (.cells (clA a) 56)).alloc (.cells (clA b) 56)) 3 #[.int .i64 (b.id.2 - a.id.2), .int .i64 (b.id.1 - a.id.1)])
  rw [show ((W.alloc (.cells (clA a) 56)).alloc (.cells (clA b) 56)).heap.size = W.heap.size + 1 + 1 by simp] at pq
  obtain ⟨R, hR⟩ : ∃ r, (if b.id.2 - a.id.2 ≠ 0 then b.id.2 - a.id.2 else b.id.1 - a.id.1) = r := ⟨_, rfl⟩
  rw [hR] at pq ⊢
  have P := Lib.hid pq
  clear pq hR
  have HW := Lib.hid (show ∃ q os', ((W.alloc (.cells (clA a) 56)).alloc (.cells (clA b) 56)).alloc (.cells #[.int .i64 (b.id.2 - a.id.2), .int .i64 (b.id.1 - a.id.1)] 3) = grow (W.drewN q) os' from ⟨0, _, by rw [alloc_eq_grow, alloc_eq_grow, alloc_eq_grow, grow_grow, grow_grow]; rfl⟩)
  have i1 : IntKind.i64.wrap (b.id.2 - a.id.2) = b.id.2 - a.id.2 := IntWalk.i64_in _ (by omega)
  have i2 : IntKind.i64.wrap (b.id.1 - a.id.1) = b.id.1 - a.id.1 := IntWalk.i64_in _ (by omega)
  clear kA kB
  generalize clA a = CA at *
  generalize clA b = CB at *
  go_enter Try.func56, Try.ntmps56
  go_wp2_with fail
  refine P.out.mono ?_
  rintro e w1 ⟨rfl, rfl⟩
  go_wp2
  go_ret
  exact ⟨rfl, HW.out⟩
theorem cmpLays (blk off size : Nat) (w : World) : CmpLays Try.prog 56 #[] encB 20 cfB blk off size w := fun _ _ _ _ x y => cmp_any x y _

/-! ### the sort -/
theorem flatK_list (T : Array BCl) : (flatK encB 20 T).toList = cls (T.toList.map Subtype.val) := by
  apply List.ext_getElem?
  intro t
  by_cases ht : t < T.size * 20
  · have h1 : (flatK encB 20 T)[t]! = (encB T[t / 20]!)[t % 20]! := get_flatK encB 20 T t ht
    have hsz : t < (flatK encB 20 T).size := by simpa using ht
    have hq : t / 20 < T.size := by omega
    have h2 : (T.toList.map Subtype.val)[t / 20]? = some T[t / 20]!.1 := by
      rw [List.getElem?_map, Array.getElem?_toList, Array.getElem?_eq_getElem hq, getElem!_pos T (t / 20) hq]; rfl
    have h3 := flat_at encC_len h2 (show t % 20 < 20 by omega)
    rw [show t / 20 * 20 + t % 20 = t by omega] at h3
    rw [Array.getElem?_toList, Array.getElem?_eq_getElem hsz, ← getElem!_pos (flatK encB 20 T) t hsz, h1]
    unfold cls
    rw [h3]
    have hlt : t % 20 < (encC T[t / 20]!.1).length := by rw [encC_len]; omega
    show some ((encC T[t / 20]!.1)[t % 20]!) = _
    rw [List.getElem?_eq_getElem hlt, getElem!_pos (encC T[t / 20]!.1) (t % 20) hlt]
  · rw [List.getElem?_eq_none (by simp; omega), List.getElem?_eq_none (by rw [cls_len]; simp; omega)]
theorem take_putCells (F cur : Array Value) (h : F.size ≤ cur.size) : (putCells id 0 F cur).toList.take F.size = F.toList := by
  apply List.ext_getElem?
  intro t
  rw [List.getElem?_take]
  by_cases ht : t < F.size
  · rw [if_pos ht, Array.getElem?_toList, Array.getElem?_toList]
    unfold putCells
    have hc : t < cur.size := by omega
    rw [Array.getElem?_mapIdx, Array.getElem?_eq_getElem hc, Array.getElem?_eq_getElem ht]
    simp [ht]
  · rw [if_neg ht, List.getElem?_eq_none (by simp; omega)]
theorem sort_any (w : World) (base : Nat) (v : Value) (S : List Cl) (hS : ∀ c ∈ S, -4000000 ≤ c.id.1 ∧ c.id.1 ≤ 4000000 ∧ -4000000 ≤ c.id.2 ∧ c.id.2 ≤ 4000000) (hu : Uq S) (hl : S.length ≤ 1000000) (hown : OwnCls w base v S) :
    Calls Try.prog 55 #[v, .func (.func 56) #[] #[]] w fun e w' => e = .returned (.tuple #[]) ∧ OwnCls w' base v (sortC S) ∧ Only (fun i => v.ownBlock = some i) w w' := by
  unfold OwnCls at hown
  rcases hown.2 with ⟨rfl, h0⟩ | ⟨g, cap, cur, rfl, hbase, hb, hn, hcap, hcs, htake⟩
  · have : S = [] := List.eq_nil_of_length_eq_zero h0
    subst this
    exact (AnyF.slices_SortFunc_none sortL none 0 _ w).mono fun e w' ⟨he, hw⟩ => ⟨he, World.ownsRow_nil _ _ _ _, hw ▸ Only.refl _ _⟩
  · have hg := (Array.getElem?_eq_some_iff.1 hb).1
    obtain ⟨T, hT⟩ : ∃ T : List BCl, T.map Subtype.val = S := ⟨S.pmap (fun s h => ⟨s, h⟩) hS, by rw [List.map_pmap]; simp⟩
    have hTl : T.length = S.length := by rw [← hT, List.length_map]
    have eg : ∀ args w, (callFunc 56 args).run Try.prog w = .ok (.enter 56 args) w := enters_of Try.func56 (by kernel_rfl) rfl
    have hfl := flatK_list T.toArray
    rw [List.toList_toArray, hT] at hfl
    have hsz : T.toArray.size = S.length := by simp [hTl]
    have hfs : (flatK encB 20 T.toArray).size = S.length * 20 := by rw [size_flatK, hsz]
    have hH : HoldsK encB 20 w g 0 T.toArray := fun j hj => by
      rw [hfs] at hj
      refine ⟨?_, hown.frozenAt (0 + j)⟩
      rw [Nat.zero_add, hown.cellAt j (by omega), ← hfl]
      show _ = some (id (flatK encB 20 T.toArray)[j]!)
      have hj2 : j < (flatK encB 20 T.toArray).size := by rw [hfs]; exact hj
      rw [Array.getElem?_toList, Array.getElem?_eq_getElem hj2, getElem!_pos _ j hj2]
      rfl
    have hcon := AnyQ.slices_SortFunc sortL 20 Try.isAgg56 Try.sizeOf56 encB (fun _ => rfl) (fun x v hv => encC_one x.1 v hv) cfB swoB 56 #[] g 0 cap T.toArray w eg (cmpLays g 0 _ w) hH hg (by omega)
    rw [hsz] at hcon
    refine Calls.mono hcon ?_
    rintro e w' ⟨rfl, d', n, os, hp, hs, rfl⟩
    obtain ⟨hp1, -, hp3⟩ := hp
    rw [hsz] at hp1
    have hperm : d'.toList.Perm T := by
      have e1 : d'.extract 0 S.length = d' := by rw [← hp1]; simp
      have e2 : T.toArray.extract 0 S.length = T.toArray := by rw [← hsz]; simp
      rw [e1, e2] at hp3
      simpa using hp3
    have hpS : (d'.toList.map Subtype.val).Perm S := by rw [← hT]; exact hperm.map _
    have hsrt : (d'.toList.map Subtype.val).Pairwise (fun a b => bef a b = true) := by
      have hud := hu.perm hpS.symm
      unfold Uq at hud
      rw [List.pairwise_map, List.pairwise_iff_getElem] at hud ⊢
      intro i j hi hj hij
      have hi' : i < d'.size := by simpa using hi
      have hj' : j < d'.size := by simpa using hj
      have h1 := hs i j (Nat.zero_le _) hij (by omega)
      have h2 := hud i j hi hj hij
      rw [ltB_, getElem!_pos d' i hi', getElem!_pos d' j hj'] at h1
      simp only [Array.getElem_toList] at h2 ⊢
      exact (bef_total h2).resolve_right (by rw [h1]; simp)
    have hsc : d'.toList.map Subtype.val = sortC S := sort_one hsrt (sortC_sorted hu) (hpS.trans (sortC_perm S).symm)
    have hfd := flatK_list d'
    rw [hsc] at hfd
    have hlen : (sortC S).length = S.length := (sortC_perm S).length_eq
    have hfds : (flatK encB 20 d').size = S.length * 20 := by rw [size_flatK, hp1]
    have hheap : (sortWorldK encB 20 w g 0 n d' os).heap[g]? = some (.cells (putCells id 0 (flatK encB 20 d') cur) 56 (0, 0)) := by
      show ((w.heap.modify g _) ++ os)[g]? = _
      rw [Array.getElem?_append_left (by simpa using hg), Array.getElem?_modify, if_pos rfl, hb]
      rfl
    refine ⟨rfl, ?_, rfl, rfl, rfl, size_sortWorldK_c encB 20 w g 0 n d' os, fun i hi hn => ?_⟩
    · unfold OwnCls
      rw [hlen]
      refine ⟨by rw [cls_len, hlen], .inr ⟨g, cap, _, rfl, hbase, hheap, hn, hcap, ?_, ?_⟩⟩
      · unfold putCells
        rw [Array.size_mapIdx]
        exact hcs
      · rw [← hfds, take_putCells _ _ (by rw [hfds, hcs]; exact Nat.mul_le_mul_right 20 hn), hfd]
    · have hne : i ≠ g := fun h => hn (by rw [h]; rfl)
      show ((w.heap.modify g _) ++ os)[i]? = _
      rw [Array.getElem?_append_left (by simpa using hi), Array.getElem?_modify, if_neg (fun h => hne h.symm)]
end Go.Proofs.Ytaicbllfkehhjaa

/- A map of slices of clauses, by their After. -/
namespace Go.Proofs.Ytaicbllfkehhjaa
open Go.RowKit

theorem Try.infoCl : (Try.prog.info? 56).map (fun i => (i.zero, i.size, i.bytes)) = some (some (.agg (clA zcl)), 20, 248) := by kernel_rfl
abbrev Grp := St2 × Value × List Cl
def grKv (g : Grp) : Value × Value := (.agg (stA g.1), g.2.1)
/-- Two slices that do not lie in one row. -/
def Apart (a b : Value) : Prop := a.ownBlock = none ∨ a.ownBlock ≠ b.ownBlock
structure GrAt (w : World) (base m : Nat) (G : List Grp) : Prop where
  map : MapV w m (G.map grKv)
  own : ∀ g ∈ G, OwnCls w base g.2.1 g.2.2
  apart : G.Pairwise fun a b => a.1 ≠ b.1 ∧ Apart a.2.1 b.2.1
theorem GrAt.keys {w : World} {base m : Nat} {G : List Grp} (_h : GrAt w base m G) : ∀ p ∈ G.map grKv, StV p.1 := fun p hp => by
  obtain ⟨g, _, rfl⟩ := List.mem_map.1 hp
  exact ⟨g.1, rfl⟩
theorem OwnCls.grown {w w' : World} {base : Nat} {v : Value} {l : List Cl} {row : Option Nat} (h : OwnCls w base v l) (hg : w.grownBy w' row) (hne : v.ownBlock = none ∨ v.ownBlock ≠ row) : OwnCls w' base v l := World.ownsRow.kept h hg hne
theorem GrAt.grown {w w' : World} {base m : Nat} {G : List Grp} {row : Option Nat} (h : GrAt w base m G) (hg : w.grownBy w' row) (hm : some m ≠ row) (hr : ∀ g ∈ G, g.2.1.ownBlock = none ∨ g.2.1.ownBlock ≠ row) : GrAt w' base m G :=
  ⟨h.map.grown hg hm, fun g hgG => (h.own g hgG).grown hg (hr g hgG), h.apart⟩
theorem GrAt.alloc {w : World} {base m : Nat} {G : List Grp} (h : GrAt w base m G) (o : Obj) : GrAt (w.alloc o) base m G :=
  h.grown (World.grownBy_alloc w o none) (by simp) fun g _ => by cases hh : g.2.1.ownBlock with | none => exact .inl rfl | some x => exact .inr (by simp)
theorem OwnCls.lt {w : World} {base : Nat} {v : Value} {l : List Cl} (h : OwnCls w base v l) : ∀ k, v.ownBlock = some k → base ≤ k ∧ k < w.heap.size := fun k hk => World.ownsRow.lt h k hk
theorem Apart.symm {a b : Value} (h : Apart a b) : Apart b a := by
  unfold Apart at *
  cases hb : b.ownBlock with
  | none => exact .inl rfl
  | some x =>
    right
    rcases h with h | h
    · rw [h]; simp
    · rw [hb] at h; exact fun e => h e.symm
/-- What the groups hold, X being dealt out. -/
structure GrRel (X : List Cl) (G : List Grp) : Prop where
  list : ∀ g ∈ G, g.2.2 = X.filter fun c => decide (c.after = g.1)
  none : ∀ t, (∀ g ∈ G, g.1 ≠ t) → (X.filter fun c => decide (c.after = t)) = []
theorem GrRel.nil : GrRel [] [] := ⟨by simp, fun _ _ => rfl⟩
theorem filter_snoc (X : List Cl) (c : Cl) (t : St2) : ((X ++ [c]).filter fun c => decide (c.after = t)) = if c.after = t then (X.filter fun c => decide (c.after = t)) ++ [c] else X.filter fun c => decide (c.after = t) := by
  rw [List.filter_append]
  by_cases h : c.after = t <;> simp [h]
theorem GrRel.more {X : List Cl} {G1 G2 : List Grp} {c : Cl} {v v' : Value} {l : List Cl} (h : GrRel X (G1 ++ (c.after, v, l) :: G2)) (hd : ∀ g ∈ G1 ++ G2, g.1 ≠ c.after) : GrRel (X ++ [c]) (G1 ++ (c.after, v', l ++ [c]) :: G2) := by
  refine ⟨fun g hg => ?_, fun t ht => ?_⟩
  · rcases List.mem_append.1 hg with hg | hg
    · rw [filter_snoc, if_neg (fun e => hd g (List.mem_append_left _ hg) e.symm)]
      exact h.list g (List.mem_append_left _ hg)
    · rcases List.mem_cons.1 hg with rfl | hg
      · rw [filter_snoc, if_pos rfl, ← h.list (c.after, v, l) (by simp)]
      · rw [filter_snoc, if_neg (fun e => hd g (List.mem_append_right _ hg) e.symm)]
        exact h.list g (List.mem_append_right _ (List.mem_cons_of_mem _ hg))
  · have h1 : c.after ≠ t := ht (c.after, v', l ++ [c]) (by simp)
    rw [filter_snoc, if_neg h1]
    refine h.none t fun g hg => ?_
    rcases List.mem_append.1 hg with hg | hg
    · exact ht g (List.mem_append_left _ hg)
    · rcases List.mem_cons.1 hg with rfl | hg
      · exact h1
      · exact ht g (List.mem_append_right _ (List.mem_cons_of_mem _ hg))
theorem GrRel.new {X : List Cl} {G : List Grp} {c : Cl} {v' : Value} (h : GrRel X G) (hn : ∀ g ∈ G, g.1 ≠ c.after) : GrRel (X ++ [c]) (G ++ [(c.after, v', [c])]) := by
  refine ⟨fun g hg => ?_, fun t ht => ?_⟩
  · rcases List.mem_append.1 hg with hg | hg
    · rw [filter_snoc, if_neg (fun e => hn g hg e.symm)]
      exact h.list g hg
    · simp at hg
      subst hg
      rw [filter_snoc, if_pos rfl, h.none c.after hn]
      rfl
  · have h1 : c.after ≠ t := ht (c.after, v', [c]) (by simp)
    rw [filter_snoc, if_neg h1]
    exact h.none t fun g hg => ht g (List.mem_append_left _ hg)
theorem gr_upd {G1 G2 : List Grp} {t : St2} {v v' : Value} {l l' : List Cl} (hd : ∀ g ∈ G1 ++ G2, g.1 ≠ t) :
    ((G1 ++ (t, v, l) :: G2).map grKv).map (upV (.agg (stA t)) v') = (G1 ++ (t, v', l') :: G2).map grKv := by
  have hk : ∀ K : List Grp, (∀ g ∈ K, g.1 ≠ t) → (K.map grKv).map (upV (.agg (stA t)) v') = K.map grKv := fun K hK => by
    rw [List.map_map]
    refine List.map_congr_left fun g hg => ?_
    exact upV_neg (p := grKv g) fun e => hK g hg (stA_inj e)
  rw [List.map_append, List.map_cons, List.map_append, List.map_cons, hk G1 fun g hg => hd g (List.mem_append_left _ hg), hk G2 fun g hg => hd g (List.mem_append_right _ hg), List.map_append, List.map_cons, (upV_pos (x := .agg (stA t)) (v := v') (p := grKv (t, v, l)) rfl : upV _ _ _ = _)]
  rfl
/-- Behind an append to a group's slice, or to a new one. -/
theorem GrAt.set {w w2 w3 : World} {base m : Nat} {G1 G2 : List Grp} {t : St2} {v v' : Value} {l l' : List Cl} (h : GrAt w base m (G1 ++ (t, v, l) :: G2)) (hg : w.grownBy w2 v.ownBlock) (_hm : ∀ g, v.ownBlock = some g → g ≠ m) (ho : OwnCls w2 base v' l')
    (hlie : v'.ownBlock = v.ownBlock ∨ v'.ownBlock = some w.heap.size ∨ ∃ k, v'.ownBlock = some k ∧ w.heap.size ≤ k) (hM : MapV w3 m ((G1 ++ (t, v', l') :: G2).map grKv)) (hg3 : w2.grownBy w3 (some m)) (hv' : ∀ k, v'.ownBlock = some k → k ≠ m) (hrow : ∀ g ∈ G1 ++ G2, ∀ k, g.2.1.ownBlock = some k → k ≠ m) : GrAt w3 base m (G1 ++ (t, v', l') :: G2) := by
  have hold : ∀ g ∈ G1 ++ G2, g ∈ G1 ++ (t, v, l) :: G2 := fun g hgm => by
    rcases List.mem_append.1 hgm with h1 | h1
    · exact List.mem_append_left _ h1
    · exact List.mem_append_right _ (List.mem_cons_of_mem _ h1)
  have hap := h.apart
  rw [List.pairwise_append] at hap
  obtain ⟨p1, p2, p3⟩ := hap
  obtain ⟨p4, p5⟩ := List.pairwise_cons.1 p2
  have hapv : ∀ g ∈ G1 ++ G2, Apart g.2.1 v := fun g hgm => by
    rcases List.mem_append.1 hgm with h1 | h1
    · exact (p3 g h1 _ List.mem_cons_self).2
    · exact (p4 g h1).2.symm
  have hapv' : ∀ g ∈ G1 ++ G2, Apart g.2.1 v' := fun g hgm => by
    unfold Apart
    rcases hlie with h1 | h1 | ⟨k, h1, h2⟩
    · rw [h1]; exact hapv g hgm
    · right
      rw [h1]
      intro e
      have := ((h.own g (hold g hgm)).lt _ e).2
      omega
    · right
      rw [h1]
      intro e
      have := ((h.own g (hold g hgm)).lt _ e).2
      omega
  refine ⟨hM, fun g hgm => ?_, ?_⟩
  · have hk : ∀ g ∈ G1 ++ G2, OwnCls w3 base g.2.1 g.2.2 := fun g hgm => by
      have o1 := (h.own g (hold g hgm)).grown hg (hapv g hgm)
      refine o1.grown hg3 ?_
      cases hh : g.2.1.ownBlock with
      | none => exact .inl rfl
      | some x => right; intro e; injection e with e; exact hrow g hgm x hh e
    rcases List.mem_append.1 hgm with h1 | h1
    · exact hk g (List.mem_append_left _ h1)
    · rcases List.mem_cons.1 h1 with rfl | h1
      · refine ho.grown hg3 ?_
        cases hh : v'.ownBlock with
        | none => exact .inl rfl
        | some x => right; intro e; injection e with e; exact hv' x hh e
      · exact hk g (List.mem_append_right _ h1)
  · rw [List.pairwise_append]
    refine ⟨p1, List.pairwise_cons.2 ⟨fun g hgm => ⟨(p4 g hgm).1, (hapv' g (List.mem_append_right _ hgm)).symm⟩, p5⟩, fun a ha b hb => ?_⟩
    rcases List.mem_cons.1 hb with rfl | hb
    · exact ⟨(p3 a ha _ List.mem_cons_self).1, hapv' a (List.mem_append_left _ ha)⟩
    · exact p3 a ha b (List.mem_cons_of_mem _ hb)
theorem GrAt.find {w : World} {base m : Nat} {G : List Grp} (h : GrAt w base m G) (t : St2) : (∀ g ∈ G, g.1 ≠ t) ∨ ∃ G1 G2 v l, G = G1 ++ (t, v, l) :: G2 ∧ ∀ g ∈ G1 ++ G2, g.1 ≠ t := by
  by_cases hn : ∀ g ∈ G, g.1 ≠ t
  · exact .inl hn
  · right
    simp only [Classical.not_forall, Decidable.not_not, exists_prop] at hn
    obtain ⟨⟨t', v, l⟩, hg, rfl⟩ := hn
    obtain ⟨G1, G2, rfl⟩ := List.append_of_mem hg
    refine ⟨G1, G2, v, l, rfl, fun g hgm => ?_⟩
    have hap := h.apart
    rw [List.pairwise_append] at hap
    obtain ⟨_, p2, p3⟩ := hap
    rcases List.mem_append.1 hgm with h1 | h1
    · exact (p3 g h1 _ List.mem_cons_self).1
    · exact fun e => ((List.pairwise_cons.1 p2).1 g h1).1 e.symm
end Go.Proofs.Ytaicbllfkehhjaa

/- The state in which List's walk goes over the groups. -/
namespace Go.Proofs.Ytaicbllfkehhjaa
open Go.RowKit

/-- A clause loaded whole out of a row. -/
theorem row_load {W : World} {base g n cap k : Nat} {l : List Cl} (h : W.ownsRow base 56 20 (.slice (some ⟨g, 0, none⟩) n cap) n (cls l)) (hn : l.length = n) {c : Cl} (hk : l[k]? = some c) :
    (loadVar 56 ⟨g, k * 20, none⟩).run Try.prog W = .ok (.agg (clA c)) W := by
  have hkl : k < l.length := (List.getElem?_eq_some_iff.1 hk).1
  have hl : (loadCells ⟨g, k * 20, none⟩ (clA c).toList.length).run Try.prog W = .ok (clA c).toList.toArray W :=
    run_loadCells_list (P := Try.prog) W ⟨g, k * 20, none⟩ (clA c).toList (fun j v hv => by
      have hj : j < 20 := by
        have := (List.getElem?_eq_some_iff.1 hv).1
        rwa [Array.length_toList, clA_size] at this
      have hadd : (⟨g, k * 20, none⟩ : Addr).add j = ⟨g, k * 20 + j, none⟩ := by unfold Addr.add; split <;> simp_all
      rw [hadd, h.cellAt (k * 20 + j) (by omega)]
      exact (flat_at encC_len hk hj).trans hv)
  rw [Array.length_toList, Array.toArray_toList, clA_size] at hl
  have hagg : (isAgg 56).run Try.prog W = .ok true W := by
    unfold isAgg
    rw [Sem.run_bind, run_underlying Try.underlying56 W]
    rfl
  have hsz := Try.sizeOf56 W
  unfold loadVar
  rw [Sem.run_bind, hagg]
  simp only [Result.andThen_ok, if_true]
  rw [Sem.run_bind, hsz]
  simp only [Result.andThen_ok]
  rw [Sem.run_bind, hl]
  rfl
theorem load_row {ops : Array Oper} {rest : List Oper} {o : Oper} {a : Act} {W : World} {Q : Exit → Act → World → Prop} (hgd : o.guard = none) {x : Operand} (ho : o.op = .load 56 x) {base g n cap k : Nat} {l : List Cl} (hx : a.eval x = .pointer (some ⟨g, k * 20, none⟩))
    (hr : W.ownsRow base 56 20 (.slice (some ⟨g, 0, none⟩) n cap) n (cls l)) (hn : l.length = n) {c : Cl} (hk : l[k]? = some c)
    (h : wpList Try.prog ops Q rest (a.put o.dst (.agg (clA c))) W) : wpList Try.prog ops Q (o :: rest) a W := by
  refine wpList_plain hgd fun _ hK => ?_
  unfold Oper.wp execOp
  simp only [ho, hx, Instr.loadAt, Instr.sureAddr, Sem.run_bind, Sem.run_pure, Result.andThen_ok, row_load hr hn hk]
  exact hK _ _ h

def kvG (p : St2 × Value) : Value × Value := (.agg (stA p.1), p.2)
def grp (L : List Cl) (t : St2) : List Cl := L.filter fun c => decide (c.after = t)
structure Wk (w : World) (base bc bo bw m : Nat) (KV : List (St2 × Value)) (L : List Cl) (lst : St2 → List Cl) (v : Value) (O : List Cl) : Prop where
  cc : Blk w bc 105 #[.map (some m)]
  co : Blk w bo 41 #[v]
  cw : Blk w bw 106 #[.func (.func 54) #[] #[.pointer (some ⟨bc, 0, none⟩), .pointer (some ⟨bo, 0, none⟩), .pointer (some ⟨bw, 0, none⟩)]]
  map : MapV w m (KV.map kvG)
  own : ∀ p ∈ KV, OwnCls w base p.2 (lst p.1)
  perm : ∀ t, (lst t).Perm (grp L t)
  keys : KV.Pairwise fun a b => a.1 ≠ b.1 ∧ Apart a.2 b.2
  none : ∀ t, (∀ p ∈ KV, p.1 ≠ t) → grp L t = []
  out : OwnCls w base v O
  apO : ∀ p ∈ KV, Apart p.2 v
  bs : base ≤ bc ∧ base ≤ bo ∧ base ≤ bw ∧ base ≤ m
section
variable {w w' : World} {base bc bo bw m : Nat} {KV : List (St2 × Value)} {L : List Cl} {lst : St2 → List Cl} {v : Value} {O : List Cl}
theorem OwnCls.ne_blk {u : Value} {l : List Cl} (h : OwnCls w base u l) {g : Nat} {t : TypeId} {cs : Array Value} (hb : Blk w g t cs) (ht : t ≠ 56) : u.ownBlock ≠ some g := fun e => by
  obtain ⟨c, fz, hc⟩ := Lib.ownsRow_kind h g e
  unfold Blk at hb
  rw [hb] at hc
  injection hc with hc
  injection hc with _ hc
  exact ht hc
theorem OwnCls.ne_map {u : Value} {l : List Cl} (h : OwnCls w base u l) {g : Nat} {K : List (Value × Value)} (hb : MapV w g K) : u.ownBlock ≠ some g := fun e => by
  obtain ⟨c, fz, hc⟩ := Lib.ownsRow_kind h g e
  obtain ⟨es, clock, h1, _⟩ := hb
  rw [h1] at hc
  injection hc with hc
  cases hc
theorem Blk.ne_map {g b : Nat} {t : TypeId} {cs : Array Value} {K : List (Value × Value)} (h : Blk w g t cs) (hb : MapV w b K) : g ≠ b := fun e => by
  subst e
  obtain ⟨es, clock, h1, _⟩ := hb
  unfold Blk at h
  rw [h1] at h
  injection h with h
  cases h
/-- What a change outside leaves. -/
theorem Wk.only {F : Foot} (h : Wk w base bc bo bw m KV L lst v O) (k : Only F w w') (h1 : ¬ F bc) (h2 : ¬ F bo) (h3 : ¬ F bw) (h4 : ¬ F m) (h5 : ∀ p ∈ KV, ∀ g, p.2.ownBlock = some g → ¬ F g) (h6 : ∀ g, v.ownBlock = some g → ¬ F g) : Wk w' base bc bo bw m KV L lst v O :=
  ⟨k.blk h.cc h1, k.blk h.co h2, k.blk h.cw h3, h.map.only k h4, fun p hp => k.owns (h.own p hp) (h5 p hp), h.perm, h.keys, h.none, k.owns h.out h6, h.apO, h.bs⟩
theorem Wk.same (h : Wk w base bc bo bw m KV L lst v O) (hb : Below w.heap.size w w') : Wk w' base bc bo bw m KV L lst v O :=
  h.only (Only.of_below hb fun _ => False) (fun h => h) (fun h => h) (fun h => h) (fun h => h) (fun _ _ _ _ h => h) fun _ _ h => h
/-- The slice of a group; nil where there is none. -/
def Sl (KV : List (St2 × Value)) (t : St2) (u : Value) : Prop := (t, u) ∈ KV ∨ (u = .slice none 0 0 ∧ ∀ p ∈ KV, p.1 ≠ t)
theorem sl_ex (KV : List (St2 × Value)) (t : St2) : ∃ u, Sl KV t u := by
  by_cases h : ∀ p ∈ KV, p.1 ≠ t
  · exact ⟨_, .inr ⟨rfl, h⟩⟩
  · simp only [Classical.not_forall, Decidable.not_not, exists_prop] at h
    obtain ⟨⟨t', u⟩, hp, rfl⟩ := h
    exact ⟨u, .inl hp⟩
theorem Wk.at (h : Wk w base bc bo bw m KV L lst v O) {t : St2} {u : Value} (hs : Sl KV t u) : OwnCls w base u (lst t) := by
  rcases hs with hs | ⟨rfl, hs⟩
  · exact h.own _ hs
  · have : lst t = [] := by
      have := h.perm t
      rw [h.none t hs] at this
      exact this.eq_nil
    rw [this]
    exact World.ownsRow_nil _ _ _ _
theorem Wk.look (h : Wk w base bc bo bw m KV L lst v O) {t : St2} {u : Value} (hs : Sl KV t u) :
    (Instr.lookup 105 (.map (some m)) (.agg #[.int .i64 t.1, .int .i64 t.2]) false).run Try.prog w = .ok u w := by
  have hk : ∀ p ∈ KV.map kvG, StV p.1 := fun p hp => by
    obtain ⟨q, _, rfl⟩ := List.mem_map.1 hp
    exact ⟨q.1, rfl⟩
  rcases hs with hs | ⟨rfl, hs⟩
  · exact h.map.look_some (P := Try.prog) kysS Try.underlying105 hk (List.mem_map_of_mem (f := kvG) hs) false
  · exact h.map.look_none (P := Try.prog) kysS Try.underlying105 hk ⟨t, rfl⟩ (fun p hp => by
      obtain ⟨q, hq, rfl⟩ := List.mem_map.1 hp
      exact fun e => hs q hq (stA_inj e)) (by kernel_rfl) false
theorem Apart.out {a b : Value} (h : Apart a b) {g : Nat} (hg : a.ownBlock = some g) : b.ownBlock ≠ some g := by
  rcases h with h | h
  · rw [h] at hg; cases hg
  · rw [hg] at h; exact fun e => h e.symm
/-- A group sorted in place. -/
theorem Wk.sort (h : Wk w base bc bo bw m KV L lst v O) {t : St2} {u : Value} (hs : Sl KV t u) (ho : OwnCls w' base u (sortC (lst t))) (k : Only (fun i => u.ownBlock = some i) w w') : Wk w' base bc bo bw m KV L (fun s => if s = t then sortC (lst s) else lst s) v O := by
  have hu := h.at hs
  refine ⟨k.blk h.cc (hu.ne_blk h.cc (by decide)), k.blk h.co (hu.ne_blk h.co (by decide)), k.blk h.cw (hu.ne_blk h.cw (by decide)), h.map.only k (hu.ne_map h.map), fun p hp => ?_, fun s => ?_, h.keys, h.none, k.owns h.out fun g hg e => ?_, h.apO, h.bs⟩
  · by_cases e : p.1 = t
    · simp only [if_pos e]
      rcases hs with hs | ⟨_, hs⟩
      · have : p.2 = u := by
          rcases hq : h.keys with _
          exact Classical.byContradiction fun hne => by
            have := List.Pairwise.forall_of_forall_of_flip (l := KV) (R := fun a b => a.1 = b.1 → a.2 = b.2) (fun _ _ _ => rfl) (h.keys.imp fun hab he => absurd he hab.1) (h.keys.imp fun hab he => absurd he.symm hab.1)
            exact hne (this hp hs e)
        rw [this, e]
        exact ho
      · exact absurd e (hs p hp)
    · simp only [if_neg e]
      refine k.owns (h.own p hp) fun g hg eg => ?_
      rcases hs with hs | ⟨rfl, _⟩
      · have := List.Pairwise.forall_of_forall_of_flip (l := KV) (R := fun a b => a.1 ≠ b.1 → Apart a.2 b.2) (fun _ _ h => absurd rfl h) (h.keys.imp fun hab _ => hab.2) (h.keys.imp fun hab _ => hab.2.symm)
        exact (this hp hs e).out hg eg
      · cases eg
  · show (if s = t then sortC (lst s) else lst s).Perm _
    split
    · exact (sortC_perm _).trans (h.perm s)
    · exact h.perm s
  · rcases hs with hs | ⟨rfl, _⟩
    · exact (h.apO _ hs).out e hg
    · cases e
/-- One more in 'out'. -/
theorem Wk.push (h : Wk w base bc bo bw m KV L lst v O) {v' : Value} {O' : List Cl} (k : Only (fun i => v.ownBlock = some i ∨ i = bo) w w') (ho : OwnCls w' base v' O') (hlie : v'.ownBlock = v.ownBlock ∨ ∃ g, v'.ownBlock = some g ∧ w.heap.size ≤ g) (hco : Blk w' bo 41 #[v']) : Wk w' base bc bo bw m KV L lst v' O' := by
  have hr : ∀ p ∈ KV, ∀ g, p.2.ownBlock = some g → ¬ (v.ownBlock = some g ∨ g = bo) := fun p hp g hg e => by
    rcases e with e | rfl
    · exact (h.apO p hp).out hg e
    · exact (h.own p hp).ne_blk h.co (by decide) hg
  refine ⟨k.blk h.cc fun e => ?_, hco, k.blk h.cw fun e => ?_, h.map.only k fun e => ?_, fun p hp => k.owns (h.own p hp) (hr p hp), h.perm, h.keys, h.none, ho, fun p hp => ?_, h.bs⟩
  · rcases e with e | e
    · exact h.out.ne_blk h.cc (by decide) e
    · exact h.cc.ne_ h.co (by decide) e
  · rcases e with e | e
    · exact h.out.ne_blk h.cw (by decide) e
    · exact h.cw.ne_ h.co (by decide) e
  · rcases e with e | e
    · exact h.out.ne_map h.map e
    · exact h.co.ne_map h.map e.symm
  · unfold Apart
    cases hp2 : p.2.ownBlock with
    | none => exact .inl rfl
    | some g =>
      right
      rcases hlie with e | ⟨g', e, hg'⟩
      · rw [e]
        exact fun e' => hr p hp g hp2 (.inl e'.symm)
      · rw [e]
        intro e'
        injection e' with e'
        have := (OwnCls.lt (h.own p hp) g hp2).2
        omega
end
end Go.Proofs.Ytaicbllfkehhjaa
