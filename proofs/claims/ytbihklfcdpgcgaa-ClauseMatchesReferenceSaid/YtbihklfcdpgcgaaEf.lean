/- merge, Put, Drop on a page. -/
import Derived.Test.YtbihklfcdpgcgaaEe
import Derived.Test.YtbihklfcdpgcgaaBu
import Derived.Deep.DeepCutAuto
import Derived.BigQuiet
namespace Go.Proofs.Ytbihklfcdpgcgaa
open Go.RowKit

theorem blk_store {W : World} {g : Nat} {C0 : Array Value} (h : Blk W g 35 C0) (hz : C0.size = 20) (c : Cl) : (storeCells ⟨g, 0, none⟩ (clA c).toList).run Try.prog W = .ok () (W.setRow g (clA c)) := by
  have := run_storeVar_row (P := Try.prog) W g 35 35 C0 (clA c) h (by kernel_rfl) (by rw [hz, clA_size]) (clA_one c)
  cases hq : Try.prog.info? 35 with
  | none =>
    have hi : (Try.prog.info? 35).map (·.size) = some 20 := by kernel_rfl
    rw [hq] at hi; cases hi
  | some i =>
    have hi : (Try.prog.info? 35).map (·.size) = some 20 := by kernel_rfl
    have hs : i.size = 20 := by rw [hq] at hi; simpa using hi
    simpa [storeVar, sizeOf, typeInfo, hq, Value.cells, hs, clA_size] using this
theorem blk_setRow {W : World} {g : Nat} {t : TypeId} {C0 C : Array Value} (h : Blk W g t C0) : Blk (W.setRow g C) g t C := by
  unfold Blk at h ⊢
  simp [World.setRow, Array.getElem?_modify, h]
theorem blk_farRow {W : World} {g g' : Nat} {t : TypeId} {C0 C : Array Value} (h : Blk W g t C0) (hne : g' ≠ g) : Blk (W.setRow g' C) g t C0 := by
  unfold Blk at h ⊢
  simp [World.setRow, Array.getElem?_modify, h, hne]
theorem below_setRow {B : Nat} {w0 W : World} {g : Nat} (C : Array Value) (h : Below B w0 W) (hg : B ≤ g) : Below B w0 (W.setRow g C) := by
  refine ⟨h.os, h.tape, h.output, by simpa [World.setRow] using h.size, fun i hi => ?_⟩
  rw [← h.block i hi]
  simp [World.setRow, Array.getElem?_modify, show g ≠ i by omega]
theorem exec_load_cl {ev : Operand → Value} {o : Oper} {W : World} {x : Operand} (ho : o.op = .load 35 x) {g : Nat} (hx : ev x = .pointer (some ⟨g, 0, none⟩)) {c : Cl} (hb : Blk W g 35 (clA c)) :
    (execOp ev o).run Try.prog W = .ok (.value (.agg (clA c))) W := by
  have := run_loadVar_row (P := Try.prog) W g 35 35 (clA c) (0, 0) _ hb Try.underlying35 rfl (by rw [clA_size]; kernel_rfl)
  unfold execOp
  simp only [ho, hx, Instr.loadAt, Instr.sureAddr, Sem.run_bind, Sem.run_pure, Result.andThen_ok, this]
theorem load_cl {ops : Array Oper} {rest : List Oper} {o : Oper} {a : Act} {W : World} {Q : Exit → Act → World → Prop} (hgd : o.guard = none) {x : Operand} (ho : o.op = .load 35 x) {g : Nat} (hx : a.eval x = .pointer (some ⟨g, 0, none⟩)) {c : Cl} (hb : Blk W g 35 (clA c))
    (h : wpList Try.prog ops Q rest (a.put o.dst (.agg (clA c))) W) : wpList Try.prog ops Q (o :: rest) a W :=
  wpList_load_row hgd 35 x ho g hx 35 (clA c) (0, 0) _ hb Try.underlying35 rfl (by rw [clA_size]; kernel_rfl) h
theorem load_clg {ops : Array Oper} {rest : List Oper} {o : Oper} {a : Act} {W : World} {Q : Exit → Act → World → Prop} (hw : Region.wanted o (yielded ops a.tmps) = true) {x : Operand} (ho : o.op = .load 35 x) {g : Nat} (hx : a.eval x = .pointer (some ⟨g, 0, none⟩)) {c : Cl} (hb : Blk W g 35 (clA c))
    (h : wpList Try.prog ops Q rest (a.put o.dst (.agg (clA c))) W) : wpList Try.prog ops Q (o :: rest) a W := by
  unfold wpList
  rw [if_pos hw]
  exact .inl (wp_load_row 35 x ho g hx 35 (clA c) (0, 0) _ hb Try.underlying35 rfl (by rw [clA_size]; kernel_rfl) h)
def setG (c : Cl) (g : Bool) : Cl := { c with gone := g }
theorem clA_set (c : Cl) (g : Bool) : (clA c).setIfInBounds 19 (.bool g) = clA (setG c g) := rfl
theorem mrg_same (a b : Cl) : decide (setG a (a.gone || b.gone) = setG b (a.gone || b.gone)) = sameC a b := by
  unfold sameC
  rw [decide_eq_decide, cl_iff]
  simp [setG]

def TupC (c : Cl) (b : Bool) : Value := .tuple #[.agg (clA c), .bool b]
set_option maxRecDepth 100000 in
set_option maxHeartbeats 8000000 in
theorem merge_any (w : World) (a b : Cl) : Calls Try.prog 33 #[.agg (clA a), .agg (clA b)] w fun e w' => e = .returned (TupC (mrgC a b) (sameC a b)) ∧ Below w.heap.size w w' := by
  have kA : Blk (((w.alloc (.cells (clA a) 35)).alloc (.cells (clA b) 35)).alloc (.cells #[.int .i64 0, .int .i64 0, .int .i64 0, .int .i64 0, .int .i64 0, .string ⟨#[]⟩, .string ⟨#[]⟩, .string ⟨#[]⟩, .string ⟨#[]⟩, .int .i64 0, .string ⟨#[]⟩, .string ⟨#[]⟩, .string ⟨#[]⟩, .string ⟨#[]⟩, .string ⟨#[]⟩, .bool false, .int .i64 0, .string ⟨#[]⟩, .string ⟨#[]⟩, .bool false] 35)) w.heap.size 35 (clA a) := ((Blk.new w _ _).alloc _).alloc _
  have kB : Blk (((w.alloc (.cells (clA a) 35)).alloc (.cells (clA b) 35)).alloc (.cells #[.int .i64 0, .int .i64 0, .int .i64 0, .int .i64 0, .int .i64 0, .string ⟨#[]⟩, .string ⟨#[]⟩, .string ⟨#[]⟩, .string ⟨#[]⟩, .int .i64 0, .string ⟨#[]⟩, .string ⟨#[]⟩, .string ⟨#[]⟩, .string ⟨#[]⟩, .string ⟨#[]⟩, .bool false, .int .i64 0, .string ⟨#[]⟩, .string ⟨#[]⟩, .bool false] 35)) (w.heap.size + 1) 35 (clA b) := (Blk.new1 w _ _ _).alloc _
  have kR : Blk (((w.alloc (.cells (clA a) 35)).alloc (.cells (clA b) 35)).alloc (.cells #[.int .i64 0, .int .i64 0, .int .i64 0, .int .i64 0, .int .i64 0, .string ⟨#[]⟩, .string ⟨#[]⟩, .string ⟨#[]⟩, .string ⟨#[]⟩, .int .i64 0, .string ⟨#[]⟩, .string ⟨#[]⟩, .string ⟨#[]⟩, .string ⟨#[]⟩, .string ⟨#[]⟩, .bool false, .int .i64 0, .string ⟨#[]⟩, .string ⟨#[]⟩, .bool false] 35)) (w.heap.size + 1 + 1) 35 #[.int .i64 0, .int .i64 0, .int .i64 0, .int .i64 0, .int .i64 0, .string ⟨#[]⟩, .string ⟨#[]⟩, .string ⟨#[]⟩, .string ⟨#[]⟩, .int .i64 0, .string ⟨#[]⟩, .string ⟨#[]⟩, .string ⟨#[]⟩, .string ⟨#[]⟩, .string ⟨#[]⟩, .bool false, .int .i64 0, .string ⟨#[]⟩, .string ⟨#[]⟩, .bool false] := Blk.new2 w _ _ _ _
  have hb : Below w.heap.size w (((w.alloc (.cells (clA a) 35)).alloc (.cells (clA b) 35)).alloc (.cells #[.int .i64 0, .int .i64 0, .int .i64 0, .int .i64 0, .int .i64 0, .string ⟨#[]⟩, .string ⟨#[]⟩, .string ⟨#[]⟩, .string ⟨#[]⟩, .int .i64 0, .string ⟨#[]⟩, .string ⟨#[]⟩, .string ⟨#[]⟩, .string ⟨#[]⟩, .string ⟨#[]⟩, .bool false, .int .i64 0, .string ⟨#[]⟩, .string ⟨#[]⟩, .bool false] 35)) := (((Below.refl w.heap.size w).alloc (Nat.le_refl _) _).alloc (by simp) _).alloc (by simp; omega) _
  have hmg := mrg_same a b
  have hsm : setG a (a.gone || b.gone) = mrgC a b := rfl
  obtain ⟨R, hR⟩ : ∃ r, sameC a b = r := ⟨_, rfl⟩
  rw [hR] at hmg ⊢
  rw [← hsm]
  obtain ⟨G, hG⟩ : ∃ g, (a.gone || b.gone) = g := ⟨_, rfl⟩
  rw [hG] at hmg ⊢
  clear hsm hR
  go_enter Try.func33, Try.ntmps33
  go_upto_region 1 with fail
  generalize ((w.alloc (.cells (clA a) 35)).alloc (.cells (clA b) 35)).alloc (.cells #[.int .i64 0, .int .i64 0, .int .i64 0, .int .i64 0, .int .i64 0, .string ⟨#[]⟩, .string ⟨#[]⟩, .string ⟨#[]⟩, .string ⟨#[]⟩, .int .i64 0, .string ⟨#[]⟩, .string ⟨#[]⟩, .string ⟨#[]⟩, .string ⟨#[]⟩, .string ⟨#[]⟩, .bool false, .int .i64 0, .string ⟨#[]⟩, .string ⟨#[]⟩, .bool false] 35) = w3 at *
  obtain ⟨-, -, -, -, ca⟩ := cl_cells kA
  obtain ⟨-, -, -, -, cb⟩ := cl_cells kB
  have fa := kA.frozen 19
  have fb := kB.frozen 19
  have hcut : ∀ W, W = (w3.setCell ⟨w.heap.size, 19, none⟩ (.bool G)).setCell ⟨w.heap.size + 1, 19, none⟩ (.bool G) → Blk W w.heap.size 35 (clA (setG a G)) ∧ Blk W (w.heap.size + 1) 35 (clA (setG b G)) ∧ Blk W (w.heap.size + 1 + 1) 35 #[.int .i64 0, .int .i64 0, .int .i64 0, .int .i64 0, .int .i64 0, .string ⟨#[]⟩, .string ⟨#[]⟩, .string ⟨#[]⟩, .string ⟨#[]⟩, .int .i64 0, .string ⟨#[]⟩, .string ⟨#[]⟩, .string ⟨#[]⟩, .string ⟨#[]⟩, .string ⟨#[]⟩, .bool false, .int .i64 0, .string ⟨#[]⟩, .string ⟨#[]⟩, .bool false] ∧ Below w.heap.size w W := fun W hW => by
    subst hW
    refine ⟨?_, ?_, ?_, ?_⟩
    · exact (kA.set_ 19 (.bool G)).far (by show w.heap.size ≠ w.heap.size + 1; omega) _
    · exact (kB.far (p := ⟨w.heap.size, 19, none⟩) (by show w.heap.size + 1 ≠ w.heap.size; omega) _).set_ 19 (.bool G)
    · exact (kR.far (p := ⟨w.heap.size, 19, none⟩) (by show w.heap.size + 1 + 1 ≠ w.heap.size; omega) _).far (by show w.heap.size + 1 + 1 ≠ w.heap.size + 1; omega) _
    · exact (hb.setCell (p := ⟨w.heap.size, 19, none⟩) (by show w.heap.size ≤ w.heap.size; omega) _).setCell (p := ⟨w.heap.size + 1, 19, none⟩) (by show w.heap.size ≤ w.heap.size + 1; omega) _
  have HCUT := Lib.hid hcut
  have HMG := Lib.hid hmg
  have HGG := Lib.hid hG
  clear hcut hmg hG kA kB kR hb
  have fin : ∀ gb : Bool, gb = G → True := fun _ _ => trivial
  cases hga : a.gone with
  | true =>
    rw [hga] at ca HGG
    obtain rfl : true = G := HGG.out
    clear hga fin
    go_upto_region 3 with fail
    obtain ⟨kA, kB, kR, hb⟩ := HCUT.out _ rfl
    clear ca cb fa fb HCUT HGG
    generalize (w3.setCell ⟨w.heap.size, 19, none⟩ (.bool true)).setCell ⟨w.heap.size + 1, 19, none⟩ (.bool true) = w5 at *
    have hz : (#[.int .i64 0, .int .i64 0, .int .i64 0, .int .i64 0, .int .i64 0, .string ⟨#[]⟩, .string ⟨#[]⟩, .string ⟨#[]⟩, .string ⟨#[]⟩, .int .i64 0, .string ⟨#[]⟩, .string ⟨#[]⟩, .string ⟨#[]⟩, .string ⟨#[]⟩, .string ⟨#[]⟩, .bool false, .int .i64 0, .string ⟨#[]⟩, .string ⟨#[]⟩, .bool false] : Array Value).size = 20 := rfl
    have heq : ∀ W : World, (Op.equalIn 10000 35 (.agg (clA (setG a true))) (.agg (clA (setG b true)))).run Try.prog W = .ok R W := fun W => by rw [eq_cl, HMG.out]
    have hcz := clA_size (setG a true)
    have st := blk_store kR.drew hz (setG a true)
    have kR7 := blk_setRow (C := clA (setG a true)) kR.drew
    have hb7 := below_setRow (g := w.heap.size + 1 + 1) (clA (setG a true)) hb.drew (by omega)
    have kA7 := blk_farRow (C := clA (setG a true)) (g' := w.heap.size + 1 + 1) kA.drew (by omega)
    have kB7 := blk_farRow (C := clA (setG a true)) (g' := w.heap.size + 1 + 1) kB.drew (by omega)
    refine wp_region_bush (fun W => Blk W w.heap.size 35 (clA (setG a true)) ∧ Blk W (w.heap.size + 1) 35 (clA (setG b true))) [0] 4 [] [5] (by kernel_rfl) (by kernel_rfl) (fun _ d _ _ _ h => by cases d <;> exact h) ⟨kA.drew, kB.drew⟩ ?_
    simp only [pick, List.drop_zero, List.head?_cons, Option.toList_some, List.append_nil]
    refine wpHeld_step ?_ rfl ?_ ?_
    rotate_left
    · intro W hW; refine exec_load_cl (x := .tmp 2) ?_ ?_ hW.1 <;> rfl
    refine wpHeld_nil ?_
    have kA6 := kA.drew
    have kB6 := kB.drew
    generalize w5.drew = w6 at *
    generalize w6.setRow (w.heap.size + 1 + 1) (clA (setG a true)) = w7 at *
    clear kA kB kR hb
    have hlv := run_loadVar_row (P := Try.prog) _ _ 35 35 _ (0, 0) _ kR7 Try.underlying35 rfl (by rw [hcz]; kernel_rfl)
    clear kR7 HMG hz
    refine wpBush_three 1 2 4 (by kernel_rfl) ?_ ?_ ?_
    · simp only [pick, List.drop_succ_cons, List.drop_zero, List.head?_cons, Option.toList_some, List.append_nil]
      refine load_cl rfl (x := .tmp 2) rfl rfl kA6 ?_
      go_wp2_with fail
      refine ⟨⟨kA6, kB6⟩, ?_⟩
      refine wpBush_two 2 4 (by kernel_rfl) ?_ ?_
      · simp only [pick, List.drop_succ_cons, List.drop_zero, List.head?_cons, Option.toList_some, List.append_nil]
        refine load_cl rfl (x := .tmp 3) rfl rfl kB6 ?_
        go_wp2_with fail
        refine ⟨⟨kA6, kB6⟩, ?_⟩
        refine wpBush_two 3 4 (by kernel_rfl) ?_ ?_
        · simp only [pick, List.drop_succ_cons, List.drop_zero, List.head?_cons, Option.toList_some, List.append_nil]
          go_wp2_with fail
          refine ⟨⟨kA6, kB6⟩, ?_⟩
          refine wpBush_one 4 (by kernel_rfl) ?_
          · simp only [pick, List.drop_succ_cons, List.drop_zero, List.head?_cons, Option.toList_some, List.append_nil]
            go_wp2_with fail
            refine ⟨⟨kA7, kB7⟩, ?_⟩
            refine wpBush_end (by kernel_rfl) (by kernel_rfl) (by kernel_rfl) ?_
            simp only [pick, List.drop_succ_cons, List.drop_zero, List.head?_cons, Option.toList_some, List.append_nil]
            refine wpHeld_nil ?_
            go_wp2_with fail
            exact bodyPost_ret (v := .tuple #[.agg (clA (setG a true)), .bool R]) (by simp [results, Try.results33, asAddr, hlv]) rfl ⟨rfl, hb7⟩
        · simp only [pick, List.drop_succ_cons, List.drop_zero, List.head?_cons, Option.toList_some, List.append_nil]
          go_wp2_with fail
          refine ⟨⟨kA7, kB7⟩, ?_⟩
          refine wpBush_one 3 (by kernel_rfl) ?_
          · simp only [pick, List.drop_succ_cons, List.drop_zero, List.head?_cons, Option.toList_some, List.append_nil]
            go_wp2_with fail
            refine ⟨⟨kA7, kB7⟩, ?_⟩
            refine wpBush_end (by kernel_rfl) (by kernel_rfl) (by kernel_rfl) ?_
            simp only [pick, List.drop_succ_cons, List.drop_zero, List.head?_cons, Option.toList_some, List.append_nil]
            refine wpHeld_nil ?_
            go_wp2_with fail
            exact bodyPost_ret (v := .tuple #[.agg (clA (setG a true)), .bool R]) (by simp [results, Try.results33, asAddr, hlv]) rfl ⟨rfl, hb7⟩
      · simp only [pick, List.drop_succ_cons, List.drop_zero, List.head?_cons, Option.toList_some, List.append_nil]
        go_wp2_with fail
        refine ⟨⟨kA7, kB7⟩, ?_⟩
        refine wpBush_one 2 (by kernel_rfl) ?_
        · simp only [pick, List.drop_succ_cons, List.drop_zero, List.head?_cons, Option.toList_some, List.append_nil]
          refine load_cl rfl (x := .tmp 3) rfl rfl kB7 ?_
          go_wp2_with fail
          refine ⟨⟨kA7, kB7⟩, ?_⟩
          refine wpBush_one 3 (by kernel_rfl) ?_
          · simp only [pick, List.drop_succ_cons, List.drop_zero, List.head?_cons, Option.toList_some, List.append_nil]
            go_wp2_with fail
            refine ⟨⟨kA7, kB7⟩, ?_⟩
            refine wpBush_end (by kernel_rfl) (by kernel_rfl) (by kernel_rfl) ?_
            simp only [pick, List.drop_succ_cons, List.drop_zero, List.head?_cons, Option.toList_some, List.append_nil]
            refine wpHeld_nil ?_
            go_wp2_with fail
            exact bodyPost_ret (v := .tuple #[.agg (clA (setG a true)), .bool R]) (by simp [results, Try.results33, asAddr, hlv]) rfl ⟨rfl, hb7⟩
    · simp only [pick, List.drop_succ_cons, List.drop_zero, List.head?_cons, Option.toList_some, List.append_nil]
      refine load_cl rfl (x := .tmp 3) rfl rfl kB6 ?_
      go_wp2_with fail
      refine ⟨⟨kA6, kB6⟩, ?_⟩
      refine wpBush_two 1 4 (by kernel_rfl) ?_ ?_
      · simp only [pick, List.drop_succ_cons, List.drop_zero, List.head?_cons, Option.toList_some, List.append_nil]
        refine load_cl rfl (x := .tmp 2) rfl rfl kA6 ?_
        go_wp2_with fail
        refine ⟨⟨kA6, kB6⟩, ?_⟩
        refine wpBush_two 3 4 (by kernel_rfl) ?_ ?_
        · simp only [pick, List.drop_succ_cons, List.drop_zero, List.head?_cons, Option.toList_some, List.append_nil]
          go_wp2_with fail
          refine ⟨⟨kA6, kB6⟩, ?_⟩
          refine wpBush_one 4 (by kernel_rfl) ?_
          · simp only [pick, List.drop_succ_cons, List.drop_zero, List.head?_cons, Option.toList_some, List.append_nil]
            go_wp2_with fail
            refine ⟨⟨kA7, kB7⟩, ?_⟩
            refine wpBush_end (by kernel_rfl) (by kernel_rfl) (by kernel_rfl) ?_
            simp only [pick, List.drop_succ_cons, List.drop_zero, List.head?_cons, Option.toList_some, List.append_nil]
            refine wpHeld_nil ?_
            go_wp2_with fail
            exact bodyPost_ret (v := .tuple #[.agg (clA (setG a true)), .bool R]) (by simp [results, Try.results33, asAddr, hlv]) rfl ⟨rfl, hb7⟩
        · simp only [pick, List.drop_succ_cons, List.drop_zero, List.head?_cons, Option.toList_some, List.append_nil]
          go_wp2_with fail
          refine ⟨⟨kA7, kB7⟩, ?_⟩
          refine wpBush_one 3 (by kernel_rfl) ?_
          · simp only [pick, List.drop_succ_cons, List.drop_zero, List.head?_cons, Option.toList_some, List.append_nil]
            go_wp2_with fail
            refine ⟨⟨kA7, kB7⟩, ?_⟩
            refine wpBush_end (by kernel_rfl) (by kernel_rfl) (by kernel_rfl) ?_
            simp only [pick, List.drop_succ_cons, List.drop_zero, List.head?_cons, Option.toList_some, List.append_nil]
            refine wpHeld_nil ?_
            go_wp2_with fail
            exact bodyPost_ret (v := .tuple #[.agg (clA (setG a true)), .bool R]) (by simp [results, Try.results33, asAddr, hlv]) rfl ⟨rfl, hb7⟩
      · simp only [pick, List.drop_succ_cons, List.drop_zero, List.head?_cons, Option.toList_some, List.append_nil]
        go_wp2_with fail
        refine ⟨⟨kA7, kB7⟩, ?_⟩
        refine wpBush_one 1 (by kernel_rfl) ?_
        · simp only [pick, List.drop_succ_cons, List.drop_zero, List.head?_cons, Option.toList_some, List.append_nil]
          refine load_cl rfl (x := .tmp 2) rfl rfl kA7 ?_
          go_wp2_with fail
          refine ⟨⟨kA7, kB7⟩, ?_⟩
          refine wpBush_one 3 (by kernel_rfl) ?_
          · simp only [pick, List.drop_succ_cons, List.drop_zero, List.head?_cons, Option.toList_some, List.append_nil]
            go_wp2_with fail
            refine ⟨⟨kA7, kB7⟩, ?_⟩
            refine wpBush_end (by kernel_rfl) (by kernel_rfl) (by kernel_rfl) ?_
            simp only [pick, List.drop_succ_cons, List.drop_zero, List.head?_cons, Option.toList_some, List.append_nil]
            refine wpHeld_nil ?_
            go_wp2_with fail
            exact bodyPost_ret (v := .tuple #[.agg (clA (setG a true)), .bool R]) (by simp [results, Try.results33, asAddr, hlv]) rfl ⟨rfl, hb7⟩
    · simp only [pick, List.drop_succ_cons, List.drop_zero, List.head?_cons, Option.toList_some, List.append_nil]
      go_wp2_with fail
      refine ⟨⟨kA7, kB7⟩, ?_⟩
      refine wpBush_two 1 2 (by kernel_rfl) ?_ ?_
      · simp only [pick, List.drop_succ_cons, List.drop_zero, List.head?_cons, Option.toList_some, List.append_nil]
        refine load_cl rfl (x := .tmp 2) rfl rfl kA7 ?_
        go_wp2_with fail
        refine ⟨⟨kA7, kB7⟩, ?_⟩
        refine wpBush_one 2 (by kernel_rfl) ?_
        · simp only [pick, List.drop_succ_cons, List.drop_zero, List.head?_cons, Option.toList_some, List.append_nil]
          refine load_cl rfl (x := .tmp 3) rfl rfl kB7 ?_
          go_wp2_with fail
          refine ⟨⟨kA7, kB7⟩, ?_⟩
          refine wpBush_one 3 (by kernel_rfl) ?_
          · simp only [pick, List.drop_succ_cons, List.drop_zero, List.head?_cons, Option.toList_some, List.append_nil]
            go_wp2_with fail
            refine ⟨⟨kA7, kB7⟩, ?_⟩
            refine wpBush_end (by kernel_rfl) (by kernel_rfl) (by kernel_rfl) ?_
            simp only [pick, List.drop_succ_cons, List.drop_zero, List.head?_cons, Option.toList_some, List.append_nil]
            refine wpHeld_nil ?_
            go_wp2_with fail
            exact bodyPost_ret (v := .tuple #[.agg (clA (setG a true)), .bool R]) (by simp [results, Try.results33, asAddr, hlv]) rfl ⟨rfl, hb7⟩
      · simp only [pick, List.drop_succ_cons, List.drop_zero, List.head?_cons, Option.toList_some, List.append_nil]
        refine load_cl rfl (x := .tmp 3) rfl rfl kB7 ?_
        go_wp2_with fail
        refine ⟨⟨kA7, kB7⟩, ?_⟩
        refine wpBush_one 1 (by kernel_rfl) ?_
        · simp only [pick, List.drop_succ_cons, List.drop_zero, List.head?_cons, Option.toList_some, List.append_nil]
          refine load_cl rfl (x := .tmp 2) rfl rfl kA7 ?_
          go_wp2_with fail
          refine ⟨⟨kA7, kB7⟩, ?_⟩
          refine wpBush_one 3 (by kernel_rfl) ?_
          · simp only [pick, List.drop_succ_cons, List.drop_zero, List.head?_cons, Option.toList_some, List.append_nil]
            go_wp2_with fail
            refine ⟨⟨kA7, kB7⟩, ?_⟩
            refine wpBush_end (by kernel_rfl) (by kernel_rfl) (by kernel_rfl) ?_
            simp only [pick, List.drop_succ_cons, List.drop_zero, List.head?_cons, Option.toList_some, List.append_nil]
            refine wpHeld_nil ?_
            go_wp2_with fail
            exact bodyPost_ret (v := .tuple #[.agg (clA (setG a true)), .bool R]) (by simp [results, Try.results33, asAddr, hlv]) rfl ⟨rfl, hb7⟩
  | false =>
    rw [hga] at ca HGG
    rw [show b.gone = G from HGG.out] at cb
    clear hga fin HGG
    go_upto_region 3 with fail
    obtain ⟨kA, kB, kR, hb⟩ := HCUT.out _ rfl
    clear ca cb fa fb HCUT
    generalize (w3.setCell ⟨w.heap.size, 19, none⟩ (.bool G)).setCell ⟨w.heap.size + 1, 19, none⟩ (.bool G) = w5 at *
    have hz : (#[.int .i64 0, .int .i64 0, .int .i64 0, .int .i64 0, .int .i64 0, .string ⟨#[]⟩, .string ⟨#[]⟩, .string ⟨#[]⟩, .string ⟨#[]⟩, .int .i64 0, .string ⟨#[]⟩, .string ⟨#[]⟩, .string ⟨#[]⟩, .string ⟨#[]⟩, .string ⟨#[]⟩, .bool false, .int .i64 0, .string ⟨#[]⟩, .string ⟨#[]⟩, .bool false] : Array Value).size = 20 := rfl
    have heq : ∀ W : World, (Op.equalIn 10000 35 (.agg (clA (setG a G))) (.agg (clA (setG b G)))).run Try.prog W = .ok R W := fun W => by rw [eq_cl, HMG.out]
    have hcz := clA_size (setG a G)
    have st := blk_store kR.drew hz (setG a G)
    have kR7 := blk_setRow (C := clA (setG a G)) kR.drew
    have hb7 := below_setRow (g := w.heap.size + 1 + 1) (clA (setG a G)) hb.drew (by omega)
    have kA7 := blk_farRow (C := clA (setG a G)) (g' := w.heap.size + 1 + 1) kA.drew (by omega)
    have kB7 := blk_farRow (C := clA (setG a G)) (g' := w.heap.size + 1 + 1) kB.drew (by omega)
    refine wp_region_bush (fun W => Blk W w.heap.size 35 (clA (setG a G)) ∧ Blk W (w.heap.size + 1) 35 (clA (setG b G))) [0] 4 [] [5] (by kernel_rfl) (by kernel_rfl) (fun _ d _ _ _ h => by cases d <;> exact h) ⟨kA.drew, kB.drew⟩ ?_
    simp only [pick, List.drop_zero, List.head?_cons, Option.toList_some, List.append_nil]
    refine wpHeld_step ?_ rfl ?_ ?_
    rotate_left
    · intro W hW; refine exec_load_cl (x := .tmp 2) ?_ ?_ hW.1 <;> rfl
    refine wpHeld_nil ?_
    have kA6 := kA.drew
    have kB6 := kB.drew
    generalize w5.drew = w6 at *
    generalize w6.setRow (w.heap.size + 1 + 1) (clA (setG a G)) = w7 at *
    clear kA kB kR hb
    have hlv := run_loadVar_row (P := Try.prog) _ _ 35 35 _ (0, 0) _ kR7 Try.underlying35 rfl (by rw [hcz]; kernel_rfl)
    clear kR7 HMG hz
    refine wpBush_three 1 2 4 (by kernel_rfl) ?_ ?_ ?_
    · simp only [pick, List.drop_succ_cons, List.drop_zero, List.head?_cons, Option.toList_some, List.append_nil]
      refine load_cl rfl (x := .tmp 2) rfl rfl kA6 ?_
      go_wp2_with fail
      refine ⟨⟨kA6, kB6⟩, ?_⟩
      refine wpBush_two 2 4 (by kernel_rfl) ?_ ?_
      · simp only [pick, List.drop_succ_cons, List.drop_zero, List.head?_cons, Option.toList_some, List.append_nil]
        refine load_cl rfl (x := .tmp 3) rfl rfl kB6 ?_
        go_wp2_with fail
        refine ⟨⟨kA6, kB6⟩, ?_⟩
        refine wpBush_two 3 4 (by kernel_rfl) ?_ ?_
        · simp only [pick, List.drop_succ_cons, List.drop_zero, List.head?_cons, Option.toList_some, List.append_nil]
          go_wp2_with fail
          refine ⟨⟨kA6, kB6⟩, ?_⟩
          refine wpBush_one 4 (by kernel_rfl) ?_
          · simp only [pick, List.drop_succ_cons, List.drop_zero, List.head?_cons, Option.toList_some, List.append_nil]
            go_wp2_with fail
            refine ⟨⟨kA7, kB7⟩, ?_⟩
            refine wpBush_end (by kernel_rfl) (by kernel_rfl) (by kernel_rfl) ?_
            simp only [pick, List.drop_succ_cons, List.drop_zero, List.head?_cons, Option.toList_some, List.append_nil]
            refine wpHeld_nil ?_
            go_wp2_with fail
            exact bodyPost_ret (v := .tuple #[.agg (clA (setG a G)), .bool R]) (by simp [results, Try.results33, asAddr, hlv]) rfl ⟨rfl, hb7⟩
        · simp only [pick, List.drop_succ_cons, List.drop_zero, List.head?_cons, Option.toList_some, List.append_nil]
          go_wp2_with fail
          refine ⟨⟨kA7, kB7⟩, ?_⟩
          refine wpBush_one 3 (by kernel_rfl) ?_
          · simp only [pick, List.drop_succ_cons, List.drop_zero, List.head?_cons, Option.toList_some, List.append_nil]
            go_wp2_with fail
            refine ⟨⟨kA7, kB7⟩, ?_⟩
            refine wpBush_end (by kernel_rfl) (by kernel_rfl) (by kernel_rfl) ?_
            simp only [pick, List.drop_succ_cons, List.drop_zero, List.head?_cons, Option.toList_some, List.append_nil]
            refine wpHeld_nil ?_
            go_wp2_with fail
            exact bodyPost_ret (v := .tuple #[.agg (clA (setG a G)), .bool R]) (by simp [results, Try.results33, asAddr, hlv]) rfl ⟨rfl, hb7⟩
      · simp only [pick, List.drop_succ_cons, List.drop_zero, List.head?_cons, Option.toList_some, List.append_nil]
        go_wp2_with fail
        refine ⟨⟨kA7, kB7⟩, ?_⟩
        refine wpBush_one 2 (by kernel_rfl) ?_
        · simp only [pick, List.drop_succ_cons, List.drop_zero, List.head?_cons, Option.toList_some, List.append_nil]
          refine load_cl rfl (x := .tmp 3) rfl rfl kB7 ?_
          go_wp2_with fail
          refine ⟨⟨kA7, kB7⟩, ?_⟩
          refine wpBush_one 3 (by kernel_rfl) ?_
          · simp only [pick, List.drop_succ_cons, List.drop_zero, List.head?_cons, Option.toList_some, List.append_nil]
            go_wp2_with fail
            refine ⟨⟨kA7, kB7⟩, ?_⟩
            refine wpBush_end (by kernel_rfl) (by kernel_rfl) (by kernel_rfl) ?_
            simp only [pick, List.drop_succ_cons, List.drop_zero, List.head?_cons, Option.toList_some, List.append_nil]
            refine wpHeld_nil ?_
            go_wp2_with fail
            exact bodyPost_ret (v := .tuple #[.agg (clA (setG a G)), .bool R]) (by simp [results, Try.results33, asAddr, hlv]) rfl ⟨rfl, hb7⟩
    · simp only [pick, List.drop_succ_cons, List.drop_zero, List.head?_cons, Option.toList_some, List.append_nil]
      refine load_cl rfl (x := .tmp 3) rfl rfl kB6 ?_
      go_wp2_with fail
      refine ⟨⟨kA6, kB6⟩, ?_⟩
      refine wpBush_two 1 4 (by kernel_rfl) ?_ ?_
      · simp only [pick, List.drop_succ_cons, List.drop_zero, List.head?_cons, Option.toList_some, List.append_nil]
        refine load_cl rfl (x := .tmp 2) rfl rfl kA6 ?_
        go_wp2_with fail
        refine ⟨⟨kA6, kB6⟩, ?_⟩
        refine wpBush_two 3 4 (by kernel_rfl) ?_ ?_
        · simp only [pick, List.drop_succ_cons, List.drop_zero, List.head?_cons, Option.toList_some, List.append_nil]
          go_wp2_with fail
          refine ⟨⟨kA6, kB6⟩, ?_⟩
          refine wpBush_one 4 (by kernel_rfl) ?_
          · simp only [pick, List.drop_succ_cons, List.drop_zero, List.head?_cons, Option.toList_some, List.append_nil]
            go_wp2_with fail
            refine ⟨⟨kA7, kB7⟩, ?_⟩
            refine wpBush_end (by kernel_rfl) (by kernel_rfl) (by kernel_rfl) ?_
            simp only [pick, List.drop_succ_cons, List.drop_zero, List.head?_cons, Option.toList_some, List.append_nil]
            refine wpHeld_nil ?_
            go_wp2_with fail
            exact bodyPost_ret (v := .tuple #[.agg (clA (setG a G)), .bool R]) (by simp [results, Try.results33, asAddr, hlv]) rfl ⟨rfl, hb7⟩
        · simp only [pick, List.drop_succ_cons, List.drop_zero, List.head?_cons, Option.toList_some, List.append_nil]
          go_wp2_with fail
          refine ⟨⟨kA7, kB7⟩, ?_⟩
          refine wpBush_one 3 (by kernel_rfl) ?_
          · simp only [pick, List.drop_succ_cons, List.drop_zero, List.head?_cons, Option.toList_some, List.append_nil]
            go_wp2_with fail
            refine ⟨⟨kA7, kB7⟩, ?_⟩
            refine wpBush_end (by kernel_rfl) (by kernel_rfl) (by kernel_rfl) ?_
            simp only [pick, List.drop_succ_cons, List.drop_zero, List.head?_cons, Option.toList_some, List.append_nil]
            refine wpHeld_nil ?_
            go_wp2_with fail
            exact bodyPost_ret (v := .tuple #[.agg (clA (setG a G)), .bool R]) (by simp [results, Try.results33, asAddr, hlv]) rfl ⟨rfl, hb7⟩
      · simp only [pick, List.drop_succ_cons, List.drop_zero, List.head?_cons, Option.toList_some, List.append_nil]
        go_wp2_with fail
        refine ⟨⟨kA7, kB7⟩, ?_⟩
        refine wpBush_one 1 (by kernel_rfl) ?_
        · simp only [pick, List.drop_succ_cons, List.drop_zero, List.head?_cons, Option.toList_some, List.append_nil]
          refine load_cl rfl (x := .tmp 2) rfl rfl kA7 ?_
          go_wp2_with fail
          refine ⟨⟨kA7, kB7⟩, ?_⟩
          refine wpBush_one 3 (by kernel_rfl) ?_
          · simp only [pick, List.drop_succ_cons, List.drop_zero, List.head?_cons, Option.toList_some, List.append_nil]
            go_wp2_with fail
            refine ⟨⟨kA7, kB7⟩, ?_⟩
            refine wpBush_end (by kernel_rfl) (by kernel_rfl) (by kernel_rfl) ?_
            simp only [pick, List.drop_succ_cons, List.drop_zero, List.head?_cons, Option.toList_some, List.append_nil]
            refine wpHeld_nil ?_
            go_wp2_with fail
            exact bodyPost_ret (v := .tuple #[.agg (clA (setG a G)), .bool R]) (by simp [results, Try.results33, asAddr, hlv]) rfl ⟨rfl, hb7⟩
    · simp only [pick, List.drop_succ_cons, List.drop_zero, List.head?_cons, Option.toList_some, List.append_nil]
      go_wp2_with fail
      refine ⟨⟨kA7, kB7⟩, ?_⟩
      refine wpBush_two 1 2 (by kernel_rfl) ?_ ?_
      · simp only [pick, List.drop_succ_cons, List.drop_zero, List.head?_cons, Option.toList_some, List.append_nil]
        refine load_cl rfl (x := .tmp 2) rfl rfl kA7 ?_
        go_wp2_with fail
        refine ⟨⟨kA7, kB7⟩, ?_⟩
        refine wpBush_one 2 (by kernel_rfl) ?_
        · simp only [pick, List.drop_succ_cons, List.drop_zero, List.head?_cons, Option.toList_some, List.append_nil]
          refine load_cl rfl (x := .tmp 3) rfl rfl kB7 ?_
          go_wp2_with fail
          refine ⟨⟨kA7, kB7⟩, ?_⟩
          refine wpBush_one 3 (by kernel_rfl) ?_
          · simp only [pick, List.drop_succ_cons, List.drop_zero, List.head?_cons, Option.toList_some, List.append_nil]
            go_wp2_with fail
            refine ⟨⟨kA7, kB7⟩, ?_⟩
            refine wpBush_end (by kernel_rfl) (by kernel_rfl) (by kernel_rfl) ?_
            simp only [pick, List.drop_succ_cons, List.drop_zero, List.head?_cons, Option.toList_some, List.append_nil]
            refine wpHeld_nil ?_
            go_wp2_with fail
            exact bodyPost_ret (v := .tuple #[.agg (clA (setG a G)), .bool R]) (by simp [results, Try.results33, asAddr, hlv]) rfl ⟨rfl, hb7⟩
      · simp only [pick, List.drop_succ_cons, List.drop_zero, List.head?_cons, Option.toList_some, List.append_nil]
        refine load_cl rfl (x := .tmp 3) rfl rfl kB7 ?_
        go_wp2_with fail
        refine ⟨⟨kA7, kB7⟩, ?_⟩
        refine wpBush_one 1 (by kernel_rfl) ?_
        · simp only [pick, List.drop_succ_cons, List.drop_zero, List.head?_cons, Option.toList_some, List.append_nil]
          refine load_cl rfl (x := .tmp 2) rfl rfl kA7 ?_
          go_wp2_with fail
          refine ⟨⟨kA7, kB7⟩, ?_⟩
          refine wpBush_one 3 (by kernel_rfl) ?_
          · simp only [pick, List.drop_succ_cons, List.drop_zero, List.head?_cons, Option.toList_some, List.append_nil]
            go_wp2_with fail
            refine ⟨⟨kA7, kB7⟩, ?_⟩
            refine wpBush_end (by kernel_rfl) (by kernel_rfl) (by kernel_rfl) ?_
            simp only [pick, List.drop_succ_cons, List.drop_zero, List.head?_cons, Option.toList_some, List.append_nil]
            refine wpHeld_nil ?_
            go_wp2_with fail
            exact bodyPost_ret (v := .tuple #[.agg (clA (setG a G)), .bool R]) (by simp [results, Try.results33, asAddr, hlv]) rfl ⟨rfl, hb7⟩
end Go.Proofs.Ytbihklfcdpgcgaa
