/- Part 2 of what the laws of this seat stand on: Ef, Eg, Es, Ej. -/
import Derived.Test.YtaicbllfkehhjaaZ1
import Derived.Deep.DeepCutAuto
import Derived.BigQuiet
import Derived.Shelf.SlGeneric
import Derived.Shelf.SlSortCmp.WholeK
import Derived.Shelf.SlSortCmp.NoneTotal
import Derived.Test.YtaicbllfkehhjaaProg

/- merge, Put, Drop on a page. -/
namespace Go.Proofs.Ytaicbllfkehhjaa
open Go.RowKit

theorem blk_store {W : World} {g : Nat} {C0 : Array Value} (h : Blk W g 56 C0) (hz : C0.size = 20) (c : Cl) : (storeCells ⟨g, 0, none⟩ (clA c).toList).run Try.prog W = .ok () (W.setRow g (clA c)) := by
  have := run_storeVar_row (P := Try.prog) W g 56 56 C0 (clA c) h (by kernel_rfl) (by rw [hz, clA_size]) (clA_one c)
  cases hq : Try.prog.info? 56 with
  | none =>
    have hi : (Try.prog.info? 56).map (·.size) = some 20 := by kernel_rfl
    rw [hq] at hi; cases hi
  | some i =>
    have hi : (Try.prog.info? 56).map (·.size) = some 20 := by kernel_rfl
    have hs : i.size = 20 := by rw [hq] at hi; simpa using hi
    simpa [storeVar, sizeOf, typeInfo, hq, Value.cells, hs, clA_size] using this
theorem blk_setRow {W : World} {g : Nat} {t : TypeId} {C0 C : Array Value} (h : Blk W g t C0) : Blk (W.setRow g C) g t C := by
  unfold Blk at h ⊢
  simp [World.setRow, Array.getElem?_modify, h]
theorem blk_farRow {W : World} {g g' : Nat} {t : TypeId} {C0 C : Array Value} (h : Blk W g t C0) (hne : g' ≠ g) : Blk (W.setRow g' C) g t C0 := by
  unfold Blk at h ⊢
  simp [World.setRow, Array.getElem?_modify, h, hne]
theorem below_setRow {B : Nat} {w0 W : World} {g : Nat} (C : Array Value) (h : Below B w0 W) (hg : B ≤ g) : Below B w0 (W.setRow g C) := by
  refine ⟨h.os, h.tape, h.output, by simpa [World.setRow] using h.size, fun i hi => ?_⟩
  rw [← h.block i hi]
  simp [World.setRow, Array.getElem?_modify, show g ≠ i by omega]
theorem exec_load_cl {ev : Operand → Value} {o : Oper} {W : World} {x : Operand} (ho : o.op = .load 56 x) {g : Nat} (hx : ev x = .pointer (some ⟨g, 0, none⟩)) {c : Cl} (hb : Blk W g 56 (clA c)) :
    (execOp ev o).run Try.prog W = .ok (.value (.agg (clA c))) W := by
  have := run_loadVar_row (P := Try.prog) W g 56 56 (clA c) (0, 0) _ hb Try.underlying56 rfl (by rw [clA_size]; kernel_rfl)
  unfold execOp
  simp only [ho, hx, Instr.loadAt, Instr.sureAddr, Sem.run_bind, Sem.run_pure, Result.andThen_ok, this]
theorem load_cl {ops : Array Oper} {rest : List Oper} {o : Oper} {a : Act} {W : World} {Q : Exit → Act → World → Prop} (hgd : o.guard = none) {x : Operand} (ho : o.op = .load 56 x) {g : Nat} (hx : a.eval x = .pointer (some ⟨g, 0, none⟩)) {c : Cl} (hb : Blk W g 56 (clA c))
    (h : wpList Try.prog ops Q rest (a.put o.dst (.agg (clA c))) W) : wpList Try.prog ops Q (o :: rest) a W :=
  wpList_load_row hgd 56 x ho g hx 56 (clA c) (0, 0) _ hb Try.underlying56 rfl (by rw [clA_size]; kernel_rfl) h
theorem load_clg {ops : Array Oper} {rest : List Oper} {o : Oper} {a : Act} {W : World} {Q : Exit → Act → World → Prop} (hw : Region.wanted o (yielded ops a.tmps) = true) {x : Operand} (ho : o.op = .load 56 x) {g : Nat} (hx : a.eval x = .pointer (some ⟨g, 0, none⟩)) {c : Cl} (hb : Blk W g 56 (clA c))
    (h : wpList Try.prog ops Q rest (a.put o.dst (.agg (clA c))) W) : wpList Try.prog ops Q (o :: rest) a W := by
  unfold wpList
  rw [if_pos hw]
  exact .inl (wp_load_row 56 x ho g hx 56 (clA c) (0, 0) _ hb Try.underlying56 rfl (by rw [clA_size]; kernel_rfl) h)
def setG (c : Cl) (g : Bool) : Cl := { c with gone := g }
theorem clA_set (c : Cl) (g : Bool) : (clA c).setIfInBounds 19 (.bool g) = clA (setG c g) := rfl
theorem mrg_same (a b : Cl) : decide (setG a (a.gone || b.gone) = setG b (a.gone || b.gone)) = sameC a b := by
  unfold sameC
  rw [decide_eq_decide, cl_iff]
  simp [setG]

def TupC (c : Cl) (b : Bool) : Value := .tuple #[.agg (clA c), .bool b]
set_option maxRecDepth 100000 in
set_option maxHeartbeats 8000000 in
theorem merge_any (w : World) (a b : Cl) : Calls Try.prog 60 #[.agg (clA a), .agg (clA b)] w fun e w' => e = .returned (TupC (mrgC a b) (sameC a b)) ∧ Below w.heap.size w w' := by
  have kA : Blk (((w.alloc (.cells (clA a) 56)).alloc (.cells (clA b) 56)).alloc (.cells #[.int .i64 0, .int .i64 0, .int .i64 0, .int .i64 0, .int .i64 0, .string ⟨#[]⟩, .string ⟨#[]⟩, .string ⟨#[]⟩, .string ⟨#[]⟩, .int .i64 0, .string ⟨#[]⟩, .string ⟨#[]⟩, .string ⟨#[]⟩, .string ⟨#[]⟩, .string ⟨#[]⟩, .bool false, .int .i64 0, .string ⟨#[]⟩, .string ⟨#[]⟩, .bool false] 56)) w.heap.size 56 (clA a) := ((Blk.new w _ _).alloc _).alloc _
  have kB : Blk (((w.alloc (.cells (clA a) 56)).alloc (.cells (clA b) 56)).alloc (.cells #[.int .i64 0, .int .i64 0, .int .i64 0, .int .i64 0, .int .i64 0, .string ⟨#[]⟩, .string ⟨#[]⟩, .string ⟨#[]⟩, .string ⟨#[]⟩, .int .i64 0, .string ⟨#[]⟩, .string ⟨#[]⟩, .string ⟨#[]⟩, .string ⟨#[]⟩, .string ⟨#[]⟩, .bool false, .int .i64 0, .string ⟨#[]⟩, .string ⟨#[]⟩, .bool false] 56)) (w.heap.size + 1) 56 (clA b) := (Blk.new1 w _ _ _).alloc _
  have kR : Blk (((w.alloc (.cells (clA a) 56)).alloc (.cells (clA b) 56)).alloc (.cells #[.int .i64 0, .int .i64 0, .int .i64 0, .int .i64 0, .int .i64 0, .string ⟨#[]⟩, .string ⟨#[]⟩, .string ⟨#[]⟩, .string ⟨#[]⟩, .int .i64 0, .string ⟨#[]⟩, .string ⟨#[]⟩, .string ⟨#[]⟩, .string ⟨#[]⟩, .string ⟨#[]⟩, .bool false, .int .i64 0, .string ⟨#[]⟩, .string ⟨#[]⟩, .bool false] 56)) (w.heap.size + 1 + 1) 56 #[.int .i64 0, .int .i64 0, .int .i64 0, .int .i64 0, .int .i64 0, .string ⟨#[]⟩, .string ⟨#[]⟩, .string ⟨#[]⟩, .string ⟨#[]⟩, .int .i64 0, .string ⟨#[]⟩, .string ⟨#[]⟩, .string ⟨#[]⟩, .string ⟨#[]⟩, .string ⟨#[]⟩, .bool false, .int .i64 0, .string ⟨#[]⟩, .string ⟨#[]⟩, .bool false] := Blk.new2 w _ _ _ _
  have hb : Below w.heap.size w (((w.alloc (.cells (clA a) 56)).alloc (.cells (clA b) 56)).alloc (.cells #[.int .i64 0, .int .i64 0, .int .i64 0, .int .i64 0, .int .i64 0, .string ⟨#[]⟩, .string ⟨#[]⟩, .string ⟨#[]⟩, .string ⟨#[]⟩, .int .i64 0, .string ⟨#[]⟩, .string ⟨#[]⟩, .string ⟨#[]⟩, .string ⟨#[]⟩, .string ⟨#[]⟩, .bool false, .int .i64 0, .string ⟨#[]⟩, .string ⟨#[]⟩, .bool false] 56)) := (((Below.refl w.heap.size w).alloc (Nat.le_refl _) _).alloc (by simp) _).alloc (by simp; omega) _
  have hmg := mrg_same a b
  have hsm : setG a (a.gone || b.gone) = mrgC a b := rfl
  obtain ⟨R, hR⟩ : ∃ r, sameC a b = r := ⟨_, rfl⟩
  rw [hR] at hmg ⊢
  rw [← hsm]
  obtain ⟨G, hG⟩ : ∃ g, (a.gone || b.gone) = g := ⟨_, rfl⟩
  rw [hG] at hmg ⊢
  clear hsm hR
  go_enter Try.func60, Try.ntmps60
  go_upto_region 1 with fail
  generalize ((w.alloc (.cells (clA a) 56)).alloc (.cells (clA b) 56)).alloc (.cells #[.int .i64 0, .int .i64 0, .int .i64 0, .int .i64 0, .int .i64 0, .string ⟨#[]⟩, .string ⟨#[]⟩, .string ⟨#[]⟩, .string ⟨#[]⟩, .int .i64 0, .string ⟨#[]⟩, .string ⟨#[]⟩, .string ⟨#[]⟩, .string ⟨#[]⟩, .string ⟨#[]⟩, .bool false, .int .i64 0, .string ⟨#[]⟩, .string ⟨#[]⟩, .bool false] 56) = w3 at *
  obtain ⟨-, -, -, -, ca⟩ := cl_cells kA
  obtain ⟨-, -, -, -, cb⟩ := cl_cells kB
  have fa := kA.frozen 19
  have fb := kB.frozen 19
  have hcut : ∀ W, W = (w3.setCell ⟨w.heap.size, 19, none⟩ (.bool G)).setCell ⟨w.heap.size + 1, 19, none⟩ (.bool G) → Blk W w.heap.size 56 (clA (setG a G)) ∧ Blk W (w.heap.size + 1) 56 (clA (setG b G)) ∧ Blk W (w.heap.size + 1 + 1) 56 #[.int .i64 0, .int .i64 0, .int .i64 0, .int .i64 0, .int .i64 0, .string ⟨#[]⟩, .string ⟨#[]⟩, .string ⟨#[]⟩, .string ⟨#[]⟩, .int .i64 0, .string ⟨#[]⟩, .string ⟨#[]⟩, .string ⟨#[]⟩, .string ⟨#[]⟩, .string ⟨#[]⟩, .bool false, .int .i64 0, .string ⟨#[]⟩, .string ⟨#[]⟩, .bool false] ∧ Below w.heap.size w W := fun W hW => by
    subst hW
    refine ⟨?_, ?_, ?_, ?_⟩
    · exact (kA.set_ 19 (.bool G)).far (by show w.heap.size ≠ w.heap.size + 1; omega) _
    · exact (kB.far (p := ⟨w.heap.size, 19, none⟩) (by show w.heap.size + 1 ≠ w.heap.size; omega) _).set_ 19 (.bool G)
    · exact (kR.far (p := ⟨w.heap.size, 19, none⟩) (by show w.heap.size + 1 + 1 ≠ w.heap.size; omega) _).far (by show w.heap.size + 1 + 1 ≠ w.heap.size + 1; omega) _
    · exact (hb.setCell (p := ⟨w.heap.size, 19, none⟩) (by show w.heap.size ≤ w.heap.size; omega) _).setCell (p := ⟨w.heap.size + 1, 19, none⟩) (by show w.heap.size ≤ w.heap.size + 1; omega) _
  have HCUT := Lib.hid hcut
  have HMG := Lib.hid hmg
  have HGG := Lib.hid hG
  clear hcut hmg hG kA kB kR hb
  have fin : ∀ gb : Bool, gb = G → True := fun _ _ => trivial
  cases hga : a.gone with
  | true =>
    rw [hga] at ca HGG
    obtain rfl : true = G := HGG.out
    clear hga fin
    go_upto_region 3 with fail
    obtain ⟨kA, kB, kR, hb⟩ := HCUT.out _ rfl
    clear ca cb fa fb HCUT HGG
    generalize (w3.setCell ⟨w.heap.size, 19, none⟩ (.bool true)).setCell ⟨w.heap.size + 1, 19, none⟩ (.bool true) = w5 at *
    have hz : (#[.int .i64 0, .int .i64 0, .int .i64 0, .int .i64 0, .int .i64 0, .string ⟨#[]⟩, .string ⟨#[]⟩, .string ⟨#[]⟩, .string ⟨#[]⟩, .int .i64 0, .string ⟨#[]⟩, .string ⟨#[]⟩, .string ⟨#[]⟩, .string ⟨#[]⟩, .string ⟨#[]⟩, .bool false, .int .i64 0, .string ⟨#[]⟩, .string ⟨#[]⟩, .bool false] : Array Value).size = 20 := rfl
    have heq : ∀ W : World, (Op.equalIn 10000 56 (.agg (clA (setG a true))) (.agg (clA (setG b true)))).run Try.prog W = .ok R W := fun W => by rw [eq_cl, HMG.out]
    have hcz := clA_size (setG a true)
    have st := blk_store kR.drew hz (setG a true)
    have kR7 := blk_setRow (C := clA (setG a true)) kR.drew
    have hb7 := below_setRow (g := w.heap.size + 1 + 1) (clA (setG a true)) hb.drew (by omega)
    have kA7 := blk_farRow (C := clA (setG a true)) (g' := w.heap.size + 1 + 1) kA.drew (by omega)
    have kB7 := blk_farRow (C := clA (setG a true)) (g' := w.heap.size + 1 + 1) kB.drew (by omega)
    refine wp_region_bush (fun W => Blk W w.heap.size 56 (clA (setG a true)) ∧ Blk W (w.heap.size + 1) 56 (clA (setG b true))) [0] 4 [] [5] (by kernel_rfl) (by kernel_rfl) (fun _ d _ _ _ h => by cases d <;> exact h) ⟨kA.drew, kB.drew⟩ ?_
    simp only [pick, List.drop_zero, List.head?_cons, Option.toList_some, List.append_nil]
    refine wpHeld_step ?_ rfl ?_ ?_
    rotate_left
    · intro W hW; refine exec_load_cl (x := .tmp 2) ?_ ?_ hW.1 <;> rfl
    refine wpHeld_nil ?_
    have kA6 := kA.drew
    have kB6 := kB.drew
    generalize w5.drew = w6 at *
    generalize w6.setRow (w.heap.size + 1 + 1) (clA (setG a true)) = w7 at *
    clear kA kB kR hb
    have hlv := run_loadVar_row (P := Try.prog) _ _ 56 56 _ (0, 0) _ kR7 Try.underlying56 rfl (by rw [hcz]; kernel_rfl)
    clear kR7 HMG hz
    refine wpBush_three 1 2 4 (by kernel_rfl) ?_ ?_ ?_
    · simp only [pick, List.drop_succ_cons, List.drop_zero, List.head?_cons, Option.toList_some, List.append_nil]
      refine load_cl rfl (x := .tmp 2) rfl rfl kA6 ?_
      go_wp2_with fail
      refine ⟨⟨kA6, kB6⟩, ?_⟩
      refine wpBush_two 2 4 (by kernel_rfl) ?_ ?_
      · simp only [pick, List.drop_succ_cons, List.drop_zero, List.head?_cons, Option.toList_some, List.append_nil]
        refine load_cl rfl (x := .tmp 3) rfl rfl kB6 ?_
        go_wp2_with fail
        refine ⟨⟨kA6, kB6⟩, ?_⟩
        refine wpBush_two 3 4 (by kernel_rfl) ?_ ?_
        · simp only [pick, List.drop_succ_cons, List.drop_zero, List.head?_cons, Option.toList_some, List.append_nil]
          go_wp2_with fail
          refine ⟨⟨kA6, kB6⟩, ?_⟩
          refine wpBush_one 4 (by kernel_rfl) ?_
          · simp only [pick, List.drop_succ_cons, List.drop_zero, List.head?_cons, Option.toList_some, List.append_nil]
            go_wp2_with fail
            refine ⟨⟨kA7, kB7⟩, ?_⟩
            refine wpBush_end (by kernel_rfl) (by kernel_rfl) (by kernel_rfl) ?_
            simp only [pick, List.drop_succ_cons, List.drop_zero, List.head?_cons, Option.toList_some, List.append_nil]
            refine wpHeld_nil ?_
            go_wp2_with fail
            exact bodyPost_ret (v := .tuple #[.agg (clA (setG a true)), .bool R]) (by simp [results, Try.results60, asAddr, hlv]) rfl ⟨rfl, hb7⟩
        · simp only [pick, List.drop_succ_cons, List.drop_zero, List.head?_cons, Option.toList_some, List.append_nil]
          go_wp2_with fail
          refine ⟨⟨kA7, kB7⟩, ?_⟩
          refine wpBush_one 3 (by kernel_rfl) ?_
          · simp only [pick, List.drop_succ_cons, List.drop_zero, List.head?_cons, Option.toList_some, List.append_nil]
            go_wp2_with fail
            refine ⟨⟨kA7, kB7⟩, ?_⟩
            refine wpBush_end (by kernel_rfl) (by kernel_rfl) (by kernel_rfl) ?_
            simp only [pick, List.drop_succ_cons, List.drop_zero, List.head?_cons, Option.toList_some, List.append_nil]
            refine wpHeld_nil ?_
            go_wp2_with fail
            exact bodyPost_ret (v := .tuple #[.agg (clA (setG a true)), .bool R]) (by simp [results, Try.results60, asAddr, hlv]) rfl ⟨rfl, hb7⟩
      · simp only [pick, List.drop_succ_cons, List.drop_zero, List.head?_cons, Option.toList_some, List.append_nil]
        go_wp2_with fail
        refine ⟨⟨kA7, kB7⟩, ?_⟩
        refine wpBush_one 2 (by kernel_rfl) ?_
        · simp only [pick, List.drop_succ_cons, List.drop_zero, List.head?_cons, Option.toList_some, List.append_nil]
          refine load_cl rfl (x := .tmp 3) rfl rfl kB7 ?_
          go_wp2_with fail
          refine ⟨⟨kA7, kB7⟩, ?_⟩
          refine wpBush_one 3 (by kernel_rfl) ?_
          · simp only [pick, List.drop_succ_cons, List.drop_zero, List.head?_cons, Option.toList_some, List.append_nil]
            go_wp2_with fail
            refine ⟨⟨kA7, kB7⟩, ?_⟩
            refine wpBush_end (by kernel_rfl) (by kernel_rfl) (by kernel_rfl) ?_
            simp only [pick, List.drop_succ_cons, List.drop_zero, List.head?_cons, Option.toList_some, List.append_nil]
            refine wpHeld_nil ?_
            go_wp2_with fail
            exact bodyPost_ret (v := .tuple #[.agg (clA (setG a true)), .bool R]) (by simp [results, Try.results60, asAddr, hlv]) rfl ⟨rfl, hb7⟩
    · simp only [pick, List.drop_succ_cons, List.drop_zero, List.head?_cons, Option.toList_some, List.append_nil]
      refine load_cl rfl (x := .tmp 3) rfl rfl kB6 ?_
      go_wp2_with fail
      refine ⟨⟨kA6, kB6⟩, ?_⟩
      refine wpBush_two 1 4 (by kernel_rfl) ?_ ?_
      · simp only [pick, List.drop_succ_cons, List.drop_zero, List.head?_cons, Option.toList_some, List.append_nil]
        refine load_cl rfl (x := .tmp 2) rfl rfl kA6 ?_
        go_wp2_with fail
        refine ⟨⟨kA6, kB6⟩, ?_⟩
        refine wpBush_two 3 4 (by kernel_rfl) ?_ ?_
        · simp only [pick, List.drop_succ_cons, List.drop_zero, List.head?_cons, Option.toList_some, List.append_nil]
          go_wp2_with fail
          refine ⟨⟨kA6, kB6⟩, ?_⟩
          refine wpBush_one 4 (by kernel_rfl) ?_
          · simp only [pick, List.drop_succ_cons, List.drop_zero, List.head?_cons, Option.toList_some, List.append_nil]
            go_wp2_with fail
            refine ⟨⟨kA7, kB7⟩, ?_⟩
            refine wpBush_end (by kernel_rfl) (by kernel_rfl) (by kernel_rfl) ?_
            simp only [pick, List.drop_succ_cons, List.drop_zero, List.head?_cons, Option.toList_some, List.append_nil]
            refine wpHeld_nil ?_
            go_wp2_with fail
            exact bodyPost_ret (v := .tuple #[.agg (clA (setG a true)), .bool R]) (by simp [results, Try.results60, asAddr, hlv]) rfl ⟨rfl, hb7⟩
        · simp only [pick, List.drop_succ_cons, List.drop_zero, List.head?_cons, Option.toList_some, List.append_nil]
          go_wp2_with fail
          refine ⟨⟨kA7, kB7⟩, ?_⟩
          refine wpBush_one 3 (by kernel_rfl) ?_
          · simp only [pick, List.drop_succ_cons, List.drop_zero, List.head?_cons, Option.toList_some, List.append_nil]
            go_wp2_with fail
            refine ⟨⟨kA7, kB7⟩, ?_⟩
            refine wpBush_end (by kernel_rfl) (by kernel_rfl) (by kernel_rfl) ?_
            simp only [pick, List.drop_succ_cons, List.drop_zero, List.head?_cons, Option.toList_some, List.append_nil]
            refine wpHeld_nil ?_
            go_wp2_with fail
            exact bodyPost_ret (v := .tuple #[.agg (clA (setG a true)), .bool R]) (by simp [results, Try.results60, asAddr, hlv]) rfl ⟨rfl, hb7⟩
      · simp only [pick, List.drop_succ_cons, List.drop_zero, List.head?_cons, Option.toList_some, List.append_nil]
        go_wp2_with fail
        refine ⟨⟨kA7, kB7⟩, ?_⟩
        refine wpBush_one 1 (by kernel_rfl) ?_
        · simp only [pick, List.drop_succ_cons, List.drop_zero, List.head?_cons, Option.toList_some, List.append_nil]
          refine load_cl rfl (x := .tmp 2) rfl rfl kA7 ?_
          go_wp2_with fail
          refine ⟨⟨kA7, kB7⟩, ?_⟩
          refine wpBush_one 3 (by kernel_rfl) ?_
          · simp only [pick, List.drop_succ_cons, List.drop_zero, List.head?_cons, Option.toList_some, List.append_nil]
            go_wp2_with fail
            refine ⟨⟨kA7, kB7⟩, ?_⟩
            refine wpBush_end (by kernel_rfl) (by kernel_rfl) (by kernel_rfl) ?_
            simp only [pick, List.drop_succ_cons, List.drop_zero, List.head?_cons, Option.toList_some, List.append_nil]
            refine wpHeld_nil ?_
            go_wp2_with fail
            exact bodyPost_ret (v := .tuple #[.agg (clA (setG a true)), .bool R]) (by simp [results, Try.results60, asAddr, hlv]) rfl ⟨rfl, hb7⟩
    · simp only [pick, List.drop_succ_cons, List.drop_zero, List.head?_cons, Option.toList_some, List.append_nil]
      go_wp2_with fail
      refine ⟨⟨kA7, kB7⟩, ?_⟩
      refine wpBush_two 1 2 (by kernel_rfl) ?_ ?_
      · simp only [pick, List.drop_succ_cons, List.drop_zero, List.head?_cons, Option.toList_some, List.append_nil]
        refine load_cl rfl (x := .tmp 2) rfl rfl kA7 ?_
        go_wp2_with fail
        refine ⟨⟨kA7, kB7⟩, ?_⟩
        refine wpBush_one 2 (by kernel_rfl) ?_
        · simp only [pick, List.drop_succ_cons, List.drop_zero, List.head?_cons, Option.toList_some, List.append_nil]
          refine load_cl rfl (x := .tmp 3) rfl rfl kB7 ?_
          go_wp2_with fail
          refine ⟨⟨kA7, kB7⟩, ?_⟩
          refine wpBush_one 3 (by kernel_rfl) ?_
          · simp only [pick, List.drop_succ_cons, List.drop_zero, List.head?_cons, Option.toList_some, List.append_nil]
            go_wp2_with fail
            refine ⟨⟨kA7, kB7⟩, ?_⟩
            refine wpBush_end (by kernel_rfl) (by kernel_rfl) (by kernel_rfl) ?_
            simp only [pick, List.drop_succ_cons, List.drop_zero, List.head?_cons, Option.toList_some, List.append_nil]
            refine wpHeld_nil ?_
            go_wp2_with fail
            exact bodyPost_ret (v := .tuple #[.agg (clA (setG a true)), .bool R]) (by simp [results, Try.results60, asAddr, hlv]) rfl ⟨rfl, hb7⟩
      · simp only [pick, List.drop_succ_cons, List.drop_zero, List.head?_cons, Option.toList_some, List.append_nil]
        refine load_cl rfl (x := .tmp 3) rfl rfl kB7 ?_
        go_wp2_with fail
        refine ⟨⟨kA7, kB7⟩, ?_⟩
        refine wpBush_one 1 (by kernel_rfl) ?_
        · simp only [pick, List.drop_succ_cons, List.drop_zero, List.head?_cons, Option.toList_some, List.append_nil]
          refine load_cl rfl (x := .tmp 2) rfl rfl kA7 ?_
          go_wp2_with fail
          refine ⟨⟨kA7, kB7⟩, ?_⟩
          refine wpBush_one 3 (by kernel_rfl) ?_
          · simp only [pick, List.drop_succ_cons, List.drop_zero, List.head?_cons, Option.toList_some, List.append_nil]
            go_wp2_with fail
            refine ⟨⟨kA7, kB7⟩, ?_⟩
            refine wpBush_end (by kernel_rfl) (by kernel_rfl) (by kernel_rfl) ?_
            simp only [pick, List.drop_succ_cons, List.drop_zero, List.head?_cons, Option.toList_some, List.append_nil]
            refine wpHeld_nil ?_
            go_wp2_with fail
            exact bodyPost_ret (v := .tuple #[.agg (clA (setG a true)), .bool R]) (by simp [results, Try.results60, asAddr, hlv]) rfl ⟨rfl, hb7⟩
  | false =>
    rw [hga] at ca HGG
    rw [show b.gone = G from HGG.out] at cb
    clear hga fin HGG
    go_upto_region 3 with fail
    obtain ⟨kA, kB, kR, hb⟩ := HCUT.out _ rfl
    clear ca cb fa fb HCUT
    generalize (w3.setCell ⟨w.heap.size, 19, none⟩ (.bool G)).setCell ⟨w.heap.size + 1, 19, none⟩ (.bool G) = w5 at *
    have hz : (#[.int .i64 0, .int .i64 0, .int .i64 0, .int .i64 0, .int .i64 0, .string ⟨#[]⟩, .string ⟨#[]⟩, .string ⟨#[]⟩, .string ⟨#[]⟩, .int .i64 0, .string ⟨#[]⟩, .string ⟨#[]⟩, .string ⟨#[]⟩, .string ⟨#[]⟩, .string ⟨#[]⟩, .bool false, .int .i64 0, .string ⟨#[]⟩, .string ⟨#[]⟩, .bool false] : Array Value).size = 20 := rfl
    have heq : ∀ W : World, (Op.equalIn 10000 56 (.agg (clA (setG a G))) (.agg (clA (setG b G)))).run Try.prog W = .ok R W := fun W => by rw [eq_cl, HMG.out]
    have hcz := clA_size (setG a G)
    have st := blk_store kR.drew hz (setG a G)
    have kR7 := blk_setRow (C := clA (setG a G)) kR.drew
    have hb7 := below_setRow (g := w.heap.size + 1 + 1) (clA (setG a G)) hb.drew (by omega)
    have kA7 := blk_farRow (C := clA (setG a G)) (g' := w.heap.size + 1 + 1) kA.drew (by omega)
    have kB7 := blk_farRow (C := clA (setG a G)) (g' := w.heap.size + 1 + 1) kB.drew (by omega)
    refine wp_region_bush (fun W => Blk W w.heap.size 56 (clA (setG a G)) ∧ Blk W (w.heap.size + 1) 56 (clA (setG b G))) [0] 4 [] [5] (by kernel_rfl) (by kernel_rfl) (fun _ d _ _ _ h => by cases d <;> exact h) ⟨kA.drew, kB.drew⟩ ?_
    simp only [pick, List.drop_zero, List.head?_cons, Option.toList_some, List.append_nil]
    refine wpHeld_step ?_ rfl ?_ ?_
    rotate_left
    · intro W hW; refine exec_load_cl (x := .tmp 2) ?_ ?_ hW.1 <;> rfl
    refine wpHeld_nil ?_
    have kA6 := kA.drew
    have kB6 := kB.drew
    generalize w5.drew = w6 at *
    generalize w6.setRow (w.heap.size + 1 + 1) (clA (setG a G)) = w7 at *
    clear kA kB kR hb
    have hlv := run_loadVar_row (P := Try.prog) _ _ 56 56 _ (0, 0) _ kR7 Try.underlying56 rfl (by rw [hcz]; kernel_rfl)
    clear kR7 HMG hz
    refine wpBush_three 1 2 4 (by kernel_rfl) ?_ ?_ ?_
    · simp only [pick, List.drop_succ_cons, List.drop_zero, List.head?_cons, Option.toList_some, List.append_nil]
      refine load_cl rfl (x := .tmp 2) rfl rfl kA6 ?_
      go_wp2_with fail
      refine ⟨⟨kA6, kB6⟩, ?_⟩
      refine wpBush_two 2 4 (by kernel_rfl) ?_ ?_
      · simp only [pick, List.drop_succ_cons, List.drop_zero, List.head?_cons, Option.toList_some, List.append_nil]
        refine load_cl rfl (x := .tmp 3) rfl rfl kB6 ?_
        go_wp2_with fail
        refine ⟨⟨kA6, kB6⟩, ?_⟩
        refine wpBush_two 3 4 (by kernel_rfl) ?_ ?_
        · simp only [pick, List.drop_succ_cons, List.drop_zero, List.head?_cons, Option.toList_some, List.append_nil]
          go_wp2_with fail
          refine ⟨⟨kA6, kB6⟩, ?_⟩
          refine wpBush_one 4 (by kernel_rfl) ?_
          · simp only [pick, List.drop_succ_cons, List.drop_zero, List.head?_cons, Option.toList_some, List.append_nil]
            go_wp2_with fail
            refine ⟨⟨kA7, kB7⟩, ?_⟩
            refine wpBush_end (by kernel_rfl) (by kernel_rfl) (by kernel_rfl) ?_
            simp only [pick, List.drop_succ_cons, List.drop_zero, List.head?_cons, Option.toList_some, List.append_nil]
            refine wpHeld_nil ?_
            go_wp2_with fail
            exact bodyPost_ret (v := .tuple #[.agg (clA (setG a G)), .bool R]) (by simp [results, Try.results60, asAddr, hlv]) rfl ⟨rfl, hb7⟩
        · simp only [pick, List.drop_succ_cons, List.drop_zero, List.head?_cons, Option.toList_some, List.append_nil]
          go_wp2_with fail
          refine ⟨⟨kA7, kB7⟩, ?_⟩
          refine wpBush_one 3 (by kernel_rfl) ?_
          · simp only [pick, List.drop_succ_cons, List.drop_zero, List.head?_cons, Option.toList_some, List.append_nil]
            go_wp2_with fail
            refine ⟨⟨kA7, kB7⟩, ?_⟩
            refine wpBush_end (by kernel_rfl) (by kernel_rfl) (by kernel_rfl) ?_
            simp only [pick, List.drop_succ_cons, List.drop_zero, List.head?_cons, Option.toList_some, List.append_nil]
            refine wpHeld_nil ?_
            go_wp2_with fail
            exact bodyPost_ret (v := .tuple #[.agg (clA (setG a G)), .bool R]) (by simp [results, Try.results60, asAddr, hlv]) rfl ⟨rfl, hb7⟩
      · simp only [pick, List.drop_succ_cons, List.drop_zero, List.head?_cons, Option.toList_some, List.append_nil]
        go_wp2_with fail
        refine ⟨⟨kA7, kB7⟩, ?_⟩
        refine wpBush_one 2 (by kernel_rfl) ?_
        · simp only [pick, List.drop_succ_cons, List.drop_zero, List.head?_cons, Option.toList_some, List.append_nil]
          refine load_cl rfl (x := .tmp 3) rfl rfl kB7 ?_
          go_wp2_with fail
          refine ⟨⟨kA7, kB7⟩, ?_⟩
          refine wpBush_one 3 (by kernel_rfl) ?_
          · simp only [pick, List.drop_succ_cons, List.drop_zero, List.head?_cons, Option.toList_some, List.append_nil]
            go_wp2_with fail
            refine ⟨⟨kA7, kB7⟩, ?_⟩
            refine wpBush_end (by kernel_rfl) (by kernel_rfl) (by kernel_rfl) ?_
            simp only [pick, List.drop_succ_cons, List.drop_zero, List.head?_cons, Option.toList_some, List.append_nil]
            refine wpHeld_nil ?_
            go_wp2_with fail
            exact bodyPost_ret (v := .tuple #[.agg (clA (setG a G)), .bool R]) (by simp [results, Try.results60, asAddr, hlv]) rfl ⟨rfl, hb7⟩
    · simp only [pick, List.drop_succ_cons, List.drop_zero, List.head?_cons, Option.toList_some, List.append_nil]
      refine load_cl rfl (x := .tmp 3) rfl rfl kB6 ?_
      go_wp2_with fail
      refine ⟨⟨kA6, kB6⟩, ?_⟩
      refine wpBush_two 1 4 (by kernel_rfl) ?_ ?_
      · simp only [pick, List.drop_succ_cons, List.drop_zero, List.head?_cons, Option.toList_some, List.append_nil]
        refine load_cl rfl (x := .tmp 2) rfl rfl kA6 ?_
        go_wp2_with fail
        refine ⟨⟨kA6, kB6⟩, ?_⟩
        refine wpBush_two 3 4 (by kernel_rfl) ?_ ?_
        · simp only [pick, List.drop_succ_cons, List.drop_zero, List.head?_cons, Option.toList_some, List.append_nil]
          go_wp2_with fail
          refine ⟨⟨kA6, kB6⟩, ?_⟩
          refine wpBush_one 4 (by kernel_rfl) ?_
          · simp only [pick, List.drop_succ_cons, List.drop_zero, List.head?_cons, Option.toList_some, List.append_nil]
            go_wp2_with fail
            refine ⟨⟨kA7, kB7⟩, ?_⟩
            refine wpBush_end (by kernel_rfl) (by kernel_rfl) (by kernel_rfl) ?_
            simp only [pick, List.drop_succ_cons, List.drop_zero, List.head?_cons, Option.toList_some, List.append_nil]
            refine wpHeld_nil ?_
            go_wp2_with fail
            exact bodyPost_ret (v := .tuple #[.agg (clA (setG a G)), .bool R]) (by simp [results, Try.results60, asAddr, hlv]) rfl ⟨rfl, hb7⟩
        · simp only [pick, List.drop_succ_cons, List.drop_zero, List.head?_cons, Option.toList_some, List.append_nil]
          go_wp2_with fail
          refine ⟨⟨kA7, kB7⟩, ?_⟩
          refine wpBush_one 3 (by kernel_rfl) ?_
          · simp only [pick, List.drop_succ_cons, List.drop_zero, List.head?_cons, Option.toList_some, List.append_nil]
            go_wp2_with fail
            refine ⟨⟨kA7, kB7⟩, ?_⟩
            refine wpBush_end (by kernel_rfl) (by kernel_rfl) (by kernel_rfl) ?_
            simp only [pick, List.drop_succ_cons, List.drop_zero, List.head?_cons, Option.toList_some, List.append_nil]
            refine wpHeld_nil ?_
            go_wp2_with fail
            exact bodyPost_ret (v := .tuple #[.agg (clA (setG a G)), .bool R]) (by simp [results, Try.results60, asAddr, hlv]) rfl ⟨rfl, hb7⟩
      · simp only [pick, List.drop_succ_cons, List.drop_zero, List.head?_cons, Option.toList_some, List.append_nil]
        go_wp2_with fail
        refine ⟨⟨kA7, kB7⟩, ?_⟩
        refine wpBush_one 1 (by kernel_rfl) ?_
        · simp only [pick, List.drop_succ_cons, List.drop_zero, List.head?_cons, Option.toList_some, List.append_nil]
          refine load_cl rfl (x := .tmp 2) rfl rfl kA7 ?_
          go_wp2_with fail
          refine ⟨⟨kA7, kB7⟩, ?_⟩
          refine wpBush_one 3 (by kernel_rfl) ?_
          · simp only [pick, List.drop_succ_cons, List.drop_zero, List.head?_cons, Option.toList_some, List.append_nil]
            go_wp2_with fail
            refine ⟨⟨kA7, kB7⟩, ?_⟩
            refine wpBush_end (by kernel_rfl) (by kernel_rfl) (by kernel_rfl) ?_
            simp only [pick, List.drop_succ_cons, List.drop_zero, List.head?_cons, Option.toList_some, List.append_nil]
            refine wpHeld_nil ?_
            go_wp2_with fail
            exact bodyPost_ret (v := .tuple #[.agg (clA (setG a G)), .bool R]) (by simp [results, Try.results60, asAddr, hlv]) rfl ⟨rfl, hb7⟩
    · simp only [pick, List.drop_succ_cons, List.drop_zero, List.head?_cons, Option.toList_some, List.append_nil]
      go_wp2_with fail
      refine ⟨⟨kA7, kB7⟩, ?_⟩
      refine wpBush_two 1 2 (by kernel_rfl) ?_ ?_
      · simp only [pick, List.drop_succ_cons, List.drop_zero, List.head?_cons, Option.toList_some, List.append_nil]
        refine load_cl rfl (x := .tmp 2) rfl rfl kA7 ?_
        go_wp2_with fail
        refine ⟨⟨kA7, kB7⟩, ?_⟩
        refine wpBush_one 2 (by kernel_rfl) ?_
        · simp only [pick, List.drop_succ_cons, List.drop_zero, List.head?_cons, Option.toList_some, List.append_nil]
          refine load_cl rfl (x := .tmp 3) rfl rfl kB7 ?_
          go_wp2_with fail
          refine ⟨⟨kA7, kB7⟩, ?_⟩
          refine wpBush_one 3 (by kernel_rfl) ?_
          · simp only [pick, List.drop_succ_cons, List.drop_zero, List.head?_cons, Option.toList_some, List.append_nil]
            go_wp2_with fail
            refine ⟨⟨kA7, kB7⟩, ?_⟩
            refine wpBush_end (by kernel_rfl) (by kernel_rfl) (by kernel_rfl) ?_
            simp only [pick, List.drop_succ_cons, List.drop_zero, List.head?_cons, Option.toList_some, List.append_nil]
            refine wpHeld_nil ?_
            go_wp2_with fail
            exact bodyPost_ret (v := .tuple #[.agg (clA (setG a G)), .bool R]) (by simp [results, Try.results60, asAddr, hlv]) rfl ⟨rfl, hb7⟩
      · simp only [pick, List.drop_succ_cons, List.drop_zero, List.head?_cons, Option.toList_some, List.append_nil]
        refine load_cl rfl (x := .tmp 3) rfl rfl kB7 ?_
        go_wp2_with fail
        refine ⟨⟨kA7, kB7⟩, ?_⟩
        refine wpBush_one 1 (by kernel_rfl) ?_
        · simp only [pick, List.drop_succ_cons, List.drop_zero, List.head?_cons, Option.toList_some, List.append_nil]
          refine load_cl rfl (x := .tmp 2) rfl rfl kA7 ?_
          go_wp2_with fail
          refine ⟨⟨kA7, kB7⟩, ?_⟩
          refine wpBush_one 3 (by kernel_rfl) ?_
          · simp only [pick, List.drop_succ_cons, List.drop_zero, List.head?_cons, Option.toList_some, List.append_nil]
            go_wp2_with fail
            refine ⟨⟨kA7, kB7⟩, ?_⟩
            refine wpBush_end (by kernel_rfl) (by kernel_rfl) (by kernel_rfl) ?_
            simp only [pick, List.drop_succ_cons, List.drop_zero, List.head?_cons, Option.toList_some, List.append_nil]
            refine wpHeld_nil ?_
            go_wp2_with fail
            exact bodyPost_ret (v := .tuple #[.agg (clA (setG a G)), .bool R]) (by simp [results, Try.results60, asAddr, hlv]) rfl ⟨rfl, hb7⟩
end Go.Proofs.Ytaicbllfkehhjaa

/- Drop and Put on a page. -/
namespace Go.Proofs.Ytaicbllfkehhjaa
open Go.RowKit

theorem zeroCl (w : World) : (zeroValue 56).run Try.prog w = .ok (.agg #[.int .i64 0, .int .i64 0, .int .i64 0, .int .i64 0, .int .i64 0, .string ⟨#[]⟩, .string ⟨#[]⟩, .string ⟨#[]⟩, .string ⟨#[]⟩, .int .i64 0, .string ⟨#[]⟩, .string ⟨#[]⟩, .string ⟨#[]⟩, .string ⟨#[]⟩, .string ⟨#[]⟩, .bool false, .int .i64 0, .string ⟨#[]⟩, .string ⟨#[]⟩, .bool false]) w := by kernel_rfl
def zcl : Cl := ⟨z2, z2, (0, ⟨#[]⟩, ⟨#[]⟩, ⟨#[]⟩, ⟨#[]⟩, (0, ⟨#[]⟩, ⟨#[]⟩, ⟨#[]⟩, ⟨#[]⟩, ⟨#[]⟩, false), 0, ⟨#[]⟩, ⟨#[]⟩), false⟩
theorem zcl_A : clA zcl = #[.int .i64 0, .int .i64 0, .int .i64 0, .int .i64 0, .int .i64 0, .string ⟨#[]⟩, .string ⟨#[]⟩, .string ⟨#[]⟩, .string ⟨#[]⟩, .int .i64 0, .string ⟨#[]⟩, .string ⟨#[]⟩, .string ⟨#[]⟩, .string ⟨#[]⟩, .string ⟨#[]⟩, .bool false, .int .i64 0, .string ⟨#[]⟩, .string ⟨#[]⟩, .bool false] := rfl
theorem getC_in {L L' : List Cl} (_hu : Uq L) (p : L'.Perm L) {t : St2} {c : Cl} (h : getC L t = some c) : (Value.agg (stA t), Value.agg (clA c)) ∈ kvs L' := by
  obtain ⟨h1, h2⟩ := getC_mem h
  subst h2
  exact List.mem_map.2 ⟨c, p.mem_iff.2 h1, rfl⟩
theorem getC_out {L L' : List Cl} (p : L'.Perm L) {t : St2} (h : getC L t = none) : ∀ q ∈ kvs L', q.1 ≠ .agg (stA t) := fun q hq e => by
  obtain ⟨c, hc, rfl⟩ := List.mem_map.1 hq
  exact getC_none.1 h c (p.mem_iff.1 hc) (stA_inj e)
/-- The clause at a stamp, or none. -/
def atC (L : List Cl) (t : St2) : Cl := (getC L t).getD zcl
theorem look_any {w : World} {b : Nat} {L L' : List Cl} (hu : Uq L) (h : MapV w b (kvs L')) (p : L'.Perm L) (t : St2) :
    (Instr.lookup 53 (.map (some b)) (.agg #[.int .i64 t.1, .int .i64 t.2]) true).run Try.prog w = .ok (.tuple #[.agg (clA (atC L t)), .bool (getC L t).isSome]) w := by
  cases hg : getC L t with
  | some c =>
    have := h.look_some (P := Try.prog) kysS Try.underlying53 kvs_key (getC_in hu p hg) true
    unfold atC
    rw [hg]
    exact this
  | none =>
    have := h.look_none (P := Try.prog) kysS Try.underlying53 kvs_key ⟨t, rfl⟩ (getC_out p hg) (zeroCl w) true
    unfold atC
    rw [hg]
    exact this
theorem kvs_set {L : List Cl} {c : Cl} : (kvs L).map (upV (.agg (stA c.id)) (.agg (clA c))) = kvs (setC L c) := by
  unfold kvs setC
  rw [List.map_map, List.map_map]
  refine List.map_congr_left fun x _ => ?_
  simp only [Function.comp_apply]
  by_cases h : x.id = c.id
  · rw [upV_pos (show (kvC x).1 = _ by unfold kvC; rw [h]), show repC c x = c from if_pos h]; rfl
  · rw [upV_neg (show ¬ (kvC x).1 = _ from fun e => h (stA_inj e)), show repC c x = x from if_neg h]
theorem upd_old {w : World} {b : Nat} {L L' : List Cl} (hu : Uq L) (h : MapV w b (kvs L')) (p : L'.Perm L) {c old : Cl} {t : St2} (ht : c.id = t) (ho : getC L t = some old) :
    ∃ w', (Instr.mapUpdate 53 (.map (some b)) (.agg #[.int .i64 t.1, .int .i64 t.2]) (.agg (clA c))).run Try.prog w = .ok () w' ∧ MapV w' b (kvs (setC L' c)) ∧ (setC L' c).Perm (setC L c) ∧ w.grownBy w' (some b) := by
  subst ht
  obtain ⟨w', h1, h2, h3⟩ := h.upd_some (P := Try.prog) kysS Try.underlying53 kvs_key (getC_in hu p ho) (.agg (clA c))
  rw [kvs_set] at h2
  exact ⟨w', h1, h2, p.map _, h3⟩
theorem upd_new {w : World} {b : Nat} {L L' : List Cl} (h : MapV w b (kvs L')) (p : L'.Perm L) {c : Cl} {t : St2} (ht : c.id = t) (ho : getC L t = none) :
    ∃ w', (Instr.mapUpdate 53 (.map (some b)) (.agg #[.int .i64 t.1, .int .i64 t.2]) (.agg (clA c))).run Try.prog w = .ok () w' ∧ MapV w' b (kvs (L' ++ [c])) ∧ (L' ++ [c]).Perm (L ++ [c]) ∧ w.grownBy w' (some b) := by
  subst ht
  obtain ⟨w', h1, h2, h3⟩ := h.upd_none (P := Try.prog) kysS Try.underlying53 kvs_key ⟨c.id, rfl⟩ (getC_out p ho) (.agg (clA c))
  refine ⟨w', h1, ?_, p.append_right _, h3⟩
  unfold kvs at *
  rw [List.map_append]
  exact h2
set_option maxRecDepth 100000 in
set_option maxHeartbeats 8000000 in
theorem drop_any (w : World) (p b : Nat) (L : List Cl) (h : PgAt w p b L) (hu : Uq L) (t : St2) :
    Calls Try.prog 49 #[.pointer (some ⟨p, 0, none⟩), .agg (stA t)] w fun e w' => e = .returned (.int .i64 (dropS L t).2) ∧ PgAt w' p b (dropS L t).1 ∧ Only (fun i => i = b) w w' := by
  have hpb := h.ne
  obtain ⟨hp, L', hm, hperm⟩ := h
  have kS := Blk.new w 33 (stA t)
  have kP := hp.alloc (.cells (stA t) 33)
  have kM := hm.alloc (.cells (stA t) 33)
  have hb := (Below.refl w.heap.size w).alloc (Nat.le_refl _) (.cells (stA t) 33)
  have HD := Lib.hid (show dropS L t = dropS L t from rfl)
  obtain ⟨D, hD⟩ : ∃ d, dropS L t = d := ⟨_, rfl⟩
  rw [hD]
  clear HD
  have HD := Lib.hid hD
  clear hD
  go_enter Try.func49, Try.ntmps49
  go_upto_region 3 with fail
  generalize w.alloc (.cells (stA t) 33) = w2 at *
  go_cut [5, 6] from 9 to 17 (fun v5 v6 wx => v5 = .pointer (some ⟨w2.heap.size, 0, none⟩) ∧ v6 = .bool (getC L t).isSome ∧ wx = w2.drew.alloc (.cells (clA (atC L t)) 56))
  case first =>
    refine wp_region_bush (fun W => Blk W p 98 #[.map (some b)] ∧ Blk W w.heap.size 33 (stA t) ∧ MapV W b (kvs L')) [0, 1, 2, 3, 4, 5, 6, 7] 3 [] [11] (by kernel_rfl) (by kernel_rfl) (fun _ d _ _ _ h => by cases d <;> exact h) ⟨kP.drew, kS.drew, kM⟩ ?_
    simp only [pick, List.drop_succ_cons, List.drop_zero, List.head?_cons, Option.toList_some, List.cons_append, List.nil_append, List.append_nil]
    repeat (refine wpHeld_step ?_ rfl ?_ ?_; rotate_left; · (intro W hW; have g1 : W.cell? ⟨p, 0, none⟩ = some (.map (some b)) := hW.1.cell 0; have g2 : W.cell? ⟨w.heap.size, 0, none⟩ = some (.int .i64 t.1) := hW.2.1.cell 0; have g3 : W.cell? ⟨w.heap.size, 1, none⟩ = some (.int .i64 t.2) := hW.2.1.cell 1; have g4 := look_any hu hW.2.2 hperm t; go_simp; with_reducible rfl))
    refine wpHeld_nil ?_
    have kP3 := kP.drew
    have kS3 := kS.drew
    have kM3 := (show MapV w2.drew _ _ from kM)
    obtain ⟨w3, hw3⟩ : ∃ W, w2.drew = W := ⟨_, rfl⟩
    rw [hw3] at kP3
    rw [hw3] at kS3
    rw [hw3] at kM3
    simp only [hw3]
    have HW3 := Lib.hid hw3
    clear hw3
    have hcz := clA_size (atC L t)
    have hpc := put_cl w3 (atC L t)
    refine wpBush_two 8 9 (by kernel_rfl) ?_ ?_
    · simp only [pick, List.drop_succ_cons, List.drop_zero, List.head?_cons, Option.toList_some, List.append_nil]
      go_wp2_with fail
      refine ⟨⟨kP3, kS3, kM3⟩, ?_⟩
      refine wpBush_one 9 (by kernel_rfl) ?_
      simp only [pick, List.drop_succ_cons, List.drop_zero, List.head?_cons, Option.toList_some, List.append_nil]
      go_wp2_with fail
      refine ⟨⟨kP3.alloc _, kS3.alloc _, kM3.alloc _⟩, ?_⟩
      refine wpBush_one 10 (by kernel_rfl) ?_
      simp only [pick, List.drop_succ_cons, List.drop_zero, List.head?_cons, Option.toList_some, List.append_nil]
      go_wp2_with fail
      refine ⟨⟨kP3.alloc _, kS3.alloc _, kM3.alloc _⟩, ?_⟩
      refine wpBush_end (by kernel_rfl) (by kernel_rfl) (by kernel_rfl) ?_
      simp only [pick, List.drop_succ_cons, List.drop_zero, List.head?_cons, Option.toList_some, List.append_nil]
      refine wpHeld_nil ?_
      go_wp2_with fail
      go_meet
      subst_eqs; obtain rfl := HW3.out; exact ⟨rfl, rfl, rfl⟩
    · simp only [pick, List.drop_succ_cons, List.drop_zero, List.head?_cons, Option.toList_some, List.append_nil]
      go_wp2_with fail
      refine ⟨⟨kP3.alloc _, kS3.alloc _, kM3.alloc _⟩, ?_⟩
      refine wpBush_two 8 10 (by kernel_rfl) ?_ ?_
      · simp only [pick, List.drop_succ_cons, List.drop_zero, List.head?_cons, Option.toList_some, List.append_nil]
        go_wp2_with fail
        refine ⟨⟨kP3.alloc _, kS3.alloc _, kM3.alloc _⟩, ?_⟩
        refine wpBush_one 10 (by kernel_rfl) ?_
        simp only [pick, List.drop_succ_cons, List.drop_zero, List.head?_cons, Option.toList_some, List.append_nil]
        go_wp2_with fail
        refine ⟨⟨kP3.alloc _, kS3.alloc _, kM3.alloc _⟩, ?_⟩
        refine wpBush_end (by kernel_rfl) (by kernel_rfl) (by kernel_rfl) ?_
        simp only [pick, List.drop_succ_cons, List.drop_zero, List.head?_cons, Option.toList_some, List.append_nil]
        refine wpHeld_nil ?_
        go_wp2_with fail
        go_meet
        subst_eqs; obtain rfl := HW3.out; exact ⟨rfl, rfl, rfl⟩
      · simp only [pick, List.drop_succ_cons, List.drop_zero, List.head?_cons, Option.toList_some, List.append_nil]
        go_wp2_with fail
        refine ⟨⟨kP3.alloc _, kS3.alloc _, kM3.alloc _⟩, ?_⟩
        refine wpBush_one 8 (by kernel_rfl) ?_
        simp only [pick, List.drop_succ_cons, List.drop_zero, List.head?_cons, Option.toList_some, List.append_nil]
        go_wp2_with fail
        refine ⟨⟨kP3.alloc _, kS3.alloc _, kM3.alloc _⟩, ?_⟩
        refine wpBush_end (by kernel_rfl) (by kernel_rfl) (by kernel_rfl) ?_
        simp only [pick, List.drop_succ_cons, List.drop_zero, List.head?_cons, Option.toList_some, List.append_nil]
        refine wpHeld_nil ?_
        go_wp2_with fail
        go_meet
        subst_eqs; obtain rfl := HW3.out; exact ⟨rfl, rfl, rfl⟩
  case rest =>
    obtain ⟨rfl, rfl, rfl⟩ := hcut
    have kC := Blk.new w2.drew 56 (clA (atC L t))
    have kP3 := kP.drew.alloc (.cells (clA (atC L t)) 56)
    have kS3 := kS.drew.alloc (.cells (clA (atC L t)) 56)
    have kM3 : MapV (w2.drew.alloc (.cells (clA (atC L t)) 56)) b (kvs L') := (show MapV w2.drew _ _ from kM).alloc _
    have hb3 := hb.drew.alloc hb.size (.cells (clA (atC L t)) 56)
    have hsz : w2.drew.heap.size = w2.heap.size := rfl
    rw [hsz] at kC
    have hltS := kS.lt
    have hltb := kM.lt
    have hltp := kP.lt
    have hg0 := hm.lt
    have hp0 := hp.lt
    generalize w2.drew.alloc (.cells (clA (atC L t)) 56) = w4 at *
    generalize w2.heap.size = gc at *
    clear hsz kP kS kM hb
    cases hgt : getC L t with
    | none =>
      have hfin : D = (L, 11) := by rw [← HD.out]; unfold dropS; rw [hgt]
      subst hfin
      clear HD kC kS3
      go_wp2
      go_ret
      exact ⟨rfl, ⟨kP3, L', kM3, hperm⟩, Only.of_below hb3 _⟩
    | some c =>
      have hat : atC L t = c := by unfold atC; rw [hgt]; rfl
      rw [hat] at kC
      have hfin : D = (setC L { c with gone := true }, 0) := by rw [← HD.out]; unfold dropS; rw [hgt]
      subst hfin
      obtain ⟨rfl⟩ : c.id = t := (getC_mem hgt).2
      clear HD hat
      have c19 := kC.cell 19
      rw [show (clA c)[19]? = some (.bool c.gone) from rfl] at c19
      have f19 := kC.frozen 19
      go_upto_region 7 with fail
      clear c19 f19
      have kC4 := kC.set_ 19 (.bool true)
      rw [clA_set] at kC4
      have kP4 := kP3.far (p := ⟨gc, 19, none⟩) (by show p ≠ gc; omega) (.bool true)
      have kS4 := kS3.far (p := ⟨gc, 19, none⟩) (by show w.heap.size ≠ gc; omega) (.bool true)
      have kM4 : MapV (w4.setCell ⟨gc, 19, none⟩ (.bool true)) b (kvs L') := kM3.of_block (Below.heap_setCell w4 ⟨gc, 19, none⟩ (.bool true) b (by show b ≠ gc; omega))
      have hb4 := hb3.setCell (p := ⟨gc, 19, none⟩) (by show w.heap.size ≤ gc; omega) (.bool true)
      generalize w4.setCell ⟨gc, 19, none⟩ (.bool true) = w5 at *
      clear kC kP3 kS3 kM3 hb3
      refine wp_region_hold (fun W => Blk W p 98 #[.map (some b)] ∧ Blk W w.heap.size 33 (stA c.id) ∧ Blk W gc 56 (clA (setG c true))) [0, 1, 2, 3, 4, 5] [] [6] (by kernel_rfl) (by kernel_rfl) (fun _ d _ _ _ h => by cases d <;> exact h) ⟨kP4.drew, kS4.drew, kC4.drew⟩ ?_
      simp only [pick, List.drop_succ_cons, List.drop_zero, List.head?_cons, Option.toList_some, List.cons_append, List.nil_append, List.append_nil]
      iterate 5 (refine wpHeld_step ?_ rfl ?_ ?_; rotate_left; · (intro W hW; have g1 : W.cell? ⟨p, 0, none⟩ = some (.map (some b)) := hW.1.cell 0; have g2 : W.cell? ⟨w.heap.size, 0, none⟩ = some (.int .i64 c.id.1) := hW.2.1.cell 0; have g3 : W.cell? ⟨w.heap.size, 1, none⟩ = some (.int .i64 c.id.2) := hW.2.1.cell 1; go_simp; with_reducible rfl))
      refine wpHeld_step ?_ rfl ?_ ?_
      rotate_left
      · intro W hW; refine exec_load_cl (x := .tmp 5) ?_ ?_ hW.2.2 <;> rfl
      refine wpHeld_nil ?_
      simp only [wpEarly]
      obtain ⟨w6, hrun, hM, hPerm, hgr⟩ := upd_old hu (show MapV w5.drew b (kvs L') from kM4) hperm (c := setG c true) (t := c.id) rfl hgt
      have kP6 := kP4.drew.grown hgr (by intro e; injection e with e; omega)
      have hO : Only (fun i => i = b) w w6 := (Only.of_below hb4.drew _).trans ((Only.of_grown hgr).mono fun i hi => by injection hi with hi; exact hi.symm) fun i hi => .inl hi
      clear kP4 kS4 kC4 kM4 hb4 hgr
      generalize clA (setG c true) = CC at *
      generalize w5.drew = w7 at *
      go_wp2_with fail
      go_ret
      exact ⟨rfl, ⟨kP6, _, hM, hPerm⟩, hO⟩

set_option maxRecDepth 100000 in
set_option maxHeartbeats 16000000 in
theorem put_any (w : World) (p b : Nat) (L : List Cl) (h : PgAt w p b L) (hu : Uq L) (hl : L.length ≤ 1000000) (c : Cl) :
    Calls Try.prog 46 #[.pointer (some ⟨p, 0, none⟩), .agg (clA c)] w fun e w' => e = .returned (.int .i64 (putS L c).2) ∧ PgAt w' p b (putS L c).1 ∧ Only (fun i => i = b) w w' := by
  have hpb := h.ne
  obtain ⟨hp, L', hm, hperm⟩ := h
  have hlp := hp.lt
  have hlb := hm.lt
  have kC := Blk.new w 56 (clA c)
  have kP := hp.alloc (.cells (clA c) 56)
  have kM := hm.alloc (.cells (clA c) 56)
  have hb := (Below.refl w.heap.size w).alloc (Nat.le_refl _) (.cells (clA c) 56)
  have hez : ∀ W : World, (Op.equalIn 10000 33 (.agg #[.int .i64 c.after.1, .int .i64 c.after.2]) (.agg #[.int .i64 0, .int .i64 0])).run Try.prog W = .ok (decide (c.after = z2)) W := eq_st c.after z2
  have HPR := Lib.hid (fun W => proper_any W c)
  obtain ⟨D, hD⟩ : ∃ d, putS L c = d := ⟨_, rfl⟩
  rw [hD]
  have HD := Lib.hid hD
  have hcz := clA_size c
  clear hD hp hm
  go_enter Try.func46, Try.ntmps46
  go_wp2_with (refine load_clg rfl (x := .tmp 3) rfl rfl kC ?_)
  refine (HPR.out _).mono ?_
  rintro e w2 ⟨rfl, q1⟩
  have hb2 := hb.trans (q1.mono hb.size)
  have kC2 := kC.below q1 kC.lt
  have kP2 := kP.below q1 kP.lt
  have kM2 := kM.below q1 kM.lt
  clear kC kP kM hb q1 HPR
  obtain ⟨pr, hpr⟩ : ∃ x, properC c = x := ⟨_, rfl⟩
  rw [hpr]
  cases pr with
  | false =>
    have hfin : D = (L, 1) := by rw [← HD.out]; unfold putS; rw [if_pos hpr]
    subst hfin
    clear HD hpr hez
    go_wp2
    go_ret
    exact ⟨rfl, ⟨kP2, L', kM2, hperm⟩, Only.of_below hb2 _⟩
  | true =>
    have HPT := Lib.hid hpr
    have hltC := kC2.lt
    clear hpr
    go_upto_region 3 with fail
    go_cut [5, 6] from 18 to 27 (fun v5 v6 wx => v5 = .pointer (some ⟨w2.heap.size, 0, none⟩) ∧ v6 = .bool (getC L c.id).isSome ∧ wx = w2.drew.alloc (.cells (clA (atC L c.id)) 56))
    case first =>
      clear hez
      refine wp_region_bush (fun W => Blk W p 98 #[.map (some b)] ∧ Blk W w.heap.size 56 (clA c) ∧ MapV W b (kvs L')) [0, 1, 2, 3, 4, 5, 6, 7, 8] 3 [] [12] (by kernel_rfl) (by kernel_rfl) (fun _ d _ _ _ h => by cases d <;> exact h) ⟨kP2.drew, kC2.drew, kM2⟩ ?_
      simp only [pick, List.drop_succ_cons, List.drop_zero, List.head?_cons, Option.toList_some, List.cons_append, List.nil_append, List.append_nil]
      repeat (refine wpHeld_step ?_ rfl ?_ ?_; rotate_left; · (intro W hW; have g1 : W.cell? ⟨p, 0, none⟩ = some (.map (some b)) := hW.1.cell 0; obtain ⟨e0, e1, e2, e3, -⟩ := cl_cells hW.2.1; have g4 := look_any hu hW.2.2 hperm c.id; go_simp; with_reducible rfl))
      refine wpHeld_nil ?_
      have kP := kP2
      have kC := kC2
      have kM := kM2
      have kP3 := kP.drew
      have kC3 := kC.drew
      have kM3 := (show MapV w2.drew _ _ from kM)
      obtain ⟨w3, hw3⟩ : ∃ W, w2.drew = W := ⟨_, rfl⟩
      rw [hw3] at kP3
      rw [hw3] at kC3
      rw [hw3] at kM3
      simp only [hw3]
      have HW3 := Lib.hid hw3
      clear hw3
      have hcz := clA_size (atC L c.id)
      have hpc := put_cl w3 (atC L c.id)
      refine wpBush_two 9 10 (by kernel_rfl) ?_ ?_
      · simp only [pick, List.drop_succ_cons, List.drop_zero, List.head?_cons, Option.toList_some, List.append_nil]
        go_wp2_with fail
        refine ⟨⟨kP3, kC3, kM3⟩, ?_⟩
        refine wpBush_one 10 (by kernel_rfl) ?_
        simp only [pick, List.drop_succ_cons, List.drop_zero, List.head?_cons, Option.toList_some, List.append_nil]
        go_wp2_with fail
        refine ⟨⟨kP3.alloc _, kC3.alloc _, kM3.alloc _⟩, ?_⟩
        refine wpBush_one 11 (by kernel_rfl) ?_
        simp only [pick, List.drop_succ_cons, List.drop_zero, List.head?_cons, Option.toList_some, List.append_nil]
        go_wp2_with fail
        refine ⟨⟨kP3.alloc _, kC3.alloc _, kM3.alloc _⟩, ?_⟩
        refine wpBush_end (by kernel_rfl) (by kernel_rfl) (by kernel_rfl) ?_
        simp only [pick, List.drop_succ_cons, List.drop_zero, List.head?_cons, Option.toList_some, List.append_nil]
        refine wpHeld_nil ?_
        go_wp2_with fail
        go_meet
        subst_eqs; obtain rfl := HW3.out; exact ⟨rfl, rfl, rfl⟩
      · simp only [pick, List.drop_succ_cons, List.drop_zero, List.head?_cons, Option.toList_some, List.append_nil]
        go_wp2_with fail
        refine ⟨⟨kP3.alloc _, kC3.alloc _, kM3.alloc _⟩, ?_⟩
        refine wpBush_two 9 11 (by kernel_rfl) ?_ ?_
        · simp only [pick, List.drop_succ_cons, List.drop_zero, List.head?_cons, Option.toList_some, List.append_nil]
          go_wp2_with fail
          refine ⟨⟨kP3.alloc _, kC3.alloc _, kM3.alloc _⟩, ?_⟩
          refine wpBush_one 11 (by kernel_rfl) ?_
          simp only [pick, List.drop_succ_cons, List.drop_zero, List.head?_cons, Option.toList_some, List.append_nil]
          go_wp2_with fail
          refine ⟨⟨kP3.alloc _, kC3.alloc _, kM3.alloc _⟩, ?_⟩
          refine wpBush_end (by kernel_rfl) (by kernel_rfl) (by kernel_rfl) ?_
          simp only [pick, List.drop_succ_cons, List.drop_zero, List.head?_cons, Option.toList_some, List.append_nil]
          refine wpHeld_nil ?_
          go_wp2_with fail
          go_meet
          subst_eqs; obtain rfl := HW3.out; exact ⟨rfl, rfl, rfl⟩
        · simp only [pick, List.drop_succ_cons, List.drop_zero, List.head?_cons, Option.toList_some, List.append_nil]
          go_wp2_with fail
          refine ⟨⟨kP3.alloc _, kC3.alloc _, kM3.alloc _⟩, ?_⟩
          refine wpBush_one 9 (by kernel_rfl) ?_
          simp only [pick, List.drop_succ_cons, List.drop_zero, List.head?_cons, Option.toList_some, List.append_nil]
          go_wp2_with fail
          refine ⟨⟨kP3.alloc _, kC3.alloc _, kM3.alloc _⟩, ?_⟩
          refine wpBush_end (by kernel_rfl) (by kernel_rfl) (by kernel_rfl) ?_
          simp only [pick, List.drop_succ_cons, List.drop_zero, List.head?_cons, Option.toList_some, List.append_nil]
          refine wpHeld_nil ?_
          go_wp2_with fail
          go_meet
          subst_eqs; obtain rfl := HW3.out; exact ⟨rfl, rfl, rfl⟩
    case rest =>
      obtain ⟨rfl, rfl, rfl⟩ := hcut
      have kO := Blk.new w2.drew 56 (clA (atC L c.id))
      have kP3 := kP2.drew.alloc (.cells (clA (atC L c.id)) 56)
      have kC3 := kC2.drew.alloc (.cells (clA (atC L c.id)) 56)
      have kM3 : MapV (w2.drew.alloc (.cells (clA (atC L c.id)) 56)) b (kvs L') := (show MapV w2.drew _ _ from kM2).alloc _
      have hb3 := hb2.drew.alloc hb2.size (.cells (clA (atC L c.id)) 56)
      have hsz : w2.drew.heap.size = w2.heap.size := rfl
      rw [hsz] at kO
      generalize w2.drew.alloc (.cells (clA (atC L c.id)) 56) = w4 at *
      generalize w2.heap.size = gc at *
      clear hsz kP2 kC2 kM2 hb2
      cases hgt : getC L c.id with
      | some old =>
        have hat : atC L c.id = old := by unfold atC; rw [hgt]; rfl
        rw [hat] at kO
        clear hat hez
        have HMR := Lib.hid (fun W => merge_any W old c)
        go_wp2_with (first
          | (refine load_cl rfl (x := .tmp 5) rfl rfl kO ?_)
          | (refine load_cl rfl (x := .tmp 3) rfl rfl kC3 ?_))
        refine (HMR.out _).mono ?_
        rintro e w5 ⟨rfl, q1⟩
        have hb5 := hb3.trans (q1.mono hb3.size)
        have kC5 := kC3.below q1 kC3.lt
        have kP5 := kP3.below q1 kP3.lt
        have kM5 := kM3.below q1 kM3.lt
        clear HMR kO kP3 kC3 kM3 hb3 q1
        obtain ⟨same, hsame⟩ : ∃ x, sameC old c = x := ⟨_, rfl⟩
        have hpc := put_cl w5 (mrgC old c)
        have hcm := clA_size (mrgC old c)
        have kN := Blk.new w5 56 (clA (mrgC old c))
        have kC6 := kC5.alloc (.cells (clA (mrgC old c)) 56)
        have kP6 := kP5.alloc (.cells (clA (mrgC old c)) 56)
        have kM6 := kM5.alloc (.cells (clA (mrgC old c)) 56)
        have hb6 := hb5.alloc hb5.size (.cells (clA (mrgC old c)) 56)
        have hs5 := hb5.size
        clear kC5 kP5 kM5 hb5
        unfold TupC
        rw [hsame]
        cases same with
        | false =>
          have hfin : D = (L, 9) := by rw [← HD.out]; unfold putS; rw [if_neg (by rw [HPT.out]; decide), hgt]; simp only; rw [hsame]; rfl
          subst hfin
          clear HD HPT hsame kN kC6
          go_wp2
          go_ret
          exact ⟨rfl, ⟨kP6, L', kM6, hperm⟩, Only.of_below hb6 _⟩
        | true =>
          have hfin : D = (setC L (mrgC old c), 0) := by rw [← HD.out]; unfold putS; rw [if_neg (by rw [HPT.out]; decide), hgt]; simp only; rw [hsame]; rfl
          have hid : (mrgC old c).id = c.id := (getC_mem hgt).2
          subst hfin
          clear HD HPT hsame
          go_upto_region 8 with fail
          clear hpc
          generalize w5.alloc (.cells (clA (mrgC old c)) 56) = w6 at *
          generalize w5.heap.size = gm at *
          refine wp_region_hold (fun W => Blk W p 98 #[.map (some b)] ∧ Blk W w.heap.size 56 (clA c) ∧ Blk W gm 56 (clA (mrgC old c))) [0, 1, 2, 3, 4, 5, 6] [] [7] (by kernel_rfl) (by kernel_rfl) (fun _ d _ _ _ h => by cases d <;> exact h) ⟨kP6.drew, kC6.drew, kN.drew⟩ ?_
          simp only [pick, List.drop_succ_cons, List.drop_zero, List.head?_cons, Option.toList_some, List.cons_append, List.nil_append, List.append_nil]
          iterate 6 (refine wpHeld_step ?_ rfl ?_ ?_; rotate_left; · (intro W hW; have g1 : W.cell? ⟨p, 0, none⟩ = some (.map (some b)) := hW.1.cell 0; obtain ⟨e0, e1, e2, e3, -⟩ := cl_cells hW.2.1; go_simp; with_reducible rfl))
          refine wpHeld_step ?_ rfl ?_ ?_
          rotate_left
          · intro W hW; refine exec_load_cl (x := .tmp 7) ?_ ?_ hW.2.2 <;> rfl
          refine wpHeld_nil ?_
          simp only [wpEarly]
          obtain ⟨w7, hrun, hM, hPerm, hgr⟩ := upd_old hu (show MapV w6.drew b (kvs L') from kM6) hperm (c := mrgC old c) (t := c.id) hid hgt
          have kP7 := kP6.drew.grown hgr (by intro e; injection e with e; omega)
          have hO : Only (fun i => i = b) w w7 := (Only.of_below hb6.drew _).trans ((Only.of_grown hgr).mono fun i hi => by injection hi with hi; exact hi.symm) fun i hi => .inl hi
          clear kP6 kC6 kN kM6 hb6 hgr hid
          generalize clA (mrgC old c) = CC at *
          generalize w6.drew = w8 at *
          go_wp2_with fail
          go_ret
          exact ⟨rfl, ⟨kP7, _, hM, hPerm⟩, hO⟩
      | none =>
        clear kO
        go_upto_region 10 with fail
        go_cut [9, 10] from 44 to 53 (fun v9 v10 wx => v9 = .pointer (some ⟨w4.heap.size, 0, none⟩) ∧ v10 = .bool (getC L c.after).isSome ∧ wx = w4.drew.alloc (.cells (clA (atC L c.after)) 56))
        case first =>
          clear hez
          refine wp_region_bush (fun W => Blk W p 98 #[.map (some b)] ∧ Blk W w.heap.size 56 (clA c) ∧ MapV W b (kvs L')) [0, 1, 2, 3, 4, 5, 6, 7, 8] 3 [] [12] (by kernel_rfl) (by kernel_rfl) (fun _ d _ _ _ h => by cases d <;> exact h) ⟨kP3.drew, kC3.drew, kM3⟩ ?_
          simp only [pick, List.drop_succ_cons, List.drop_zero, List.head?_cons, Option.toList_some, List.cons_append, List.nil_append, List.append_nil]
          repeat (refine wpHeld_step ?_ rfl ?_ ?_; rotate_left; · (intro W hW; have g1 : W.cell? ⟨p, 0, none⟩ = some (.map (some b)) := hW.1.cell 0; obtain ⟨e0, e1, e2, e3, -⟩ := cl_cells hW.2.1; have g4 := look_any hu hW.2.2 hperm c.after; go_simp; with_reducible rfl))
          refine wpHeld_nil ?_
          have kP := kP3
          have kC := kC3
          have kM := kM3
          clear kP3 kC3 kM3
          have kP3 := kP.drew
          have kC3 := kC.drew
          have kM3 := (show MapV w4.drew _ _ from kM)
          obtain ⟨w3, hw3⟩ : ∃ W, w4.drew = W := ⟨_, rfl⟩
          rw [hw3] at kP3
          rw [hw3] at kC3
          rw [hw3] at kM3
          simp only [hw3]
          have HW3 := Lib.hid hw3
          clear hw3
          have hcz := clA_size (atC L c.after)
          have hpc := put_cl w3 (atC L c.after)
          refine wpBush_two 9 10 (by kernel_rfl) ?_ ?_
          · simp only [pick, List.drop_succ_cons, List.drop_zero, List.head?_cons, Option.toList_some, List.append_nil]
            go_wp2_with fail
            refine ⟨⟨kP3, kC3, kM3⟩, ?_⟩
            refine wpBush_one 10 (by kernel_rfl) ?_
            simp only [pick, List.drop_succ_cons, List.drop_zero, List.head?_cons, Option.toList_some, List.append_nil]
            go_wp2_with fail
            refine ⟨⟨kP3.alloc _, kC3.alloc _, kM3.alloc _⟩, ?_⟩
            refine wpBush_one 11 (by kernel_rfl) ?_
            simp only [pick, List.drop_succ_cons, List.drop_zero, List.head?_cons, Option.toList_some, List.append_nil]
            go_wp2_with fail
            refine ⟨⟨kP3.alloc _, kC3.alloc _, kM3.alloc _⟩, ?_⟩
            refine wpBush_end (by kernel_rfl) (by kernel_rfl) (by kernel_rfl) ?_
            simp only [pick, List.drop_succ_cons, List.drop_zero, List.head?_cons, Option.toList_some, List.append_nil]
            refine wpHeld_nil ?_
            go_wp2_with fail
            go_meet
            subst_eqs; obtain rfl := HW3.out; exact ⟨rfl, rfl, rfl⟩
          · simp only [pick, List.drop_succ_cons, List.drop_zero, List.head?_cons, Option.toList_some, List.append_nil]
            go_wp2_with fail
            refine ⟨⟨kP3.alloc _, kC3.alloc _, kM3.alloc _⟩, ?_⟩
            refine wpBush_two 9 11 (by kernel_rfl) ?_ ?_
            · simp only [pick, List.drop_succ_cons, List.drop_zero, List.head?_cons, Option.toList_some, List.append_nil]
              go_wp2_with fail
              refine ⟨⟨kP3.alloc _, kC3.alloc _, kM3.alloc _⟩, ?_⟩
              refine wpBush_one 11 (by kernel_rfl) ?_
              simp only [pick, List.drop_succ_cons, List.drop_zero, List.head?_cons, Option.toList_some, List.append_nil]
              go_wp2_with fail
              refine ⟨⟨kP3.alloc _, kC3.alloc _, kM3.alloc _⟩, ?_⟩
              refine wpBush_end (by kernel_rfl) (by kernel_rfl) (by kernel_rfl) ?_
              simp only [pick, List.drop_succ_cons, List.drop_zero, List.head?_cons, Option.toList_some, List.append_nil]
              refine wpHeld_nil ?_
              go_wp2_with fail
              go_meet
              subst_eqs; obtain rfl := HW3.out; exact ⟨rfl, rfl, rfl⟩
            · simp only [pick, List.drop_succ_cons, List.drop_zero, List.head?_cons, Option.toList_some, List.append_nil]
              go_wp2_with fail
              refine ⟨⟨kP3.alloc _, kC3.alloc _, kM3.alloc _⟩, ?_⟩
              refine wpBush_one 9 (by kernel_rfl) ?_
              simp only [pick, List.drop_succ_cons, List.drop_zero, List.head?_cons, Option.toList_some, List.append_nil]
              go_wp2_with fail
              refine ⟨⟨kP3.alloc _, kC3.alloc _, kM3.alloc _⟩, ?_⟩
              refine wpBush_end (by kernel_rfl) (by kernel_rfl) (by kernel_rfl) ?_
              simp only [pick, List.drop_succ_cons, List.drop_zero, List.head?_cons, Option.toList_some, List.append_nil]
              refine wpHeld_nil ?_
              go_wp2_with fail
              go_meet
              subst_eqs; obtain rfl := HW3.out; exact ⟨rfl, rfl, rfl⟩
        case rest =>
          obtain ⟨rfl, rfl, rfl⟩ := hcut
          have kP6 := kP3.drew.alloc (.cells (clA (atC L c.after)) 56)
          have kC6 := kC3.drew.alloc (.cells (clA (atC L c.after)) 56)
          have kM6 : MapV (w4.drew.alloc (.cells (clA (atC L c.after)) 56)) b (kvs L') := (show MapV w4.drew _ _ from kM3).alloc _
          have hb6 := hb3.drew.alloc hb3.size (.cells (clA (atC L c.after)) 56)
          generalize w4.drew.alloc (.cells (clA (atC L c.after)) 56) = w6 at *
          generalize w4.heap.size = ga at *
          clear kP3 kC3 kM3 hb3
          cases hga : getC L c.after with
          | some d =>
            have hop := open_any w6 b L' kM6 (by rw [hperm.length_eq]; exact hl)
            rw [openN_perm hperm] at hop
            have HOP := Lib.hid hop
            have hol : openN L ≤ 1000000 := Nat.le_trans List.countP_le_length hl
            clear hop hez
            obtain ⟨f0, f1, f2, f3, f19⟩ := cl_cells kC6
            have g1 : w6.cell? ⟨p, 0, none⟩ = some (.map (some b)) := kP6.cell 0
            cases hgn : c.gone with
            | true =>
              rw [hgn] at f19
              have hfin : D = (L ++ [c], 0) := by rw [← HD.out]; unfold putS; rw [if_neg (by rw [HPT.out]; decide), hgt]; simp only; rw [if_neg (fun h => by rw [hga] at h; exact absurd h.2 (by simp)), if_neg (by rw [hgn]; simp)]
              subst hfin
              clear HD HPT HOP hgn
              go_upto_region 15 with fail
              refine wp_region_hold (fun W => Blk W p 98 #[.map (some b)] ∧ Blk W w.heap.size 56 (clA c)) [0, 1, 2, 3, 4, 5, 6] [] [7] (by kernel_rfl) (by kernel_rfl) (fun _ d _ _ _ h => by cases d <;> exact h) ⟨kP6.drew, kC6.drew⟩ ?_
              simp only [pick, List.drop_succ_cons, List.drop_zero, List.head?_cons, Option.toList_some, List.cons_append, List.nil_append, List.append_nil]
              iterate 6 (refine wpHeld_step ?_ rfl ?_ ?_; rotate_left; · (intro W hW; have g1 : W.cell? ⟨p, 0, none⟩ = some (.map (some b)) := hW.1.cell 0; obtain ⟨e0, e1, e2, e3, -⟩ := cl_cells hW.2; go_simp; with_reducible rfl))
              refine wpHeld_step ?_ rfl ?_ ?_
              rotate_left
              · intro W hW; refine exec_load_cl (x := .tmp 3) ?_ ?_ hW.2 <;> rfl
              refine wpHeld_nil ?_
              simp only [wpEarly]
              obtain ⟨w8, hrun, hM, hPerm, hgr⟩ := upd_new (show MapV w6.drew b (kvs L') from kM6) hperm (c := c) (t := c.id) rfl hgt
              have kP8 := kP6.drew.grown hgr (by intro e; injection e with e; omega)
              have hO : Only (fun i => i = b) w w8 := (Only.of_below hb6.drew _).trans ((Only.of_grown hgr).mono fun i hi => by injection hi with hi; exact hi.symm) fun i hi => .inl hi
              clear kP6 kC6 kM6 hb6 hgr
              generalize clA c = CC at *
              generalize w6.drew = w9 at *
              go_wp2_with fail
              go_ret
              exact ⟨rfl, ⟨kP8, _, hM, hPerm⟩, hO⟩
            | false =>
              rw [hgn] at f19
              by_cases h64 : 64 ≤ openN L
              · have hd64 : decide (64 ≤ ((openN L : Nat) : Int)) = true := decide_eq_true (by omega)
                have hfin : D = (L, 27) := by rw [← HD.out]; unfold putS; rw [if_neg (by rw [HPT.out]; decide), hgt]; simp only; rw [if_neg (fun h => by rw [hga] at h; exact absurd h.2 (by simp)), if_pos ⟨hgn, h64⟩]
                subst hfin
                clear HD HPT hgn h64
                go_wp2_with fail
                refine HOP.out.mono ?_
                rintro e w7 ⟨rfl, q2⟩
                have hb7 := hb6.trans (q2.mono hb6.size)
                have kP7 := kP6.below q2 kP6.lt
                have kM7 := kM6.below q2 kM6.lt
                clear HOP kP6 kM6 kC6 hb6 q2 g1 f0 f1 f2 f3 f19
                go_wp2
                go_ret
                exact ⟨rfl, ⟨kP7, L', kM7, hperm⟩, Only.of_below hb7 _⟩
              · have hd64 : decide (64 ≤ ((openN L : Nat) : Int)) = false := decide_eq_false (by omega)
                have hfin : D = (L ++ [c], 0) := by rw [← HD.out]; unfold putS; rw [if_neg (by rw [HPT.out]; decide), hgt]; simp only; rw [if_neg (fun h => by rw [hga] at h; exact absurd h.2 (by simp)), if_neg (fun h => h64 h.2)]
                subst hfin
                clear HD HPT hgn h64
                go_wp2_with fail
                refine HOP.out.mono ?_
                rintro e w7 ⟨rfl, q2⟩
                have hb7 := hb6.trans (q2.mono hb6.size)
                have kP7 := kP6.below q2 kP6.lt
                have kC7 := kC6.below q2 kC6.lt
                have kM7 := kM6.below q2 kM6.lt
                clear HOP kP6 kM6 kC6 hb6 q2 g1 f0 f1 f2 f3 f19
                go_upto_region 15 with fail
                refine wp_region_hold (fun W => Blk W p 98 #[.map (some b)] ∧ Blk W w.heap.size 56 (clA c)) [0, 1, 2, 3, 4, 5, 6] [] [7] (by kernel_rfl) (by kernel_rfl) (fun _ d _ _ _ h => by cases d <;> exact h) ⟨kP7.drew, kC7.drew⟩ ?_
                simp only [pick, List.drop_succ_cons, List.drop_zero, List.head?_cons, Option.toList_some, List.cons_append, List.nil_append, List.append_nil]
                iterate 6 (refine wpHeld_step ?_ rfl ?_ ?_; rotate_left; · (intro W hW; have g1 : W.cell? ⟨p, 0, none⟩ = some (.map (some b)) := hW.1.cell 0; obtain ⟨e0, e1, e2, e3, -⟩ := cl_cells hW.2; go_simp; with_reducible rfl))
                refine wpHeld_step ?_ rfl ?_ ?_
                rotate_left
                · intro W hW; refine exec_load_cl (x := .tmp 3) ?_ ?_ hW.2 <;> rfl
                refine wpHeld_nil ?_
                simp only [wpEarly]
                obtain ⟨w8, hrun, hM, hPerm, hgr⟩ := upd_new (show MapV w7.drew b (kvs L') from kM7) hperm (c := c) (t := c.id) rfl hgt
                have kP8 := kP7.drew.grown hgr (by intro e; injection e with e; omega)
                have hO : Only (fun i => i = b) w w8 := (Only.of_below hb7.drew _).trans ((Only.of_grown hgr).mono fun i hi => by injection hi with hi; exact hi.symm) fun i hi => .inl hi
                clear kP7 kC7 kM7 hb7 hgr
                generalize clA c = CC at *
                generalize w7.drew = w9 at *
                go_wp2_with fail
                go_ret
                exact ⟨rfl, ⟨kP8, _, hM, hPerm⟩, hO⟩
          | none =>
            by_cases hz : c.after = z2
            · rw [decide_eq_true hz] at hez
              have hezH := Lib.hid hez
              obtain ⟨m0, m1, m2, m3, -⟩ := cl_cells kC6
              have hop := open_any w6 b L' kM6 (by rw [hperm.length_eq]; exact hl)
              rw [openN_perm hperm] at hop
              have HOP := Lib.hid hop
              have hol : openN L ≤ 1000000 := Nat.le_trans List.countP_le_length hl
              clear hop
              obtain ⟨f0, f1, f2, f3, f19⟩ := cl_cells kC6
              have g1 : w6.cell? ⟨p, 0, none⟩ = some (.map (some b)) := kP6.cell 0
              cases hgn : c.gone with
              | true =>
                rw [hgn] at f19
                have hfin : D = (L ++ [c], 0) := by rw [← HD.out]; unfold putS; rw [if_neg (by rw [HPT.out]; decide), hgt]; simp only; rw [if_neg (fun h => h.1 hz), if_neg (by rw [hgn]; simp)]
                subst hfin
                clear HD HPT HOP hgn
                go_upto_region 15 with fail
                refine wp_region_hold (fun W => Blk W p 98 #[.map (some b)] ∧ Blk W w.heap.size 56 (clA c)) [0, 1, 2, 3, 4, 5, 6] [] [7] (by kernel_rfl) (by kernel_rfl) (fun _ d _ _ _ h => by cases d <;> exact h) ⟨kP6.drew, kC6.drew⟩ ?_
                simp only [pick, List.drop_succ_cons, List.drop_zero, List.head?_cons, Option.toList_some, List.cons_append, List.nil_append, List.append_nil]
                iterate 6 (refine wpHeld_step ?_ rfl ?_ ?_; rotate_left; · (intro W hW; have g1 : W.cell? ⟨p, 0, none⟩ = some (.map (some b)) := hW.1.cell 0; obtain ⟨e0, e1, e2, e3, -⟩ := cl_cells hW.2; go_simp; with_reducible rfl))
                refine wpHeld_step ?_ rfl ?_ ?_
                rotate_left
                · intro W hW; refine exec_load_cl (x := .tmp 3) ?_ ?_ hW.2 <;> rfl
                refine wpHeld_nil ?_
                simp only [wpEarly]
                obtain ⟨w8, hrun, hM, hPerm, hgr⟩ := upd_new (show MapV w6.drew b (kvs L') from kM6) hperm (c := c) (t := c.id) rfl hgt
                have kP8 := kP6.drew.grown hgr (by intro e; injection e with e; omega)
                have hO : Only (fun i => i = b) w w8 := (Only.of_below hb6.drew _).trans ((Only.of_grown hgr).mono fun i hi => by injection hi with hi; exact hi.symm) fun i hi => .inl hi
                clear kP6 kC6 kM6 hb6 hgr
                generalize clA c = CC at *
                generalize w6.drew = w9 at *
                go_wp2_with fail
                go_ret
                exact ⟨rfl, ⟨kP8, _, hM, hPerm⟩, hO⟩
              | false =>
                rw [hgn] at f19
                by_cases h64 : 64 ≤ openN L
                · have hd64 : decide (64 ≤ ((openN L : Nat) : Int)) = true := decide_eq_true (by omega)
                  have hfin : D = (L, 27) := by rw [← HD.out]; unfold putS; rw [if_neg (by rw [HPT.out]; decide), hgt]; simp only; rw [if_neg (fun h => h.1 hz), if_pos ⟨hgn, h64⟩]
                  subst hfin
                  clear HD HPT hgn h64
                  go_wp2_with fail
                  refine HOP.out.mono ?_
                  rintro e w7 ⟨rfl, q2⟩
                  have hb7 := hb6.trans (q2.mono hb6.size)
                  have kP7 := kP6.below q2 kP6.lt
                  have kM7 := kM6.below q2 kM6.lt
                  clear HOP kP6 kM6 kC6 hb6 q2 g1 f0 f1 f2 f3 f19
                  go_wp2
                  go_ret
                  exact ⟨rfl, ⟨kP7, L', kM7, hperm⟩, Only.of_below hb7 _⟩
                · have hd64 : decide (64 ≤ ((openN L : Nat) : Int)) = false := decide_eq_false (by omega)
                  have hfin : D = (L ++ [c], 0) := by rw [← HD.out]; unfold putS; rw [if_neg (by rw [HPT.out]; decide), hgt]; simp only; rw [if_neg (fun h => h.1 hz), if_neg (fun h => h64 h.2)]
                  subst hfin
                  clear HD HPT hgn h64
                  go_wp2_with fail
                  refine HOP.out.mono ?_
                  rintro e w7 ⟨rfl, q2⟩
                  have hb7 := hb6.trans (q2.mono hb6.size)
                  have kP7 := kP6.below q2 kP6.lt
                  have kC7 := kC6.below q2 kC6.lt
                  have kM7 := kM6.below q2 kM6.lt
                  clear HOP kP6 kM6 kC6 hb6 q2 g1 f0 f1 f2 f3 f19
                  go_upto_region 15 with fail
                  refine wp_region_hold (fun W => Blk W p 98 #[.map (some b)] ∧ Blk W w.heap.size 56 (clA c)) [0, 1, 2, 3, 4, 5, 6] [] [7] (by kernel_rfl) (by kernel_rfl) (fun _ d _ _ _ h => by cases d <;> exact h) ⟨kP7.drew, kC7.drew⟩ ?_
                  simp only [pick, List.drop_succ_cons, List.drop_zero, List.head?_cons, Option.toList_some, List.cons_append, List.nil_append, List.append_nil]
                  iterate 6 (refine wpHeld_step ?_ rfl ?_ ?_; rotate_left; · (intro W hW; have g1 : W.cell? ⟨p, 0, none⟩ = some (.map (some b)) := hW.1.cell 0; obtain ⟨e0, e1, e2, e3, -⟩ := cl_cells hW.2; go_simp; with_reducible rfl))
                  refine wpHeld_step ?_ rfl ?_ ?_
                  rotate_left
                  · intro W hW; refine exec_load_cl (x := .tmp 3) ?_ ?_ hW.2 <;> rfl
                  refine wpHeld_nil ?_
                  simp only [wpEarly]
                  obtain ⟨w8, hrun, hM, hPerm, hgr⟩ := upd_new (show MapV w7.drew b (kvs L') from kM7) hperm (c := c) (t := c.id) rfl hgt
                  have kP8 := kP7.drew.grown hgr (by intro e; injection e with e; omega)
                  have hO : Only (fun i => i = b) w w8 := (Only.of_below hb7.drew _).trans ((Only.of_grown hgr).mono fun i hi => by injection hi with hi; exact hi.symm) fun i hi => .inl hi
                  clear kP7 kC7 kM7 hb7 hgr
                  generalize clA c = CC at *
                  generalize w7.drew = w9 at *
                  go_wp2_with fail
                  go_ret
                  exact ⟨rfl, ⟨kP8, _, hM, hPerm⟩, hO⟩
            · rw [decide_eq_false hz] at hez
              obtain ⟨m0, m1, m2, m3, -⟩ := cl_cells kC6
              have hfin : D = (L, 11) := by rw [← HD.out]; unfold putS; rw [if_neg (by rw [HPT.out]; decide), hgt]; simp only; rw [if_pos ⟨hz, hga⟩]
              subst hfin
              clear HD HPT hz
              go_wp2
              go_ret
              exact ⟨rfl, ⟨kP6, L', kM6, hperm⟩, Only.of_below hb6 _⟩
end Go.Proofs.Ytaicbllfkehhjaa

/- Contracts of the library laid at this program: the tables of numbers and the facts, as the shelf's tools print them in plain words. -/
namespace Go.Proofs.Ytaicbllfkehhjaa
open Go.Shelf
def sortL_ren : Go.Shelf.Ren := ⟨fun | 6 => 55 | 15 => 68 | 14 => 67 | 28 => 80 | 29 => 81 | 20 => 72 | 21 => 73 | 22 => 74 | 23 => 75 | 24 => 76 | 25 => 77 | 26 => 78 | 27 => 79 | 46 => 82 | 47 => 83 | 48 => 84 | 49 => 85 | 50 => 86 | 57 => 87 | n => n, fun | 22 => 41 | 24 => 56 | 25 => 109 | 3 => 3 | 39 => 120 | 0 => 0 | 53 => 133 | 55 => 135 | 4 => 4 | 46 => 126 | 45 => 125 | 50 => 130 | 5 => 5 | 9 => 9 | 66 => 136 | 70 => 140 | 76 => 142 | 77 => 143 | n => n, fun | n => n⟩
theorem sortL : Go.Proofs.SlLaysF0.n6 Try.prog sortL_ren := {
  mixed := by kernel_rfl
  f6 := ⟨Try.f55.name, by decide, Try.func55.trans (congrArg some (by kernel_rfl))⟩
  f14 := ⟨Try.f67.name, by decide, Try.func67.trans (congrArg some (by kernel_rfl))⟩
  f15 := Try.func68.trans (congrArg some (by kernel_rfl))
  f20 := ⟨Try.f72.name, by decide, Try.func72.trans (congrArg some (by kernel_rfl))⟩
  f21 := ⟨Try.f73.name, by decide, Try.func73.trans (congrArg some (by kernel_rfl))⟩
  f22 := ⟨Try.f74.name, by decide, Try.func74.trans (congrArg some (by kernel_rfl))⟩
  f23 := ⟨Try.f75.name, by decide, Try.func75.trans (congrArg some (by kernel_rfl))⟩
  f24 := ⟨Try.f76.name, by decide, Try.func76.trans (congrArg some (by kernel_rfl))⟩
  f25 := ⟨Try.f77.name, by decide, Try.func77.trans (congrArg some (by kernel_rfl))⟩
  f26 := ⟨Try.f78.name, by decide, Try.func78.trans (congrArg some (by kernel_rfl))⟩
  f27 := ⟨Try.f79.name, by decide, Try.func79.trans (congrArg some (by kernel_rfl))⟩
  f28 := Try.func80.trans (congrArg some (by kernel_rfl))
  f29 := Try.func81.trans (congrArg some (by kernel_rfl))
  f46 := ⟨Try.f82.name, by decide, Try.func82.trans (congrArg some (by kernel_rfl))⟩
  f47 := Try.func83.trans (congrArg some (by kernel_rfl))
  f48 := Try.func84.trans (congrArg some (by kernel_rfl))
  f49 := ⟨Try.f85.name, by decide, Try.func85.trans (congrArg some (by kernel_rfl))⟩
  f50 := ⟨Try.f86.name, by decide, Try.func86.trans (congrArg some (by kernel_rfl))⟩
  f57 := ⟨Try.f87.name, by decide, Try.func87.trans (congrArg some (by kernel_rfl))⟩
  t0 := Try.underlying0
  a0 := Try.isAgg0
  z0 := Try.sizeOf0
  v0 := Try.zeroValue0
  t3 := Try.underlying3
  a3 := Try.isAgg3
  z3 := Try.sizeOf3
  v3 := Try.zeroValue3
  t4 := Try.underlying4
  a4 := Try.isAgg4
  z4 := Try.sizeOf4
  v4 := Try.zeroValue4
  t5 := Try.underlying5
  a5 := Try.isAgg5
  z5 := Try.sizeOf5
  v5 := Try.zeroValue5
  t9 := Try.underlying9
  a9 := Try.isAgg9
  z9 := Try.sizeOf9
  v9 := Try.zeroValue9
  t22 := Try.underlying41
  a22 := Try.isAgg41
  z22 := Try.sizeOf41
  v22 := Try.zeroValue41
  t25 := Try.underlying109
  a25 := Try.isAgg109
  z25 := Try.sizeOf109
  v25 := Try.zeroValue109
  t39 := Try.underlying120
  a39 := Try.isAgg120
  z39 := Try.sizeOf120
  v39 := Try.zeroValue120
  t45 := Try.underlying125
  a45 := Try.isAgg125
  z45 := Try.sizeOf125
  v45 := Try.zeroValue125
  t46 := Try.underlying126
  a46 := Try.isAgg126
  z46 := Try.sizeOf126
  v46 := Try.zeroValue126
  t50 := Try.underlying130
  a50 := Try.isAgg130
  z50 := Try.sizeOf130
  v50 := Try.zeroValue130
  t53 := Try.underlying133
  a53 := Try.isAgg133
  z53 := Try.sizeOf133
  v53 := Try.zeroValue133
  t55 := Try.underlying135
  a55 := Try.isAgg135
  z55 := Try.sizeOf135
  v55 := Try.zeroValue135
  t66 := Try.underlying136
  a66 := Try.isAgg136
  z66 := Try.sizeOf136
  v66 := Try.zeroValue136
  t70 := Try.underlying140
  a70 := Try.isAgg140
  z70 := Try.sizeOf140
  v70 := Try.zeroValue140
  t76 := Try.underlying142
  a76 := Try.isAgg142
  z76 := Try.sizeOf142
  v76 := Try.zeroValue142
  t77 := Try.underlying143
  a77 := Try.isAgg143
  z77 := Try.sizeOf143
  v77 := Try.zeroValue143 }
end Go.Proofs.Ytaicbllfkehhjaa

/- Join of two pages. -/
namespace Go.Proofs.Ytaicbllfkehhjaa
open Go.RowKit

theorem addAll_app : ∀ (X Y L : List Cl), addAll L (X ++ Y) = (addAll L X).bind fun A => addAll A Y
  | [], Y, L => rfl
  | c :: X, Y, L => by
    show (addS L c).bind (fun L' => addAll L' (X ++ Y)) = ((addS L c).bind fun L' => addAll L' X).bind fun A => addAll A Y
    cases addS L c with
    | none => rfl
    | some A => exact addAll_app X Y A
theorem addS_len {L A : List Cl} {c : Cl} (h : addS L c = some A) : A.length ≤ L.length + 1 := by
  unfold addS at h
  split at h
  · simp only [Option.some.injEq] at h; subst h; simp
  · split at h
    · simp only [Option.some.injEq] at h; subst h; simp [setC]
    · cases h
theorem addAll_len : ∀ {X L A : List Cl}, addAll L X = some A → A.length ≤ L.length + X.length
  | [], L, A, h => by simp only [addAll, Option.some.injEq] at h; subst h; simp
  | c :: X, L, A, h => by
    unfold addAll at h
    cases h1 : addS L c with
    | none => rw [h1] at h; cases h
    | some B =>
      rw [h1] at h
      have := addAll_len (X := X) h
      have := addS_len h1
      simp only [List.length_cons]
      omega
/-- What a round of Join has come to. -/
def JoinRel (L' M' A T : List Cl) : Prop := ∃ X, (X ++ T).Perm M' ∧ addAll L' X = some A
theorem JoinRel.start (L' M' : List Cl) : JoinRel L' M' L' M' := ⟨[], List.Perm.refl _, rfl⟩
theorem JoinRel.uq {L' M' A T : List Cl} (h : JoinRel L' M' A T) (hl : Uq L') (hm : Uq M') : Uq A := by
  obtain ⟨X, h1, h2⟩ := h
  have hX : Uq X := (List.pairwise_append.1 (hm.perm h1.symm)).1
  exact (addAll_some hl hX h2).1
theorem JoinRel.len {L' M' A T : List Cl} (h : JoinRel L' M' A T) : A.length ≤ L'.length + M'.length := by
  obtain ⟨X, h1, h2⟩ := h
  have := addAll_len h2
  have := h1.length_eq
  rw [List.length_append] at this
  omega
theorem JoinRel.next {L' M' A B U V : List Cl} {c : Cl} (h : JoinRel L' M' A (U ++ c :: V)) (hs : addS A c = some B) : JoinRel L' M' B (U ++ V) := by
  obtain ⟨X, h1, h2⟩ := h
  refine ⟨X ++ [c], ?_, ?_⟩
  · refine List.Perm.trans ?_ h1
    rw [List.append_assoc, List.singleton_append]
    exact List.Perm.append_left X List.perm_middle.symm
  · rw [addAll_app, h2]
    simp [addAll, hs]
theorem JoinRel.fail {L M L' M' A U V : List Cl} {c : Cl} (h : JoinRel L' M' A (U ++ c :: V)) (hs : addS A c = none) (hl : Uq L) (hm : Uq M) (p : L'.Perm L) (q : M'.Perm M) : joinS L M = (L, 9) := by
  obtain ⟨X, h1, h2⟩ := h
  have hM2 : (X ++ c :: (U ++ V)).Perm M := ((List.Perm.append_left X List.perm_middle.symm).trans h1).trans q
  have hno : addAll L' (X ++ c :: (U ++ V)) = none := by
    rw [addAll_app, h2]
    simp [addAll, hs]
  have hl' := hl.perm p.symm
  have hm2 := hm.perm hM2.symm
  obtain ⟨t, ht⟩ := (addAll_none hl' hm2).1 hno
  rw [getC_perm hl' p, getC_perm hm2 hM2] at ht
  unfold joinS
  rw [(addAll_none hl hm).2 ⟨t, ht⟩]
theorem JoinRel.done {L M L' M' A : List Cl} (h : JoinRel L' M' A []) (hl : Uq L) (hm : Uq M) (p : L'.Perm L) (q : M'.Perm M) : ∃ B, A.Perm B ∧ joinS L M = if 64 < openN A then (L, 27) else (B, 0) := by
  obtain ⟨X, h1, h2⟩ := h
  rw [List.append_nil] at h1
  have hX := h1.trans q
  have hl' := hl.perm p.symm
  have hm2 := hm.perm hX.symm
  obtain ⟨k1, k2⟩ := addAll_some hl' hm2 h2
  cases hB : addAll L M with
  | none =>
    obtain ⟨t, ht⟩ := (addAll_none hl hm).1 hB
    rw [← getC_perm hl' p, ← getC_perm hm2 hX, (k2 t).1] at ht
    cases ht
  | some B =>
    obtain ⟨k3, k4⟩ := addAll_some hl hm hB
    have pq : A.Perm B := perm_of_getC k1 k3 fun t => by rw [(k2 t).2, (k4 t).2, getC_perm hl' p, getC_perm hm2 hX]
    refine ⟨B, pq, ?_⟩
    unfold joinS
    rw [hB, openN_perm pq]

end Go.Proofs.Ytaicbllfkehhjaa
