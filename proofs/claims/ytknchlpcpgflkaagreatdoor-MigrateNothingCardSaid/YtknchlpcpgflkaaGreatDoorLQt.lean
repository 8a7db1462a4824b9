/- Words on strings and the library: sums, slices, Itoa, Atoi, strings.Builder, slices of strings. -/
import Derived.Test.YtknchlpcpgflkaaGreatDoorJs
import Derived.Test.YtknchlpcpgflkaaGreatDoorLGAG
import Derived.Lib.SmallJoins
import Derived.Lib.AppendIntMem
import Derived.Lib.Atoi
import Derived.Lib.ItoaNum
import Derived.WalkSpells
import Derived.IntWalk
import Derived.Shelf.Strings.Builder1
namespace Go.Proofs.YtknchlpcpgflkaaGreatDoor
open Go.RowKit Go.Shelf

/-- A text of bytes. -/
def bs (l : List UInt8) : ByteArray := ⟨l.toArray⟩
theorem bs_list (l : List UInt8) : (bs l).data.toList = l := rfl
theorem bs_size (l : List UInt8) : (bs l).size = l.length := by show l.toArray.size = _; simp
theorem of_bs (s : ByteArray) : bs s.data.toList = s := rfl
theorem len_bytes (s : ByteArray) : s.data.toList.length = s.size := by rw [Array.length_toList]; rfl
theorem bs_extract (l : List UInt8) (a b : Nat) : (bs l).extract a b = bs ((l.drop a).take (b - a)) := by
  apply ByteArray.ext
  apply Array.ext'
  rw [ByteArray.data_extract]
  show ((l.toArray).extract a b).toList = (l.drop a).take (b - a)
  rw [Array.toList_extract]
theorem bs_append (a b : List UInt8) : bs a ++ bs b = bs (a ++ b) := by
  apply ByteArray.ext
  apply Array.ext'
  rw [ByteArray.data_append, Array.toList_append]
  rfl
/-- What the library's variables hold. -/
structure Tbs (w : World) : Prop where
  tab : Lib.TabIs Tryz.prog w "internal/strconv.uint64pow10" .u64 Lib.pow10Tab
  max : ∃ m, w.cell? ⟨5, 0, none⟩ = some (.int .i64 m)
  syn : ∃ ev, w.cell? ⟨1, 0, none⟩ = some ev ∧ (ev = .nilIface ∨ ∃ te pe, ev = .iface te pe)
  rng : ∃ ev, w.cell? ⟨2, 0, none⟩ = some ev ∧ (ev = .nilIface ∨ ∃ te pe, ev = .iface te pe)
theorem Tbs.below {w w' : World} (h : Tbs w) (hb : Below w.heap.size w w') : Tbs w' where
  tab := Lib.tabBelow_of_tabIs h.tab w' hb
  max := by obtain ⟨m, hm⟩ := h.max; exact ⟨m, (hb.cell (World.block_lt_of_cell? _ _ hm)).trans hm⟩
  syn := by obtain ⟨m, hm, h2⟩ := h.syn; exact ⟨m, (hb.cell (World.block_lt_of_cell? _ _ hm)).trans hm, h2⟩
  rng := by obtain ⟨m, hm, h2⟩ := h.rng; exact ⟨m, (hb.cell (World.block_lt_of_cell? _ _ hm)).trans hm, h2⟩

theorem sum_bs (a b : List UInt8) (h : a.length + b.length ≤ 9223372036854775807) (W : World) : (Op.stringOp .add (bs a) (bs b)).run Tryz.prog W = .ok (.string (bs (a ++ b))) W := by
  rw [run_string_add_sum (P := Tryz.prog) W (bs a) (bs b) (by rw [bs_size, bs_size]; exact h), bs_append]

theorem beq_bs {a b : List UInt8} (h : a ≠ b) : ((bs a).toList == (bs b).toList) = false := by
  rw [Lib.toList_data, Lib.toList_data]
  exact beq_eq_false_iff_ne.2 h
theorem sl_mid (l : List UInt8) (a b : Nat) (h : a ≤ b) (h2 : b ≤ l.length) (W : World) : (Instr.slice 9 (.string (bs l)) (some (.int .i64 (a : Int))) (some (.int .i64 (b : Int))) none).run Tryz.prog W = .ok (.string (bs ((l.drop a).take (b - a)))) W := by
  rw [run_slice_string (P := Tryz.prog) (w := W) 9 _ .i64 .i64 (a : Int) (b : Int) (by kernel_rfl) (by omega) (by omega) (by rw [bs_size]; omega)]
  rw [Int.toNat_natCast, Int.toNat_natCast, bs_extract]
theorem Tryz.infoStr : (Tryz.prog.info? 9).map (fun i => (i.zero, i.size, i.bytes)) = some (some (Value.string ⟨#[]⟩), 1, 16) := by kernel_rfl
def sv (l : List UInt8) : Value := .string (bs l)
/-- A slice of texts of the call's own. -/
def OwnStrs (w : World) (base : Nat) (v : Value) (l : List (List UInt8)) : Prop := w.ownsRow base 9 1 v l.length (l.map sv)
theorem OwnStrs.nil (w : World) (base : Nat) : OwnStrs w base (.slice none 0 0) [] := World.ownsRow_nil _ _ _ _
theorem OwnStrs.form {w : World} {base : Nat} {v : Value} {l : List (List UInt8)} (h : OwnStrs w base v l) : ∃ A c, v = .slice A l.length c := by
  rcases h.2 with ⟨hv, h0⟩ | ⟨g, cap, cur, hv, _⟩
  · exact ⟨none, 0, by rw [hv, h0]⟩
  · exact ⟨_, _, hv⟩
/-- A slice that reads as a list of texts. -/
def StrsAt (w : World) (B : Nat) (A : Option Addr) (l : List (List UInt8)) : Prop :=
  ∀ (i : Nat) (s : List UInt8), l[i]? = some s → ∃ g off, A = some ⟨g, off, none⟩ ∧ g < B ∧ w.cell? ⟨g, off + i, none⟩ = some (.string (bs s))
theorem StrsAt.below {w w' : World} {B : Nat} {A : Option Addr} {l : List (List UInt8)} (h : StrsAt w B A l) (hb : Below B w w') : StrsAt w' B A l := fun i s hi => by
  obtain ⟨g, off, hA, hg, hc⟩ := h i s hi
  exact ⟨g, off, hA, hg, (hb.cell (p := ⟨g, off + i, none⟩) hg).trans hc⟩
theorem StrsAt.nil (w : World) (B : Nat) (A : Option Addr) : StrsAt w B A [] := fun i s hi => by simp at hi
theorem StrsAt.wide {w : World} {B B' : Nat} {A : Option Addr} {l : List (List UInt8)} (h : StrsAt w B A l) (hB : B ≤ B') : StrsAt w B' A l := fun i s hi => by
  obtain ⟨g, off, hA, hg, hc⟩ := h i s hi
  exact ⟨g, off, hA, by omega, hc⟩
theorem below_dN {B : Nat} {w w1 : World} (h : Below B w w1) (n : Nat) : Below B w (w1.drewN n) := ⟨h.os, h.tape, h.output, h.size, h.block⟩
/-- A builder of the call's own that holds some bytes. -/
def Bld (B b : Nat) (l : List UInt8) (w : World) : Prop := Lib.IsBuilder 124 5 B b (Lib.byteCells l) w
theorem Bld.fresh {B b : Nat} {w : World} (hB : B ≤ b) (h : Blk w b 124 #[.pointer none, .slice none 0 0]) : Bld B b [] w :=
  .inl ⟨hB, _, h, World.ownsRow_nil _ _ _ _, by simp [Value.ownBlock]⟩
theorem BuilderAt.below {B b : Nat} {p : Value} {l : List Value} {w w' : World} (h : Lib.BuilderAt 124 5 B b p l w) (hb : Below w.heap.size w w') : Lib.BuilderAt 124 5 B b p l w' := by
  obtain ⟨hB, v, hbk, hown, hne⟩ := h
  have hlt : b < w.heap.size := by
    rcases Nat.lt_or_ge b w.heap.size with h' | h'
    · exact h'
    · simp [Array.getElem?_eq_none h'] at hbk
  exact ⟨hB, v, (hb.block b hlt).trans hbk, (Only.of_below hb (fun _ => False)).owns hown (fun _ _ h => h), hne⟩
theorem Bld.below {B b : Nat} {l : List UInt8} {w w' : World} (h : Bld B b l w) (hb : Below w.heap.size w w') : Bld B b l w' :=
  h.imp (fun x => BuilderAt.below x hb) (fun x => BuilderAt.below x hb)
theorem sizeBuilder : (Tryz.prog.info? 124).map (·.size) = some 2 := by kernel_rfl
theorem liesBuilder : liesAt Tryz.prog Tryz.prog.depth 124 (2 / Tryz.prog.cellsOf 124) 0 124 1 = true := by kernel_rfl
theorem Tryz.infoByte : (Tryz.prog.info? 5).map (fun i => (i.zero, i.size, i.bytes)) = some (some (.int .u8 0), 1, 1) := by kernel_rfl

set_option maxHeartbeats 1000000 in
set_option maxRecDepth 100000 in
theorem copyCheck_used (b : Nat) (w : World) (h0 : w.cell? ⟨b, 0, none⟩ = some (.pointer (some ⟨b, 0, none⟩))) :
    Calls Tryz.prog 132 #[.pointer (some ⟨b, 0, none⟩)] w fun e w' => e = .returned (.tuple #[]) ∧ w' = w := by
  obtain ⟨j, hj, _⟩ := Option.map_eq_some_iff.1 sizeBuilder
  go_enter Tryz.func132, Tryz.ntmps132
  go_wp2
  rw [Lib.run_neq_ptr_same w _ Tryz.underlying121 hj]
  go_wp2
  go_end0
  exact ⟨rfl, rfl⟩

set_option maxHeartbeats 1000000 in
set_option maxRecDepth 100000 in
theorem copyCheck_fresh (b : Nat) (w : World) (h0 : w.cell? ⟨b, 0, none⟩ = some (.pointer none)) (hsh : w.shape? b = some (124, 2)) (hfz : w.frozen? ⟨b, 0, none⟩ = false) :
    Calls Tryz.prog 132 #[.pointer (some ⟨b, 0, none⟩)] w fun e w' => e = .returned (.tuple #[]) ∧ w' = w.setCell ⟨b, 0, none⟩ (.pointer (some ⟨b, 0, none⟩)) := by
  obtain ⟨j, hj, hjs⟩ := Option.map_eq_some_iff.1 sizeBuilder
  go_enter Tryz.func132, Tryz.ntmps132
  go_wp2
  rw [Lib.run_to_unsafe w ⟨b, 0, none⟩ Tryz.underlying121 Tryz.underlying196 hj (by rw [hjs]; decide) hsh (Nat.zero_lt_succ 1)]
  simp only [Result.andThen]
  rw [Oper.upon_value]
  go_wp2
  rw [run_callFunc_extern Tryz.func154 (by kernel_rfl) (by kernel_rfl) (by kernel_rfl) (e := Extern.AbiNoEscape.same) (by kernel_rfl)]
  rw [Lib.run_noEscape]
  simp only [Result.andThen]
  rw [Oper.upon_value]
  go_wp2
  rw [Lib.run_from_unsafe w ⟨b, 0, none⟩ Tryz.underlying196 Tryz.underlying121 hj hsh liesBuilder]
  simp only [Result.andThen]
  rw [Oper.upon_value]
  go_wp2
  go_end0
  exact ⟨rfl, rfl⟩

theorem string_any (B b : Nat) (l : List UInt8) (w : World) (h : Bld B b l w) (hBw : B ≤ w.heap.size) :
    Calls Tryz.prog 78 #[.pointer (some ⟨b, 0, none⟩)] w fun e w' => e = .returned (.string (bs l)) ∧ Below B w w' := sh_Builder_String_any B b l w h hBw

theorem itoa_int (w : World) (ht : Tbs w) (n : Int) (h0 : -9223372036854775808 ≤ n) (h1 : n ≤ 9223372036854775807) : Calls Tryz.prog 76 #[.int .i64 n] w fun e w' => e = .returned (.string (bs (Lib.itoa n))) ∧ Below w.heap.size w w' :=
  (sh_strconv_Itoa n h0 h1 w ht.tab).mono fun _ _ ⟨he, k, os, hw⟩ => ⟨he, hw ▸ Lib.below_grow _ _ (Nat.le_refl _) k os⟩

end Go.Proofs.YtknchlpcpgflkaaGreatDoor
