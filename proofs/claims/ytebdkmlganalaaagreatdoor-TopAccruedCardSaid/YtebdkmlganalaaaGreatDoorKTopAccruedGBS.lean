/- TopAccrued: the two procedures of the example. TopAccrued: the example, plain. -/
import Derived.Test.YtebdkmlganalaaaGreatDoorKTopAccruedGAS
import Derived.Test.YtebdkmlganalaaaGreatDoorKTopAccruedGBN
import Derived.Test.YtebdkmlganalaaaGreatDoorKTopAccruedGBP
namespace Go.Proofs.YtebdkmlganalaaaGreatDoor
open Go.RowKit Go.Shelf

def tpP : Pc := ⟨⟨#[111, 108, 100]⟩, [⟨#[102, 105, 108, 101, 100]⟩, ⟨#[104, 101, 97, 114, 100]⟩], [(0, 1)]⟩
def tpQ : Pc := ⟨⟨#[110, 101, 119]⟩, [⟨#[102, 105, 108, 101, 100]⟩, ⟨#[116, 114, 105, 101, 100]⟩, ⟨#[104, 101, 97, 114, 100]⟩], [(0, 1), (1, 2)]⟩
theorem one3 {a : ByteArray} {A1 A2 : Option Addr} {n1 n2 c1 c2 : Nat} : (#[.string a, .slice A1 n1 c1, .slice A2 n2 c2] : Array Value).all (·.oneCell') = true := by simp [Value.oneCell']
theorem wp_rowP {ops : Array Oper} {rest : List Oper} {o : Oper} {a : Act} {W : World} {Q : Exit → Act → World → Prop} (hgd : o.guard = none) (x y : Operand) (ho : o.op = .store 34 x y) (g : Nat) (C : Array Value)
    (hx : a.eval x = .pointer (some ⟨g, 0, none⟩)) (hy : a.eval y = .agg C) (hC : C.size = 3) (h1 : C.all (·.oneCell') = true) {old : Array Value} (hold : old.size = 3) (hb : Blk W g 34 old)
    (h : wpList Tryz.prog ops Q rest (a.put o.dst undef) (W.setRow g C)) : wpList Tryz.prog ops Q (o :: rest) a W :=
  wpList_store_row hgd 34 x y ho g C hx hy 34 old hb (by rw [hC]; kernel_rfl) (by rw [hC, hold]) h1 h
theorem rowP_blk {W : World} {g : Nat} {t : TypeId} {old cells : Array Value} (h : Blk W g t old) : Blk (W.setRow g cells) g t cells := setRow_heap W g old cells _ _ h
theorem rowP_only {W : World} {g : Nat} {cells : Array Value} : Only (fun i => i = g) W (W.setRow g cells) :=
  ⟨rfl, rfl, rfl, by rw [size_setRow]; exact Nat.le_refl _, fun i _ hi => setRow_other W g i cells hi⟩
set_option maxRecDepth 100000 in
set_option maxHeartbeats 4000000 in
theorem wprocs_any (w : World) : Calls Tryz.prog 18 #[] w fun e w' => ∃ y z, e = .returned (.tuple #[.agg (pcC tpP y), .agg (pcC tpQ z)]) ∧ PcAt w' w'.heap.size tpP y ∧ PcAt w' w'.heap.size tpQ z ∧ Below w.heap.size w w' := by
  have hb := (((((Below.refl w.heap.size w).alloc (Nat.le_refl _) (.cells #[.string ⟨#[]⟩, .slice none 0 0, .slice none 0 0] 34)).alloc (by simp) (.cells #[.string ⟨#[]⟩, .slice none 0 0, .slice none 0 0] 34)).alloc (by simp; omega) (.cells #[.string ⟨#[102, 105, 108, 101, 100]⟩, .string ⟨#[104, 101, 97, 114, 100]⟩] 9)).alloc (by simp; omega) (.cells #[.int .i64 0, .int .i64 1] 90)).alloc (by simp; omega) (.cells #[.string ⟨#[111, 108, 100]⟩, .slice (some ⟨w.heap.size + 1 + 1, 0, none⟩) 2 2, .slice (some ⟨w.heap.size + 1 + 1 + 1, 0, none⟩) 1 1] 34)
  have k0 := ((((Blk.new w 34 #[.string ⟨#[]⟩, .slice none 0 0, .slice none 0 0]).alloc (.cells #[.string ⟨#[]⟩, .slice none 0 0, .slice none 0 0] 34)).alloc (.cells #[.string ⟨#[102, 105, 108, 101, 100]⟩, .string ⟨#[104, 101, 97, 114, 100]⟩] 9)).alloc (.cells #[.int .i64 0, .int .i64 1] 90)).alloc (.cells #[.string ⟨#[111, 108, 100]⟩, .slice (some ⟨w.heap.size + 1 + 1, 0, none⟩) 2 2, .slice (some ⟨w.heap.size + 1 + 1 + 1, 0, none⟩) 1 1] 34)
  have k1 := (((Blk.new (w.alloc (.cells #[.string ⟨#[]⟩, .slice none 0 0, .slice none 0 0] 34)) 34 #[.string ⟨#[]⟩, .slice none 0 0, .slice none 0 0]).alloc (.cells #[.string ⟨#[102, 105, 108, 101, 100]⟩, .string ⟨#[104, 101, 97, 114, 100]⟩] 9)).alloc (.cells #[.int .i64 0, .int .i64 1] 90)).alloc (.cells #[.string ⟨#[111, 108, 100]⟩, .slice (some ⟨w.heap.size + 1 + 1, 0, none⟩) 2 2, .slice (some ⟨w.heap.size + 1 + 1 + 1, 0, none⟩) 1 1] 34)
  rw [show ((w.alloc (.cells #[.string ⟨#[]⟩, .slice none 0 0, .slice none 0 0] 34))).heap.size = w.heap.size + 1 from by simp] at k1
  have k2 := ((Blk.new ((w.alloc (.cells #[.string ⟨#[]⟩, .slice none 0 0, .slice none 0 0] 34)).alloc (.cells #[.string ⟨#[]⟩, .slice none 0 0, .slice none 0 0] 34)) 9 #[.string ⟨#[102, 105, 108, 101, 100]⟩, .string ⟨#[104, 101, 97, 114, 100]⟩]).alloc (.cells #[.int .i64 0, .int .i64 1] 90)).alloc (.cells #[.string ⟨#[111, 108, 100]⟩, .slice (some ⟨w.heap.size + 1 + 1, 0, none⟩) 2 2, .slice (some ⟨w.heap.size + 1 + 1 + 1, 0, none⟩) 1 1] 34)
  rw [show (((w.alloc (.cells #[.string ⟨#[]⟩, .slice none 0 0, .slice none 0 0] 34)).alloc (.cells #[.string ⟨#[]⟩, .slice none 0 0, .slice none 0 0] 34))).heap.size = w.heap.size + 1 + 1 from by simp] at k2
  have k3 := (Blk.new (((w.alloc (.cells #[.string ⟨#[]⟩, .slice none 0 0, .slice none 0 0] 34)).alloc (.cells #[.string ⟨#[]⟩, .slice none 0 0, .slice none 0 0] 34)).alloc (.cells #[.string ⟨#[102, 105, 108, 101, 100]⟩, .string ⟨#[104, 101, 97, 114, 100]⟩] 9)) 90 #[.int .i64 0, .int .i64 1]).alloc (.cells #[.string ⟨#[111, 108, 100]⟩, .slice (some ⟨w.heap.size + 1 + 1, 0, none⟩) 2 2, .slice (some ⟨w.heap.size + 1 + 1 + 1, 0, none⟩) 1 1] 34)
  rw [show ((((w.alloc (.cells #[.string ⟨#[]⟩, .slice none 0 0, .slice none 0 0] 34)).alloc (.cells #[.string ⟨#[]⟩, .slice none 0 0, .slice none 0 0] 34)).alloc (.cells #[.string ⟨#[102, 105, 108, 101, 100]⟩, .string ⟨#[104, 101, 97, 114, 100]⟩] 9))).heap.size = w.heap.size + 1 + 1 + 1 from by simp] at k3
  have k4 := Blk.new ((((w.alloc (.cells #[.string ⟨#[]⟩, .slice none 0 0, .slice none 0 0] 34)).alloc (.cells #[.string ⟨#[]⟩, .slice none 0 0, .slice none 0 0] 34)).alloc (.cells #[.string ⟨#[102, 105, 108, 101, 100]⟩, .string ⟨#[104, 101, 97, 114, 100]⟩] 9)).alloc (.cells #[.int .i64 0, .int .i64 1] 90)) 34 #[.string ⟨#[111, 108, 100]⟩, .slice (some ⟨w.heap.size + 1 + 1, 0, none⟩) 2 2, .slice (some ⟨w.heap.size + 1 + 1 + 1, 0, none⟩) 1 1]
  rw [show (((((w.alloc (.cells #[.string ⟨#[]⟩, .slice none 0 0, .slice none 0 0] 34)).alloc (.cells #[.string ⟨#[]⟩, .slice none 0 0, .slice none 0 0] 34)).alloc (.cells #[.string ⟨#[102, 105, 108, 101, 100]⟩, .string ⟨#[104, 101, 97, 114, 100]⟩] 9)).alloc (.cells #[.int .i64 0, .int .i64 1] 90))).heap.size = w.heap.size + 1 + 1 + 1 + 1 from by simp] at k4
  have sz : ((((((w.alloc (.cells #[.string ⟨#[]⟩, .slice none 0 0, .slice none 0 0] 34)).alloc (.cells #[.string ⟨#[]⟩, .slice none 0 0, .slice none 0 0] 34)).alloc (.cells #[.string ⟨#[102, 105, 108, 101, 100]⟩, .string ⟨#[104, 101, 97, 114, 100]⟩] 9)).alloc (.cells #[.int .i64 0, .int .i64 1] 90)).alloc (.cells #[.string ⟨#[111, 108, 100]⟩, .slice (some ⟨w.heap.size + 1 + 1, 0, none⟩) 2 2, .slice (some ⟨w.heap.size + 1 + 1 + 1, 0, none⟩) 1 1] 34))).heap.size = w.heap.size + 1 + 1 + 1 + 1 + 1 := by simp
  go_enter Tryz.func18, Tryz.ntmps18
  go_upto_region 2 with fail
  generalize (((((w.alloc (.cells #[.string ⟨#[]⟩, .slice none 0 0, .slice none 0 0] 34)).alloc (.cells #[.string ⟨#[]⟩, .slice none 0 0, .slice none 0 0] 34)).alloc (.cells #[.string ⟨#[102, 105, 108, 101, 100]⟩, .string ⟨#[104, 101, 97, 114, 100]⟩] 9)).alloc (.cells #[.int .i64 0, .int .i64 1] 90)).alloc (.cells #[.string ⟨#[111, 108, 100]⟩, .slice (some ⟨w.heap.size + 1 + 1, 0, none⟩) 2 2, .slice (some ⟨w.heap.size + 1 + 1 + 1, 0, none⟩) 1 1] 34)) = W0 at *
  have HB := Lib.hid hb
  have SZ := Lib.hid sz
  have K0 := Lib.hid k0
  have K1 := Lib.hid k1
  have K2 := Lib.hid k2
  have K3 := Lib.hid k3
  have K4 := Lib.hid k4
  have K0a := Lib.hid ((k0.alloc (.cells #[.string ⟨#[102, 105, 108, 101, 100]⟩, .string ⟨#[116, 114, 105, 101, 100]⟩, .string ⟨#[104, 101, 97, 114, 100]⟩] 9)).alloc (.cells #[.int .i64 0, .int .i64 1, .int .i64 1, .int .i64 2] 90))
  have K1a := Lib.hid ((k1.alloc (.cells #[.string ⟨#[102, 105, 108, 101, 100]⟩, .string ⟨#[116, 114, 105, 101, 100]⟩, .string ⟨#[104, 101, 97, 114, 100]⟩] 9)).alloc (.cells #[.int .i64 0, .int .i64 1, .int .i64 1, .int .i64 2] 90))
  have m5 := (Blk.new W0 9 #[.string ⟨#[102, 105, 108, 101, 100]⟩, .string ⟨#[116, 114, 105, 101, 100]⟩, .string ⟨#[104, 101, 97, 114, 100]⟩]).alloc (.cells #[.int .i64 0, .int .i64 1, .int .i64 1, .int .i64 2] 90)
  have m6 := Blk.new (W0.alloc (.cells #[.string ⟨#[102, 105, 108, 101, 100]⟩, .string ⟨#[116, 114, 105, 101, 100]⟩, .string ⟨#[104, 101, 97, 114, 100]⟩] 9)) 90 #[.int .i64 0, .int .i64 1, .int .i64 1, .int .i64 2]
  rw [show (W0.alloc (.cells #[.string ⟨#[102, 105, 108, 101, 100]⟩, .string ⟨#[116, 114, 105, 101, 100]⟩, .string ⟨#[104, 101, 97, 114, 100]⟩] 9)).heap.size = W0.heap.size + 1 from by simp] at m6
  have M5 := Lib.hid m5
  have M6 := Lib.hid m6
  have hb6 := (hb.alloc hb.size (.cells #[.string ⟨#[102, 105, 108, 101, 100]⟩, .string ⟨#[116, 114, 105, 101, 100]⟩, .string ⟨#[104, 101, 97, 114, 100]⟩] 9)).alloc (by simp; have := hb.size; omega) (.cells #[.int .i64 0, .int .i64 1, .int .i64 1, .int .i64 2] 90)
  have HB6 := Lib.hid hb6
  obtain ⟨t0, t1, t2⟩ := k4.all
  clear hb hb6 sz m5 m6 k0 k1 k2 k3 k4
  go_wp2_with (first | (refine wp_rowP rfl (.tmp 0) (.tmp 7) rfl w.heap.size #[.string ⟨#[111, 108, 100]⟩, .slice (some ⟨w.heap.size + 1 + 1, 0, none⟩) 2 2, .slice (some ⟨w.heap.size + 1 + 1 + 1, 0, none⟩) 1 1] rfl rfl rfl one3 rfl K0a.out ?_; generalize hW7 : World.setRow _ w.heap.size #[.string ⟨#[111, 108, 100]⟩, .slice (some ⟨w.heap.size + 1 + 1, 0, none⟩) 2 2, .slice (some ⟨w.heap.size + 1 + 1 + 1, 0, none⟩) 1 1] = W7 at *; clear t0 t1 t2) | (refine wp_rowP rfl (.tmp 1) (.tmp 12) rfl (w.heap.size + 1) #[.string ⟨#[110, 101, 119]⟩, .slice (some ⟨W0.heap.size, 0, none⟩) 3 3, .slice (some ⟨W0.heap.size + 1, 0, none⟩) 2 2] rfl rfl rfl one3 rfl (hW7 ▸ rowP_only.blk K1a.out (by omega)) ?_))
  have o7 := (rowP_only (W := (W0.alloc (.cells #[.string ⟨#[102, 105, 108, 101, 100]⟩, .string ⟨#[116, 114, 105, 101, 100]⟩, .string ⟨#[104, 101, 97, 114, 100]⟩] 9)).alloc (.cells #[.int .i64 0, .int .i64 1, .int .i64 1, .int .i64 2] 90)) (g := w.heap.size) (cells := #[.string ⟨#[111, 108, 100]⟩, .slice (some ⟨w.heap.size + 1 + 1, 0, none⟩) 2 2, .slice (some ⟨w.heap.size + 1 + 1 + 1, 0, none⟩) 1 1]))
  have c0 := rowP_blk (cells := #[.string ⟨#[111, 108, 100]⟩, .slice (some ⟨w.heap.size + 1 + 1, 0, none⟩) 2 2, .slice (some ⟨w.heap.size + 1 + 1 + 1, 0, none⟩) 1 1]) K0a.out
  have c1 := (rowP_only (W := (W0.alloc (.cells #[.string ⟨#[102, 105, 108, 101, 100]⟩, .string ⟨#[116, 114, 105, 101, 100]⟩, .string ⟨#[104, 101, 97, 114, 100]⟩] 9)).alloc (.cells #[.int .i64 0, .int .i64 1, .int .i64 1, .int .i64 2] 90)) (g := w.heap.size) (cells := #[.string ⟨#[111, 108, 100]⟩, .slice (some ⟨w.heap.size + 1 + 1, 0, none⟩) 2 2, .slice (some ⟨w.heap.size + 1 + 1 + 1, 0, none⟩) 1 1])).blk K1a.out (by omega)
  have n2 := o7.blk ((K2.out.alloc (.cells #[.string ⟨#[102, 105, 108, 101, 100]⟩, .string ⟨#[116, 114, 105, 101, 100]⟩, .string ⟨#[104, 101, 97, 114, 100]⟩] 9)).alloc (.cells #[.int .i64 0, .int .i64 1, .int .i64 1, .int .i64 2] 90)) (by omega)
  have n3 := o7.blk ((K3.out.alloc (.cells #[.string ⟨#[102, 105, 108, 101, 100]⟩, .string ⟨#[116, 114, 105, 101, 100]⟩, .string ⟨#[104, 101, 97, 114, 100]⟩] 9)).alloc (.cells #[.int .i64 0, .int .i64 1, .int .i64 1, .int .i64 2] 90)) (by omega)
  have n5 := o7.blk M5.out (by have := SZ.out; omega)
  have n6 := o7.blk M6.out (by have := SZ.out; omega)
  have hb7 := HB6.out.trans (o7.below HB6.out.size fun i hi => by omega)
  rw [hW7] at o7 c0 c1 n2 n3 n5 n6 hb7
  have o8 := (rowP_only (W := W7) (g := w.heap.size + 1) (cells := #[.string ⟨#[110, 101, 119]⟩, .slice (some ⟨W0.heap.size, 0, none⟩) 3 3, .slice (some ⟨W0.heap.size + 1, 0, none⟩) 2 2]))
  have d0 := o8.blk c0 (by omega)
  have d1 := rowP_blk (cells := #[.string ⟨#[110, 101, 119]⟩, .slice (some ⟨W0.heap.size, 0, none⟩) 3 3, .slice (some ⟨W0.heap.size + 1, 0, none⟩) 2 2]) c1
  have M2 := Lib.hid (o8.blk n2 (by omega))
  have M3 := Lib.hid (o8.blk n3 (by omega))
  have M7 := Lib.hid (o8.blk n5 (by have := SZ.out; omega))
  have M8 := Lib.hid (o8.blk n6 (by have := SZ.out; omega))
  have HB8 := Lib.hid (hb7.trans (o8.below hb7.size fun i hi => by omega))
  obtain ⟨t0, t1, t2⟩ := d0.all
  obtain ⟨u0, u1, u2⟩ := d1.all
  clear o7 c0 c1 n2 n3 n5 n6 hb7 o8 d0 d1
  refine bodyPost_ret (v := .tuple #[.agg #[.string ⟨#[111, 108, 100]⟩, .slice (some ⟨w.heap.size + 1 + 1, 0, none⟩) 2 2, .slice (some ⟨w.heap.size + 1 + 1 + 1, 0, none⟩) 1 1], .agg #[.string ⟨#[110, 101, 119]⟩, .slice (some ⟨W0.heap.size, 0, none⟩) 3 3, .slice (some ⟨W0.heap.size + 1, 0, none⟩) 2 2]]) (by simp [results, Tryz.results18, go_sem, t0, u0]) rfl ⟨⟨some ⟨w.heap.size + 1 + 1, 0, none⟩, 2, some ⟨w.heap.size + 1 + 1 + 1, 0, none⟩, 1⟩, ⟨some ⟨W0.heap.size, 0, none⟩, 3, some ⟨W0.heap.size + 1, 0, none⟩, 2⟩, rfl, ⟨?_, ?_, by decide, ?_⟩, ⟨?_, ?_, by decide, ?_⟩, HB8.out⟩
  · intro i s hi
    refine ⟨w.heap.size + 1 + 1, 0, rfl, M2.out.lt, ?_⟩
    rw [M2.out.cell]
    match i, hi with
    | 0, hi => simp [tpP] at hi; subst hi; exact rfl
    | 1, hi => simp [tpP] at hi; subst hi; exact rfl
    | i + 2, hi => simp [tpP] at hi
  · intro i s hi
    refine ⟨w.heap.size + 1 + 1 + 1, 0, rfl, M3.out.lt, ?_⟩
    rw [M3.out.cell, M3.out.cell]
    match i, hi with
    | 0, hi => simp [tpP] at hi; subst hi; exact ⟨rfl, rfl⟩
    | i + 1, hi => simp [tpP] at hi
  · intro s hs
    simp only [tpP, List.mem_cons, List.not_mem_nil, or_false] at hs
    rcases hs with rfl | rfl <;> decide
  · intro i s hi
    refine ⟨W0.heap.size, 0, rfl, M7.out.lt, ?_⟩
    rw [M7.out.cell]
    match i, hi with
    | 0, hi => simp [tpQ] at hi; subst hi; exact rfl
    | 1, hi => simp [tpQ] at hi; subst hi; exact rfl
    | 2, hi => simp [tpQ] at hi; subst hi; exact rfl
    | i + 3, hi => simp [tpQ] at hi
  · intro i s hi
    refine ⟨W0.heap.size + 1, 0, rfl, M8.out.lt, ?_⟩
    rw [M8.out.cell, M8.out.cell]
    match i, hi with
    | 0, hi => simp [tpQ] at hi; subst hi; exact ⟨rfl, rfl⟩
    | 1, hi => simp [tpQ] at hi; subst hi; exact ⟨rfl, rfl⟩
    | i + 2, hi => simp [tpQ] at hi
  · intro s hs
    simp only [tpQ, List.mem_cons, List.not_mem_nil, or_false] at hs
    rcases hs with rfl | rfl | rfl <;> decide
end Go.Proofs.YtebdkmlganalaaaGreatDoor

namespace Go.Proofs.YtebdkmlganalaaaGreatDoor
open Go.RowKit Go.Shelf

theorem nextU_free' {p : Int → Bool} {x : Int} (h : p (x + 1) = false) : nextU p x = x + 1 := by
  unfold nextU
  cases (1000001 - x).toNat with
  | zero => rfl
  | succ k => show (if p (x + 1) = true then nxU p k (x + 1) else x + 1) = x + 1; rw [if_neg (by rw [h]; simp)]
theorem nth_free {p : Int → Bool} (h : ∀ x, p x = false) (f : Int) : ∀ k : Nat, nthU p f k = f + (k : Int)
  | 0 => by show f = f + (0 : Int); omega
  | k + 1 => by
    show nextU p (nthU p f k) = _
    rw [nth_free h f k, nextU_free' (h _)]
    omega
theorem openS_here' {p : Int → Bool} {l : List Int} {x : Int} (hx : x ≤ 1000000) (h1 : p x = false) (h2 : opB l x = true) : openS p l x = (x, 0) := by
  rw [openS_in hx, h1, h2]; rfl
theorem addS_days' {l : List Int} {d n : Int} (hd : isB d = true) (hn : 0 ≤ n) (hn1 : n ≤ 1000000) (hl : l.length ≤ 1000) (hb : isB (d + n) = true) (ho : opB l (d + n) = true) : addS l d n 1 = (d + n, 0) := by
  unfold addS
  rw [if_neg (by rw [hd]; simp; omega), if_neg (by omega)]
  show endS l (d + n, 0) = _
  unfold endS
  rw [if_pos ⟨rfl, hb⟩, fromS_here ho, if_pos hb]
theorem due_free {i : ByteArray} {n f e : Int} (h : prB ⟨i, n, 1, f, []⟩ = true) (ha : addS [] f n 1 = (e, 0)) (hf : f ≤ e) (he : e ≤ 1000000) (ho : opB [] e = true) : dueS ⟨i, n, 1, f, []⟩ [] = (e, 0) := by
  have hp : ∀ x, pzB f [] x = false := fun x => by
    cases hh : pzB f [] x with
    | false => rfl
    | true => obtain ⟨-, s, hs, -⟩ := pzB_iff.1 hh; cases hs
  unfold dueS
  rw [if_pos h]
  show (if (addS [] f n 1).2 = 0 then openS (pzB f []) [] (nthU (pzB f []) f ((addS [] f n 1).1 - f).toNat) else (0, (addS [] f n 1).2)) = _
  rw [ha, if_pos rfl, nth_free hp]
  show openS (pzB f []) [] (f + ((e - f).toNat : Int)) = _
  rw [show f + ((e - f).toNat : Int) = e by omega]
  exact openS_here' he (hp e) ho
def apS : ByteArray := ⟨#[97, 112, 112, 101, 97, 108]⟩
def rvS : ByteArray := ⟨#[114, 101, 118, 105, 101, 119]⟩
def anS : ByteArray := ⟨#[97, 110, 115, 119, 101, 114]⟩
def tpM : Mt := ⟨⟨#[109, 49]⟩, 5, [], ⟨#[111, 108, 100]⟩, 1, [7], [(apS, 7)], [⟨anS, 30, 1, 7, []⟩]⟩
def tpG : Mg := ⟨⟨#[111, 108, 100]⟩, ⟨#[110, 101, 119]⟩, [0, 2], [(apS, rvS)], [⟨anS, 1, 1, 10, []⟩]⟩
def tpA : Mt := ⟨⟨#[109, 49]⟩, 5, [], ⟨#[110, 101, 119]⟩, 2, [7], [(rvS, 7)], [⟨anS, 10, 1, 20, []⟩]⟩
theorem tp_d1 : dueS ⟨anS, 30, 1, 7, []⟩ [] = (37, 0) := due_free (by decide +kernel) (addS_days' (d := 7) (n := 30) (by decide) (by decide) (by decide) (by decide) (by decide) (by decide)) (by decide) (by decide) (by decide)
theorem tp_d2 : dueS ⟨anS, 1, 1, 7, []⟩ [] = (9, 0) := by
  refine due_free (by decide +kernel) ?_ (by decide) (by decide) (by decide)
  unfold addS
  rw [if_neg (by decide), if_neg (by decide)]
  show endS [] (8, 0) = _
  have f8 : fromS [] 8 = 9 := by rw [fromS_on (by decide) (by decide)]; exact fromS_here (by decide)
  unfold endS
  rw [if_pos (by decide), f8]
  rfl
theorem tp_d3 : dueS ⟨anS, 10, 1, 20, []⟩ [] = (30, 0) := due_free (by decide +kernel) (addS_days' (d := 20) (n := 10) (by decide) (by decide) (by decide) (by decide) (by decide) (by decide)) (by decide) (by decide) (by decide)
theorem tp_chg : changeS ⟨anS, 30, 1, 7, []⟩ 20 1 1 10 [] = (⟨anS, 10, 1, 20, []⟩, 0) := by
  unfold changeS
  rw [if_neg (by decide +kernel), tp_d1, if_neg (by decide), if_neg (by decide)]
  simp only
  rw [tp_d2, if_neg (by decide), if_pos (by decide), tp_d3, if_neg (by decide)]
theorem tp_ap : applyE tpM tpG tpP tpQ 20 [] = 0 ∧ applyM tpM tpG tpP tpQ 20 [] = tpA := by
  have h : apB tpM tpG tpP tpQ 20 = true := by decide +kernel
  have hc : chgS tpG.ts 20 [] ⟨anS, 30, 1, 7, []⟩ = (⟨anS, 10, 1, 20, []⟩, 0) := by
    unfold chgS
    rw [show termOf tpG.ts anS = some ⟨anS, 1, 1, 10, []⟩ from by unfold termOf tpG; simp]
    exact tp_chg
  have he : applyE tpM tpG tpP tpQ 20 [] = 0 := by
    unfold applyE
    rw [if_neg (by rw [h]; decide), if_neg (by decide +kernel), if_neg (by decide +kernel)]
    show (if (chgS tpG.ts 20 [] ⟨anS, 30, 1, 7, []⟩).2 ≠ 0 then _ else (0 : Int)) = 0
    rw [hc]
    rfl
  refine ⟨he, ?_⟩
  unfold applyM
  rw [if_pos he]
  have hr : mergeR tpG.rs tpM.rs = [(rvS, 7)] := by decide +kernel
  have hl : chgL tpG.ts 20 [] tpM.ls = [⟨anS, 10, 1, 20, []⟩] := by
    show [(chgS tpG.ts 20 [] ⟨anS, 30, 1, 7, []⟩).1] = _
    rw [hc]
  rw [hr, hl]
  rfl
theorem tp_h1 : hasB tpA.rs rvS 7 = true := by decide +kernel
theorem tp_h2 : hasB tpA.rs apS 100 = false := by decide +kernel
end Go.Proofs.YtebdkmlganalaaaGreatDoor
