/- strings.Builder once more: what it leaves as it was: every block but its own and rows of bytes; Itoa likewise. The text of a matter, as plain bytes; a line of it, written. Lengths and beginnings of a matter's text (plain). Numerals; texts cut at a byte, words put together (plain). What Parse reads of a text, loosely, and what it returns (plain): the text of a formed matter is read back. Rows of the call's own while a builder is written. The scanner of package matter: word, number, next, rest. The reader's rest: all further numbers. What lies in memory while Parse reads. Rows of limits of the call's own; the further lines of a text, step by step. -/
import Derived.Test.YtgfahifdmacmhaaGreatDoorQy
import Derived.Lib.SplitLaws
import Derived.Lib.AtoiAll
import Derived.Lib.AtoiAllCases
import Derived.Lib.IndexMore
import Derived.Lib.Strings
import Derived.Test.YtgfahifdmacmhaaGreatDoorQr
import Derived.Deep.LoopGhost
import Derived.Test.YtgfahifdmacmhaaGreatDoorQs
namespace Go.Proofs.YtgfahifdmacmhaaGreatDoor
open Go.RowKit Go.Shelf

/-- All blocks but b, and but rows of bytes, lie as they lay. -/
def KeepB (b : Nat) (w w' : World) : Prop := w.heap.size ≤ w'.heap.size ∧ ∀ g t cs, g ≠ b → t ≠ 5 → Blk w g t cs → Blk w' g t cs
theorem KeepB.refl (b : Nat) (w : World) : KeepB b w w := ⟨Nat.le_refl _, fun _ _ _ _ _ h => h⟩
theorem KeepB.trans {b : Nat} {A B C : World} (h : KeepB b A B) (k : KeepB b B C) : KeepB b A C := ⟨Nat.le_trans h.1 k.1, fun g t cs h1 h2 h3 => k.2 g t cs h1 h2 (h.2 g t cs h1 h2 h3)⟩
theorem KeepB.of_below {b : Nat} {A B : World} (h : Below A.heap.size A B) : KeepB b A B := ⟨h.size, fun _ _ _ _ _ hb => hb.below h hb.lt⟩
theorem KeepB.set (b : Nat) (w : World) (i : Nat) (v : Value) : KeepB b w (w.setCell ⟨b, i, none⟩ v) := ⟨by simp [World.setCell], fun _ _ _ hg _ hb => hb.far hg v⟩
theorem KeepB.grown {b : Nat} {row : Option Nat} {w w' : World} (h : w.grownBy w' row) (hr : ∀ g t cs, Blk w g t cs → t ≠ 5 → row ≠ some g) : KeepB b w w' := ⟨h.size, fun g t cs _ ht hb => hb.grown h (fun e => hr g t cs hb ht e.symm)⟩
set_option maxHeartbeats 1000000 in
set_option maxRecDepth 100000 in
theorem copyCheck2 (B b : Nat) (l : List Value) (w : World) (h : Lib.IsBuilder 68 5 B b l w) :
    Calls Tryz.prog 79 #[.pointer (some ⟨b, 0, none⟩)] w fun e w' => e = .returned (.tuple #[]) ∧ (Lib.BuilderAt 68 5 B b (.pointer (some ⟨b, 0, none⟩)) l w' ∧ Below B w w') ∧ KeepB b w w' := by
  rcases h with h | h
  · refine (copyCheck_fresh b w h.cell0 h.shape h.frozen0).mono ?_
    rintro e w' ⟨rfl, rfl⟩
    exact ⟨rfl, ⟨h.used _, (Below.refl B w).setCell (p := ⟨b, 0, none⟩) h.1 _⟩, KeepB.set b w _ _⟩
  · refine (copyCheck_used b w h.cell0).mono ?_
    rintro e w' ⟨rfl, rfl⟩
    exact ⟨rfl, ⟨h, Below.refl B _⟩, KeepB.refl b _⟩

set_option maxHeartbeats 1000000 in
set_option maxRecDepth 100000 in
theorem writeString2 (B b : Nat) (l : List UInt8) (s : List UInt8) (w : World) (h : Bld B b l w) (hlen : l.length + s.length ≤ 140737488355328) (hBw : B ≤ w.heap.size) :
    Calls Tryz.prog 32 #[.pointer (some ⟨b, 0, none⟩), .string (bs s)] w fun e w' => e = .returned (.tuple #[.int .i64 s.length, .nilIface]) ∧ Bld B b (l ++ s) w' ∧ Below B w w' ∧ KeepB b w w' := by
  obtain ⟨i0, hi, hz0, hz1, hz2⟩ := info_parts Tryz.infoByte
  have hss := bs_size s
  have hbl : (Lib.byteCells l).length = l.length := by simp [Lib.byteCells]
  go_enter Tryz.func32, Tryz.ntmps32
  go_wp2_with fail
  refine (copyCheck2 B b _ _ h).mono ?_
  rintro e w1 ⟨rfl, ⟨h1, hb1⟩, hkb1⟩
  obtain ⟨hB, v, hbk, hown, hne⟩ := h1
  have c0 : w1.cell? ⟨b, 0, none⟩ = some (.pointer (some ⟨b, 0, none⟩)) := by rw [Lib.cell_of_heap hbk]; rfl
  have c1 : w1.cell? ⟨b, 1, none⟩ = some v := by rw [Lib.cell_of_heap hbk]; rfl
  go_wp2_with (at_builtin; refine Lib.wpList_append_own_string _ rfl _ _ 56 9 rfl B 5 i0 Tryz.underlying56 Tryz.underlying9 hi hz0 hz1 hz2 _ _ _ rfl hown (bs s) rfl ?c3 ?c4 ?c5 ?_)
  case c3 => rw [hbl, hss]; unfold maxLen; omega
  case c4 => rw [hbl, hss]; omega
  case c5 => have := hb1.size; omega
  intro v' w2 hown' hgrow _
  have hlt : b < w1.heap.size := by
    rcases Nat.lt_or_ge b w1.heap.size with h' | h'
    · exact h'
    · simp [Array.getElem?_eq_none h'] at hbk
  have hb2 : w2.heap[b]? = some (.cells #[.pointer (some ⟨b, 0, none⟩), v] 68 (0, 0)) := by
    rw [hgrow.block b hlt (fun e => hne e.symm)]
    exact hbk
  have d0 : w2.cell? ⟨b, 0, none⟩ = some (.pointer (some ⟨b, 0, none⟩)) := by rw [Lib.cell_of_heap hb2]; rfl
  have d1 : w2.cell? ⟨b, 1, none⟩ = some v := by rw [Lib.cell_of_heap hb2]; rfl
  have f1 : w2.frozen? ⟨b, 1, none⟩ = false := Lib.frozen_of_heap hb2 1
  obtain ⟨ao, n', cap, rfl⟩ : ∃ ao n' cap, v' = .slice ao n' cap := by
    rcases hown'.2 with ⟨hv, _⟩ | ⟨g, cap, cur, hv, _⟩
    · exact ⟨_, _, _, hv⟩
    · exact ⟨_, _, _, hv⟩
  go_wp2
  go_ret2
  refine ⟨rfl, ?_, ?_, ?_⟩
  · have hcells : Lib.byteCells l ++ Lib.strCells (bs s) = Lib.byteCells (l ++ s) := by simp [Lib.byteCells, Lib.strCells, bs]
    unfold Bld
    rw [← hcells]
    exact .inr (Lib.BuilderAt.put (T := 68) (e := 5) hB hb2 (bs' := Lib.byteCells l ++ Lib.strCells (bs s)) (by rw [List.length_append, Lib.strCells_length]; first | exact hown' | (rw [hbl, hss]; exact hown')) (by decide))
  · exact (hb1.grown hgrow (by have := hb1.size; omega) (fun k hk => (hown.lt k hk).1)).setCell (p := ⟨b, 1, none⟩) hB _
  · exact (hkb1.trans (KeepB.grown hgrow (fun g t cs hb' ht he => own_blk_ne hown hb' (fun e => ht e.symm) he))).trans (KeepB.set b _ 1 _)
set_option maxHeartbeats 1000000 in
set_option maxRecDepth 100000 in
theorem writeByte2 (B b : Nat) (l : List UInt8) (c : UInt8) (w : World) (h : Bld B b l w) (hlen : l.length + 1 ≤ 140737488355328) (hBw : B ≤ w.heap.size) :
    Calls Tryz.prog 34 #[.pointer (some ⟨b, 0, none⟩), .int .u8 (c.toNat : Int)] w fun e w' => e = .returned .nilIface ∧ Bld B b (l ++ [c]) w' ∧ Below B w w' ∧ KeepB b w w' := by
  obtain ⟨i0, hi, hz0, hz1, hz2⟩ := info_parts Tryz.infoByte
  have hbl : (Lib.byteCells l).length = l.length := by simp [Lib.byteCells]
  go_enter Tryz.func34, Tryz.ntmps34
  go_wp2_with fail
  refine (copyCheck2 B b _ _ h).mono ?_
  rintro e w1 ⟨rfl, ⟨h1, hb1⟩, hkb1⟩
  obtain ⟨hB, v, hbk, hown, hne⟩ := h1
  have c0 : w1.cell? ⟨b, 0, none⟩ = some (.pointer (some ⟨b, 0, none⟩)) := by rw [Lib.cell_of_heap hbk]; rfl
  have c1 : w1.cell? ⟨b, 1, none⟩ = some v := by rw [Lib.cell_of_heap hbk]; rfl
  go_wp2_with (at_builtin; refine wpList_append_own _ rfl _ _ 56 rfl B 5 i0 (.int .u8 0) 1 1 Tryz.underlying56 hi hz0 hz1 hz2 rfl (by decide) _ _ _ rfl (hown.alloc _) ⟨w1.heap.size, 0, none⟩ 1 1 [.int .u8 (c.toNat : Int)] rfl rfl ?c1 ?c2 ?c3 ?c4 ?c5 ?_)
  case c1 =>
    intro j u hj
    match j, hj with
    | 0, hj => simp at hj; subst hj; simp [Addr.add]
  case c2 => intro u hu; simp at hu; subst hu; rfl
  case c3 => rw [hbl]; unfold maxLen; omega
  case c4 => rw [hbl]; omega
  case c5 => have := hb1.size; simp; omega
  intro v' w2 hown' hgrow _
  have hlt : b < w1.heap.size := by
    rcases Nat.lt_or_ge b w1.heap.size with h' | h'
    · exact h'
    · simp [Array.getElem?_eq_none h'] at hbk
  have hb2 : w2.heap[b]? = some (.cells #[.pointer (some ⟨b, 0, none⟩), v] 68 (0, 0)) := by
    rw [hgrow.block b (by simp; omega) (fun e => hne e.symm), Lib.alloc_old w1 _ b hlt]
    exact hbk
  have d0 : w2.cell? ⟨b, 0, none⟩ = some (.pointer (some ⟨b, 0, none⟩)) := by rw [Lib.cell_of_heap hb2]; rfl
  have d1 : w2.cell? ⟨b, 1, none⟩ = some v := by rw [Lib.cell_of_heap hb2]; rfl
  have f1 : w2.frozen? ⟨b, 1, none⟩ = false := Lib.frozen_of_heap hb2 1
  obtain ⟨g, cap, rfl⟩ : ∃ g cap, v' = .slice (some ⟨g, 0, none⟩) (l.length + 1) cap := by
    rcases hown'.2 with ⟨_, h0⟩ | ⟨g, cap, cur, hv, _⟩
    · simp at h0
    · exact ⟨g, cap, hv⟩
  go_wp2
  go_ret
  refine ⟨rfl, ?_, ?_, ?_⟩
  · have hcells : Lib.byteCells l ++ [.int .u8 (c.toNat : Int)] = Lib.byteCells (l ++ [c]) := by simp [Lib.byteCells]
    unfold Bld
    rw [← hcells]
    exact .inr (Lib.BuilderAt.put (T := 68) (e := 5) hB hb2 (bs' := Lib.byteCells l ++ [.int .u8 (c.toNat : Int)]) (by rw [List.length_append, hbl]; exact hown') (by decide))
  · exact ((hb1.alloc (by have := hb1.size; omega) _).grown hgrow (by have := hb1.size; simp; omega) (fun k hk => (hown.lt k hk).1)).setCell (p := ⟨b, 1, none⟩) hB _
  · exact ((hkb1.trans (KeepB.of_below (below_self_alloc _ _))).trans (KeepB.grown hgrow (fun g t cs hb' ht he => own_blk_ne (hown.alloc _) hb' (fun e => ht e.symm) he))).trans (KeepB.set b _ 1 _)
end Go.Proofs.YtgfahifdmacmhaaGreatDoor

namespace Go.Proofs.YtgfahifdmacmhaaGreatDoor
open Go.RowKit Go.Shelf

/-- Numbers behind blanks. -/
def numsL (l : List Int) : List UInt8 := l.flatMap fun n => 32 :: Lib.itoa n
def lineL (first : List UInt8) (l : List Int) : List UInt8 := first ++ (numsL l ++ [10])
def sL (s : ByteArray) : List UInt8 := s.data.toList
def mattL : List UInt8 := [109, 97, 116, 116, 101, 114, 32]
def caseL : List UInt8 := [99, 97, 115, 101]
def movedL : List UInt8 := [109, 111, 118, 101, 100]
def rightL : List UInt8 := [114, 105, 103, 104, 116, 32]
def limitL : List UInt8 := [108, 105, 109, 105, 116, 32]
def headL (m : Mt) : List UInt8 := mattL ++ (sL m.id ++ (32 :: (Lib.itoa m.o ++ (32 :: sL m.pr))))
def limI (x : Lm) : List Int := x.n :: x.u :: x.f :: x.S.flatMap fun s => [s.1, s.2]
def rtsL (l : List Rt) : List UInt8 := l.flatMap fun r => lineL (rightL ++ sL r.1) [r.2]
def lmsL (l : List Lm) : List UInt8 := l.flatMap fun x => lineL (limitL ++ sL x.id) (limI x)
def textL (m : Mt) : List UInt8 := lineL (headL m) [m.st] ++ (lineL caseL m.cs ++ (lineL movedL m.mv ++ (rtsL m.rs ++ lmsL m.ls)))
theorem numsL_app (a b : List Int) : numsL (a ++ b) = numsL a ++ numsL b := by simp [numsL]
theorem dec_len : ∀ (w n : Nat), n < 10 ^ (w + 1) → (Lib.decDigits n).length ≤ w + 1
  | 0, n, h => by
    have h : n < 10 := by simpa using h
    rw [Lib.decDigits, dif_pos h]
    simp
  | w + 1, n, h => by
    by_cases h10 : n < 10
    · rw [Lib.decDigits, dif_pos h10]
      simp
    · rw [Nat.pow_succ] at h
      have h1 := dec_len w (n / 10) (by omega)
      rw [Lib.decDigits, dif_neg h10, List.length_append]
      simp only [List.length_cons, List.length_nil]
      omega
theorem itoa_len {n : Int} (h0 : -9223372036854775808 ≤ n) (h1 : n ≤ 9223372036854775807) : (Lib.itoa n).length ≤ 20 := by
  unfold Lib.itoa
  split
  · have := dec_len 18 n.natAbs (by have : n.natAbs ≤ 9223372036854775808 := by omega
                                    exact Nat.lt_of_le_of_lt this (by decide))
    simp only [List.length_cons]
    omega
  · have := dec_len 18 n.toNat (by have : n.toNat ≤ 9223372036854775807 := by omega
                                   exact Nat.lt_of_le_of_lt this (by decide))
    omega
theorem numsL_len : ∀ (l : List Int), (∀ n ∈ l, wf64 n) → (numsL l).length ≤ l.length * 21
  | [], _ => by simp [numsL]
  | n :: l, h => by
    have h1 := h n List.mem_cons_self
    have := itoa_len h1.1 h1.2
    have ih := numsL_len l (fun n hn => h n (List.mem_cons_of_mem _ hn))
    show ((32 :: Lib.itoa n) ++ numsL l).length ≤ _
    rw [List.length_append]
    simp only [List.length_cons]
    omega

theorem numsL_take {l : List Int} {k : Nat} {n : Int} (h : l[k]? = some n) : numsL (l.take (k + 1)) = numsL (l.take k) ++ (32 :: Lib.itoa n) := by
  rw [take_snoc' h, numsL_app]
  simp [numsL]
theorem numsL_take_len {l : List Int} (h : ∀ n ∈ l, wf64 n) (k : Nat) : (numsL (l.take k)).length ≤ l.length * 21 := by
  have := numsL_len (l.take k) (fun n hn => h n (List.mem_of_mem_take hn))
  have h2 : (l.take k).length ≤ l.length := List.length_take_le' _ _
  omega
set_option maxRecDepth 100000 in
set_option maxHeartbeats 4000000 in
theorem line_any (w : World) (B b : Nat) (ht : ∀ W, Below B w W → Tbs W) (acc : List UInt8) (h : Bld B b acc w) (hBw : B ≤ w.heap.size) (first : List UInt8) (A : Option Addr) (l : List Int) (c : Nat) (hI : ∀ W, Below B w W → KeepB b w W → IntsAt W W.heap.size A l)
    (hw : ∀ n ∈ l, wf64 n) (hl : l.length ≤ 1000000) (hacc : acc.length + first.length ≤ 100000000000) :
    Calls Tryz.prog 31 #[.string (bs first), .slice A l.length c, .pointer (some ⟨b, 0, none⟩)] w fun e w' => (∃ v, e = .returned v) ∧ Bld B b (acc ++ lineL first l) w' ∧ Below B w w' ∧ KeepB b w w' := by
  have HT := Lib.hid ht
  have HI := Lib.hid hI
  have HW := Lib.hid hw
  have h1 := writeString2 B b acc first w h (by omega) hBw
  have H1 := Lib.hid h1
  clear ht hI hw h1 h
  go_enter Tryz.func31, Tryz.ntmps31
  go_wp2_with fail
  refine H1.out.mono ?_
  rintro e w1 ⟨rfl, hb1, b1, k1⟩
  clear H1
  go_wp2_with fail
  go_loopw [11] (fun i wr => ∃ k : Nat, k ≤ l.length ∧ i = .int .i64 (k : Int) ∧ Hid (Bld B b (acc ++ (first ++ numsL (l.take k))) wr) ∧ Hid (Below B w wr) ∧ Hid (KeepB b w wr)) (fun i _ => l.length - (intOf i).toNat)
  case atStart => exact ⟨0, Nat.zero_le _, rfl, Lib.hid (by simpa [numsL] using hb1), Lib.hid b1, Lib.hid k1⟩
  case round =>
    clear hb1 b1 k1
    obtain ⟨k, hk, rfl, HBD, HB, HK⟩ := hrel
    by_cases hlt : k < l.length
    · obtain ⟨n, hn⟩ : ∃ n, l[k]? = some n := ⟨_, List.getElem?_eq_getElem hlt⟩
      obtain ⟨g, off, hA, hg, c0⟩ := HI.out wr HB.out HK.out k n hn
      subst hA
      have hwn := HW.out n (List.mem_of_getElem? hn)
      have hnl := itoa_len hwn.1 hwn.2
      have hit := itoa_int wr (HT.out wr HB.out) n hwn.1 hwn.2
      have htk := numsL_take hn
      have hlen := numsL_take_len HW.out k
      generalize Lib.itoa n = D at *
      have hsum : ∀ W, (Op.stringOp .add ⟨#[32]⟩ (bs D)).run Tryz.prog W = .ok (.string (bs (32 :: D))) W := fun W => sum_bs [32] D (by simp; omega) W
      have HTK := Lib.hid htk
      have HIT := Lib.hid hit
      have HLN := Lib.hid hlen
      have HNL := Lib.hid hnl
      clear hn htk hit hlen hwn hnl
      go_wp2_with fail
      refine HIT.out.mono ?_
      rintro e w2 ⟨rfl, b2⟩
      have hws := writeString2 B b _ (32 :: D) w2 (HBD.out.below b2) (by have := HLN.out; have := HNL.out; simp only [List.length_append, List.length_cons]; omega) (Nat.le_trans hBw (Nat.le_trans HB.out.size b2.size))
      have HWS := Lib.hid hws
      have HB2 := Lib.hid (HB.out.trans (b2.mono (Nat.le_trans hBw HB.out.size)))
      have HK2 := Lib.hid (HK.out.trans (KeepB.of_below b2))
      clear hws b2 c0
      go_wp2_with fail
      refine HWS.out.mono ?_
      rintro e w3 ⟨rfl, h3, b3, k3⟩
      have H3 := Lib.hid h3
      have HB3 := Lib.hid (HB2.out.trans b3)
      have HK3 := Lib.hid (HK2.out.trans k3)
      clear h3 b3 k3
      go_wp2
      go_roundw
      case rel => exact ⟨k + 1, by omega, by go_num, Lib.hid (by rw [HTK.out]; have := H3.out; simpa [List.append_assoc] using this), HB3, HK3⟩
      case measure => simp [intOf]; omega
    · obtain rfl : k = l.length := by omega
      have hbd := HBD.out
      rw [List.take_length] at hbd
      have hlen := numsL_len l HW.out
      have hwb : Calls Tryz.prog 34 #[.pointer (some ⟨b, 0, none⟩), .int .u8 10] wr _ := writeByte2 B b _ 10 wr hbd (by simp only [List.length_append]; omega) (Nat.le_trans hBw HB.out.size)
      have HWB := Lib.hid hwb
      clear hbd hlen hwb
      go_wp2_with fail
      refine HWB.out.mono ?_
      rintro e w2 ⟨rfl, h2, b2, k2⟩
      have H2 := Lib.hid h2
      have HB2 := Lib.hid (HB.out.trans b2)
      have HK2 := Lib.hid (HK.out.trans k2)
      clear h2 b2 k2
      go_wp2
      go_end0
      refine ⟨⟨_, rfl⟩, ?_, HB2.out, HK2.out⟩
      have := H2.out
      simpa [lineL, List.append_assoc] using this
end Go.Proofs.YtgfahifdmacmhaaGreatDoor

namespace Go.Proofs.YtgfahifdmacmhaaGreatDoor
open Go.RowKit Go.Shelf

theorem isB_wf {n : Int} (h : isB n = true) : wf64 n := by
  have := (isB_iff n).1 h
  exact ⟨by omega, by omega⟩
theorem upB_wf : ∀ (l : List Int) (a : Int), 0 ≤ a → upB a l = true → ∀ n ∈ l, wf64 n
  | [], _, _, _, n, hn => by simp at hn
  | x :: xs, a, h0, h, n, hn => by
    have h' : (decide (a ≤ x ∧ x ≤ 1000000) && upB x xs) = true := h
    rw [Bool.and_eq_true, decide_eq_true_eq] at h'
    rcases List.mem_cons.1 hn with rfl | hn
    · exact ⟨by omega, by omega⟩
    · exact upB_wf xs x (by omega) h'.2 n hn
theorem limI_wf {x : Lm} (h : prB x = true) : ∀ n ∈ limI x, wf64 n := by
  obtain ⟨_, h1, h2, _, h3⟩ := prB_iff.1 h
  have h1' := (isB_iff _).1 h1
  have h2' := ptB_iff.1 h2
  intro n hn
  unfold limI at hn
  rcases List.mem_cons.1 hn with rfl | hn
  · exact ⟨by omega, by omega⟩
  rcases List.mem_cons.1 hn with rfl | hn
  · exact ⟨by omega, by omega⟩
  rcases List.mem_cons.1 hn with rfl | hn
  · exact ⟨by omega, by omega⟩
  obtain ⟨s, hs, hn⟩ := List.mem_flatMap.1 hn
  have := psB_iff.1 (h3 s hs)
  simp at hn
  rcases hn with rfl | rfl <;> exact ⟨by omega, by omega⟩
theorem sL_size (s : ByteArray) : (sL s).length = s.size := len_bytes s
theorem sum_x {a b : ByteArray} {A B : List UInt8} (ha : a = bs A) (hb : b = bs B) (h : A.length + B.length ≤ 9223372036854775807) (W : World) : (Op.stringOp .add a b).run Tryz.prog W = .ok (.string (bs (A ++ B))) W := by
  subst ha hb
  exact sum_bs A B h W
theorem name_len {s : ByteArray} (h : nameB s = true) : (sL s).length ≤ 24 := by
  unfold nameB nmB at h
  rw [Bool.and_eq_true, Bool.and_eq_true, decide_eq_true_eq] at h
  exact h.2.2

theorem lineL_len {f : List UInt8} {l : List Int} (h : ∀ n ∈ l, wf64 n) : (lineL f l).length ≤ f.length + (l.length * 21 + 1) := by
  have := numsL_len l h
  simp only [lineL, List.length_append, List.length_cons, List.length_nil]
  omega
theorem rtB_out {o : Int} {r : Rt} (h : rtB o r = true) : (sL r.1).length ≤ 24 ∧ wf64 r.2 := by
  unfold rtB at h
  rw [Bool.and_eq_true, Bool.and_eq_true] at h
  exact ⟨name_len h.1, isB_wf h.2.2⟩
theorem rtsL_len {o : Int} : ∀ (l : List Rt), (∀ r ∈ l, rtB o r = true) → (rtsL l).length ≤ l.length * 60
  | [], _ => by simp [rtsL]
  | r :: l, h => by
    obtain ⟨h1, h2⟩ := rtB_out (h r List.mem_cons_self)
    have ih := rtsL_len l (fun x hx => h x (List.mem_cons_of_mem _ hx))
    have e := lineL_len (f := rightL ++ sL r.1) (l := [r.2]) (by intro n hn; rw [List.mem_singleton] at hn; subst hn; exact h2)
    have e6 : rightL.length = 6 := rfl
    rw [List.length_append, e6] at e
    show (lineL (rightL ++ sL r.1) [r.2] ++ rtsL l).length ≤ _
    rw [List.length_append]
    simp only [List.length_cons, List.length_nil] at e ⊢
    omega
theorem rtsL_take {l : List Rt} {k : Nat} {r : Rt} (h : l[k]? = some r) : rtsL (l.take (k + 1)) = rtsL (l.take k) ++ lineL (rightL ++ sL r.1) [r.2] := by
  rw [take_snoc' h]
  simp [rtsL]
theorem ints_one {w : World} {g : Nat} {v : Int} (h : Blk w g 3 #[.int .i64 v]) : IntsAt w w.heap.size (some ⟨g, 0, none⟩) [v] := fun i x hi => by
  cases i with
  | zero =>
    simp at hi
    subst hi
    exact ⟨g, 0, rfl, h.lt, h.cell 0⟩
  | succ i => simp at hi

theorem limI_len (x : Lm) : (limI x).length = 3 + 2 * x.S.length := by
  have : ∀ S : List Stp2, (S.flatMap fun s => [s.1, s.2]).length = 2 * S.length := by
    intro S
    induction S with
    | nil => rfl
    | cons s S ih => simp only [List.flatMap_cons, List.length_append, List.length_cons, List.length_nil, ih]; omega
  simp only [limI, List.length_cons, this]
  omega
theorem lmsL_len : ∀ (l : List Lm), (∀ x ∈ l, prB x = true) → (lmsL l).length ≤ l.length * 3000
  | [], _ => by simp [lmsL]
  | x :: l, h => by
    have hx := h x List.mem_cons_self
    have ih := lmsL_len l (fun y hy => h y (List.mem_cons_of_mem _ hy))
    have e := lineL_len (f := limitL ++ sL x.id) (l := limI x) (limI_wf hx)
    have hn := name_len (s := x.id) (prB_iff.1 hx).1
    have hS := (prB_iff.1 hx).2.2.2.1
    have e6 : limitL.length = 6 := rfl
    rw [List.length_append, e6, limI_len] at e
    show (lineL (limitL ++ sL x.id) (limI x) ++ lmsL l).length ≤ _
    rw [List.length_append]
    simp only [List.length_cons]
    omega
theorem lmsL_take {l : List Lm} {k : Nat} {x : Lm} (h : l[k]? = some x) : lmsL (l.take (k + 1)) = lmsL (l.take k) ++ lineL (limitL ++ sL x.id) (limI x) := by
  rw [take_snoc' h]
  simp [lmsL]
theorem limI_take {l : List Stp2} {k : Nat} {s : Stp2} (h : l[k]? = some s) : ((l.take (k + 1)).flatMap fun s => [s.1, s.2]) = ((l.take k).flatMap fun s => [s.1, s.2]) ++ [s.1, s.2] := by
  rw [take_snoc' h]
  simp
end Go.Proofs.YtgfahifdmacmhaaGreatDoor

namespace Go.Proofs.YtgfahifdmacmhaaGreatDoor
open Go.RowKit Go.Shelf

def c8 (n : Nat) : UInt8 := UInt8.ofNat (48 + n)
theorem c8_nat {n : Nat} (h : n < 10) : (c8 n).toNat = 48 + n := by
  unfold c8
  rw [UInt8.toNat_ofNat']
  omega
theorem dec_ten {u : Nat} (h : u < 10) : Lib.decDigits u = [c8 u] := by rw [Lib.decDigits, dif_pos h]; rfl
theorem dec_more {u : Nat} (h : ¬ u < 10) : Lib.decDigits u = Lib.decDigits (u / 10) ++ [c8 (u % 10)] := by rw [Lib.decDigits, dif_neg h]; rfl
theorem dec_digits : ∀ (n : Nat), ∀ b ∈ Lib.decDigits n, 48 ≤ b.toNat ∧ b.toNat ≤ 57 := by
  intro n
  induction n using Nat.strongRecOn with
  | _ n ih =>
    intro b hb
    by_cases h : n < 10
    · rw [dec_ten h] at hb
      simp only [List.mem_singleton] at hb
      subst hb
      rw [c8_nat h]; omega
    · rw [dec_more h] at hb
      rcases List.mem_append.1 hb with hb | hb
      · exact ih (n / 10) (by omega) b hb
      · simp only [List.mem_singleton] at hb
        subst hb
        rw [c8_nat (Nat.mod_lt n (by decide))]; omega
theorem dec_ne (n : Nat) : Lib.decDigits n ≠ [] := by
  by_cases h : n < 10
  · rw [dec_ten h]; simp
  · rw [dec_more h]; simp
theorem parseUint_snoc : ∀ (a : List UInt8) (acc m d : Nat), Lib.parseUint10 acc a = .ok m → m < 1844674407370955161 → d < 10 → Lib.parseUint10 acc (a ++ [c8 d]) = .ok (m * 10 + d)
  | [], acc, m, d, h, hm, hd => by
    simp only [Lib.parseUint10] at h
    injection h with h
    subst h
    have := c8_nat hd
    simp only [List.nil_append, Lib.parseUint10, this]
    rw [if_pos (by omega), if_neg (by omega), if_neg (by omega)]
    congr 1
    omega
  | x :: a, acc, m, d, h, hm, hd => by
    simp only [List.cons_append, Lib.parseUint10] at h ⊢
    by_cases h1 : 48 ≤ x.toNat ∧ x.toNat ≤ 57
    · rw [if_pos h1] at h ⊢
      by_cases h2 : 1844674407370955162 ≤ acc
      · rw [if_pos h2] at h; cases h
      · rw [if_neg h2] at h ⊢
        by_cases h3 : 18446744073709551616 ≤ acc * 10 + (x.toNat - 48)
        · rw [if_pos h3] at h; cases h
        · rw [if_neg h3] at h ⊢
          exact parseUint_snoc a _ m d h hm hd
    · rw [if_neg h1] at h; cases h
theorem parseUint_dec (n : Nat) : n < 1844674407370955161 → Lib.parseUint10 0 (Lib.decDigits n) = .ok n := by
  induction n using Nat.strongRecOn with
  | _ n ih =>
    intro hn
    by_cases h : n < 10
    · rw [dec_ten h]
      have := parseUint_snoc [] 0 0 n rfl (by omega) h
      simpa using this
    · rw [dec_more h, parseUint_snoc _ 0 (n / 10) (n % 10) (ih (n / 10) (by omega) (by omega)) (by omega) (Nat.mod_lt _ (by decide))]
      congr 1
      omega
theorem atoiAll_dec {n : Nat} (h : n < 1844674407370955161) : Lib.atoiAll (Lib.decDigits n) = .ok (n : Int) := by
  obtain ⟨b, r, hb⟩ : ∃ b r, Lib.decDigits n = b :: r := by
    cases hd : Lib.decDigits n with
    | nil => exact absurd hd (dec_ne n)
    | cons b r => exact ⟨b, r, rfl⟩
  have hdig := dec_digits n b (by rw [hb]; exact List.mem_cons_self)
  have hp := parseUint_dec n h
  rw [hb] at hp ⊢
  unfold Lib.atoiAll
  simp only
  rw [if_neg (by omega)]
  unfold Lib.parseMag
  rw [if_neg (by simp), hp]
  simp only
  rw [if_neg (by omega), if_neg (by omega), if_neg (by omega)]
theorem index_first {c : UInt8} {r : List UInt8} : ∀ {p : List UInt8}, c ∉ p → Lib.index (p ++ c :: r) [c] = p.length
  | [], _ => by simp [Lib.index]
  | b :: p, h => by
    have hb : c ≠ b := fun e => h (by simp [e])
    have ih := index_first (p := p) (r := r) (fun hm => h (List.mem_cons_of_mem _ hm))
    show Lib.index (b :: (p ++ c :: r)) [c] = _
    unfold Lib.index
    rw [if_neg (by simp [hb]), if_neg (by rw [ih]; simp), ih]
    simp
theorem index_miss {c : UInt8} : ∀ {p : List UInt8}, c ∉ p → Lib.index p [c] = -1
  | [], _ => by simp [Lib.index]
  | b :: p, h => by
    have hb : c ≠ b := fun e => h (by simp [e])
    have ih := index_miss (p := p) (fun hm => h (List.mem_cons_of_mem _ hm))
    unfold Lib.index
    rw [if_neg (by simp [hb]), if_pos (by rw [ih]; simp)]

theorem splitK_hit {c : UInt8} {p r : List UInt8} (h : c ∉ p) (k : Nat) : Lib.splitK [c] 0 (k + 1) (p ++ c :: r) = p :: Lib.splitK [c] 0 k r := by
  have e : ¬ (Lib.index (p ++ c :: r) [c] == -1) = true := by rw [index_first h]; simp
  show (if (Lib.index (p ++ c :: r) [c] == -1) = true then [p ++ c :: r] else (p ++ c :: r).take ((Lib.index (p ++ c :: r) [c]).toNat + 0) :: Lib.splitK [c] 0 k ((p ++ c :: r).drop ((Lib.index (p ++ c :: r) [c]).toNat + [c].length))) = _
  rw [if_neg e, index_first h]
  simp
/-- A text cut at a byte. -/
def cutL (c : UInt8) : List UInt8 → List (List UInt8)
  | [] => [[]]
  | b :: l => if b = c then [] :: cutL c l else match cutL c l with | [] => [[b]] | h :: t => (b :: h) :: t
theorem cutL_end {c : UInt8} : ∀ {p : List UInt8}, c ∉ p → cutL c p = [p]
  | [], _ => rfl
  | b :: p, h => by
    have hb : ¬ b = c := fun e => h (by simp [e])
    show (if b = c then [] :: cutL c p else match cutL c p with | [] => [[b]] | h :: t => (b :: h) :: t) = _
    rw [if_neg hb, cutL_end (p := p) (fun hm => h (List.mem_cons_of_mem _ hm))]
theorem cutL_hit {c : UInt8} {r : List UInt8} : ∀ {p : List UInt8}, c ∉ p → cutL c (p ++ c :: r) = p :: cutL c r
  | [], _ => by
    show (if c = c then [] :: cutL c r else _) = _
    rw [if_pos rfl]
  | b :: p, h => by
    have hb : ¬ b = c := fun e => h (by simp [e])
    show (if b = c then [] :: cutL c (p ++ c :: r) else match cutL c (p ++ c :: r) with | [] => [[b]] | h :: t => (b :: h) :: t) = _
    rw [if_neg hb, cutL_hit (p := p) (fun hm => h (List.mem_cons_of_mem _ hm))]
theorem split_cut (c : UInt8) : ∀ (n : Nat) (s : List UInt8), s.length ≤ n → Lib.splitK [c] 0 (Lib.count s [c]) s = cutL c s := by
  intro n
  induction n with
  | zero =>
    intro s h
    obtain rfl : s = [] := List.length_eq_zero_iff.1 (by omega)
    rfl
  | succ n ih =>
    intro s h
    rw [Lib.count_one]
    by_cases hc : c ∈ s
    · obtain ⟨p, r, rfl, hp⟩ := List.eq_append_cons_of_mem hc
      have e : (p ++ c :: r).count c = r.count c + 1 := by
        simp only [List.count_append, List.count_cons_self, List.count_eq_zero_of_not_mem hp]
        omega
      rw [e, splitK_hit hp, cutL_hit hp, ← Lib.count_one, ih r (by simp at h; omega)]
    · rw [List.count_eq_zero_of_not_mem hc, cutL_end hc]
      rfl
/-- strings.Split's pieces. -/
theorem split_words (c : UInt8) (s : List UInt8) : Lib.splitB (bs [c]) 0 (Lib.countB (bs s) (bs [c])) (bs s) = (cutL c s).map bs := by
  have h := Lib.splitB_data (bs [c]) 0 (Lib.countB (bs s) (bs [c])) (bs s)
  have e : Lib.splitK (bs [c]).data.toList 0 (Lib.countB (bs s) (bs [c])) (bs s).data.toList = cutL c s := split_cut c s.length s (Nat.le_refl _)
  rw [e] at h
  rw [← h, List.map_map]
  have : (bs ∘ fun x : ByteArray => x.data.toList) = id := by
    funext x
    exact of_bs x
  rw [this, List.map_id]
theorem cutL_len {c : UInt8} (s : List UInt8) : (cutL c s).length = Lib.countB (bs s) (bs [c]) + 1 := by
  have h := Lib.splitB_all (bs [c]) (by rw [bs_size]; exact Nat.le_refl 1) 0 (Lib.countB (bs s) (bs [c])) (bs s) rfl
  rw [split_words, List.length_map] at h
  exact h
theorem cutL_ne {c : UInt8} (s : List UInt8) : cutL c s ≠ [] := by
  intro e
  have := cutL_len (c := c) s
  rw [e] at this
  simp at this
theorem cutL_le {c : UInt8} : ∀ (s : List UInt8), (cutL c s).length ≤ s.length + 1 ∧ ∀ w ∈ cutL c s, w.length ≤ s.length
  | [] => ⟨by simp [cutL], fun w hw => by simp [cutL] at hw; simp [hw]⟩
  | b :: l => by
    obtain ⟨h1, h2⟩ := cutL_le (c := c) l
    have hn := cutL_ne (c := c) l
    show (if b = c then [] :: cutL c l else match cutL c l with | [] => [[b]] | h :: t => (b :: h) :: t).length ≤ _ ∧ ∀ w ∈ (if b = c then [] :: cutL c l else match cutL c l with | [] => [[b]] | h :: t => (b :: h) :: t), _
    by_cases hb : b = c
    · rw [if_pos hb]
      refine ⟨by simp; omega, fun w hw => ?_⟩
      rcases List.mem_cons.1 hw with rfl | hw
      · simp
      · have := h2 w hw; simp; omega
    · rw [if_neg hb]
      cases hc : cutL c l with
      | nil => exact absurd hc hn
      | cons h t =>
        rw [hc] at h1 h2
        refine ⟨by simp at h1 ⊢; omega, fun w hw => ?_⟩
        rcases List.mem_cons.1 hw with rfl | hw
        · have := h2 h List.mem_cons_self; simp; omega
        · have := h2 w (List.mem_cons_of_mem _ hw); simp; omega
/-- Words put together. -/
def joinC (c : UInt8) (w : List UInt8) (ws : List (List UInt8)) : List UInt8 := w ++ ws.flatMap fun x => c :: x
theorem cut_join {c : UInt8} : ∀ (ws : List (List UInt8)) (w : List UInt8), c ∉ w → (∀ x ∈ ws, c ∉ x) → cutL c (joinC c w ws) = w :: ws
  | [], w, h, _ => by
    have : joinC c w [] = w := by simp [joinC]
    rw [this, cutL_end h]
  | x :: xs, w, h, h2 => by
    have : joinC c w (x :: xs) = w ++ c :: joinC c x xs := by simp [joinC]
    rw [this, cutL_hit h, cut_join xs x (h2 x List.mem_cons_self) (fun y hy => h2 y (List.mem_cons_of_mem _ hy))]
theorem join_lines : ∀ (xs : List (List UInt8)) (x : List UInt8), (x :: xs).flatMap (fun l => l ++ [10]) = joinC 10 x xs ++ [10]
  | [], x => by simp [joinC]
  | y :: ys, x => by
    have h := join_lines ys y
    have e : (x :: y :: ys).flatMap (fun l => l ++ [10]) = (x ++ [10]) ++ (y :: ys).flatMap (fun l => l ++ [10]) := rfl
    rw [e, h]
    simp [joinC]
theorem trim_end (A : List UInt8) : Lib.trimSuffix (A ++ [10]) [10] = A := by
  have h : Lib.hasSuffix (A ++ [10]) [10] = true := List.isSuffixOf_iff_suffix.2 ⟨A, rfl⟩
  unfold Lib.trimSuffix
  rw [if_pos h]
  simp
theorem trim_len (s : List UInt8) : (Lib.trimSuffix s [10]).length ≤ s.length := Lib.trimSuffix_le s [10]

/-- What Atoi makes of a word: a number; whether it has an error. -/
def numW (s : List UInt8) : Int := match Lib.atoiAll s with | .ok v => v | .syntax => 0 | .range => Lib.atoiSat s
def badW (s : List UInt8) : Bool := match Lib.atoiAll s with | .ok _ => false | .syntax => true | .range => true
theorem numW_nil : numW [] = 0 := rfl
theorem badW_nil : badW [] = true := rfl
theorem itoa_pos {n : Int} (h : 0 ≤ n) : Lib.itoa n = Lib.decDigits n.toNat := by
  unfold Lib.itoa
  rw [if_neg (by omega)]
theorem num_itoa {n : Int} (h : isB n = true) : numW (Lib.itoa n) = n ∧ badW (Lib.itoa n) = false := by
  have hb := (isB_iff n).1 h
  have e := atoiAll_dec (n := n.toNat) (by omega)
  unfold numW badW
  rw [itoa_pos hb.1, e]
  exact ⟨by show ((n.toNat : Nat) : Int) = n; omega, rfl⟩
theorem itoa_no {n : Int} (h : 0 ≤ n) : (32 : UInt8) ∉ Lib.itoa n ∧ (10 : UInt8) ∉ Lib.itoa n := by
  rw [itoa_pos h]
  exact ⟨fun hm => by have := dec_digits _ _ hm; revert this; decide, fun hm => by have := dec_digits _ _ hm; revert this; decide⟩
theorem numW_wf (s : List UInt8) : wf64 (numW s) := by
  unfold numW
  cases h : Lib.atoiAll s with
  | ok v => have := Lib.atoiAll_bounds h; exact ⟨by show _ ≤ v; omega, by show v ≤ _; omega⟩
  | «syntax» => show wf64 0; exact ⟨by decide, by decide⟩
  | range =>
    show wf64 (Lib.atoiSat s)
    unfold Lib.atoiSat
    split
    · exact ⟨by decide, by decide⟩
    · exact ⟨by decide, by decide⟩
theorem nm_no {l : List UInt8} (h : nmB l = true) : (32 : UInt8) ∉ l ∧ (10 : UInt8) ∉ l := by
  unfold nmB at h
  rw [Bool.and_eq_true] at h
  have h1 := h.1
  rw [nmGo_iff] at h1
  constructor
  all_goals
    intro hm
    obtain ⟨i, hi⟩ := List.getElem?_of_mem hm
    have h2 := h1 i _ hi
    revert h2
    unfold okAt
    simp [letB, digB]
end Go.Proofs.YtgfahifdmacmhaaGreatDoor

namespace Go.Proofs.YtgfahifdmacmhaaGreatDoor
open Go.RowKit Go.Shelf

abbrev Wd := List UInt8
/-- A scanner: the words of its line, whether something was wrong, further lines. -/
structure Sc where
  ws : List Wd
  wr : Bool
  ln : List Wd
def Sc.word (s : Sc) : Wd := s.ws.headD []
def Sc.pop (s : Sc) : Sc := ⟨s.ws.tail, s.wr || s.ws.isEmpty, s.ln⟩
def Sc.num (s : Sc) : Int := numW s.word
def Sc.popN (s : Sc) : Sc := ⟨s.ws.tail, (s.wr || s.ws.isEmpty) || badW s.word, s.ln⟩
def Sc.rest (s : Sc) : Sc := ⟨[], s.wr || s.ws.any badW, s.ln⟩
def Sc.next (s : Sc) : Sc := match s.ln with | [] => ⟨s.ws, s.wr || !s.ws.isEmpty, []⟩ | l :: t => ⟨cutL 32 l, s.wr || !s.ws.isEmpty, t⟩
def rightW : Wd := [114, 105, 103, 104, 116]
def limitW : Wd := [108, 105, 109, 105, 116]
def matterW : Wd := [109, 97, 116, 116, 101, 114]
def pairsW : List Wd → List Stp2 × Bool
  | [] => ([], false)
  | [a] => ([(numW a, 0)], true)
  | a :: b :: t => ((numW a, numW b) :: (pairsW t).1, (badW a || badW b) || (pairsW t).2)
/-- What is read of the further lines. -/
structure Bd where
  rs : List Rt
  ls : List Lm
  s : Sc
def stepR (b : Bd) : Bd := ⟨b.rs ++ [(bs b.s.pop.word, b.s.pop.pop.num)], b.ls, b.s.pop.pop.popN⟩
def stepL (b : Bd) : Bd :=
  ⟨b.rs, b.ls ++ [⟨bs b.s.pop.word, b.s.pop.pop.num, b.s.pop.pop.popN.num, b.s.pop.pop.popN.popN.num, (pairsW b.s.pop.pop.popN.popN.popN.ws).1⟩],
    ⟨[], b.s.pop.pop.popN.popN.popN.wr || (pairsW b.s.pop.pop.popN.popN.popN.ws).2, b.s.ln⟩⟩
def stepW (b : Bd) : Bd := if b.s.word = rightW then stepR b else stepL b
def loopW : List Wd → List Rt → List Lm → List Wd → Bool → List Rt × List Lm × Bool
  | [], rs, ls, ws, wr => (rs, ls, wr || !ws.isEmpty)
  | l :: t, rs, ls, ws, wr => let b := stepW ⟨rs, ls, ⟨cutL 32 l, wr || !ws.isEmpty, t⟩⟩; loopW t b.rs b.ls b.s.ws b.s.wr
theorem stepW_right {b : Bd} (h : b.s.word = rightW) : stepW b = stepR b := if_pos h
theorem stepW_limit {b : Bd} (h : ¬ b.s.word = rightW) : stepW b = stepL b := if_neg h
theorem stepW_lim {b : Bd} (h : b.s.word = limitW) : stepW b = stepL b := stepW_limit (by rw [h]; decide)
theorem loopW_cons (l : Wd) (t : List Wd) (rs : List Rt) (ls : List Lm) (ws : List Wd) (wr : Bool) : loopW (l :: t) rs ls ws wr =
    loopW t (stepW ⟨rs, ls, ⟨cutL 32 l, wr || !ws.isEmpty, t⟩⟩).rs (stepW ⟨rs, ls, ⟨cutL 32 l, wr || !ws.isEmpty, t⟩⟩).ls (stepW ⟨rs, ls, ⟨cutL 32 l, wr || !ws.isEmpty, t⟩⟩).s.ws (stepW ⟨rs, ls, ⟨cutL 32 l, wr || !ws.isEmpty, t⟩⟩).s.wr := rfl
/-- The scanner at its points. -/
def S0 (t : List UInt8) : Sc := ⟨[], false, cutL 10 (Lib.trimSuffix t [10])⟩
def S1 (t : List UInt8) : Sc := (S0 t).next.pop
def S2 (t : List UInt8) : Sc := (S1 t).pop.popN.pop.popN.next.pop
def S3 (t : List UInt8) : Sc := (S2 t).rest.next.pop
def L3 (t : List UInt8) : List Rt × List Lm × Bool := loopW (S3 t).rest.ln [] [] (S3 t).rest.ws (S3 t).rest.wr
def looseM (t : List UInt8) : Mt := ⟨bs (S1 t).word, (S1 t).pop.num, (S2 t).ws.map numW, bs (S1 t).pop.popN.word, (S1 t).pop.popN.pop.num, (S3 t).ws.map numW, (L3 t).1, (L3 t).2.1⟩
def looseB (t : List UInt8) : Bool := (L3 t).2.2
/-- What Parse returns for a text that is not too long. -/
def parseOk (t : List UInt8) : Bool := !looseB t && (fmB (looseM t) && decide (textL (looseM t) = t))

/-! A matter's lines, word by word. -/
def linesW (m : Mt) : List (Wd × List Wd) :=
  (matterW, [sL m.id, Lib.itoa m.o, sL m.pr, Lib.itoa m.st]) :: (caseL, m.cs.map Lib.itoa) :: (movedL, m.mv.map Lib.itoa) ::
    (m.rs.map (fun r => (rightW, [sL r.1, Lib.itoa r.2])) ++ m.ls.map fun x => (limitW, sL x.id :: (limI x).map Lib.itoa))
theorem numsL_map (l : List Int) : numsL l = (l.map Lib.itoa).flatMap fun x => 32 :: x := by
  unfold numsL
  rw [List.flatMap_map]
theorem text_lines (m : Mt) : textL m = (linesW m).flatMap fun p => joinC 32 p.1 p.2 ++ [10] := by
  have e1 : headL m ++ numsL [m.st] = joinC 32 matterW [sL m.id, Lib.itoa m.o, sL m.pr, Lib.itoa m.st] := by
    simp [headL, numsL, joinC, mattL, matterW]
  have er : ∀ l : List Rt, rtsL l = (l.map fun r => (rightW, [sL r.1, Lib.itoa r.2])).flatMap fun p => joinC 32 p.1 p.2 ++ [10] := by
    intro l
    induction l with
    | nil => rfl
    | cons r l ih =>
      have e : rtsL (r :: l) = lineL (rightL ++ sL r.1) [r.2] ++ rtsL l := rfl
      rw [e, ih]
      simp [lineL, rightL, rightW, numsL, joinC]
  have el : ∀ l : List Lm, lmsL l = (l.map fun x => (limitW, sL x.id :: (limI x).map Lib.itoa)).flatMap fun p => joinC 32 p.1 p.2 ++ [10] := by
    intro l
    induction l with
    | nil => rfl
    | cons x l ih =>
      have e : lmsL (x :: l) = lineL (limitL ++ sL x.id) (limI x) ++ lmsL l := rfl
      rw [e, ih, lineL, numsL_map]
      simp [limitL, limitW, joinC]
  have e2 : textL m = (headL m ++ numsL [m.st]) ++ ([10] ++ (lineL caseL m.cs ++ (lineL movedL m.mv ++ (rtsL m.rs ++ lmsL m.ls)))) := by
    simp [textL, lineL]
  rw [e2, e1, er, el]
  unfold lineL
  rw [numsL_map, numsL_map]
  simp [linesW, joinC]

theorem upB_wf' : ∀ (l : List Int) (a : Int), 0 ≤ a → upB a l = true → ∀ n ∈ l, 0 ≤ n ∧ n ≤ 1000000
  | [], _, _, _, n, hn => by simp at hn
  | x :: xs, a, h0, h, n, hn => by
    have h' : (decide (a ≤ x ∧ x ≤ 1000000) && upB x xs) = true := h
    rw [Bool.and_eq_true, decide_eq_true_eq] at h'
    rcases List.mem_cons.1 hn with rfl | hn
    · exact ⟨by omega, by omega⟩
    · exact upB_wf' xs x (by omega) h'.2 n hn
theorem upB_pos (l : List Int) (a : Int) (h0 : 0 ≤ a) (h : upB a l = true) (n : Int) (hn : n ∈ l) : 0 ≤ n := (upB_wf' l a h0 h n hn).1
theorem limI_pos {x : Lm} (h : prB x = true) : ∀ n ∈ limI x, 0 ≤ n := by
  obtain ⟨_, h1, h2, _, h3⟩ := prB_iff.1 h
  have h1' := (isB_iff _).1 h1
  have h2' := ptB_iff.1 h2
  intro n hn
  unfold limI at hn
  rcases List.mem_cons.1 hn with rfl | hn
  · omega
  rcases List.mem_cons.1 hn with rfl | hn
  · omega
  rcases List.mem_cons.1 hn with rfl | hn
  · omega
  obtain ⟨s, hs, hn⟩ := List.mem_flatMap.1 hn
  have := psB_iff.1 (h3 s hs)
  simp at hn
  rcases hn with rfl | rfl <;> omega
/-- What a formed matter's parts hold. -/
theorem linesW_no {m : Mt} (h : fmB m = true) : ∀ p ∈ linesW m, ((32 : UInt8) ∉ p.1 ∧ (10 : UInt8) ∉ p.1) ∧ ∀ x ∈ p.2, (32 : UInt8) ∉ x ∧ (10 : UInt8) ∉ x := by
  obtain ⟨f1, f2, f3, f4, f5, f6, f7, f8, f9, f10⟩ := fmB_iff.1 h
  have hI : ∀ n : Int, isB n = true → (32 : UInt8) ∉ Lib.itoa n ∧ (10 : UInt8) ∉ Lib.itoa n := fun n hn => itoa_no (((isB_iff n).1 hn).1)
  have hM : ∀ l : List Int, (∀ n ∈ l, 0 ≤ n) → ∀ x ∈ l.map Lib.itoa, (32 : UInt8) ∉ x ∧ (10 : UInt8) ∉ x := fun l hl x hx => by
    obtain ⟨n, hn, rfl⟩ := List.mem_map.1 hx
    exact itoa_no (hl n hn)
  intro p hp
  unfold linesW at hp
  rcases List.mem_cons.1 hp with rfl | hp
  · refine ⟨(by decide : (32 : UInt8) ∉ matterW ∧ (10 : UInt8) ∉ matterW), fun x hx => ?_⟩
    rcases List.mem_cons.1 hx with rfl | hx
    · exact nm_no f1
    rcases List.mem_cons.1 hx with rfl | hx
    · exact hI _ f3
    rcases List.mem_cons.1 hx with rfl | hx
    · exact nm_no f2
    rw [List.mem_singleton] at hx
    subst hx
    exact itoa_no f4.1
  rcases List.mem_cons.1 hp with rfl | hp
  · exact ⟨(by decide : (32 : UInt8) ∉ caseL ∧ (10 : UInt8) ∉ caseL), hM _ fun n hn => ((isB_iff n).1 (f5 n hn)).1⟩
  rcases List.mem_cons.1 hp with rfl | hp
  · exact ⟨(by decide : (32 : UInt8) ∉ movedL ∧ (10 : UInt8) ∉ movedL), hM _ fun n hn => upB_pos m.mv m.o (((isB_iff _).1 f3).1) f7 n hn⟩
  rcases List.mem_append.1 hp with hp | hp
  · obtain ⟨r, hr, rfl⟩ := List.mem_map.1 hp
    have hg := (difB_iff.1 f9).1 r hr
    unfold rtB at hg
    rw [Bool.and_eq_true, Bool.and_eq_true] at hg
    refine ⟨(by decide : (32 : UInt8) ∉ rightW ∧ (10 : UInt8) ∉ rightW), fun x hx => ?_⟩
    rcases List.mem_cons.1 hx with rfl | hx
    · exact nm_no hg.1
    rw [List.mem_singleton] at hx
    subst hx
    exact hI _ hg.2.2
  · obtain ⟨y, hy, rfl⟩ := List.mem_map.1 hp
    have hg := (difB_iff.1 f10).1 y hy
    refine ⟨(by decide : (32 : UInt8) ∉ limitW ∧ (10 : UInt8) ∉ limitW), fun x hx => ?_⟩
    rcases List.mem_cons.1 hx with rfl | hx
    · exact nm_no (prB_iff.1 hg).1
    · exact hM _ (limI_pos hg) x hx
/-- Lines, cut. -/
theorem cut_lines {L : List (Wd × List Wd)} (h0 : L ≠ []) (h : ∀ p ∈ L, ((32 : UInt8) ∉ p.1 ∧ (10 : UInt8) ∉ p.1) ∧ ∀ x ∈ p.2, (32 : UInt8) ∉ x ∧ (10 : UInt8) ∉ x) :
    cutL 10 (Lib.trimSuffix (L.flatMap fun p => joinC 32 p.1 p.2 ++ [10]) [10]) = L.map fun p => joinC 32 p.1 p.2 := by
  obtain ⟨p, L, rfl⟩ := List.exists_cons_of_ne_nil h0
  have hno : ∀ q ∈ p :: L, (10 : UInt8) ∉ joinC 32 q.1 q.2 := fun q hq hm => by
    obtain ⟨⟨_, h1⟩, h2⟩ := h q hq
    unfold joinC at hm
    rcases List.mem_append.1 hm with hm | hm
    · exact h1 hm
    · obtain ⟨x, hx, hm⟩ := List.mem_flatMap.1 hm
      rcases List.mem_cons.1 hm with hm | hm
      · exact absurd hm (by decide)
      · exact (h2 x hx).2 hm
  have e : ((p :: L).flatMap fun p => joinC 32 p.1 p.2 ++ [10]) = ((p :: L).map fun p => joinC 32 p.1 p.2).flatMap fun l => l ++ [10] := by rw [List.flatMap_map]
  rw [e, List.map_cons, join_lines, trim_end, cut_join]
  · exact hno p List.mem_cons_self
  · intro x hx
    obtain ⟨q, hq, rfl⟩ := List.mem_map.1 hx
    exact hno q (List.mem_cons_of_mem _ hq)
theorem nums_back : ∀ l : List Int, (∀ n ∈ l, isB n = true) → (l.map Lib.itoa).map numW = l ∧ (l.map Lib.itoa).any badW = false
  | [], _ => ⟨rfl, rfl⟩
  | n :: l, h => by
    obtain ⟨h1, h2⟩ := num_itoa (h n List.mem_cons_self)
    obtain ⟨h3, h4⟩ := nums_back l fun x hx => h x (List.mem_cons_of_mem _ hx)
    exact ⟨by rw [List.map_cons, List.map_cons, h1, h3], by rw [List.map_cons, List.any_cons, h2, h4]; rfl⟩
theorem pairs_back : ∀ l : List Stp2, (∀ s ∈ l, psB s = true) → pairsW ((l.flatMap fun s => [s.1, s.2]).map Lib.itoa) = (l, false)
  | [], _ => rfl
  | s :: l, h => by
    have hs := psB_iff.1 (h s List.mem_cons_self)
    obtain ⟨h1, h2⟩ := num_itoa (n := s.1) ((isB_iff _).2 (by omega))
    obtain ⟨h3, h4⟩ := num_itoa (n := s.2) ((isB_iff _).2 (by omega))
    have e : ((s :: l).flatMap fun s => [s.1, s.2]).map Lib.itoa = Lib.itoa s.1 :: Lib.itoa s.2 :: (l.flatMap fun s => [s.1, s.2]).map Lib.itoa := rfl
    rw [e]
    show ((numW (Lib.itoa s.1), numW (Lib.itoa s.2)) :: (pairsW _).1, (badW (Lib.itoa s.1) || badW (Lib.itoa s.2)) || (pairsW _).2) = _
    rw [pairs_back l fun x hx => h x (List.mem_cons_of_mem _ hx), h1, h2, h3, h4]
    rfl
theorem bs_sL (s : ByteArray) : bs (sL s) = s := rfl
theorem loop_rights {o : Int} {T : List Wd} : ∀ (l : List Rt), (∀ r ∈ l, rtB o r = true) → ∀ rs ls, loopW ((l.map fun r => joinC 32 rightW [sL r.1, Lib.itoa r.2]) ++ T) rs ls [] false = loopW T (rs ++ l) ls [] false
  | [], _, rs, ls => by simp
  | r :: l, h, rs, ls => by
    have hr := h r List.mem_cons_self
    unfold rtB at hr
    rw [Bool.and_eq_true, Bool.and_eq_true] at hr
    obtain ⟨n1, n2⟩ := nm_no hr.1
    obtain ⟨h1, h2⟩ := num_itoa hr.2.2
    have hi := itoa_no ((isB_iff _).1 hr.2.2).1
    have e : cutL 32 (joinC 32 rightW [sL r.1, Lib.itoa r.2]) = [rightW, sL r.1, Lib.itoa r.2] := cut_join _ _ (by decide) (by intro x hx; simp at hx; rcases hx with rfl | rfl; exact n1; exact hi.1)
    have ih := loop_rights (T := T) l (fun x hx => h x (List.mem_cons_of_mem _ hx)) (rs ++ [r]) ls
    rw [List.map_cons, List.cons_append]
    rw [loopW_cons, e]
    have es : stepW ⟨rs, ls, ⟨[rightW, sL r.1, Lib.itoa r.2], false || !([] : List Wd).isEmpty, (l.map fun r => joinC 32 rightW [sL r.1, Lib.itoa r.2]) ++ T⟩⟩ = ⟨rs ++ [r], ls, ⟨[], false, (l.map fun r => joinC 32 rightW [sL r.1, Lib.itoa r.2]) ++ T⟩⟩ := by
      rw [stepW_right rfl]
      simp [stepR, Sc.pop, Sc.popN, Sc.word, Sc.num, h1, h2, bs_sL]
    simp only [es]
    rw [ih, List.append_assoc]
    rfl
theorem loop_limits : ∀ (l : List Lm), (∀ x ∈ l, prB x = true) → ∀ rs ls, loopW (l.map fun x => joinC 32 limitW (sL x.id :: (limI x).map Lib.itoa)) rs ls [] false = (rs, ls ++ l, false)
  | [], _, rs, ls => by simp [loopW]
  | x :: l, h, rs, ls => by
    have hx := h x List.mem_cons_self
    obtain ⟨g1, g2, g3, _, g5⟩ := prB_iff.1 hx
    have g3' := ptB_iff.1 g3
    obtain ⟨n1, n2⟩ := nm_no g1
    obtain ⟨a1, a2⟩ := num_itoa (n := x.n) ((isB_iff _).2 (by omega))
    obtain ⟨b1, b2⟩ := num_itoa (n := x.u) ((isB_iff _).2 (by omega))
    obtain ⟨c1, c2⟩ := num_itoa g2
    have hp := pairs_back x.S g5
    have e : cutL 32 (joinC 32 limitW (sL x.id :: (limI x).map Lib.itoa)) = limitW :: sL x.id :: (limI x).map Lib.itoa := cut_join _ _ (by decide) (by
      intro y hy
      rcases List.mem_cons.1 hy with rfl | hy
      · exact n1
      · obtain ⟨n, hn, rfl⟩ := List.mem_map.1 hy
        exact (itoa_no (limI_pos hx n hn)).1)
    have ei : (limI x).map Lib.itoa = Lib.itoa x.n :: Lib.itoa x.u :: Lib.itoa x.f :: (x.S.flatMap fun s => [s.1, s.2]).map Lib.itoa := rfl
    have ih := loop_limits l (fun y hy => h y (List.mem_cons_of_mem _ hy)) rs (ls ++ [x])
    rw [List.map_cons, loopW_cons, e, ei]
    have es : stepW ⟨rs, ls, ⟨limitW :: sL x.id :: Lib.itoa x.n :: Lib.itoa x.u :: Lib.itoa x.f :: (x.S.flatMap fun s => [s.1, s.2]).map Lib.itoa, false || !([] : List Wd).isEmpty, l.map fun x => joinC 32 limitW (sL x.id :: (limI x).map Lib.itoa)⟩⟩ = ⟨rs, ls ++ [x], ⟨[], false, l.map fun x => joinC 32 limitW (sL x.id :: (limI x).map Lib.itoa)⟩⟩ := by
      rw [stepW_lim rfl]
      simp [stepL, Sc.pop, Sc.popN, Sc.word, Sc.num, a1, a2, b1, b2, c1, c2, bs_sL, hp]
    simp only [es]
    rw [ih, List.append_assoc]
    rfl
/-- The text of a formed matter is read back. -/
theorem loose_text {m : Mt} (h : fmB m = true) : looseM (textL m) = m ∧ looseB (textL m) = false := by
  have hno := linesW_no h
  obtain ⟨f1, f2, f3, f4, f5, f6, f7, f8, f9, f10⟩ := fmB_iff.1 h
  have e0 : S0 (textL m) = ⟨[], false, (linesW m).map fun p => joinC 32 p.1 p.2⟩ := by
    unfold S0
    rw [text_lines, cut_lines (by simp [linesW]) hno]
  have hc : ∀ p ∈ linesW m, cutL 32 (joinC 32 p.1 p.2) = p.1 :: p.2 := fun p hp => cut_join _ _ (hno p hp).1.1 (fun x hx => ((hno p hp).2 x hx).1)
  obtain ⟨id, o, cs, pr, st, mv, rs, ls⟩ := m
  simp only at *
  have c1 := hc (matterW, [sL id, Lib.itoa o, sL pr, Lib.itoa st]) (by simp [linesW])
  have c2 := hc (caseL, cs.map Lib.itoa) (by simp [linesW])
  have c3 := hc (movedL, mv.map Lib.itoa) (by simp [linesW])
  simp only at c1 c2 c3
  obtain ⟨a1, a2⟩ := num_itoa f3
  obtain ⟨b1, b2⟩ := num_itoa (n := st) ((isB_iff _).2 (by omega))
  obtain ⟨d1, d2⟩ := nums_back cs f5
  obtain ⟨g1, g2⟩ := nums_back mv fun n hn => by
    have := upB_wf' mv o (((isB_iff _).1 f3).1) f7 n hn
    exact (isB_iff n).2 this
  have eL : (linesW ⟨id, o, cs, pr, st, mv, rs, ls⟩).map (fun p => joinC 32 p.1 p.2) = joinC 32 matterW [sL id, Lib.itoa o, sL pr, Lib.itoa st] :: joinC 32 caseL (cs.map Lib.itoa) :: joinC 32 movedL (mv.map Lib.itoa) ::
      ((rs.map fun r => joinC 32 rightW [sL r.1, Lib.itoa r.2]) ++ ls.map fun x => joinC 32 limitW (sL x.id :: (limI x).map Lib.itoa)) := by
    simp only [linesW, List.map_cons, List.map_append, List.map_map]
    rfl
  rw [eL] at e0
  obtain ⟨T, hT⟩ : ∃ T, ((rs.map fun r => joinC 32 rightW [sL r.1, Lib.itoa r.2]) ++ ls.map fun x => joinC 32 limitW (sL x.id :: (limI x).map Lib.itoa)) = T := ⟨_, rfl⟩
  rw [hT] at e0
  obtain ⟨t, ht⟩ : ∃ t, textL ⟨id, o, cs, pr, st, mv, rs, ls⟩ = t := ⟨_, rfl⟩
  rw [ht] at e0 ⊢
  have e1 : S1 t = ⟨[sL id, Lib.itoa o, sL pr, Lib.itoa st], false, joinC 32 caseL (cs.map Lib.itoa) :: joinC 32 movedL (mv.map Lib.itoa) :: T⟩ := by
    unfold S1
    rw [e0]
    simp only [Sc.next, c1]
    rfl
  have e2 : S2 t = ⟨cs.map Lib.itoa, false, joinC 32 movedL (mv.map Lib.itoa) :: T⟩ := by
    unfold S2
    rw [e1]
    simp only [Sc.next, Sc.pop, Sc.popN, Sc.word, List.tail_cons, List.headD_cons, a2, b2, c2, List.isEmpty_cons, List.isEmpty_nil, Bool.or_false, Bool.not_true]
  have e3 : S3 t = ⟨mv.map Lib.itoa, false, T⟩ := by
    unfold S3
    rw [e2]
    simp only [Sc.next, Sc.pop, Sc.rest, List.tail_cons, d2, c3, List.isEmpty_cons, List.isEmpty_nil, Bool.or_false, Bool.not_true]
  have eL3 : L3 t = (rs, ls, false) := by
    unfold L3
    rw [e3]
    simp only [Sc.rest, g2, Bool.or_false]
    rw [← hT, loop_rights rs (difB_iff.1 f9).1 [] [], loop_limits ls (difB_iff.1 f10).1, List.nil_append, List.nil_append]
  constructor
  · unfold looseM
    rw [eL3, e3, e2, e1]
    simp only [Sc.pop, Sc.popN, Sc.word, Sc.num, List.tail_cons, List.headD_cons, a1, b1, d1, g1, bs_sL]
  · unfold looseB
    rw [eL3]
/-- A text that is accepted: that of its matter; a formed matter's text is accepted. -/
theorem parse_text {m : Mt} (h : fmB m = true) : parseOk (textL m) = true ∧ looseM (textL m) = m := by
  obtain ⟨h1, h2⟩ := loose_text h
  refine ⟨?_, h1⟩
  unfold parseOk
  rw [h2, h1, h, decide_eq_true rfl]
  rfl
theorem parse_some {t : List UInt8} (h : parseOk t = true) : looseB t = false ∧ fmB (looseM t) = true ∧ textL (looseM t) = t := by
  unfold parseOk at h
  rw [Bool.and_eq_true, Bool.and_eq_true, decide_eq_true_eq] at h
  exact ⟨by simpa using h.1, h.2⟩
theorem text_inj {m n : Mt} (hm : fmB m = true) (hn : fmB n = true) (h : textL m = textL n) : m = n := by
  rw [← (loose_text hm).1, h, (loose_text hn).1]
end Go.Proofs.YtgfahifdmacmhaaGreatDoor

namespace Go.Proofs.YtgfahifdmacmhaaGreatDoor
open Go.RowKit Go.Shelf

theorem KeepB.own {b base size n : Nat} {e : TypeId} {v : Value} {xs : List Value} {w W : World} (hk : KeepB b w W) (hb : b < base) (ht : e ≠ 5) (h : w.ownsRow base e size v n xs) : W.ownsRow base e size v n xs := by
  refine ⟨h.1, ?_⟩
  rcases h.2 with h2 | ⟨g, cap, cur, hv, hg, hh, h3, h4, h5, h6⟩
  · exact .inl h2
  · exact .inr ⟨g, cap, cur, hv, hg, hk.2 g e cur (by omega) ht hh, h3, h4, h5, h6⟩
end Go.Proofs.YtgfahifdmacmhaaGreatDoor

namespace Go.Proofs.YtgfahifdmacmhaaGreatDoor
open Go.RowKit Go.Shelf

/-- Strings in memory, not in block g. -/
def SIn (w : World) (g : Nat) (A : Option Addr) (l : List Wd) : Prop :=
  ∀ (i : Nat) (s : Wd), l[i]? = some s → ∃ b off cs, A = some ⟨b, off, none⟩ ∧ b ≠ g ∧ Blk w b 9 cs ∧ cs[off + i]? = some (.string (bs s))
theorem SIn.via {w w' : World} {g : Nat} {A : Option Addr} {l : List Wd} (h : SIn w g A l) (hk : ∀ b cs, b ≠ g → Blk w b 9 cs → Blk w' b 9 cs) : SIn w' g A l := fun i s hi => by
  obtain ⟨b, off, cs, h1, h2, h3, h4⟩ := h i s hi
  exact ⟨b, off, cs, h1, h2, hk b cs h2 h3, h4⟩
theorem SIn.only {w w' : World} {g : Nat} {A : Option Addr} {l : List Wd} (h : SIn w g A l) (ho : Only (fun i => i = g) w w') : SIn w' g A l := h.via fun _ _ hn hb => ho.blk hb hn
theorem SIn.nil (w : World) (g : Nat) (A : Option Addr) : SIn w g A [] := fun i s h => by simp at h
/-- Rows of the words of a text, newly laid. -/
theorem SIn.fresh {w : World} {g : Nat} {l : List Wd} (hg : w.heap.size ≠ g) : SIn (w.alloc (.cells (l.map sv).toArray 9)) g (some ⟨w.heap.size, 0, none⟩) l := fun i s hi =>
  ⟨w.heap.size, 0, (l.map sv).toArray, rfl, hg, Blk.new w 9 (l.map sv).toArray, by rw [Nat.zero_add]; simp [hi, sv]⟩
theorem cell_of_block {w w' : World} {b i : Nat} (h : w'.heap[b]? = w.heap[b]?) : w'.cell? ⟨b, i, none⟩ = w.cell? ⟨b, i, none⟩ := by
  simp [World.cell?, h]
set_option maxRecDepth 100000 in
theorem strs_from (b off n c : Nat) (hc : n + 1 ≤ c) : ∃ A' : Option Addr, (∀ W : World, (Instr.slice 43 (.slice (some ⟨b, off, none⟩) (n + 1) c) (some (.int .i64 1)) none none).run Tryz.prog W = .ok (.slice A' n (c - 1)) W) ∧
    ∀ (W : World) (g : Nat) (x : Wd) (l : List Wd), SIn W g (some ⟨b, off, none⟩) (x :: l) → l.length = n → SIn W g A' l := by
  have ht : Tryz.prog.underlying 43 = some (.slice (Tryz.prog.elem 43)) := by kernel_rfl
  have he : Tryz.prog.elem 43 = 9 := by kernel_rfl
  refine ⟨if c = 1 then some ⟨b, off, none⟩ else some ⟨b, off + 1, none⟩, fun W => ?_, fun W g x l h hl => ?_⟩
  · rw [run_slice_l _ _ _ _ _ ht .i64 1 (by omega) (by omega), he, Tryz.sizeOf9 W]
    simp only [Result.andThen_ok, sliced]
    congr 2
  · split
    · have : l = [] := List.length_eq_zero_iff.1 (by omega)
      rw [this]
      exact SIn.nil _ _ _
    · intro i s hi
      obtain ⟨b', off', cs, h1, h2, h3, h4⟩ := h (i + 1) s (by simpa using hi)
      injection h1 with h1
      injection h1 with hg ho _
      subst hg ho
      refine ⟨b, off + 1, cs, rfl, h2, h3, ?_⟩
      rwa [show off + (i + 1) = off + 1 + i by omega] at h4

/-- The scanner in block g. -/
def ScAt (w : World) (g : Nat) (s : Sc) : Prop := ∃ A c A2 c2, Blk w g 86 #[.slice A s.ws.length c, .bool s.wr, .slice A2 s.ln.length c2] ∧ s.ws.length ≤ c ∧ s.ln.length ≤ c2 ∧ SIn w g A s.ws ∧ SIn w g A2 s.ln ∧
  (∀ x ∈ s.ws, x.length ≤ 1000000) ∧ (∀ x ∈ s.ln, x.length ≤ 1000000) ∧ s.ws.length ≤ 1000001
theorem ScAt.via {w w' : World} {g : Nat} {s : Sc} (h : ScAt w g s) (hk : ∀ b t cs, (t = 86 ∨ t = 9) → Blk w b t cs → Blk w' b t cs) : ScAt w' g s := by
  obtain ⟨A, c, A2, c2, h1, h2, h3, h4, h5, h6⟩ := h
  exact ⟨A, c, A2, c2, hk _ _ _ (.inl rfl) h1, h2, h3, h4.via fun b cs _ hb => hk b _ cs (.inr rfl) hb, h5.via fun b cs _ hb => hk b _ cs (.inr rfl) hb, h6⟩
theorem ScAt.keep {w w' : World} {g : Nat} {s : Sc} (h : ScAt w g s) (hb : Below w.heap.size w w') : ScAt w' g s := h.via fun _ _ _ _ h => h.below hb h.lt
theorem ScAt.grown {w w' : World} {g base size n : Nat} {e : TypeId} {v : Value} {xs : List Value} {s : Sc} (h : ScAt w g s) (ho : w.ownsRow base e size v n xs) (he : e ≠ 86 ∧ e ≠ 9) (hg : w.grownBy w' v.ownBlock) : ScAt w' g s :=
  h.via fun b t cs ht hb => hb.grown hg fun e' => own_blk_ne ho hb (by rcases ht with rfl | rfl; exact he.1; exact he.2) e'.symm
theorem ScAt.set {w : World} {g g' i : Nat} {v : Value} {s : Sc} {t : TypeId} {cs : Array Value} (h : ScAt w g s) (hb : Blk w g' t cs) (ht : t ≠ 86 ∧ t ≠ 9) : ScAt (w.setCell ⟨g', i, none⟩ v) g s :=
  h.via fun b u ds hu hd => hd.far (by
    have := Blk.ne_ (t := u) hd hb (by rintro rfl; rcases hu with rfl | rfl; exact ht.1 rfl; exact ht.2 rfl)
    exact this) v
theorem ScAt.lt {w : World} {g : Nat} {s : Sc} (h : ScAt w g s) : g < w.heap.size := by
  obtain ⟨A, c, A2, c2, h1, _⟩ := h
  exact h1.lt
theorem only_set {w : World} {g i : Nat} {v : Value} : Only (fun i => i = g) w (w.setCell ⟨g, i, none⟩ v) := (Only.refl (fun i => i = g) w).setCell (p := ⟨g, i, none⟩) (.inl rfl) v

set_option maxRecDepth 100000 in
set_option maxHeartbeats 1000000 in
theorem scword_any (w : World) (g : Nat) (s : Sc) (h : ScAt w g s) :
    Calls Tryz.prog 41 #[.pointer (some ⟨g, 0, none⟩)] w fun e w' => e = .returned (.string (bs s.word)) ∧ ScAt w' g s.pop ∧ Only (fun i => i = g) w w' := by
  obtain ⟨A, c, A2, c2, hb, hc, hc2, hi, hi2, hl, hl2, hn⟩ := h
  obtain ⟨ws, wr, ln⟩ := s
  simp only at *
  have H2 := Lib.hid hi2
  have HL2 := Lib.hid hl2
  have HC2 := Lib.hid hc2
  clear hi2 hl2 hc2
  cases ws with
  | nil =>
    obtain ⟨f0, f1, f2⟩ := hb.all
    clear hi hl hn
    go_enter Tryz.func41, Tryz.ntmps41
    go_wp2
    go_ret
    exact ⟨rfl, ⟨A, c, A2, c2, by simpa [Sc.pop] using hb.set_ 1 (.bool true), hc, HC2.out, SIn.nil _ _ _, H2.out.only only_set, by simp [Sc.pop], HL2.out, by simp [Sc.pop]⟩, only_set⟩
  | cons x xs =>
    obtain ⟨b, off, cs, rfl, hne, hbb, e0⟩ := hi 0 x rfl
    have hlt := hbb.lt
    replace e0 : w.cell? ⟨b, off, none⟩ = some (.string (bs x)) := by rw [hbb.cell]; exact e0
    clear hbb
    rw [List.length_cons] at hc
    obtain ⟨A', hsl, hdr⟩ := strs_from b off xs.length c hc
    have HI := Lib.hid hi
    have HDR := Lib.hid hdr
    have HL := Lib.hid hl
    rw [List.length_cons] at hb hn
    have HN := Lib.hid hn
    obtain ⟨f0, f1, f2⟩ := hb.all
    clear hi hdr hl hn
    go_enter Tryz.func41, Tryz.ntmps41
    go_wp2
    go_ret
    refine ⟨rfl, ⟨A', c - 1, A2, c2, by simpa [Sc.pop] using hb.set_ 0 (.slice A' xs.length (c - 1)), by simp [Sc.pop]; omega, HC2.out, (HDR.out _ g x xs HI.out rfl).only only_set, H2.out.only only_set, fun y hy => HL.out y (List.mem_cons_of_mem _ hy), HL2.out, ?_⟩, only_set⟩
    have := HN.out
    simp [Sc.pop]
    omega
theorem atoi_good (w : World) (l : Wd) (hl : l.length ≤ 1000000) (h : badW l = false) : Calls Tryz.prog 85 #[.string (bs l)] w fun e w' => e = .returned (.tuple #[.int .i64 (numW l), .nilIface]) ∧ Below w.heap.size w w' := by
  unfold badW at h
  unfold numW
  cases ha : Lib.atoiAll l with
  | ok v => exact atoi_ok w l v hl ha
  | «syntax» => rw [ha] at h; cases h
  | range => rw [ha] at h; cases h
theorem atoi_err (w : World) (ht : Tbs w) (l : Wd) (hl : l.length ≤ 1000000) (h : badW l = true) : Calls Tryz.prog 85 #[.string (bs l)] w (ErrPost w (numW l)) := by
  unfold badW at h
  unfold numW
  cases ha : Lib.atoiAll l with
  | ok v => rw [ha] at h; cases h
  | «syntax» =>
    obtain ⟨ev, hv, hev⟩ := ht.syn
    exact (sh_strconv_Atoi_syntax (bs l) (by rw [bs_size]; omega) ha ev w hv hev).mono fun _ _ ⟨N, he, _, _, hb⟩ => ⟨_, _, he, hb⟩
  | range =>
    obtain ⟨ev, hv, hev⟩ := ht.rng
    exact (sh_strconv_Atoi_range (bs l) (by rw [bs_size]; omega) ha ev w hv hev).mono fun _ _ ⟨N, he, _, _, hb⟩ => ⟨_, _, he, hb⟩
theorem Sc.word_len {s : Sc} (h : ∀ x ∈ s.ws, x.length ≤ 1000000) : s.word.length ≤ 1000000 := by
  unfold Sc.word
  cases hs : s.ws with
  | nil => simp
  | cons x xs => exact h x (by rw [hs]; exact List.mem_cons_self)
theorem ScAt.len {w : World} {g : Nat} {s : Sc} (h : ScAt w g s) : s.word.length ≤ 1000000 := by
  obtain ⟨A, c, A2, c2, h1, h2, h3, h4, h5, h6, h7⟩ := h
  exact Sc.word_len h6
/-- A scanner whose mark is set anew. -/
theorem ScAt.mark {w : World} {g : Nat} {s : Sc} (h : ScAt w g s) (v : Bool) : ScAt (w.setCell ⟨g, 1, none⟩ (.bool v)) g ⟨s.ws, v, s.ln⟩ := by
  obtain ⟨A, c, A2, c2, h1, h2, h3, h4, h5, h6⟩ := h
  exact ⟨A, c, A2, c2, by simpa using h1.set_ 1 (.bool v), h2, h3, h4.only only_set, h5.only only_set, h6⟩
theorem ScAt.mark_cell {w : World} {g : Nat} {s : Sc} (h : ScAt w g s) : w.cell? ⟨g, 1, none⟩ = some (.bool s.wr) ∧ w.frozen? ⟨g, 1, none⟩ = false := by
  obtain ⟨A, c, A2, c2, h1, _⟩ := h
  exact ⟨by rw [h1.cell]; rfl, h1.frozen 1⟩

set_option maxRecDepth 100000 in
set_option maxHeartbeats 1000000 in
theorem scnum_any (w : World) (g : Nat) (s : Sc) (h : ScAt w g s) (ht : ∀ W, Only (fun i => i = g) w W → Tbs W) :
    Calls Tryz.prog 42 #[.pointer (some ⟨g, 0, none⟩)] w fun e w' => e = .returned (.int .i64 s.num) ∧ ScAt w' g s.popN ∧ Only (fun i => i = g) w w' := by
  have hl := h.len
  have hw := scword_any w g s h
  obtain ⟨N, hN⟩ : ∃ N, s.num = N := ⟨_, rfl⟩
  obtain ⟨P, hP⟩ : ∃ P, s.pop = P := ⟨_, rfl⟩
  have hPN : s.popN = ⟨P.ws, P.wr || badW s.word, P.ln⟩ := by subst hP; rfl
  have hNum : numW s.word = N := hN
  obtain ⟨W1, hW1⟩ : ∃ W1, s.word = W1 := ⟨_, rfl⟩
  rw [hP, hW1] at hw
  rw [hN, hPN, hW1]
  rw [hW1] at hNum hl
  have HW := Lib.hid hw
  have HT := Lib.hid ht
  clear hw ht h hN hP hPN hW1
  go_enter Tryz.func42, Tryz.ntmps42
  cases hbad : badW W1 with
  | false =>
    have hat := fun W => atoi_good W W1 hl hbad
    rw [hNum] at hat
    have HAT := Lib.hid hat
    clear hat hbad hNum
    go_wp2_with fail
    refine HW.out.mono ?_
    rintro e w1 ⟨rfl, h1, o1⟩
    go_wp2_with fail
    refine (HAT.out w1).mono ?_
    rintro e w2 ⟨rfl, b2⟩
    have h2 := h1.keep b2
    have o2 := o1.trans (Only.of_below b2 (fun i => i = g)) (fun i hi => .inl hi)
    obtain ⟨f1, f2⟩ := h2.mark_cell
    have H2 := Lib.hid h2
    have O2 := Lib.hid o2
    clear h1 o1 b2 h2 o2
    obtain ⟨ws, wr, ln⟩ := P
    simp only at f1
    cases wr with
    | false =>
      go_wp2
      go_ret
      exact ⟨rfl, H2.out.mark false, O2.out.trans only_set (fun i hi => .inl hi)⟩
    | true =>
      go_wp2
      go_ret
      exact ⟨rfl, H2.out.mark true, O2.out.trans only_set (fun i hi => .inl hi)⟩
  | true =>
    have hat := fun W ht => atoi_err W ht W1 hl hbad
    rw [hNum] at hat
    have HAT := Lib.hid hat
    clear hat hbad hNum
    go_wp2_with fail
    refine HW.out.mono ?_
    rintro e w1 ⟨rfl, h1, o1⟩
    have ht1 := HT.out w1 o1
    go_wp2_with fail
    refine (HAT.out w1 ht1).mono ?_
    rintro e w2 ⟨t, v, rfl, b2⟩
    have h2 := h1.keep b2
    have o2 := o1.trans (Only.of_below b2 (fun i => i = g)) (fun i hi => .inl hi)
    obtain ⟨f1, f2⟩ := h2.mark_cell
    have H2 := Lib.hid h2
    have O2 := Lib.hid o2
    clear h1 o1 b2 h2 o2 ht1
    obtain ⟨ws, wr, ln⟩ := P
    simp only at f1
    cases wr with
    | false =>
      go_wp2
      go_ret
      exact ⟨rfl, H2.out.mark true, O2.out.trans only_set (fun i hi => .inl hi)⟩
    | true =>
      go_wp2
      go_ret
      exact ⟨rfl, H2.out.mark true, O2.out.trans only_set (fun i hi => .inl hi)⟩

set_option maxRecDepth 100000 in
theorem split_any (w : World) (ht : Tbs w) (c : UInt8) (l : Wd) (hl : l.length ≤ 1000000) :
    Calls Tryz.prog 39 #[.string (bs l), .string (bs [c])] w fun e w' => e = .returned (.slice (some ⟨w.heap.size, 0, none⟩) (cutL c l).length (cutL c l).length) ∧ w' = w.alloc (.cells ((cutL c l).map sv).toArray 9) := by
  obtain ⟨m, hm⟩ := ht.max
  refine (sh_strings_Split (bs l) (bs [c]) m w (by rw [bs_size]; omega) hm (by rw [bs_size]; exact Nat.le_refl 1)).mono ?_
  rintro e w' ⟨he, hw⟩
  rw [split_words, List.map_map] at hw
  refine ⟨?_, hw⟩
  rw [cutL_len]
  exact he

set_option maxRecDepth 100000 in
set_option maxHeartbeats 1000000 in
theorem scnext_any (w : World) (g : Nat) (s : Sc) (h : ScAt w g s) (ht : ∀ W, Only (fun i => i = g) w W → Tbs W) :
    Calls Tryz.prog 43 #[.pointer (some ⟨g, 0, none⟩)] w fun e w' => e = .returned (.bool (!s.ln.isEmpty)) ∧ ScAt w' g s.next ∧ Only (fun i => i = g) w w' := by
  obtain ⟨A, c, A2, c2, hb, hc, hc2, hi, hi2, hl, hl2, hn⟩ := h
  obtain ⟨ws, wr, ln⟩ := s
  simp only at *
  have HI := Lib.hid hi
  have HI2 := Lib.hid hi2
  have HL := Lib.hid hl
  have HL2 := Lib.hid hl2
  have HC := Lib.hid hc
  have HC2 := Lib.hid hc2
  have HN := Lib.hid hn
  have HT := Lib.hid ht
  have hG := hb.lt
  clear hi hi2 hl hl2 hc hc2 hn ht
  obtain ⟨q, hq⟩ : ∃ q, (wr || !ws.isEmpty) = q := ⟨_, rfl⟩
  obtain ⟨n, hn⟩ : ∃ n, ws.length = n := ⟨_, rfl⟩
  have hd : decide (0 < n) = !ws.isEmpty := by
    cases ws with
    | nil => subst hn; rfl
    | cons x xs => subst hn; simp
  rw [hn] at hb
  cases ln with
  | nil =>
    have e : (⟨ws, wr, []⟩ : Sc).next = ⟨ws, q, []⟩ := by rw [← hq]; rfl
    rw [e]
    have HQ := Lib.hid hq
    have hb2 := hb.set_ 1 (.bool q)
    have HB2 : Hid (Blk (w.setCell ⟨g, 1, none⟩ (.bool q)) g 86 #[.slice A n c, .bool q, .slice A2 0 c2]) := Lib.hid (by simpa using hb2)
    obtain ⟨f0, f1, f2⟩ := hb.all
    obtain ⟨g0, g1, g2⟩ := HB2.out.all
    have HNE := Lib.hid hn
    have fin : ScAt (w.setCell ⟨g, 1, none⟩ (.bool q)) g ⟨ws, q, []⟩ := ⟨A, c, A2, c2, by rw [hn]; exact HB2.out, HC.out, HC2.out, HI.out.only only_set, SIn.nil _ _ _, HL.out, HL2.out, HN.out⟩
    have FIN := Lib.hid fin
    clear hq hb2 fin hn
    cases wr with
    | true =>
      obtain rfl : true = q := HQ.out
      clear hd HQ
      go_enter Tryz.func43, Tryz.ntmps43
      go_wp2
      go_ret
      exact ⟨rfl, FIN.out, only_set⟩
    | false =>
      have e2 : (!ws.isEmpty) = q := HQ.out
      rw [e2] at hd
      subst hd
      clear e2 HQ
      go_enter Tryz.func43, Tryz.ntmps43
      go_wp2
      go_ret
      exact ⟨rfl, FIN.out, only_set⟩
  | cons l t =>
    have e : (⟨ws, wr, l :: t⟩ : Sc).next = ⟨cutL 32 l, q, t⟩ := by rw [← hq]; rfl
    rw [e]
    obtain ⟨b, off, cs, rfl, hne, hbb, e0⟩ := HI2.out 0 l rfl
    have hlt := hbb.lt
    replace e0 : w.cell? ⟨b, off, none⟩ = some (.string (bs l)) := by rw [hbb.cell]; exact e0
    clear hbb
    have hcc := HC2.out
    rw [List.length_cons] at hcc hb
    obtain ⟨A', hsl, hdr⟩ := strs_from b off t.length c2 hcc
    have hlen := HL2.out l List.mem_cons_self
    have HQ := Lib.hid hq
    obtain ⟨m, hm⟩ : ∃ m, (cutL 32 l).length = m := ⟨_, rfl⟩
    have hcl := cutL_le (c := 32) l
    have o1 : Only (fun i => i = g) w (w.setCell ⟨g, 1, none⟩ (.bool q)) := only_set
    have hb2 := hb.set_ 1 (.bool q)
    have hb2' : Blk (w.setCell ⟨g, 1, none⟩ (.bool q)) g 86 #[.slice A n c, .bool q, .slice (some ⟨b, off, none⟩) (t.length + 1) c2] := by simpa using hb2
    have e1 : (w.setCell ⟨g, 1, none⟩ (.bool q)).cell? ⟨b, off, none⟩ = some (.string (bs l)) := (cell_of_block (o1.block b hlt hne)).trans e0
    have hsp := split_any (w.setCell ⟨g, 1, none⟩ (.bool q)) (HT.out _ o1) 32 l hlen
    rw [hm] at hsp
    have e32 : bs [32] = ⟨#[32]⟩ := rfl
    rw [e32] at hsp
    have hs1 : (w.setCell ⟨g, 1, none⟩ (.bool q)).heap.size = w.heap.size := by simp [World.setCell]
    obtain ⟨W1, hW1⟩ : ∃ W1, w.setCell ⟨g, 1, none⟩ (.bool q) = W1 := ⟨_, rfl⟩
    rw [hW1] at hsp hb2' e1 o1 hs1
    have hb3 : Blk (W1.alloc (.cells ((cutL 32 l).map sv).toArray 9)) g 86 #[.slice A n c, .bool q, .slice (some ⟨b, off, none⟩) (t.length + 1) c2] := hb2'.alloc _
    have o2 := o1.alloc (.cells ((cutL 32 l).map sv).toArray 9)
    have hfr : SIn (W1.alloc (.cells ((cutL 32 l).map sv).toArray 9)) g (some ⟨W1.heap.size, 0, none⟩) (cutL 32 l) := SIn.fresh (by omega)
    rw [hs1] at hfr hsp
    have HFR := Lib.hid hfr
    obtain ⟨W2, hW2⟩ : ∃ W2, W1.alloc (.cells ((cutL 32 l).map sv).toArray 9) = W2 := ⟨_, rfl⟩
    rw [hW2] at hsp hb3 o2 HFR
    have HSP := Lib.hid hsp
    have HB3 := Lib.hid hb3
    have O2 := Lib.hid o2
    have HDR := Lib.hid hdr
    have HCL := Lib.hid hcl
    have HM := Lib.hid hm
    have HW1 := Lib.hid hW1
    obtain ⟨f0, f1, f2⟩ := hb.all
    clear hdr hsp hb3 o2 hcl hm hfr hb2 hq hlen hW1 hW2 o1
    have hb4 := HB3.out.set_ 0 (.slice (some ⟨w.heap.size, 0, none⟩) m m)
    have hb4' : Blk (W2.setCell ⟨g, 0, none⟩ (.slice (some ⟨w.heap.size, 0, none⟩) m m)) g 86 #[.slice (some ⟨w.heap.size, 0, none⟩) m m, .bool q, .slice (some ⟨b, off, none⟩) (t.length + 1) c2] := by simpa using hb4
    have hb5 := hb4'.set_ 2 (.slice A' t.length (c2 - 1))
    have HB5 : Hid (Blk ((W2.setCell ⟨g, 0, none⟩ (.slice (some ⟨w.heap.size, 0, none⟩) m m)).setCell ⟨g, 2, none⟩ (.slice A' t.length (c2 - 1))) g 86 #[.slice (some ⟨w.heap.size, 0, none⟩) m m, .bool q, .slice A' t.length (c2 - 1)]) := Lib.hid (by simpa using hb5)
    have fin : ScAt ((W2.setCell ⟨g, 0, none⟩ (.slice (some ⟨w.heap.size, 0, none⟩) m m)).setCell ⟨g, 2, none⟩ (.slice A' t.length (c2 - 1))) g ⟨cutL 32 l, q, t⟩ := by
      refine ⟨some ⟨w.heap.size, 0, none⟩, m, A', c2 - 1, ?_, ?_, ?_, ?_, ?_, ?_, ?_, ?_⟩
      · simp only [HM.out]
        exact HB5.out
      · exact Nat.le_of_eq HM.out
      · show t.length ≤ c2 - 1; omega
      · exact (HFR.out.only only_set).only only_set
      · exact (((HDR.out _ g l t HI2.out rfl).only O2.out).only only_set).only only_set
      · intro x hx
        have := HCL.out.2 x hx
        have h3 := HL2.out l List.mem_cons_self
        omega
      · exact fun x hx => HL2.out x (List.mem_cons_of_mem _ hx)
      · have := HCL.out.1
        have h3 := HL2.out l List.mem_cons_self
        show (cutL 32 l).length ≤ _
        omega
    have FIN := Lib.hid fin
    have O4 : Hid (Only (fun i => i = g) w ((W2.setCell ⟨g, 0, none⟩ (.slice (some ⟨w.heap.size, 0, none⟩) m m)).setCell ⟨g, 2, none⟩ (.slice A' t.length (c2 - 1)))) := Lib.hid ((O2.out.trans only_set (fun i hi => .inl hi)).trans only_set (fun i hi => .inl hi))
    have HB4 := Lib.hid hb4'
    clear hb4 hb4' hb5 fin HI HI2 HL HL2 HC HC2 HN HT HCL HM HDR
    obtain ⟨p0, p1, p2⟩ := hb2'.all
    cases wr with
    | true =>
      obtain rfl : true = q := HQ.out
      clear hd HQ
      go_enter Tryz.func43, Tryz.ntmps43
      go_upto_region 2 with fail
      rw [HW1.out]
      clear f0 f1 f2
      go_wp2_with fail
      refine HSP.out.mono ?_
      rintro e w2 ⟨rfl, rfl⟩
      obtain ⟨r0, r1, r2⟩ := HB3.out.all
      obtain ⟨s0, s1, s2⟩ := HB4.out.all
      go_wp2
      go_ret
      exact ⟨rfl, FIN.out, O4.out⟩
    | false =>
      have e2 : (!ws.isEmpty) = q := HQ.out
      rw [e2] at hd
      subst hd
      clear e2 HQ
      go_enter Tryz.func43, Tryz.ntmps43
      go_upto_region 2 with fail
      rw [HW1.out]
      clear f0 f1 f2
      go_wp2_with fail
      refine HSP.out.mono ?_
      rintro e w2 ⟨rfl, rfl⟩
      obtain ⟨r0, r1, r2⟩ := HB3.out.all
      obtain ⟨s0, s1, s2⟩ := HB4.out.all
      go_wp2
      go_ret
      exact ⟨rfl, FIN.out, O4.out⟩
end Go.Proofs.YtgfahifdmacmhaaGreatDoor

namespace Go.Proofs.YtgfahifdmacmhaaGreatDoor
open Go.RowKit Go.Shelf

def restS (s : Sc) (k : Nat) : Sc := ⟨s.ws.drop k, s.wr || (s.ws.take k).any badW, s.ln⟩
theorem restS_zero (s : Sc) : restS s 0 = s := by simp [restS]
theorem restS_num {s : Sc} {k : Nat} {x : Wd} (h : s.ws[k]? = some x) : (restS s k).num = numW x := by
  obtain ⟨hk, hx⟩ := List.getElem?_eq_some_iff.1 h
  have e : s.ws.drop k = x :: s.ws.drop (k + 1) := by rw [List.drop_eq_getElem_cons hk, hx]
  simp [restS, Sc.num, Sc.word, e]
theorem restS_popN {s : Sc} {k : Nat} {x : Wd} (h : s.ws[k]? = some x) : (restS s k).popN = restS s (k + 1) := by
  obtain ⟨hk, hx⟩ := List.getElem?_eq_some_iff.1 h
  have e : s.ws.drop k = x :: s.ws.drop (k + 1) := by rw [List.drop_eq_getElem_cons hk, hx]
  simp only [restS, Sc.popN, Sc.word, e, List.tail_cons, List.headD_cons, List.isEmpty_cons, Bool.or_false, take_snoc' h, List.any_append, List.any_cons, List.any_nil, Bool.or_assoc]
theorem restS_end (s : Sc) : restS s s.ws.length = s.rest := by simp [restS, Sc.rest]

set_option maxRecDepth 100000 in
set_option maxHeartbeats 1000000 in
theorem screst_any (w : World) (g : Nat) (s : Sc) (h : ScAt w g s) (ht : ∀ W, Only (fun i => i = g) w W → Tbs W) :
    Calls Tryz.prog 44 #[.pointer (some ⟨g, 0, none⟩)] w fun e w' => (∃ A c, e = .returned (.slice A s.ws.length c) ∧ w'.ownsRow w.heap.size 3 1 (.slice A s.ws.length c) s.ws.length (intCells (s.ws.map numW))) ∧ ScAt w' g s.rest ∧ Only (fun i => i = g) w w' := by
  obtain ⟨i0, hi0, hz0, hz1, hz2⟩ := info_parts Tryz.infoInt
  have HT := Lib.hid ht
  have HS := Lib.hid h
  have hlen : s.ws.length ≤ 1000001 := by obtain ⟨_, _, _, _, _, _, _, _, _, _, _, h⟩ := h; exact h
  obtain ⟨N, hN⟩ : ∃ N, s.ws.length = N := ⟨_, rfl⟩
  have HN := Lib.hid hN
  rw [hN] at hlen ⊢
  clear h ht hN
  go_enter Tryz.func44, Tryz.ntmps44
  go_wp2_with fail
  go_loopg [3] N (fun n v wr => ∃ (k : Nat) (A : Option Addr) (c : Nat), k + n = N ∧ v = .slice A k c ∧ Hid (wr.ownsRow w.heap.size 3 1 (.slice A k c) k (intCells ((s.ws.take k).map numW))) ∧ Hid (ScAt wr g (restS s k)) ∧ Hid (Only (fun i => i = g) w wr))
  case atStart => exact ⟨0, none, 0, Nat.zero_add _, rfl, Lib.hid (World.ownsRow_nil _ _ _ _), Lib.hid (by rw [restS_zero]; exact HS.out), Lib.hid (Only.refl _ _)⟩
  case round =>
    obtain ⟨k, A, c, hk, rfl, OW, SC, O⟩ := hrel
    obtain ⟨A1, c1, A2, c2, hb, _⟩ := SC.out
    have hdl : (restS s k).ws.length = gk := by simp [restS]; have := HN.out; omega
    rw [hdl] at hb
    obtain ⟨f0, f1, f2⟩ := hb.all
    have hne := own_blk_ne OW.out hb (by decide)
    by_cases hlt : k < N
    · obtain ⟨m, rfl⟩ : ∃ m, gk = m + 1 := ⟨gk - 1, by omega⟩
      obtain ⟨x, hx⟩ : ∃ x, s.ws[k]? = some x := ⟨_, List.getElem?_eq_getElem (by rw [HN.out]; exact hlt)⟩
      have hnum := scnum_any wr g (restS s k) SC.out (fun W hW => HT.out W (O.out.trans hW (fun i hi => .inl hi)))
      rw [restS_num hx, restS_popN hx] at hnum
      have HNUM := Lib.hid hnum
      have tk := take_snoc' hx
      have TK := Lib.hid tk
      obtain ⟨X, hX⟩ : ∃ X, numW x = X := ⟨_, rfl⟩
      rw [hX] at HNUM
      have HX := Lib.hid hX
      clear hnum hx hdl hX tk
      go_wp2_with fail
      refine HNUM.out.mono ?_
      rintro e w2 ⟨rfl, h2, o2⟩
      have kn := Blk.new w2 3 #[.int .i64 X]
      have own3 := (o2.owns OW.out (fun b hv hb => hne (by rw [hv, hb]))).alloc (.cells #[.int .i64 X] 3)
      have h3 := h2.keep (below_self_alloc w2 (.cells #[.int .i64 X] 3))
      have o3 := (O.out.trans o2 (fun i hi => .inl hi)).alloc (.cells #[.int .i64 X] 3)
      have hsz := o3.size
      have H3 := Lib.hid h3
      have O3 := Lib.hid o3
      clear h2 o2 hb h3 o3 HNUM f0 f1 f2
      go_wp2_with (at_builtin; refine wpList_append_lies _ rfl _ _ 22 rfl w.heap.size 3 i0 _ 1 8 Tryz.underlying22 hi0 hz0 hz1 hz2 rfl (by omega) (.slice A k c) k _ rfl own3 ⟨w2.heap.size, 0, none⟩ 1 1 [.int .i64 X] rfl rfl (World.news_of_block kn) (intCells_one [X]) (by omega) (by unfold maxLen; omega) (by omega) (by omega) _ rfl ?_; intro gz cz Y own4 gr4 l4 z4)
      have h4 := H3.out.grown own3 (by decide) gr4
      have o4 := O3.out.trans (Only.of_grown gr4) (fun i hi => .inr (World.ownsRow.lt own3 i hi).1)
      have OW4 := Lib.hid own4
      have H4 := Lib.hid h4
      have O4 := Lib.hid o4
      clear h4 o4 own4 own3 gr4 l4 kn
      go_wp2
      go_roundg m
      case rel => exact ⟨k + 1, _, _, by omega, rfl, Lib.hid (by rw [TK.out, List.map_append, intCells_app, List.map_cons, List.map_nil, HX.out]; exact OW4.out), H4, O4⟩
      case measure => omega
    · obtain rfl : gk = 0 := by omega
      obtain rfl : k = N := by omega
      have hfin : ScAt wr g s.rest := by rw [← restS_end, HN.out]; exact SC.out
      have hown := OW.out
      rw [List.take_of_length_le (by rw [HN.out]; exact Nat.le_refl _)] at hown
      have FIN := Lib.hid hfin
      have OWN := Lib.hid hown
      clear hfin hown hdl hb
      go_wp2
      go_ret
      exact ⟨⟨A, c, rfl, OWN.out⟩, FIN.out, O.out⟩
end Go.Proofs.YtgfahifdmacmhaaGreatDoor

namespace Go.Proofs.YtgfahifdmacmhaaGreatDoor
open Go.RowKit Go.Shelf

def ZM : Array Value := #[.string ⟨#[]⟩, .int .i64 0, .slice none 0 0, .string ⟨#[]⟩, .int .i64 0, .slice none 0 0, .slice none 0 0, .slice none 0 0]
/-- The scanner in block g, the matter in block gm, what is returned in block gr. -/
structure PS (w W : World) (g gm gr : Nat) (s : Sc) (C : Array Value) : Prop where
  hb : Below w.heap.size w W
  sc : ScAt W g s
  km : Blk W gm 27 C
  kr : Blk W gr 27 ZM
  hg : w.heap.size ≤ g
  hm : w.heap.size ≤ gm
  hr : w.heap.size ≤ gr
  ne : gr ≠ gm
section
variable {w W W' : World} {g gm gr : Nat} {s s' : Sc} {C : Array Value}
theorem ScAt.blk (h : ScAt W g s) : ∃ cs, Blk W g 86 cs := by
  obtain ⟨A, c, A2, c2, h1, _⟩ := h
  exact ⟨_, h1⟩
theorem PS.ng (h : PS w W g gm gr s C) : gm ≠ g ∧ gr ≠ g := by
  obtain ⟨cs, hb⟩ := h.sc.blk
  exact ⟨Blk.ne_ h.km hb (by decide), Blk.ne_ h.kr hb (by decide)⟩
theorem PS.step (h : PS w W g gm gr s C) (ho : Only (fun i => i = g) W W') (hs : ScAt W' g s') : PS w W' g gm gr s' C :=
  ⟨h.hb.trans (ho.below h.hb.size (fun i e => by subst e; exact h.hg)), hs, ho.blk h.km h.ng.1, ho.blk h.kr h.ng.2, h.hg, h.hm, h.hr, h.ne⟩
theorem PS.tbs (h : PS w W g gm gr s C) (ht : Tbs w) : ∀ W', Only (fun i => i = g) W W' → Tbs W' := fun W' ho => ht.below (h.hb.trans (ho.below h.hb.size (fun i e => by subst e; exact h.hg)))
theorem PS.keep (h : PS w W g gm gr s C) (hb : Below W.heap.size W W') : PS w W' g gm gr s C := h.step (Only.of_below hb _) (h.sc.keep hb)
theorem below_drew0 (W : World) : Below W.heap.size W W.drew := ⟨rfl, rfl, rfl, Nat.le_refl _, fun _ _ => rfl⟩
theorem PS.drewN (h : PS w W g gm gr s C) (n : Nat) : PS w (W.drewN n) g gm gr s C := h.keep ⟨rfl, rfl, rfl, Nat.le_refl _, fun _ _ => rfl⟩
theorem PS.store (h : PS w W g gm gr s C) (i : Nat) (v : Value) : PS w (W.setCell ⟨gm, i, none⟩ v) g gm gr s (C.setIfInBounds i v) :=
  ⟨h.hb.setCell (p := ⟨gm, i, none⟩) h.hm v, h.sc.set h.km (by decide), h.km.set_ i v, h.kr.far (p := ⟨gm, i, none⟩) h.ne v, h.hg, h.hm, h.hr, h.ne⟩
/-- Another row of the call's own grows. -/
theorem PS.grown {base size n : Nat} {e : TypeId} {v : Value} {xs : List Value} (h : PS w W g gm gr s C) (ho : W.ownsRow base e size v n xs) (hb : w.heap.size ≤ base) (he : e ≠ 86 ∧ e ≠ 9 ∧ e ≠ 27) (hg : W.grownBy W' v.ownBlock) : PS w W' g gm gr s C :=
  ⟨h.hb.grown hg h.hb.size (fun k hk => Nat.le_trans hb (ho.lt k hk).1), h.sc.grown ho ⟨he.1, he.2.1⟩ hg, h.km.grown hg (fun e' => own_blk_ne ho h.km he.2.2 e'.symm), h.kr.grown hg (fun e' => own_blk_ne ho h.kr he.2.2 e'.symm), h.hg, h.hm, h.hr, h.ne⟩
/-- A row of the call's own, while the scanner goes on. -/
theorem PS.owns {base size n : Nat} {e : TypeId} {v : Value} {xs : List Value} (h : PS w W g gm gr s C) (ho : Only (fun i => i = g) W W') (o : W.ownsRow base e size v n xs) (he : e ≠ 86) : W'.ownsRow base e size v n xs := by
  obtain ⟨cs, hb⟩ := h.sc.blk
  exact ho.owns o fun b hv e' => own_blk_ne o hb he (by rw [hv, e'])
/-- .. while a cell of the matter is stored. -/
theorem PS.owns_set {base size n i : Nat} {e : TypeId} {u v : Value} {xs : List Value} (h : PS w W g gm gr s C) (o : W.ownsRow base e size v n xs) (he : e ≠ 27) : (W.setCell ⟨gm, i, none⟩ u).ownsRow base e size v n xs :=
  ((Only.refl (fun i => i = gm) W).setCell (.inl rfl) u).owns o fun b hv e' => own_blk_ne o h.km he (by rw [hv, e'])
end
theorem PS.cast {w W : World} {g gm gr : Nat} {s : Sc} {C C' : Array Value} (h : PS w W g gm gr s C) (e : C = C') : PS w W g gm gr s C' := e ▸ h
theorem owns_low {W : World} {base base' size n : Nat} {e : TypeId} {v : Value} {xs : List Value} (o : W.ownsRow base e size v n xs) (hb : base' ≤ base) : W.ownsRow base' e size v n xs := by
  refine ⟨o.1, ?_⟩
  rcases o.2 with h | ⟨g, cap, cur, h1, h2, h3⟩
  · exact .inl h
  · exact .inr ⟨g, cap, cur, h1, Nat.le_trans hb h2, h3⟩
/-- .. while another row grows. -/
theorem owns_grown {W W' : World} {base size n base' size' n' : Nat} {e e' : TypeId} {v v' : Value} {xs xs' : List Value} (o : W.ownsRow base e size v n xs) (o' : W.ownsRow base' e' size' v' n' xs') (he : e ≠ e') (hg : W.grownBy W' v'.ownBlock) : W'.ownsRow base e size v n xs :=
  (Only.of_grown hg).owns o fun b hv hb => by
    rcases o.2 with ⟨h, _⟩ | ⟨g, cap, cur, h, _, hh, _⟩
    · rw [h] at hv; simp [Value.ownBlock] at hv
    · rw [h] at hv
      have : g = b := by simpa [Value.ownBlock] using hv
      subst this
      exact own_blk_ne o' (show Blk W g e cur from hh) he.symm hb
/-- .. of the same kind, that lies higher. -/
theorem owns_apart {W W' : World} {base size n base' size' n' B : Nat} {e e' : TypeId} {v v' : Value} {xs xs' : List Value} (o : W.ownsRow base e size v n xs) (hB : ∀ b, v.ownBlock = some b → b < B) (o' : W.ownsRow base' e' size' v' n' xs') (hb : B ≤ base') (hg : W.grownBy W' v'.ownBlock) : W'.ownsRow base e size v n xs :=
  (Only.of_grown hg).owns o fun b hv hb' => by
    have h1 := hB b hv
    have h2 := (o'.lt b hb').1
    omega
end Go.Proofs.YtgfahifdmacmhaaGreatDoor

namespace Go.Proofs.YtgfahifdmacmhaaGreatDoor
open Go.RowKit Go.Shelf

theorem Tryz.infoLimit : (Tryz.prog.info? 65).map (fun i => (i.zero, i.size, i.bytes)) = some (some (.agg #[.string ⟨#[]⟩, .int .i64 0, .int .i64 0, .int .i64 0, .slice none 0 0]), 5, 64) := by kernel_rfl
def encL (x : LmV) : List Value := [.string x.1.id, .int .i64 x.1.n, .int .i64 x.1.u, .int .i64 x.1.f, .slice x.2.1 x.1.S.length x.2.2]
def lmCells (l : List LmV) : List Value := l.flatMap encL
theorem lmCells_len (l : List LmV) : (lmCells l).length = l.length * 5 := by
  induction l with
  | nil => rfl
  | cons s l ih => show (encL s ++ lmCells l).length = _; rw [List.length_append, ih]; simp [encL]; omega
theorem lmCells_app (J K : List LmV) : lmCells (J ++ K) = lmCells J ++ lmCells K := by simp [lmCells]
theorem lmCells_at : ∀ (l : List LmV) (i : Nat) (x : LmV), l[i]? = some x → ∀ j v, (encL x)[j]? = some v → (lmCells l)[i * 5 + j]? = some v
  | [], i, x, h, _, _, _ => by simp at h
  | y :: l, 0, x, h, j, v, hj => by
    simp at h
    subst h
    show (encL y ++ lmCells l)[0 * 5 + j]? = _
    have hl : j < (encL y).length := (List.getElem?_eq_some_iff.1 hj).1
    rw [show 0 * 5 + j = j by omega, List.getElem?_append_left hl]
    exact hj
  | y :: l, i + 1, x, h, j, v, hj => by
    have ih := lmCells_at l i x (by simpa using h) j v hj
    show (encL y ++ lmCells l)[(i + 1) * 5 + j]? = _
    rw [List.getElem?_append_right (by show 5 ≤ _; omega)]
    have e : (i + 1) * 5 + j - (encL y).length = i * 5 + j := by show (i + 1) * 5 + j - 5 = _; omega
    rw [e]
    exact ih
theorem encL_one (x : LmV) : ∀ u ∈ encL x, u.oneCell' = true := by
  intro u hu
  simp only [encL, List.mem_cons, List.not_mem_nil, or_false] at hu
  rcases hu with rfl | rfl | rfl | rfl | rfl <;> rfl
/-- The stops of limits lie in rows of the call's own. -/
def StpOK (w W : World) (lv : List LmV) : Prop := ∀ x ∈ lv, W.ownsRow w.heap.size 77 2 (.slice x.2.1 x.1.S.length x.2.2) x.1.S.length (stopCells x.1.S) ∧ x.1.id.size ≤ 1000000 ∧ x.1.S.length ≤ 1000001
theorem LmsAt.of_row {w W : World} {base cap n : Nat} {A : Option Addr} {l : List LmV} (hl : l.length = n) (h : W.ownsRow base 65 5 (.slice A n cap) n (lmCells l)) (hs : StpOK w W l) : LmsAt W W.heap.size A l := by
  intro i x hi
  have hil := (List.getElem?_eq_some_iff.1 hi).1
  rcases h.2 with ⟨_, h0⟩ | ⟨g, cap', cur, hv, _, hh, _, _, _, h4⟩
  · omega
  · injection hv with hv _ _
    have at_ : ∀ j v, (lmCells l)[j]? = some v → W.cell? ⟨g, 0 + j, none⟩ = some v := fun j v hj => by
      rw [Nat.zero_add, cell_of_row W g j cur _ _ hh]
      have hj4 : j < n * 5 := by
        have := (List.getElem?_eq_some_iff.1 hj).1
        rw [lmCells_len, hl] at this
        exact this
      have h5 := congrArg (fun l : List Value => l[j]?) h4
      simp only [List.getElem?_take, hj4, if_true] at h5
      rw [hj] at h5
      simpa using h5
    have c0 := at_ _ _ (lmCells_at l i x hi 0 _ rfl)
    have c1 := at_ _ _ (lmCells_at l i x hi 1 _ rfl)
    have c2 := at_ _ _ (lmCells_at l i x hi 2 _ rfl)
    have c3 := at_ _ _ (lmCells_at l i x hi 3 _ rfl)
    have c4 := at_ _ _ (lmCells_at l i x hi 4 _ rfl)
    obtain ⟨o, h1, h2⟩ := hs x (List.mem_of_getElem? hi)
    have e : ∀ m, 0 + (i * 5 + m) = 0 + i * 5 + m := fun m => by omega
    rw [e] at c0 c1 c2 c3 c4
    exact ⟨g, 0, hv, (Array.getElem?_eq_some_iff.1 hh).1, c0, c1, c2, c3, c4, StopsAt.of_own o, by omega, by omega⟩
theorem StpOK.nil (w W : World) : StpOK w W [] := fun x h => by simp at h
theorem StpOK.only {w W W' : World} {g : Nat} {t : TypeId} {cs : Array Value} {lv : List LmV} (h : StpOK w W lv) (hb : Blk W g t cs) (ht : 77 ≠ t) (ho : Only (fun i => i = g) W W') : StpOK w W' lv := fun x hx => by
  obtain ⟨o, h2⟩ := h x hx
  exact ⟨ho.owns o fun b hv e => own_blk_ne o hb ht (by rw [hv, e]), h2⟩
theorem StpOK.scan {w W W' : World} {g : Nat} {s : Sc} {lv : List LmV} (h : StpOK w W lv) (hb : ScAt W g s) (ho : Only (fun i => i = g) W W') : StpOK w W' lv := by
  obtain ⟨cs, hb⟩ := hb.blk
  exact h.only hb (by decide) ho
theorem StpOK.below {w W W' : World} {lv : List LmV} (h : StpOK w W lv) (hb : Below W.heap.size W W') : StpOK w W' lv := fun x hx => by
  obtain ⟨o, h2⟩ := h x hx
  exact ⟨(Only.of_below hb (fun _ => False)).owns o (fun _ _ h => h), h2⟩
theorem StpOK.grown {w W W' : World} {base size n : Nat} {e : TypeId} {v : Value} {xs : List Value} {lv : List LmV} (h : StpOK w W lv) (o : W.ownsRow base e size v n xs) (he : 77 ≠ e) (hg : W.grownBy W' v.ownBlock) : StpOK w W' lv := fun x hx => by
  obtain ⟨o2, h2⟩ := h x hx
  exact ⟨owns_grown o2 o he hg, h2⟩
/-- .. while a row of stops grows that lies higher. -/
theorem StpOK.apart {w W W' : World} {base size n B : Nat} {e : TypeId} {v : Value} {xs : List Value} {lv : List LmV} (h : StpOK w W lv) (hB : ∀ x ∈ lv, ∀ b, (Value.slice x.2.1 x.1.S.length x.2.2).ownBlock = some b → b < B) (o : W.ownsRow base e size v n xs) (hb : B ≤ base) (hg : W.grownBy W' v.ownBlock) : StpOK w W' lv := fun x hx => by
  obtain ⟨o2, h2⟩ := h x hx
  exact ⟨owns_apart o2 (hB x hx) o hb hg, h2⟩
theorem StpOK.lt {w W : World} {lv : List LmV} (h : StpOK w W lv) : ∀ x ∈ lv, ∀ b, (Value.slice x.2.1 x.1.S.length x.2.2).ownBlock = some b → b < W.heap.size := fun x hx b hb => ((h x hx).1.lt b hb).2

/-- A cell of another block of the call's own is stored. -/
theorem PS.far {w W : World} {g gm gr gx i : Nat} {s : Sc} {C cs : Array Value} {v : Value} (h : PS w W g gm gr s C) (hb : Blk W gx 65 cs) (hx : w.heap.size ≤ gx) : PS w (W.setCell ⟨gx, i, none⟩ v) g gm gr s C :=
  ⟨h.hb.setCell (p := ⟨gx, i, none⟩) hx v, h.sc.set hb (by decide), h.km.far (p := ⟨gx, i, none⟩) (Blk.ne_ h.km hb (by decide)) v, h.kr.far (p := ⟨gx, i, none⟩) (Blk.ne_ h.kr hb (by decide)) v, h.hg, h.hm, h.hr, h.ne⟩
theorem only_set2 {W : World} {g i : Nat} {v : Value} : Only (fun i => i = g) W (W.setCell ⟨g, i, none⟩ v) := (Only.refl (fun i => i = g) W).setCell (p := ⟨g, i, none⟩) (.inl rfl) v
theorem owns_ne {W W' : World} {base size n g : Nat} {e : TypeId} {v : Value} {xs : List Value} (o : W.ownsRow base e size v n xs) (ho : Only (fun i => i = g) W W') (hn : ∀ b, v.ownBlock = some b → b ≠ g) : W'.ownsRow base e size v n xs := ho.owns o hn
/-! The further lines. -/
theorem pairs_step {st : Sc} (h : st.ws ≠ []) : (pairsW st.ws).1 = (st.num, st.popN.num) :: (pairsW st.popN.popN.ws).1 ∧ (st.wr || (pairsW st.ws).2) = (st.popN.popN.wr || (pairsW st.popN.popN.ws).2) ∧ st.popN.popN.ws.length < st.ws.length ∧ st.popN.popN.ln = st.ln := by
  obtain ⟨ws, wr, ln⟩ := st
  match ws, h with
  | [a], _ =>
    refine ⟨rfl, ?_, by simp [Sc.popN], rfl⟩
    simp [Sc.popN, pairsW]
  | a :: b :: t, _ =>
    refine ⟨rfl, ?_, by show t.length < t.length + 1 + 1; omega, rfl⟩
    simp [Sc.popN, pairsW, Sc.word, Bool.or_assoc]
theorem pairs_len : ∀ l : List Wd, (pairsW l).1.length ≤ l.length
  | [] => Nat.le_refl _
  | [a] => Nat.le_refl _
  | a :: b :: t => by
    have := pairs_len t
    show (pairsW t).1.length + 1 ≤ t.length + 1 + 1
    omega
theorem loop_nil {rs : List Rt} {ls : List Lm} {ws : List Wd} {wr : Bool} : loopW [] rs ls ws wr = (rs, ls, wr || !ws.isEmpty) := rfl
/-- A line of a right. -/
theorem loop_right {l : Wd} {t : List Wd} {rs : List Rt} {ls : List Lm} {ws : List Wd} {wr : Bool} {s : Sc} (hs : (⟨cutL 32 l, wr || !ws.isEmpty, t⟩ : Sc) = s) (h : s.word = rightW) : loopW (l :: t) rs ls ws wr = loopW t (rs ++ [(bs s.pop.word, s.pop.pop.num)]) ls s.pop.pop.popN.ws s.pop.pop.popN.wr := by
  subst hs
  rw [loopW_cons, stepW_right h]
  rfl
/-- A line of a limit. -/
theorem loop_limit {l : Wd} {t : List Wd} {rs : List Rt} {ls : List Lm} {ws : List Wd} {wr : Bool} {s : Sc} (hs : (⟨cutL 32 l, wr || !ws.isEmpty, t⟩ : Sc) = s) (h : ¬ s.word = rightW) : loopW (l :: t) rs ls ws wr =
    loopW t rs (ls ++ [⟨bs s.pop.word, s.pop.pop.num, s.pop.pop.popN.num, s.pop.pop.popN.popN.num, (pairsW s.pop.pop.popN.popN.popN.ws).1⟩]) [] (s.pop.pop.popN.popN.popN.wr || (pairsW s.pop.pop.popN.popN.popN.ws).2) := by
  subst hs
  rw [loopW_cons, stepW_limit h]
  rfl
theorem Sc.next_len (s : Sc) : s.next.ln.length = s.ln.length - 1 := by
  unfold Sc.next
  cases s.ln with
  | nil => rfl
  | cons l t => simp
theorem Sc.pop_ws (s : Sc) : s.pop.ws.length = s.ws.length - 1 := by simp [Sc.pop]
theorem ScAt.ws_len {w : World} {g : Nat} {s : Sc} (h : ScAt w g s) : s.ws.length ≤ 1000001 := by obtain ⟨_, _, _, _, _, _, _, _, _, _, _, h⟩ := h; exact h
theorem eq_bs {a b : List UInt8} (h : a = b) : ((bs a).toList == (bs b).toList) = true := by subst h; simp
end Go.Proofs.YtgfahifdmacmhaaGreatDoor
