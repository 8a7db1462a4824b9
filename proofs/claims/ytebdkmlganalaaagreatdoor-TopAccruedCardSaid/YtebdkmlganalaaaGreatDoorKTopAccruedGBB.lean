/- strings.Builder once more: what it leaves as it was: every block but its own and rows of bytes; Itoa likewise. The text of a matter, as plain bytes; a line of it, written. Lengths and beginnings of a matter's text (plain). Rows of the call's own while a builder is written. -/
import Derived.Test.YtebdkmlganalaaaGreatDoorKTopAccruedGBA
import Derived.Test.YtebdkmlganalaaaGreatDoorKTopAccruedGAU
namespace Go.Proofs.YtebdkmlganalaaaGreatDoor
open Go.RowKit Go.Shelf

/-- All blocks but b, and but rows of bytes, lie as they lay. -/
def KeepB (b : Nat) (w w' : World) : Prop := w.heap.size ≤ w'.heap.size ∧ ∀ g t cs, g ≠ b → t ≠ 5 → Blk w g t cs → Blk w' g t cs
theorem KeepB.refl (b : Nat) (w : World) : KeepB b w w := ⟨Nat.le_refl _, fun _ _ _ _ _ h => h⟩
theorem KeepB.trans {b : Nat} {A B C : World} (h : KeepB b A B) (k : KeepB b B C) : KeepB b A C := ⟨Nat.le_trans h.1 k.1, fun g t cs h1 h2 h3 => k.2 g t cs h1 h2 (h.2 g t cs h1 h2 h3)⟩
theorem KeepB.of_below {b : Nat} {A B : World} (h : Below A.heap.size A B) : KeepB b A B := ⟨h.size, fun _ _ _ _ _ hb => hb.below h hb.lt⟩
theorem KeepB.set (b : Nat) (w : World) (i : Nat) (v : Value) : KeepB b w (w.setCell ⟨b, i, none⟩ v) := ⟨by simp [World.setCell], fun _ _ _ hg _ hb => hb.far hg v⟩
theorem KeepB.grown {b : Nat} {row : Option Nat} {w w' : World} (h : w.grownBy w' row) (hr : ∀ g t cs, Blk w g t cs → t ≠ 5 → row ≠ some g) : KeepB b w w' := ⟨h.size, fun g t cs _ ht hb => hb.grown h (fun e => hr g t cs hb ht e.symm)⟩
set_option maxHeartbeats 1000000 in
set_option maxRecDepth 100000 in
theorem copyCheck2 (B b : Nat) (l : List Value) (w : World) (h : Lib.IsBuilder 119 5 B b l w) :
    Calls Tryz.prog 91 #[.pointer (some ⟨b, 0, none⟩)] w fun e w' => e = .returned (.tuple #[]) ∧ (Lib.BuilderAt 119 5 B b (.pointer (some ⟨b, 0, none⟩)) l w' ∧ Below B w w') ∧ KeepB b w w' := by
  rcases h with h | h
  · refine (copyCheck_fresh b w h.cell0 h.shape h.frozen0).mono ?_
    rintro e w' ⟨rfl, rfl⟩
    exact ⟨rfl, ⟨h.used _, (Below.refl B w).setCell (p := ⟨b, 0, none⟩) h.1 _⟩, KeepB.set b w _ _⟩
  · refine (copyCheck_used b w h.cell0).mono ?_
    rintro e w' ⟨rfl, rfl⟩
    exact ⟨rfl, ⟨h, Below.refl B _⟩, KeepB.refl b _⟩

set_option maxHeartbeats 1000000 in
set_option maxRecDepth 100000 in
theorem writeString2 (B b : Nat) (l : List UInt8) (s : List UInt8) (w : World) (h : Bld B b l w) (hlen : l.length + s.length ≤ 140737488355328) (hBw : B ≤ w.heap.size) :
    Calls Tryz.prog 62 #[.pointer (some ⟨b, 0, none⟩), .string (bs s)] w fun e w' => e = .returned (.tuple #[.int .i64 s.length, .nilIface]) ∧ Bld B b (l ++ s) w' ∧ Below B w w' ∧ KeepB b w w' := by
  obtain ⟨i0, hi, hz0, hz1, hz2⟩ := info_parts Tryz.infoByte
  have hss := bs_size s
  have hbl : (Lib.byteCells l).length = l.length := by simp [Lib.byteCells]
  go_enter Tryz.func62, Tryz.ntmps62
  go_wp2_with fail
  refine (copyCheck2 B b _ _ h).mono ?_
  rintro e w1 ⟨rfl, ⟨h1, hb1⟩, hkb1⟩
  obtain ⟨hB, v, hbk, hown, hne⟩ := h1
  have c0 : w1.cell? ⟨b, 0, none⟩ = some (.pointer (some ⟨b, 0, none⟩)) := by rw [Lib.cell_of_heap hbk]; rfl
  have c1 : w1.cell? ⟨b, 1, none⟩ = some v := by rw [Lib.cell_of_heap hbk]; rfl
  go_wp2_with (at_builtin; refine Lib.wpList_append_own_string _ rfl _ _ 117 9 rfl B 5 i0 Tryz.underlying117 Tryz.underlying9 hi hz0 hz1 hz2 _ _ _ rfl hown (bs s) rfl ?c3 ?c4 ?c5 ?_)
  case c3 => rw [hbl, hss]; unfold maxLen; omega
  case c4 => rw [hbl, hss]; omega
  case c5 => have := hb1.size; omega
  intro v' w2 hown' hgrow _
  have hlt : b < w1.heap.size := by
    rcases Nat.lt_or_ge b w1.heap.size with h' | h'
    · exact h'
    · simp [Array.getElem?_eq_none h'] at hbk
  have hb2 : w2.heap[b]? = some (.cells #[.pointer (some ⟨b, 0, none⟩), v] 119 (0, 0)) := by
    rw [hgrow.block b hlt (fun e => hne e.symm)]
    exact hbk
  have d0 : w2.cell? ⟨b, 0, none⟩ = some (.pointer (some ⟨b, 0, none⟩)) := by rw [Lib.cell_of_heap hb2]; rfl
  have d1 : w2.cell? ⟨b, 1, none⟩ = some v := by rw [Lib.cell_of_heap hb2]; rfl
  have f1 : w2.frozen? ⟨b, 1, none⟩ = false := Lib.frozen_of_heap hb2 1
  obtain ⟨ao, n', cap, rfl⟩ : ∃ ao n' cap, v' = .slice ao n' cap := by
    rcases hown'.2 with ⟨hv, _⟩ | ⟨g, cap, cur, hv, _⟩
    · exact ⟨_, _, _, hv⟩
    · exact ⟨_, _, _, hv⟩
  go_wp2
  go_ret2
  refine ⟨rfl, ?_, ?_, ?_⟩
  · have hcells : Lib.byteCells l ++ Lib.strCells (bs s) = Lib.byteCells (l ++ s) := by simp [Lib.byteCells, Lib.strCells, bs]
    unfold Bld
    rw [← hcells]
    exact .inr (Lib.BuilderAt.put (T := 119) (e := 5) hB hb2 (bs' := Lib.byteCells l ++ Lib.strCells (bs s)) (by rw [List.length_append, Lib.strCells_length]; first | exact hown' | (rw [hbl, hss]; exact hown')) (by decide))
  · exact (hb1.grown hgrow (by have := hb1.size; omega) (fun k hk => (hown.lt k hk).1)).setCell (p := ⟨b, 1, none⟩) hB _
  · exact (hkb1.trans (KeepB.grown hgrow (fun g t cs hb' ht he => own_blk_ne hown hb' (fun e => ht e.symm) he))).trans (KeepB.set b _ 1 _)
set_option maxHeartbeats 1000000 in
set_option maxRecDepth 100000 in
theorem writeByte2 (B b : Nat) (l : List UInt8) (c : UInt8) (w : World) (h : Bld B b l w) (hlen : l.length + 1 ≤ 140737488355328) (hBw : B ≤ w.heap.size) :
    Calls Tryz.prog 64 #[.pointer (some ⟨b, 0, none⟩), .int .u8 (c.toNat : Int)] w fun e w' => e = .returned .nilIface ∧ Bld B b (l ++ [c]) w' ∧ Below B w w' ∧ KeepB b w w' := by
  obtain ⟨i0, hi, hz0, hz1, hz2⟩ := info_parts Tryz.infoByte
  have hbl : (Lib.byteCells l).length = l.length := by simp [Lib.byteCells]
  go_enter Tryz.func64, Tryz.ntmps64
  go_wp2_with fail
  refine (copyCheck2 B b _ _ h).mono ?_
  rintro e w1 ⟨rfl, ⟨h1, hb1⟩, hkb1⟩
  obtain ⟨hB, v, hbk, hown, hne⟩ := h1
  have c0 : w1.cell? ⟨b, 0, none⟩ = some (.pointer (some ⟨b, 0, none⟩)) := by rw [Lib.cell_of_heap hbk]; rfl
  have c1 : w1.cell? ⟨b, 1, none⟩ = some v := by rw [Lib.cell_of_heap hbk]; rfl
  go_wp2_with (at_builtin; refine wpList_append_own _ rfl _ _ 117 rfl B 5 i0 (.int .u8 0) 1 1 Tryz.underlying117 hi hz0 hz1 hz2 rfl (by decide) _ _ _ rfl (hown.alloc _) ⟨w1.heap.size, 0, none⟩ 1 1 [.int .u8 (c.toNat : Int)] rfl rfl ?c1 ?c2 ?c3 ?c4 ?c5 ?_)
  case c1 =>
    intro j u hj
    match j, hj with
    | 0, hj => simp at hj; subst hj; simp [Addr.add]
  case c2 => intro u hu; simp at hu; subst hu; rfl
  case c3 => rw [hbl]; unfold maxLen; omega
  case c4 => rw [hbl]; omega
  case c5 => have := hb1.size; simp; omega
  intro v' w2 hown' hgrow _
  have hlt : b < w1.heap.size := by
    rcases Nat.lt_or_ge b w1.heap.size with h' | h'
    · exact h'
    · simp [Array.getElem?_eq_none h'] at hbk
  have hb2 : w2.heap[b]? = some (.cells #[.pointer (some ⟨b, 0, none⟩), v] 119 (0, 0)) := by
    rw [hgrow.block b (by simp; omega) (fun e => hne e.symm), Lib.alloc_old w1 _ b hlt]
    exact hbk
  have d0 : w2.cell? ⟨b, 0, none⟩ = some (.pointer (some ⟨b, 0, none⟩)) := by rw [Lib.cell_of_heap hb2]; rfl
  have d1 : w2.cell? ⟨b, 1, none⟩ = some v := by rw [Lib.cell_of_heap hb2]; rfl
  have f1 : w2.frozen? ⟨b, 1, none⟩ = false := Lib.frozen_of_heap hb2 1
  obtain ⟨g, cap, rfl⟩ : ∃ g cap, v' = .slice (some ⟨g, 0, none⟩) (l.length + 1) cap := by
    rcases hown'.2 with ⟨_, h0⟩ | ⟨g, cap, cur, hv, _⟩
    · simp at h0
    · exact ⟨g, cap, hv⟩
  go_wp2
  go_ret
  refine ⟨rfl, ?_, ?_, ?_⟩
  · have hcells : Lib.byteCells l ++ [.int .u8 (c.toNat : Int)] = Lib.byteCells (l ++ [c]) := by simp [Lib.byteCells]
    unfold Bld
    rw [← hcells]
    exact .inr (Lib.BuilderAt.put (T := 119) (e := 5) hB hb2 (bs' := Lib.byteCells l ++ [.int .u8 (c.toNat : Int)]) (by rw [List.length_append, hbl]; exact hown') (by decide))
  · exact ((hb1.alloc (by have := hb1.size; omega) _).grown hgrow (by have := hb1.size; simp; omega) (fun k hk => (hown.lt k hk).1)).setCell (p := ⟨b, 1, none⟩) hB _
  · exact ((hkb1.trans (KeepB.of_below (below_self_alloc _ _))).trans (KeepB.grown hgrow (fun g t cs hb' ht he => own_blk_ne (hown.alloc _) hb' (fun e => ht e.symm) he))).trans (KeepB.set b _ 1 _)
end Go.Proofs.YtebdkmlganalaaaGreatDoor

namespace Go.Proofs.YtebdkmlganalaaaGreatDoor
open Go.RowKit Go.Shelf

/-- Numbers behind blanks. -/
def numsL (l : List Int) : List UInt8 := l.flatMap fun n => 32 :: Lib.itoa n
def lineL (first : List UInt8) (l : List Int) : List UInt8 := first ++ (numsL l ++ [10])
def sL (s : ByteArray) : List UInt8 := s.data.toList
def mattL : List UInt8 := [109, 97, 116, 116, 101, 114, 32]
def caseL : List UInt8 := [99, 97, 115, 101]
def movedL : List UInt8 := [109, 111, 118, 101, 100]
def rightL : List UInt8 := [114, 105, 103, 104, 116, 32]
def limitL : List UInt8 := [108, 105, 109, 105, 116, 32]
def headL (m : Mt) : List UInt8 := mattL ++ (sL m.id ++ (32 :: (Lib.itoa m.o ++ (32 :: sL m.pr))))
def limI (x : Lm) : List Int := x.n :: x.u :: x.f :: x.S.flatMap fun s => [s.1, s.2]
def rtsL (l : List Rt) : List UInt8 := l.flatMap fun r => lineL (rightL ++ sL r.1) [r.2]
def lmsL (l : List Lm) : List UInt8 := l.flatMap fun x => lineL (limitL ++ sL x.id) (limI x)
def textL (m : Mt) : List UInt8 := lineL (headL m) [m.st] ++ (lineL caseL m.cs ++ (lineL movedL m.mv ++ (rtsL m.rs ++ lmsL m.ls)))
theorem numsL_app (a b : List Int) : numsL (a ++ b) = numsL a ++ numsL b := by simp [numsL]
theorem dec_len : ∀ (w n : Nat), n < 10 ^ (w + 1) → (Lib.decDigits n).length ≤ w + 1
  | 0, n, h => by
    have h : n < 10 := by simpa using h
    rw [Lib.decDigits, dif_pos h]
    simp
  | w + 1, n, h => by
    by_cases h10 : n < 10
    · rw [Lib.decDigits, dif_pos h10]
      simp
    · rw [Nat.pow_succ] at h
      have h1 := dec_len w (n / 10) (by omega)
      rw [Lib.decDigits, dif_neg h10, List.length_append]
      simp only [List.length_cons, List.length_nil]
      omega
theorem itoa_len {n : Int} (h0 : -9223372036854775808 ≤ n) (h1 : n ≤ 9223372036854775807) : (Lib.itoa n).length ≤ 20 := by
  unfold Lib.itoa
  split
  · have := dec_len 18 n.natAbs (by have : n.natAbs ≤ 9223372036854775808 := by omega
                                    exact Nat.lt_of_le_of_lt this (by decide))
    simp only [List.length_cons]
    omega
  · have := dec_len 18 n.toNat (by have : n.toNat ≤ 9223372036854775807 := by omega
                                   exact Nat.lt_of_le_of_lt this (by decide))
    omega
theorem numsL_len : ∀ (l : List Int), (∀ n ∈ l, wf64 n) → (numsL l).length ≤ l.length * 21
  | [], _ => by simp [numsL]
  | n :: l, h => by
    have h1 := h n List.mem_cons_self
    have := itoa_len h1.1 h1.2
    have ih := numsL_len l (fun n hn => h n (List.mem_cons_of_mem _ hn))
    show ((32 :: Lib.itoa n) ++ numsL l).length ≤ _
    rw [List.length_append]
    simp only [List.length_cons]
    omega

theorem numsL_take {l : List Int} {k : Nat} {n : Int} (h : l[k]? = some n) : numsL (l.take (k + 1)) = numsL (l.take k) ++ (32 :: Lib.itoa n) := by
  rw [take_snoc' h, numsL_app]
  simp [numsL]
theorem numsL_take_len {l : List Int} (h : ∀ n ∈ l, wf64 n) (k : Nat) : (numsL (l.take k)).length ≤ l.length * 21 := by
  have := numsL_len (l.take k) (fun n hn => h n (List.mem_of_mem_take hn))
  have h2 : (l.take k).length ≤ l.length := List.length_take_le' _ _
  omega
set_option maxRecDepth 100000 in
set_option maxHeartbeats 4000000 in
theorem line_any (w : World) (B b : Nat) (ht : ∀ W, Below B w W → Tbs W) (acc : List UInt8) (h : Bld B b acc w) (hBw : B ≤ w.heap.size) (first : List UInt8) (A : Option Addr) (l : List Int) (c : Nat) (hI : ∀ W, Below B w W → KeepB b w W → IntsAt W W.heap.size A l)
    (hw : ∀ n ∈ l, wf64 n) (hl : l.length ≤ 1000000) (hacc : acc.length + first.length ≤ 100000000000) :
    Calls Tryz.prog 61 #[.string (bs first), .slice A l.length c, .pointer (some ⟨b, 0, none⟩)] w fun e w' => (∃ v, e = .returned v) ∧ Bld B b (acc ++ lineL first l) w' ∧ Below B w w' ∧ KeepB b w w' := by
  have HT := Lib.hid ht
  have HI := Lib.hid hI
  have HW := Lib.hid hw
  have h1 := writeString2 B b acc first w h (by omega) hBw
  have H1 := Lib.hid h1
  clear ht hI hw h1 h
  go_enter Tryz.func61, Tryz.ntmps61
  go_wp2_with fail
  refine H1.out.mono ?_
  rintro e w1 ⟨rfl, hb1, b1, k1⟩
  clear H1
  go_wp2_with fail
  go_loopw [11] (fun i wr => ∃ k : Nat, k ≤ l.length ∧ i = .int .i64 (k : Int) ∧ Hid (Bld B b (acc ++ (first ++ numsL (l.take k))) wr) ∧ Hid (Below B w wr) ∧ Hid (KeepB b w wr)) (fun i _ => l.length - (intOf i).toNat)
  case atStart => exact ⟨0, Nat.zero_le _, rfl, Lib.hid (by simpa [numsL] using hb1), Lib.hid b1, Lib.hid k1⟩
  case round =>
    clear hb1 b1 k1
    obtain ⟨k, hk, rfl, HBD, HB, HK⟩ := hrel
    by_cases hlt : k < l.length
    · obtain ⟨n, hn⟩ : ∃ n, l[k]? = some n := ⟨_, List.getElem?_eq_getElem hlt⟩
      obtain ⟨g, off, hA, hg, c0⟩ := HI.out wr HB.out HK.out k n hn
      subst hA
      have hwn := HW.out n (List.mem_of_getElem? hn)
      have hnl := itoa_len hwn.1 hwn.2
      have hit := itoa_int wr (HT.out wr HB.out) n hwn.1 hwn.2
      have htk := numsL_take hn
      have hlen := numsL_take_len HW.out k
      generalize Lib.itoa n = D at *
      have hsum : ∀ W, (Op.stringOp .add ⟨#[32]⟩ (bs D)).run Tryz.prog W = .ok (.string (bs (32 :: D))) W := fun W => sum_bs [32] D (by simp; omega) W
      have HTK := Lib.hid htk
      have HIT := Lib.hid hit
      have HLN := Lib.hid hlen
      have HNL := Lib.hid hnl
      clear hn htk hit hlen hwn hnl
      go_wp2_with fail
      refine HIT.out.mono ?_
      rintro e w2 ⟨rfl, b2⟩
      have hws := writeString2 B b _ (32 :: D) w2 (HBD.out.below b2) (by have := HLN.out; have := HNL.out; simp only [List.length_append, List.length_cons]; omega) (Nat.le_trans hBw (Nat.le_trans HB.out.size b2.size))
      have HWS := Lib.hid hws
      have HB2 := Lib.hid (HB.out.trans (b2.mono (Nat.le_trans hBw HB.out.size)))
      have HK2 := Lib.hid (HK.out.trans (KeepB.of_below b2))
      clear hws b2 c0
      go_wp2_with fail
      refine HWS.out.mono ?_
      rintro e w3 ⟨rfl, h3, b3, k3⟩
      have H3 := Lib.hid h3
      have HB3 := Lib.hid (HB2.out.trans b3)
      have HK3 := Lib.hid (HK2.out.trans k3)
      clear h3 b3 k3
      go_wp2
      go_roundw
      case rel => exact ⟨k + 1, by omega, by go_num, Lib.hid (by rw [HTK.out]; have := H3.out; simpa [List.append_assoc] using this), HB3, HK3⟩
      case measure => simp [intOf]; omega
    · obtain rfl : k = l.length := by omega
      have hbd := HBD.out
      rw [List.take_length] at hbd
      have hlen := numsL_len l HW.out
      have hwb : Calls Tryz.prog 64 #[.pointer (some ⟨b, 0, none⟩), .int .u8 10] wr _ := writeByte2 B b _ 10 wr hbd (by simp only [List.length_append]; omega) (Nat.le_trans hBw HB.out.size)
      have HWB := Lib.hid hwb
      clear hbd hlen hwb
      go_wp2_with fail
      refine HWB.out.mono ?_
      rintro e w2 ⟨rfl, h2, b2, k2⟩
      have H2 := Lib.hid h2
      have HB2 := Lib.hid (HB.out.trans b2)
      have HK2 := Lib.hid (HK.out.trans k2)
      clear h2 b2 k2
      go_wp2
      go_end0
      refine ⟨⟨_, rfl⟩, ?_, HB2.out, HK2.out⟩
      have := H2.out
      simpa [lineL, List.append_assoc] using this
end Go.Proofs.YtebdkmlganalaaaGreatDoor

namespace Go.Proofs.YtebdkmlganalaaaGreatDoor
open Go.RowKit Go.Shelf

theorem isB_wf {n : Int} (h : isB n = true) : wf64 n := by
  have := (isB_iff n).1 h
  exact ⟨by omega, by omega⟩
theorem upB_wf : ∀ (l : List Int) (a : Int), 0 ≤ a → upB a l = true → ∀ n ∈ l, wf64 n
  | [], _, _, _, n, hn => by simp at hn
  | x :: xs, a, h0, h, n, hn => by
    have h' : (decide (a ≤ x ∧ x ≤ 1000000) && upB x xs) = true := h
    rw [Bool.and_eq_true, decide_eq_true_eq] at h'
    rcases List.mem_cons.1 hn with rfl | hn
    · exact ⟨by omega, by omega⟩
    · exact upB_wf xs x (by omega) h'.2 n hn
theorem limI_wf {x : Lm} (h : prB x = true) : ∀ n ∈ limI x, wf64 n := by
  obtain ⟨_, h1, h2, _, h3⟩ := prB_iff.1 h
  have h1' := (isB_iff _).1 h1
  have h2' := ptB_iff.1 h2
  intro n hn
  unfold limI at hn
  rcases List.mem_cons.1 hn with rfl | hn
  · exact ⟨by omega, by omega⟩
  rcases List.mem_cons.1 hn with rfl | hn
  · exact ⟨by omega, by omega⟩
  rcases List.mem_cons.1 hn with rfl | hn
  · exact ⟨by omega, by omega⟩
  obtain ⟨s, hs, hn⟩ := List.mem_flatMap.1 hn
  have := psB_iff.1 (h3 s hs)
  simp at hn
  rcases hn with rfl | rfl <;> exact ⟨by omega, by omega⟩
theorem sL_size (s : ByteArray) : (sL s).length = s.size := len_bytes s
theorem sum_x {a b : ByteArray} {A B : List UInt8} (ha : a = bs A) (hb : b = bs B) (h : A.length + B.length ≤ 9223372036854775807) (W : World) : (Op.stringOp .add a b).run Tryz.prog W = .ok (.string (bs (A ++ B))) W := by
  subst ha hb
  exact sum_bs A B h W
theorem name_len {s : ByteArray} (h : nameB s = true) : (sL s).length ≤ 24 := by
  unfold nameB nmB at h
  rw [Bool.and_eq_true, Bool.and_eq_true, decide_eq_true_eq] at h
  exact h.2.2

theorem lineL_len {f : List UInt8} {l : List Int} (h : ∀ n ∈ l, wf64 n) : (lineL f l).length ≤ f.length + (l.length * 21 + 1) := by
  have := numsL_len l h
  simp only [lineL, List.length_append, List.length_cons, List.length_nil]
  omega
theorem rtB_out {o : Int} {r : Rt} (h : rtB o r = true) : (sL r.1).length ≤ 24 ∧ wf64 r.2 := by
  unfold rtB at h
  rw [Bool.and_eq_true, Bool.and_eq_true] at h
  exact ⟨name_len h.1, isB_wf h.2.2⟩
theorem rtsL_len {o : Int} : ∀ (l : List Rt), (∀ r ∈ l, rtB o r = true) → (rtsL l).length ≤ l.length * 60
  | [], _ => by simp [rtsL]
  | r :: l, h => by
    obtain ⟨h1, h2⟩ := rtB_out (h r List.mem_cons_self)
    have ih := rtsL_len l (fun x hx => h x (List.mem_cons_of_mem _ hx))
    have e := lineL_len (f := rightL ++ sL r.1) (l := [r.2]) (by intro n hn; rw [List.mem_singleton] at hn; subst hn; exact h2)
    have e6 : rightL.length = 6 := rfl
    rw [List.length_append, e6] at e
    show (lineL (rightL ++ sL r.1) [r.2] ++ rtsL l).length ≤ _
    rw [List.length_append]
    simp only [List.length_cons, List.length_nil] at e ⊢
    omega
theorem rtsL_take {l : List Rt} {k : Nat} {r : Rt} (h : l[k]? = some r) : rtsL (l.take (k + 1)) = rtsL (l.take k) ++ lineL (rightL ++ sL r.1) [r.2] := by
  rw [take_snoc' h]
  simp [rtsL]
theorem ints_one {w : World} {g : Nat} {v : Int} (h : Blk w g 3 #[.int .i64 v]) : IntsAt w w.heap.size (some ⟨g, 0, none⟩) [v] := fun i x hi => by
  cases i with
  | zero =>
    simp at hi
    subst hi
    exact ⟨g, 0, rfl, h.lt, h.cell 0⟩
  | succ i => simp at hi

theorem limI_len (x : Lm) : (limI x).length = 3 + 2 * x.S.length := by
  have : ∀ S : List Stp2, (S.flatMap fun s => [s.1, s.2]).length = 2 * S.length := by
    intro S
    induction S with
    | nil => rfl
    | cons s S ih => simp only [List.flatMap_cons, List.length_append, List.length_cons, List.length_nil, ih]; omega
  simp only [limI, List.length_cons, this]
  omega
theorem lmsL_len : ∀ (l : List Lm), (∀ x ∈ l, prB x = true) → (lmsL l).length ≤ l.length * 3000
  | [], _ => by simp [lmsL]
  | x :: l, h => by
    have hx := h x List.mem_cons_self
    have ih := lmsL_len l (fun y hy => h y (List.mem_cons_of_mem _ hy))
    have e := lineL_len (f := limitL ++ sL x.id) (l := limI x) (limI_wf hx)
    have hn := name_len (s := x.id) (prB_iff.1 hx).1
    have hS := (prB_iff.1 hx).2.2.2.1
    have e6 : limitL.length = 6 := rfl
    rw [List.length_append, e6, limI_len] at e
    show (lineL (limitL ++ sL x.id) (limI x) ++ lmsL l).length ≤ _
    rw [List.length_append]
    simp only [List.length_cons]
    omega
theorem lmsL_take {l : List Lm} {k : Nat} {x : Lm} (h : l[k]? = some x) : lmsL (l.take (k + 1)) = lmsL (l.take k) ++ lineL (limitL ++ sL x.id) (limI x) := by
  rw [take_snoc' h]
  simp [lmsL]
theorem limI_take {l : List Stp2} {k : Nat} {s : Stp2} (h : l[k]? = some s) : ((l.take (k + 1)).flatMap fun s => [s.1, s.2]) = ((l.take k).flatMap fun s => [s.1, s.2]) ++ [s.1, s.2] := by
  rw [take_snoc' h]
  simp
end Go.Proofs.YtebdkmlganalaaaGreatDoor

namespace Go.Proofs.YtebdkmlganalaaaGreatDoor
open Go.RowKit Go.Shelf

theorem KeepB.own {b base size n : Nat} {e : TypeId} {v : Value} {xs : List Value} {w W : World} (hk : KeepB b w W) (hb : b < base) (ht : e ≠ 5) (h : w.ownsRow base e size v n xs) : W.ownsRow base e size v n xs := by
  refine ⟨h.1, ?_⟩
  rcases h.2 with h2 | ⟨g, cap, cur, hv, hg, hh, h3, h4, h5, h6⟩
  · exact .inl h2
  · exact .inr ⟨g, cap, cur, hv, hg, hk.2 g e cur (by omega) ht hh, h3, h4, h5, h6⟩
end Go.Proofs.YtebdkmlganalaaaGreatDoor
