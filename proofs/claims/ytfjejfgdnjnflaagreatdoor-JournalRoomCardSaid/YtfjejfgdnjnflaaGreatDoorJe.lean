/- The journal's texts: digits, seal, zero, head, sector. -/
import Derived.Test.YtfjejfgdnjnflaaGreatDoorJc
import Derived.Lib.SmallJoins
import Derived.Lib.AppendIntMem
import Derived.WalkSpells
namespace Go.Proofs.YtfjejfgdnjnflaaGreatDoor
open Go.RowKit Go.Shelf

/-- What the library's variables hold. -/
structure Tbs (w : World) : Prop where
  tab : Lib.TabIs Tryz.prog w "internal/strconv.uint64pow10" .u64 Lib.pow10Tab
  max : ∃ m, w.cell? ⟨2, 0, none⟩ = some (.int .i64 m)
  syn : ∃ ev, w.cell? ⟨0, 0, none⟩ = some ev ∧ (ev = .nilIface ∨ ∃ te pe, ev = .iface te pe)
  rng : ∃ ev, w.cell? ⟨1, 0, none⟩ = some ev ∧ (ev = .nilIface ∨ ∃ te pe, ev = .iface te pe)
theorem Tbs.below {w w' : World} (h : Tbs w) (hb : Below w.heap.size w w') : Tbs w' where
  tab := Lib.tabBelow_of_tabIs h.tab w' hb
  max := by obtain ⟨m, hm⟩ := h.max; exact ⟨m, (hb.cell (World.block_lt_of_cell? _ _ hm)).trans hm⟩
  syn := by obtain ⟨m, hm, h2⟩ := h.syn; exact ⟨m, (hb.cell (World.block_lt_of_cell? _ _ hm)).trans hm, h2⟩
  rng := by obtain ⟨m, hm, h2⟩ := h.rng; exact ⟨m, (hb.cell (World.block_lt_of_cell? _ _ hm)).trans hm, h2⟩

theorem itoa_any (w : World) (ht : Tbs w) (n : Nat) (h1 : n ≤ 9223372036854775807) : Calls Tryz.prog 74 #[.int .i64 (n : Int)] w fun e w' => e = .returned (.string (bs (Lib.decDigits n))) ∧ Below w.heap.size w w' :=
  (sh_strconv_Itoa n (by omega) (by omega) w ht.tab).mono fun _ _ ⟨he, k, os, hw⟩ => ⟨by rw [he, itoa_nat]; rfl, hw ▸ Lib.below_grow _ _ (Nat.le_refl _) k os⟩
theorem repeat_one (b : UInt8) (c : Nat) : Lib.repeatL [b] c = List.replicate c b := by
  induction c with
  | zero => rfl
  | succ c ih => rw [List.replicate_succ, ← ih]; rfl
theorem repeat_any (w : World) (b : UInt8) (c : Nat) (hc : c ≤ 1000000) : Calls Tryz.prog 75 #[.string ⟨#[b]⟩, .int .i64 (c : Int)] w fun e w' => e = .returned (.string (bs (List.replicate c b))) ∧ Below w.heap.size w w' :=
  (sh_strings_Repeat ⟨#[b]⟩ c w (by omega) (by show 1 * c ≤ _; omega)).mono fun _ _ ⟨he, hw⟩ => ⟨by rw [he, ← repeat_one]; rfl, hw⟩

theorem sum_bs (a b : List UInt8) (h : a.length + b.length ≤ 9223372036854775807) (W : World) : (Op.stringOp .add (bs a) (bs b)).run Tryz.prog W = .ok (.string (bs (a ++ b))) W := by
  rw [run_string_add_sum (P := Tryz.prog) W (bs a) (bs b) (by rw [bs_size, bs_size]; exact h), bs_append]

set_option maxRecDepth 100000 in
theorem digits_any (w : World) (ht : Tbs w) (n wd : Nat) (hw1 : 1 ≤ wd) (hw : wd ≤ 8) (hn : n < 10 ^ wd) : Calls Tryz.prog 71 #[.int .i64 (n : Int), .int .i64 (wd : Int)] w fun e w' => e = .returned (.string (bs (lastD wd n))) ∧ Below w.heap.size w w' := by
  have hp8 : 10 ^ wd ≤ 10 ^ 8 := Nat.pow_le_pow_right (by decide) hw
  have hp88 : (10 : Nat) ^ 8 = 100000000 := rfl
  obtain ⟨wd, rfl⟩ : ∃ v, wd = v + 1 := ⟨wd - 1, by omega⟩
  obtain ⟨h1, h2⟩ := dec_pad hn
  have hi := fun W h => itoa_any W h n (by omega)
  rw [← h2]
  generalize Lib.decDigits n = D at *
  obtain ⟨c, hc⟩ : ∃ c, wd + 1 - D.length = c := ⟨_, rfl⟩
  rw [hc]
  have hr := fun W => repeat_any W 48 c (by omega)
  have ha := sum_bs (List.replicate c 48) D (by simp; omega)
  have hsz := bs_size D
  have hsub : (((wd + 1 : Nat) : Int) - (D.length : Int)) = (c : Int) := by omega
  have hmax := run_max2 (P := Tryz.prog) 0 (c : Int) (c : Int) (by omega)
  have HI := Lib.hid hi
  have HR := Lib.hid hr
  have hwd : ((wd + 1 : Nat) : Int) = (wd : Int) + 1 := rfl
  rw [hwd] at hsub ⊢
  clear hi hr h2 hn hp8 hp88 hc hwd
  go_enter Tryz.func71, Tryz.ntmps71
  go_wp2_with fail
  refine (HI.out _ ht).mono ?_
  rintro e w1 ⟨rfl, b1⟩
  go_wp2_with fail
  refine (HR.out _).mono ?_
  rintro e w2 ⟨rfl, b2⟩
  go_wp2
  go_ret
  exact ⟨rfl, b1.trans (b2.mono b1.size)⟩
theorem digits8_any (w : World) (ht : Tbs w) (n : Nat) (hn : n < 100000000) : Calls Tryz.prog 71 #[.int .i64 (n : Int), .int .i64 8] w fun e w' => e = .returned (.string (bs (lastD 8 n))) ∧ Below w.heap.size w w' := digits_any w ht n 8 (by decide) (by decide) hn
theorem digits2_any (w : World) (ht : Tbs w) (n : Nat) (hn : n < 100) : Calls Tryz.prog 71 #[.int .i64 (n : Int), .int .i64 2] w fun e w' => e = .returned (.string (bs (lastD 2 n))) ∧ Below w.heap.size w w' := digits_any w ht n 2 (by decide) (by decide) hn

theorem zero_any (w : World) : Calls Tryz.prog 41 #[] w fun e w' => e = .returned (.string (bs zeroL)) ∧ Below w.heap.size w w' := by
  have hr : ∀ W, Calls Tryz.prog 75 #[.string ⟨#[0]⟩, .int .i64 64] W fun e w' => e = .returned (.string (bs (List.replicate 64 0))) ∧ Below W.heap.size W w' := fun W => repeat_any W 0 64 (by omega)
  go_enter Tryz.func41, Tryz.ntmps41
  go_wp2_with fail
  refine (hr _).mono ?_
  rintro e w1 ⟨rfl, b1⟩
  go_wp2
  go_ret
  exact ⟨rfl, b1⟩

theorem splice_pad {n : Nat} {l : List UInt8} (h : l.length ≤ n) : splice (bc (List.replicate n 0)) 0 (bc l) = bc (padL n l) := by
  unfold splice
  rw [padL_short h, List.take_zero, List.nil_append, Nat.zero_add, bc_len]
  unfold bc
  rw [← List.map_drop, ← List.map_append, List.drop_replicate]

set_option maxRecDepth 100000 in
set_option maxHeartbeats 2000000 in
theorem seal_any (w : World) (ht : Tbs w) (place : Nat) (hp : place < 100000000) (c : List UInt8) (hc : c.length ≤ 48) : Calls Tryz.prog 70 #[.int .i64 (place : Int), .string (bs c)] w fun e w' => e = .returned (.string (bs (sealL place c))) ∧ Below w.heap.size w w' := by
  have hs := splice_pad hc
  have hl := padL_len 48 c
  have hz := bs_size c
  obtain ⟨r, hr⟩ : ∃ r, sealL place c = r := ⟨_, rfl⟩
  rw [hr]
  unfold sealL at hr
  generalize padL 48 c = C at *
  have l8 := lastD_len 8 place
  have hd := fun W h => digits8_any W h place hp
  generalize lastD 8 place = D at *
  have hsum := fun W => sum_any W (D ++ C) (by rw [List.length_append]; omega)
  have l16 := sumL_len (D ++ C)
  generalize sumL (D ++ C) = S at *
  have a1 := sum_bs D C (by omega)
  have a2 := sum_bs S C (by omega)
  rw [hr] at a2
  have HD := Lib.hid hd
  have HS := Lib.hid hsum
  have HSP := Lib.hid hs
  have HL := Lib.hid hl
  have HC := Lib.hid hc
  have HT := Lib.hid ht
  have kb : Blk (w.alloc (.cells #[.int .u8 0, .int .u8 0, .int .u8 0, .int .u8 0, .int .u8 0, .int .u8 0, .int .u8 0, .int .u8 0, .int .u8 0, .int .u8 0, .int .u8 0, .int .u8 0, .int .u8 0, .int .u8 0, .int .u8 0, .int .u8 0, .int .u8 0, .int .u8 0, .int .u8 0, .int .u8 0, .int .u8 0, .int .u8 0, .int .u8 0, .int .u8 0, .int .u8 0, .int .u8 0, .int .u8 0, .int .u8 0, .int .u8 0, .int .u8 0, .int .u8 0, .int .u8 0, .int .u8 0, .int .u8 0, .int .u8 0, .int .u8 0, .int .u8 0, .int .u8 0, .int .u8 0, .int .u8 0, .int .u8 0, .int .u8 0, .int .u8 0, .int .u8 0, .int .u8 0, .int .u8 0, .int .u8 0, .int .u8 0] 114)) w.heap.size 114 (bc (List.replicate 48 0)).toArray := Blk.new w 114 _
  have hb := (Below.refl w.heap.size w).alloc (Nat.le_refl _) (.cells #[.int .u8 0, .int .u8 0, .int .u8 0, .int .u8 0, .int .u8 0, .int .u8 0, .int .u8 0, .int .u8 0, .int .u8 0, .int .u8 0, .int .u8 0, .int .u8 0, .int .u8 0, .int .u8 0, .int .u8 0, .int .u8 0, .int .u8 0, .int .u8 0, .int .u8 0, .int .u8 0, .int .u8 0, .int .u8 0, .int .u8 0, .int .u8 0, .int .u8 0, .int .u8 0, .int .u8 0, .int .u8 0, .int .u8 0, .int .u8 0, .int .u8 0, .int .u8 0, .int .u8 0, .int .u8 0, .int .u8 0, .int .u8 0, .int .u8 0, .int .u8 0, .int .u8 0, .int .u8 0, .int .u8 0, .int .u8 0, .int .u8 0, .int .u8 0, .int .u8 0, .int .u8 0, .int .u8 0, .int .u8 0] 114)
  clear hd hsum hs hl l8 l16 hr hc hp ht
  go_enter Tryz.func70, Tryz.ntmps70
  go_wp2_with (refine wpList_copy_str rfl (.tmp 7) (.tmp 8) _ _ rfl 5 (by kernel_rfl) (by kernel_rfl) w.heap.size 0 48 48 (bs c) rfl rfl (bc (List.replicate 48 0)) _ kb (by rw [bs_size]; exact HC.out) (by rw [bs_size, bc_len]; have := HC.out; simp; omega) ?_; intro w2 kb2 O2 s2)
  rw [bs_list, HSP.out] at kb2
  have hb2 : Below w.heap.size w w2 := hb.trans (O2.below hb.size (fun i hi => by rw [hi]; exact Nat.le_refl _))
  have ht2 := HT.out.below hb2
  have cv := run_string_of_blk (P := Tryz.prog) w2 56 9 5 w.heap.size 114 (by kernel_rfl) (by kernel_rfl) (by kernel_rfl) 0 48 48 C kb2 (by have := HL.out; omega)
  rw [show (⟨((C.drop 0).take 48).toArray⟩ : ByteArray) = bs C by rw [List.drop_zero, List.take_of_length_le (by rw [HL.out]; exact Nat.le_refl _)]; rfl] at cv
  have HT2 := Lib.hid ht2
  clear kb hb O2 s2 kb2 ht2 hz
  rw [cv]
  go_wp2_with fail
  refine (HD.out _ HT2.out).mono ?_
  rintro e w3 ⟨rfl, b3⟩
  clear cv
  go_wp2_with fail
  refine (HS.out _).mono ?_
  rintro e w4 ⟨rfl, b4⟩
  go_wp2
  go_ret
  exact ⟨rfl, hb2.trans ((b3.trans (b4.mono b3.size)).mono hb2.size)⟩

theorem head_place_any (w : World) (ht : Tbs w) (place : Nat) (hp : place < 100000000) (n : Nat) (hn : n < 100000000) : Calls Tryz.prog 40 #[.int .i64 (place : Int), .int .i64 (n : Int)] w fun e w' => e = .returned (.string (bs (headL place n))) ∧ Below w.heap.size w w' := by
  have hd := fun W h => digits8_any W h n hn
  have hs := fun W h => seal_any W h place hp (lastD 8 n) (by rw [lastD_len]; decide)
  have hh : sealL place (lastD 8 n) = headL place n := rfl
  rw [hh] at hs
  generalize headL place n = H at *
  generalize lastD 8 n = D at *
  have HD := Lib.hid hd
  have HS := Lib.hid hs
  clear hd hs hh hp hn
  go_enter Tryz.func40, Tryz.ntmps40
  go_wp2_with fail
  refine (HD.out _ ht).mono ?_
  rintro e w1 ⟨rfl, b1⟩
  go_wp2_with fail
  refine (HS.out _ (ht.below b1)).mono ?_
  rintro e w2 ⟨rfl, b2⟩
  go_wp2
  go_ret
  exact ⟨rfl, b1.trans (b2.mono b1.size)⟩

theorem sector_any (w : World) (ht : Tbs w) (place : Nat) (hp : place < 100000000) (p : List UInt8) (hl : p.length ≤ 46) : Calls Tryz.prog 36 #[.int .i64 (place : Int), .string (bs p)] w fun e w' => e = .returned (.string (bs (secL place p))) ∧ Below w.heap.size w w' := by
  have hd := fun W h => digits2_any W h p.length (by omega)
  have l2 := lastD_len 2 p.length
  have hs := fun W h => seal_any W h place hp (lastD 2 p.length ++ p) (by rw [List.length_append, l2]; omega)
  have hh : sealL place (lastD 2 p.length ++ p) = secL place p := rfl
  rw [hh] at hs
  have a1 := sum_bs (lastD 2 p.length) p (by omega)
  have hz := bs_size p
  generalize secL place p = H at *
  generalize lastD 2 p.length = D at *
  have HD := Lib.hid hd
  have HS := Lib.hid hs
  clear hd hs hh hp l2
  go_enter Tryz.func36, Tryz.ntmps36
  go_wp2_with fail
  refine (HD.out _ ht).mono ?_
  rintro e w1 ⟨rfl, b1⟩
  go_wp2_with fail
  refine (HS.out _ (ht.below b1)).mono ?_
  rintro e w2 ⟨rfl, b2⟩
  go_wp2
  go_ret
  exact ⟨rfl, b1.trans (b2.mono b1.size)⟩
end Go.Proofs.YtfjejfgdnjnflaaGreatDoor
