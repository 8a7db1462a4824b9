/- The lexer: the classes of bytes. The lexer: the class at an offset; tokens. The lexer's words as plain data: when a text is one name; numerals. -/
import Derived.Test.YtebdkmlganalaaaGreatDoorKTopAccruedQt
import Derived.Deep.WholeRow
import Derived.Laws.Tables
import Derived.Deep.DeepCutAuto
import Derived.Test.YtebdkmlganalaaaGreatDoorKTopAccruedGAK
import Derived.RangeFuncBound
import Derived.Laws.EntriesVeiled
namespace Go.Proofs.YtebdkmlganalaaaGreatDoor
open Go.RowKit Go.Shelf

def blN (c : Nat) : Bool := decide (c = 32 ∨ c = 9 ∨ c = 10)
def syN (c : Nat) : Bool := [59, 44, 46, 58, 40, 41, 91, 93, 123, 125, 61].contains c
/-- The class of a byte, before the three that are set by hand. -/
def cl0 (c : Nat) : Nat := if (97 ≤ c ∧ c ≤ 122) ∨ (65 ≤ c ∧ c ≤ 90) then 3 else if 48 ≤ c ∧ c ≤ 57 then 4 else if blN c = true then 1 else if syN c = true then 6 else if c = 60 ∨ c = 62 then 7 else 0
def clN (c : Nat) : Nat := if c = 35 then 2 else if c = 95 then 5 else if c = 33 then 8 else cl0 c
def uv (n : Nat) : Value := .int .u8 (n : Int)
def clsTo (k : Nat) : Array Value := ((List.range 256).map fun c => if c < k then uv (cl0 c) else uv 0).toArray
def clsA : Array Value := ((List.range 256).map fun c => uv (clN c)).toArray
theorem clsTo_at {k c : Nat} (hc : c < 256) : (clsTo k)[c]? = some (if c < k then uv (cl0 c) else uv 0) := by
  unfold clsTo
  simp [hc]
theorem clsTo_size (k : Nat) : (clsTo k).size = 256 := by simp [clsTo]
theorem clsA_size : clsA.size = 256 := by simp [clsA]
theorem clsA_at {c : Nat} (hc : c < 256) : clsA[c]? = some (uv (clN c)) := by
  unfold clsA
  simp [hc]
theorem cls_step {k : Nat} {n : Nat} (h : cl0 k = n) : (clsTo k).setIfInBounds k (uv n) = clsTo (k + 1) := by
  subst h
  apply Array.ext_getElem?
  intro c
  rcases Nat.lt_or_ge c 256 with hc | hc
  · rw [Array.getElem?_setIfInBounds, clsTo_at hc, clsTo_at hc, clsTo_size]
    by_cases he : k = c
    · subst he
      simp [hc]
    · simp only [he, if_false]
      by_cases h2 : c < k
      · rw [if_pos h2, if_pos (by omega)]
      · rw [if_neg h2, if_neg (by omega)]
  · rw [Array.getElem?_eq_none (by simp [clsTo]; omega), Array.getElem?_eq_none (by simp [clsTo]; omega)]
theorem cls_skip {k : Nat} (h : cl0 k = 0) : clsTo k = clsTo (k + 1) := by
  unfold clsTo
  congr 1
  apply List.map_congr_left
  intro c _
  by_cases h1 : c < k
  · rw [if_pos h1, if_pos (by omega)]
  · by_cases h2 : c = k
    · subst h2
      simp [h]
    · rw [if_neg h1, if_neg (by omega)]
theorem cls_end : (((clsTo 256).setIfInBounds 35 (uv 2)).setIfInBounds 95 (uv 5)).setIfInBounds 33 (uv 8) = clsA := by
  apply Array.ext_getElem?
  intro c
  rcases Nat.lt_or_ge c 256 with hc | hc
  · simp only [Array.getElem?_setIfInBounds, Array.size_setIfInBounds, clsTo_size, clsTo_at hc, clsA_at hc, if_pos hc]
    unfold clN
    by_cases h1 : c = 33
    · subst h1; simp
    · by_cases h2 : c = 95
      · subst h2; simp
      · by_cases h3 : c = 35
        · subst h3; simp
        · have e1 : ¬ 33 = c := fun e => h1 e.symm
          have e2 : ¬ 95 = c := fun e => h2 e.symm
          have e3 : ¬ 35 = c := fun e => h3 e.symm
          simp [h1, h2, h3, e1, e2, e3]
  · rw [Array.getElem?_eq_none (by simp [clsTo]; omega), Array.getElem?_eq_none (by simp [clsA]; omega)]
theorem cls0_zero : clsTo 0 = Array.replicate 256 (uv 0) := by
  apply Array.ext_getElem?
  intro c
  rcases Nat.lt_or_ge c 256 with hc | hc
  · rw [clsTo_at hc]; simp [hc]
  · rw [Array.getElem?_eq_none (by simp [clsTo]; omega), Array.getElem?_eq_none (by simp; omega)]
theorem infoArr : (Tryz.prog.info? 184).map (fun i => (i.zero, i.size)) = some (some (.agg (Array.replicate 256 (.int .u8 0))), 256) := by kernel_rfl
theorem cls_one (k : Nat) : (clsTo k).all (·.oneCell') = true := by
  rw [Array.all_eq_true_iff_forall_mem]
  intro v hv
  unfold clsTo at hv
  simp only [List.mem_toArray, List.mem_map] at hv
  obtain ⟨c, _, rfl⟩ := hv
  split <;> rfl
theorem clsA_one : clsA.all (·.oneCell') = true := by
  rw [Array.all_eq_true_iff_forall_mem]
  intro v hv
  unfold clsA at hv
  simp only [List.mem_toArray, List.mem_map] at hv
  obtain ⟨c, _, rfl⟩ := hv
  rfl
theorem ib_blank : ∀ k, k < 256 → decide (0 ≤ Lib.indexByte [32, 9, 10] (UInt8.ofNat k)) = blN k := by decide +kernel
theorem ib_sym : ∀ k, k < 256 → decide (0 ≤ Lib.indexByte [59, 44, 46, 58, 40, 41, 91, 93, 123, 125, 61] (UInt8.ofNat k)) = syN k := by decide +kernel
theorem blank_any (w : World) (k : Nat) (hk : k < 256) : Calls Tryz.prog 141 #[.string ⟨#[32, 9, 10]⟩, .int .u8 (k : Int)] w fun e w' => ∃ n : Int, e = .returned (.int .i64 n) ∧ decide (0 ≤ n) = blN k ∧ w = w' :=
  (sh_strings_IndexByte ⟨#[32, 9, 10]⟩ (k : Int) w).mono fun _ _ ⟨he, hw⟩ => ⟨_, he, ib_blank k hk, hw.symm⟩
theorem sym_any (w : World) (k : Nat) (hk : k < 256) : Calls Tryz.prog 141 #[.string ⟨#[59, 44, 46, 58, 40, 41, 91, 93, 123, 125, 61]⟩, .int .u8 (k : Int)] w fun e w' => ∃ n : Int, e = .returned (.int .i64 n) ∧ decide (0 ≤ n) = syN k ∧ w = w' :=
  (sh_strings_IndexByte ⟨#[59, 44, 46, 58, 40, 41, 91, 93, 123, 125, 61]⟩ (k : Int) w).mono fun _ _ ⟨he, hw⟩ => ⟨_, he, ib_sym k hk, hw.symm⟩
theorem cl0_cases (k : Nat) (hk : k < 256) : ((97 ≤ k ∧ k ≤ 122) ∧ cl0 k = 3) ∨ ((65 ≤ k ∧ k ≤ 90) ∧ cl0 k = 3) ∨ ((48 ≤ k ∧ k ≤ 57) ∧ cl0 k = 4) ∨
    ((k ≤ 47 ∨ 58 ≤ k ∧ k ≤ 64 ∨ 91 ≤ k ∧ k ≤ 96 ∨ 123 ≤ k) ∧ ((blN k = true ∧ cl0 k = 1) ∨ (blN k = false ∧ ((syN k = true ∧ cl0 k = 6) ∨ (syN k = false ∧ (((k = 60 ∨ k = 62) ∧ cl0 k = 7) ∨ (k ≠ 60 ∧ k ≠ 62 ∧ cl0 k = 0))))))) := by
  unfold cl0
  by_cases h1 : 97 ≤ k ∧ k ≤ 122
  · exact .inl ⟨h1, by rw [if_pos (.inl h1)]⟩
  · by_cases h2 : 65 ≤ k ∧ k ≤ 90
    · exact .inr (.inl ⟨h2, by rw [if_pos (.inr h2)]⟩)
    · by_cases h3 : 48 ≤ k ∧ k ≤ 57
      · exact .inr (.inr (.inl ⟨h3, by rw [if_neg (by omega), if_pos h3]⟩))
      · refine .inr (.inr (.inr ⟨by omega, ?_⟩))
        rw [if_neg (by omega), if_neg h3]
        cases blN k with
        | true => exact .inl ⟨rfl, rfl⟩
        | false =>
          refine .inr ⟨rfl, ?_⟩
          cases syN k with
          | true => exact .inl ⟨rfl, rfl⟩
          | false =>
            refine .inr ⟨rfl, ?_⟩
            by_cases h4 : k = 60 ∨ k = 62
            · exact .inl ⟨h4, by rw [if_neg (by decide), if_neg (by decide), if_pos h4]⟩
            · exact .inr ⟨by omega, by omega, by rw [if_neg (by decide), if_neg (by decide), if_neg h4]⟩
set_option maxRecDepth 100000 in
set_option maxHeartbeats 4000000 in
theorem classes_any (w : World) : Calls Tryz.prog 120 #[] w fun e w' => e = .returned (.agg clsA) ∧ Below w.heap.size w w' := by
  obtain ⟨hz, hi⟩ := zero_of_info infoArr
  have hcz : Array.replicate 256 (Value.int .u8 0) = clsTo 0 := cls0_zero.symm
  rw [hcz] at hz
  obtain ⟨Z, hZ⟩ : ∃ Z, clsTo 0 = Z := ⟨_, rfl⟩
  have hZs : Z.size = 256 := by rw [← hZ, clsTo_size]
  rw [hZ] at hz
  have k0 := (Blk.new w 184 Z).alloc (.cells Z 184)
  have k1 := Blk.new1 w (.cells Z 184) 184 Z
  have hb := ((Below.refl w.heap.size w).alloc (Nat.le_refl _) (.cells Z 184)).alloc (by simp) (.cells Z 184)
  have HZ := Lib.hid hZ
  have HZS := Lib.hid hZs
  clear hcz hZ hZs
  go_enter Tryz.func120, Tryz.ntmps120
  go_wp2_with fail
  generalize hW1 : (w.alloc (.cells Z 184)).alloc (.cells Z 184) = w1 at *
  clear hW1
  go_loopw [4] (fun i wr => ∃ k : Nat, k ≤ 256 ∧ i = .int .i64 (k : Int) ∧ Blk wr w.heap.size 184 Z ∧ Blk wr (w.heap.size + 1) 184 (clsTo k) ∧ Below w.heap.size w wr) (fun i _ => 256 - (intOf i).toNat)
  case atStart => exact ⟨0, by omega, rfl, k0, by rw [HZ.out]; exact k1, hb⟩
  case round =>
    clear k0 k1 hb
    obtain ⟨k, hk, rfl, k0, k1, hb⟩ := hrel
    by_cases hlt : k < 256
    · obtain ⟨t0, t1, t2⟩ := k1.all
      have tk : wr.cell? ⟨w.heap.size + 1, k, none⟩ = some (uv 0) := by
        rw [t0 k, clsTo_at hlt, if_neg (by omega)]
      have hconv : IntKind.u8.wrap (k : Int) = (k : Int) := IntWalk.u8_in _ (by omega)
      have hw3 : w.heap.size ≤ w.heap.size + 1 := by omega
      have HBL := Lib.hid fun W => blank_any W k hlt
      have HSY := Lib.hid fun W => sym_any W k hlt
      clear t0
      rcases cl0_cases k hlt with ⟨hc, hcl⟩ | ⟨hc, hcl⟩ | ⟨hc, hcl⟩ | ⟨hc, ⟨hbk, hcl⟩ | ⟨hbk, ⟨hsk, hcl⟩ | ⟨hsk, ⟨he, hcl⟩ | ⟨he1, he2, hcl⟩⟩⟩⟩
      · have HC := Lib.hid hcl
        clear hcl
        go_wp2
        go_roundw
        case rel => exact ⟨k + 1, by omega, by go_num, k0.far (by show w.heap.size ≠ w.heap.size + 1; omega) _, by rw [← cls_step HC.out]; exact k1.set_ k (uv 3), hb.setCell (p := ⟨w.heap.size + 1, k, none⟩) hw3 _⟩
        case measure => simp [intOf]; omega
      · have HC := Lib.hid hcl
        clear hcl
        go_wp2
        go_roundw
        case rel => exact ⟨k + 1, by omega, by go_num, k0.far (by show w.heap.size ≠ w.heap.size + 1; omega) _, by rw [← cls_step HC.out]; exact k1.set_ k (uv 3), hb.setCell (p := ⟨w.heap.size + 1, k, none⟩) hw3 _⟩
        case measure => simp [intOf]; omega
      · have HC := Lib.hid hcl
        clear hcl
        go_wp2
        go_roundw
        case rel => exact ⟨k + 1, by omega, by go_num, k0.far (by show w.heap.size ≠ w.heap.size + 1; omega) _, by rw [← cls_step HC.out]; exact k1.set_ k (uv 4), hb.setCell (p := ⟨w.heap.size + 1, k, none⟩) hw3 _⟩
        case measure => simp [intOf]; omega
      · have HC := Lib.hid hcl
        have HB := Lib.hid hbk
        clear hcl hbk
        rcases hc with hc | hc | hc | hc
        all_goals
          go_wp2_with fail
          refine (HBL.out _).mono ?_
          rintro e wx ⟨z, rfl, hz1, rfl⟩
          rw [HB.out] at hz1
          go_wp2
          go_roundw
          case rel => exact ⟨k + 1, by omega, by go_num, k0.far (by show w.heap.size ≠ w.heap.size + 1; omega) _, by rw [← cls_step HC.out]; exact k1.set_ k (uv 1), hb.setCell (p := ⟨w.heap.size + 1, k, none⟩) hw3 _⟩
          case measure => simp [intOf]; omega
      · have HC := Lib.hid hcl
        have HB := Lib.hid hbk
        have HS := Lib.hid hsk
        clear hcl hbk hsk
        rcases hc with hc | hc | hc | hc
        all_goals
          go_wp2_with fail
          refine (HBL.out _).mono ?_
          rintro e wx ⟨z, rfl, hz1, rfl⟩
          rw [HB.out] at hz1
          go_wp2_with fail
          refine (HSY.out _).mono ?_
          rintro e wx ⟨z2, rfl, hz2, rfl⟩
          rw [HS.out] at hz2
          go_wp2
          go_roundw
          case rel => exact ⟨k + 1, by omega, by go_num, k0.far (by show w.heap.size ≠ w.heap.size + 1; omega) _, by rw [← cls_step HC.out]; exact k1.set_ k (uv 6), hb.setCell (p := ⟨w.heap.size + 1, k, none⟩) hw3 _⟩
          case measure => simp [intOf]; omega
      · have HC := Lib.hid hcl
        have HB := Lib.hid hbk
        have HS := Lib.hid hsk
        clear hcl hbk hsk hc
        have l1 : 60 ≤ k := by omega
        have l2 : k ≤ 62 := by omega
        rcases he with he | he
        · have q1 : ((k : Int) == 60) = true := by simp; omega
          clear he
          go_wp2_with fail
          refine (HBL.out _).mono ?_
          rintro e wx ⟨z, rfl, hz1, rfl⟩
          rw [HB.out] at hz1
          go_wp2_with fail
          refine (HSY.out _).mono ?_
          rintro e wx ⟨z2, rfl, hz2, rfl⟩
          rw [HS.out] at hz2
          go_wp2
          go_roundw
          case rel => exact ⟨k + 1, by omega, by go_num, k0.far (by show w.heap.size ≠ w.heap.size + 1; omega) _, by rw [← cls_step HC.out]; exact k1.set_ k (uv 7), hb.setCell (p := ⟨w.heap.size + 1, k, none⟩) hw3 _⟩
          case measure => simp [intOf]; omega
        · have q1 : ((k : Int) == 60) = false := by simp; omega
          have q2 : ((k : Int) == 62) = true := by simp; omega
          clear he
          go_wp2_with fail
          refine (HBL.out _).mono ?_
          rintro e wx ⟨z, rfl, hz1, rfl⟩
          rw [HB.out] at hz1
          go_wp2_with fail
          refine (HSY.out _).mono ?_
          rintro e wx ⟨z2, rfl, hz2, rfl⟩
          rw [HS.out] at hz2
          go_wp2
          go_roundw
          case rel => exact ⟨k + 1, by omega, by go_num, k0.far (by show w.heap.size ≠ w.heap.size + 1; omega) _, by rw [← cls_step HC.out]; exact k1.set_ k (uv 7), hb.setCell (p := ⟨w.heap.size + 1, k, none⟩) hw3 _⟩
          case measure => simp [intOf]; omega
      · have HC := Lib.hid hcl
        have HB := Lib.hid hbk
        have HS := Lib.hid hsk
        have q1 : ((k : Int) == 60) = false := by simp; omega
        have q2 : ((k : Int) == 62) = false := by simp; omega
        clear hcl hbk hsk he1 he2
        rcases hc with hc | hc | hc | hc
        all_goals
          go_wp2_with fail
          refine (HBL.out _).mono ?_
          rintro e wx ⟨z, rfl, hz1, rfl⟩
          rw [HB.out] at hz1
          go_wp2_with fail
          refine (HSY.out _).mono ?_
          rintro e wx ⟨z2, rfl, hz2, rfl⟩
          rw [HS.out] at hz2
          go_wp2
          go_roundw
          case rel => exact ⟨k + 1, by omega, by go_num, k0, by rw [← cls_skip HC.out]; exact k1, hb⟩
          case measure => simp [intOf]; omega
    · obtain rfl : k = 256 := by omega
      obtain ⟨t0, t1, t2⟩ := k1.all
      have e35 : wr.cell? ⟨w.heap.size + 1, 35, none⟩ = some (uv (cl0 35)) := by rw [t0 35, clsTo_at (by omega), if_pos (by omega)]
      have e95 : wr.cell? ⟨w.heap.size + 1, 95, none⟩ = some (uv (cl0 95)) := by rw [t0 95, clsTo_at (by omega), if_pos (by omega)]
      have e33 : wr.cell? ⟨w.heap.size + 1, 33, none⟩ = some (uv (cl0 33)) := by rw [t0 33, clsTo_at (by omega), if_pos (by omega)]
      have hw3 : w.heap.size ≤ w.heap.size + 1 := by omega
      clear t0 hlt hk
      go_upto_region 20 with fail
      have m1 := ((k1.set_ 35 (uv 2)).set_ 95 (uv 5)).set_ 33 (uv 8)
      rw [cls_end] at m1
      have m0 := ((k0.far (show w.heap.size ≠ w.heap.size + 1 by omega) (p := ⟨w.heap.size + 1, 35, none⟩) (uv 2)).far (show w.heap.size ≠ w.heap.size + 1 by omega) (p := ⟨w.heap.size + 1, 95, none⟩) (uv 5)).far (show w.heap.size ≠ w.heap.size + 1 by omega) (p := ⟨w.heap.size + 1, 33, none⟩) (uv 8)
      have hb3 := ((hb.setCell (p := ⟨w.heap.size + 1, 35, none⟩) hw3 (uv 2)).setCell (p := ⟨w.heap.size + 1, 95, none⟩) hw3 (uv 5)).setCell (p := ⟨w.heap.size + 1, 33, none⟩) hw3 (uv 8)
      unfold uv at m1 m0 hb3
      generalize hW4 : ((wr.setCell ⟨w.heap.size + 1, 35, none⟩ (.int .u8 (2 : Nat))).setCell ⟨w.heap.size + 1, 95, none⟩ (.int .u8 (5 : Nat))).setCell ⟨w.heap.size + 1, 33, none⟩ (.int .u8 (8 : Nat)) = W4 at *
      have hi2 : (Tryz.prog.info? 184).map (·.size) = some clsA.size := by rw [hi, clsA_size]
      have hold : Z.size = clsA.size := by rw [HZS.out, clsA_size]
      have hb5 : Below w.heap.size w (W4.setRow w.heap.size clsA) := hb3.trans ((only_setRow W4 w.heap.size clsA).below hb3.size (fun i h => by omega))
      have m5 : Blk (W4.setRow w.heap.size clsA) w.heap.size 184 clsA := setRow_heap W4 w.heap.size Z clsA _ _ m0
      have hlv := run_loadVar_row (P := Tryz.prog) _ w.heap.size 184 184 clsA (0, 0) _ m5 Tryz.underlying184 rfl (by rw [clsA_size]; kernel_rfl)
      have HI2 := Lib.hid hi2
      have HOLD := Lib.hid hold
      have HLV := Lib.hid hlv
      have HB5 := Lib.hid hb5
      clear hi2 hold hlv hb5 m5 hb3 k0 k1 hb e35 e95 e33 hW4 t1 t2 hi
      go_wp2_with (first | (refine wpList_load_row rfl 184 (.tmp 1) rfl (w.heap.size + 1) rfl 184 clsA (0, 0) _ m1 Tryz.underlying184 rfl (by rw [clsA_size]; kernel_rfl) ?_) | (refine wpList_store_row rfl 184 (.tmp 0) (.tmp 56) rfl w.heap.size clsA rfl rfl 184 Z m0 HI2.out HOLD.out clsA_one ?_))
      exact bodyPost_ret (v := .agg clsA) (by simp [results, Tryz.results120, asAddr, Act.put, HLV.out]) rfl ⟨rfl, HB5.out⟩
end Go.Proofs.YtebdkmlganalaaaGreatDoor

namespace Go.Proofs.YtebdkmlganalaaaGreatDoor
open Go.RowKit Go.Shelf

/-- The class at an offset. -/
def atV (l : List UInt8) (i : Nat) : Nat := match l[i]? with
  | some c => clN c.toNat
  | none => 0
/-- What the iterator over tokens reads. -/
structure TokAt (w : World) (bt bc ba : Nat) (s : ByteArray) : Prop where
  txt : Blk w bt 9 #[.string s]
  cls : Blk w bc 184 clsA
  at_ : Blk w ba 186 #[.func (.func 121) #[] #[.pointer (some ⟨bt, 0, none⟩), .pointer (some ⟨bc, 0, none⟩)]]
theorem TokAt.below {w w' : World} {bt bc ba : Nat} {s : ByteArray} {B : Nat} (h : TokAt w bt bc ba s) (hb : Below B w w') (h1 : bt < B) (h2 : bc < B) (h3 : ba < B) : TokAt w' bt bc ba s := ⟨h.txt.below hb h1, h.cls.below hb h2, h.at_.below hb h3⟩

set_option maxRecDepth 100000 in
theorem at_any (w : World) (s : ByteArray) (bt bc ba : Nat) (h : TokAt w bt bc ba s) (i : Nat) (hi : i ≤ s.size) :
    Calls Tryz.prog 121 #[.int .i64 (i : Int), .pointer (some ⟨bt, 0, none⟩), .pointer (some ⟨bc, 0, none⟩)] w fun e w' => e = .returned (.int .u8 (atV s.data.toList i : Nat)) ∧ w = w' := by
  have c0 := h.txt.cell 0
  by_cases hlt : i < s.size
  · obtain ⟨c, hc⟩ : ∃ c, s.data.toList[i]? = some c := ⟨_, List.getElem?_eq_getElem (by rw [len_bytes]; exact hlt)⟩
    have hget : s[i] = c := by
      obtain ⟨h1, h2⟩ := List.getElem?_eq_some_iff.1 hc
      rw [← h2]
      rfl
    have hv : atV s.data.toList i = clN c.toNat := by unfold atV; rw [hc]
    have h255 := c.toNat_lt
    have c1 := h.cls.cell c.toNat
    rw [clsA_at h255, uv] at c1
    rw [hv]
    clear hv hc h
    go_enter Tryz.func121, Tryz.ntmps121
    go_wp2
    go_ret
    exact ⟨rfl, rfl⟩
  · obtain rfl : i = s.size := by omega
    have hv : atV s.data.toList s.size = 0 := by unfold atV; rw [List.getElem?_eq_none (by rw [len_bytes]; exact Nat.le_refl _)]
    rw [hv]
    clear hv h
    go_enter Tryz.func121, Tryz.ntmps121
    go_wp2
    go_ret
    exact ⟨rfl, rfl⟩

set_option maxRecDepth 100000 in
set_option maxHeartbeats 1000000 in
theorem tokens_any (w : World) (s : ByteArray) : Calls Tryz.prog 105 #[.string s] w fun e w' =>
    ∃ bt bc ba, w.heap.size ≤ bt ∧ w.heap.size ≤ bc ∧ w.heap.size ≤ ba ∧ e = .returned (.func (.func 122) #[] #[.pointer (some ⟨bt, 0, none⟩), .pointer (some ⟨ba, 0, none⟩)]) ∧ TokAt w' bt bc ba s ∧ Below w.heap.size w w' := by
  obtain ⟨hz, hi⟩ := zero_of_info infoArr
  obtain ⟨Z, hZ⟩ : ∃ Z, Array.replicate 256 (Value.int .u8 0) = Z := ⟨_, rfl⟩
  have hZs : Z.size = 256 := by rw [← hZ]; simp
  rw [hZ] at hz
  have HZS := Lib.hid hZs
  clear hZ hZs
  go_enter Tryz.func105, Tryz.ntmps105
  go_wp2_with fail
  refine (classes_any _).mono ?_
  rintro e w1 ⟨rfl, b1⟩
  have hb := ((Below.refl w.heap.size w).alloc (Nat.le_refl _) (.cells #[.string s] 9)).trans (b1.mono (by simp))
  have k0 := (Blk.new w 9 #[.string s]).below b1 (by simp)
  have hput := run_storeCells_new (P := Tryz.prog) w1 184 Z clsA (by rw [hi, clsA_size]) (by rw [HZS.out, clsA_size]) clsA_one
  have k1 := Blk.new w1 184 clsA
  have hb2 := hb.alloc hb.size (.cells clsA 184)
  have k2 := k0.alloc (.cells clsA 184)
  have hsz : (w1.alloc (.cells clsA 184)).heap.size = w1.heap.size + 1 := by simp
  have hle := hb.size
  clear b1 k0 hb
  go_wp2
  go_ret
  refine ⟨w.heap.size, w1.heap.size, w1.heap.size + 1, Nat.le_refl _, hle, by omega, rfl, ⟨k2.alloc _, k1.alloc _, ?_⟩, hb2.alloc hb2.size _⟩
  exact Blk.new1 w1 _ _ _
end Go.Proofs.YtebdkmlganalaaaGreatDoor

namespace Go.Proofs.YtebdkmlganalaaaGreatDoor

/-- A class within a word. -/
def wdN (n : Nat) : Prop := n = 3 ∨ n = 4 ∨ n = 5
theorem clN_let : ∀ c, c < 256 → (clN c = 3 ↔ letB (UInt8.ofNat c) = true) := by decide +kernel
theorem clN_dig : ∀ c, c < 256 → (clN c = 4 ∨ clN c = 5 ↔ digB (UInt8.ofNat c) = true) := by decide +kernel
theorem clN_num : ∀ c, c < 256 → (clN c = 4 ↔ (48 ≤ c ∧ c ≤ 57)) := by decide +kernel
theorem clN_hash : ∀ c, c < 256 → clN c = 2 → c ≠ 10 := by decide +kernel
theorem clN_lt : ∀ c, c < 256 → clN c < 9 := by decide +kernel
theorem of_u8 (c : UInt8) : UInt8.ofNat c.toNat = c := by
  apply UInt8.toNat.inj
  rw [UInt8.toNat_ofNat']
  have := c.toNat_lt
  omega
theorem atV_some {l : List UInt8} {i : Nat} {c : UInt8} (h : l[i]? = some c) : atV l i = clN c.toNat := by unfold atV; rw [h]
theorem atV_none {l : List UInt8} {i : Nat} (h : l.length ≤ i) : atV l i = 0 := by unfold atV; rw [List.getElem?_eq_none h]
theorem atV_lt (l : List UInt8) (i : Nat) : atV l i < 9 := by
  cases h : l[i]? with
  | none => unfold atV; rw [h]; decide
  | some c => rw [atV_some h]; exact clN_lt _ c.toNat_lt
theorem okAt_iff {i : Nat} {c : UInt8} : okAt i c = true ↔ clN c.toNat = 3 ∨ (0 < i ∧ (clN c.toNat = 4 ∨ clN c.toNat = 5)) := by
  have h1 := clN_let c.toNat c.toNat_lt
  have h2 := clN_dig c.toNat c.toNat_lt
  rw [of_u8] at h1 h2
  unfold okAt
  rw [Bool.or_eq_true, Bool.and_eq_true, decide_eq_true_eq, h1, h2]
theorem nmGo_iff : ∀ (l : List UInt8) (i : Nat), nmGo i l = true ↔ ∀ (k : Nat) (c : UInt8), l[k]? = some c → okAt (i + k) c = true
  | [], i => by simp [nmGo]
  | c :: l, i => by
    show (okAt i c && nmGo (i + 1) l) = true ↔ _
    rw [Bool.and_eq_true, nmGo_iff l (i + 1)]
    constructor
    · rintro ⟨h1, h2⟩ k d hk
      cases k with
      | zero => simp at hk; subst hk; exact h1
      | succ k =>
        have := h2 k d (by simpa using hk)
        rw [show i + (k + 1) = i + 1 + k by omega]
        exact this
    · intro h
      refine ⟨h 0 c rfl, fun k d hk => ?_⟩
      have := h (k + 1) d (by simpa using hk)
      rw [show i + 1 + k = i + (k + 1) by omega]
      exact this
/-- What a name is, in classes. -/
theorem nmB_cls {l : List UInt8} : nmB l = true ↔ atV l 0 = 3 ∧ (∀ m, m < l.length → wdN (atV l m)) ∧ l.length ≤ 24 := by
  unfold nmB
  rw [Bool.and_eq_true, Bool.and_eq_true, decide_eq_true_eq, nmGo_iff]
  constructor
  · rintro ⟨h1, h2, h3⟩
    cases l with
    | nil => simp at h2
    | cons b l =>
      refine ⟨?_, fun m hm => ?_, h3⟩
      · have := okAt_iff.1 (h1 0 b rfl)
        rw [atV_some (show (b :: l)[0]? = some b from rfl)]
        rcases this with h | ⟨h, _⟩
        · exact h
        · omega
      · have hc := List.getElem?_eq_getElem hm
        rw [atV_some hc]
        have := okAt_iff.1 (h1 m _ hc)
        unfold wdN
        rcases this with h | ⟨_, h⟩
        · exact .inl h
        · exact .inr h
  · rintro ⟨h1, h2, h3⟩
    refine ⟨fun k c hk => ?_, ?_, h3⟩
    · obtain ⟨hlt, _⟩ := List.getElem?_eq_some_iff.1 hk
      have := h2 k hlt
      rw [atV_some hk] at this
      rw [okAt_iff]
      rcases this with h | h
      · exact .inl h
      · rcases Nat.eq_zero_or_pos k with rfl | hp
        · rw [atV_some hk] at h1
          omega
        · exact .inr ⟨by omega, h⟩
    · cases l with
      | nil => simp [atV] at h1
      | cons b l => rfl
theorem atV_sub {l : List UInt8} {k n i : Nat} (h : i < n) : atV ((l.drop k).take n) i = atV l (k + i) := by
  unfold atV
  rw [List.getElem?_take, if_pos h, List.getElem?_drop]
/-- A word that begins with a letter is a name, if it is short. -/
theorem word_name {l : List UInt8} {k j : Nat} (h0 : atV l k = 3) (hw : ∀ m, k ≤ m → m < j → wdN (atV l m)) (hj : j ≤ l.length) (hlt : k < j) (h24 : j - k ≤ 24) : nmB ((l.drop k).take (j - k)) = true := by
  have hlen : ((l.drop k).take (j - k)).length = j - k := by rw [List.length_take, List.length_drop]; omega
  rw [nmB_cls, hlen]
  refine ⟨by rw [atV_sub (by omega)]; exact h0, fun m hm => ?_, h24⟩
  rw [atV_sub hm]
  exact hw _ (by omega) (by omega)
/-- Digits make a number. -/
theorem decFrom_some : ∀ (l : List UInt8) (acc : Nat), (∀ c ∈ l, 48 ≤ c.toNat ∧ c.toNat ≤ 57) → ∃ n, Lib.decFrom acc l = some n
  | [], acc, _ => ⟨acc, rfl⟩
  | c :: l, acc, h => by
    have hc := h c List.mem_cons_self
    have hd : Lib.digitVal c = some (c.toNat - 48) := by
      unfold Lib.digitVal
      rw [if_pos hc]
    obtain ⟨n, hn⟩ := decFrom_some l (acc * 10 + (c.toNat - 48)) (fun d hd => h d (List.mem_cons_of_mem _ hd))
    exact ⟨n, by unfold Lib.decFrom; rw [hd]; exact hn⟩
theorem atoi_digits {l : List UInt8} (h0 : l ≠ []) (h : ∀ c ∈ l, 48 ≤ c.toNat ∧ c.toNat ≤ 57) : ∃ n, Lib.atoi l = some n := by
  cases l with
  | nil => exact absurd rfl h0
  | cons c l =>
    obtain ⟨n, hn⟩ := decFrom_some (c :: l) 0 h
    have hc := h c List.mem_cons_self
    have e1 : (c == 45) = false := by
      rw [beq_eq_false_iff_ne]
      rintro rfl
      simp at hc
    have e2 : (c == 43) = false := by
      rw [beq_eq_false_iff_ne]
      rintro rfl
      simp at hc
    refine ⟨(n : Int), ?_⟩
    have e3 : Lib.decNat (c :: l) = some n := by
      unfold Lib.decNat
      exact hn
    show (if (c == 45) = true then (Lib.decNat l).map fun (m : Nat) => -(m : Int) else if (c == 43) = true then (Lib.decNat l).map fun (m : Nat) => (m : Int) else (Lib.decNat (c :: l)).map fun (m : Nat) => (m : Int)) = some (n : Int)
    rw [e1, e2, e3]
    rfl
theorem word_digits {l : List UInt8} {k j : Nat} (hw : ∀ m, k ≤ m → m < j → atV l m = 4) (hj : j ≤ l.length) (hlt : k < j) : ∃ n, Lib.atoi ((l.drop k).take (j - k)) = some n := by
  have hlen : ((l.drop k).take (j - k)).length = j - k := by rw [List.length_take, List.length_drop]; omega
  refine atoi_digits (fun e => by rw [e] at hlen; simp at hlen; omega) fun c hc => ?_
  obtain ⟨i, hi⟩ := List.getElem?_of_mem hc
  have hil := (List.getElem?_eq_some_iff.1 hi).1
  rw [hlen] at hil
  have h1 := atV_some hi
  rw [atV_sub hil, hw _ (by omega) (by omega)] at h1
  exact (clN_num _ c.toNat_lt).1 h1.symm
end Go.Proofs.YtebdkmlganalaaaGreatDoor
