/- The digest: mix, a block taken, the digits. -/
import Derived.Test.YtfjejfgdnjnflaaGreatDoorJs
import Derived.Test.YtfjejfgdnjnflaaGreatDoorJr
import Derived.Test.YtfjejfgdnjnflaaGreatDoorLaws
import Derived.IntWalk
import Derived.Laws.Bits64
import Derived.Laws.Bits64b
namespace Go.Proofs.YtfjejfgdnjnflaaGreatDoor
open Go.RowKit Go.Shelf

theorem mul_any (w : World) (x y : Nat) (hx : x < 18446744073709551616) (hy : y < 18446744073709551616) : Calls Tryz.prog 112 #[.int .u64 x, .int .u64 y] w fun e w' => e = .returned (.tuple #[.int .u64 ((x * y / 18446744073709551616 : Nat) : Int), .int .u64 ((x * y % 18446744073709551616 : Nat) : Int)]) ∧ w = w' :=
  (sh_bits_Mul64 x y hx hy w).mono fun _ _ ⟨he, hw⟩ => ⟨he, hw.symm⟩

set_option maxRecDepth 100000 in
theorem mix_any (w : World) (x : Nat) (hx : x < two64) : Calls Tryz.prog 107 #[.int .u64 x] w fun e w' => e = .returned (.int .u64 (mixN x : Nat)) ∧ w = w' := by
  have m1 := fun W => mul_any W x 6364136223846793005 hx (by decide)
  obtain ⟨a, ha⟩ : ∃ a : Nat, x * 6364136223846793005 % 18446744073709551616 = a := ⟨_, rfl⟩
  have la : a < 18446744073709551616 := by rw [← ha]; exact Nat.mod_lt _ (by decide)
  rw [ha] at m1
  obtain ⟨z, hz⟩ : ∃ z : Nat, x * 6364136223846793005 / 18446744073709551616 = z := ⟨_, rfl⟩
  rw [hz] at m1
  obtain ⟨b, hb⟩ : ∃ b : Nat, a ^^^ (a / 2147483648) = b := ⟨_, rfl⟩
  have lb : b < 18446744073709551616 := by rw [← hb]; exact Nat.xor_lt_two_pow (n := 64) (by omega) (by omega)
  have e1 : bits .xor .u64 (a : Int) ((a : Int) / 2147483648) = (b : Int) := by
    rw [show ((a : Int) / 2147483648) = ((a / 2147483648 : Nat) : Int) by omega, bits_xor_u64_nat _ _ la (by omega), hb]
  have m2 := fun W => mul_any W b 3202034522624059733 lb (by decide)
  obtain ⟨c, hc⟩ : ∃ c : Nat, b * 3202034522624059733 % 18446744073709551616 = c := ⟨_, rfl⟩
  have lc : c < 18446744073709551616 := by rw [← hc]; exact Nat.mod_lt _ (by decide)
  rw [hc] at m2
  obtain ⟨y, hy⟩ : ∃ y : Nat, b * 3202034522624059733 / 18446744073709551616 = y := ⟨_, rfl⟩
  rw [hy] at m2
  obtain ⟨d, hd⟩ : ∃ d : Nat, c ^^^ (c / 1073741824) = d := ⟨_, rfl⟩
  have e2 : bits .xor .u64 (c : Int) ((c : Int) / 1073741824) = (d : Int) := by
    rw [show ((c : Int) / 1073741824) = ((c / 1073741824 : Nat) : Int) by omega, bits_xor_u64_nat _ _ lc (by omega), hd]
  have hm : mixN x = d := by
    unfold mixN two64
    simp only [Nat.shiftRight_eq_div_pow]
    rw [ha, show a / 2 ^ 31 = a / 2147483648 from rfl, hb, hc, show c / 2 ^ 30 = c / 1073741824 from rfl, hd]
  rw [hm]
  have M1 := Lib.hid m1
  have M2 := Lib.hid m2
  clear m1 m2 ha hb hc hd hz hy hm hx
  go_enter Tryz.func107, Tryz.ntmps107
  go_wp2_with fail
  refine (M1.out _).mono ?_
  rintro e w1 ⟨rfl, rfl⟩
  go_wp2_with fail
  refine (M2.out _).mono ?_
  rintro e w1 ⟨rfl, rfl⟩
  go_wp2
  go_ret
  exact ⟨rfl, rfl⟩

/-- The eight bytes of a block. -/
def blk8 (l : List UInt8) : List UInt8 := (l ++ List.replicate 8 0).take 8
theorem blk8_len (l : List UInt8) : (blk8 l).length = 8 := by simp [blk8]
theorem valF_snoc (l : List UInt8) (b : UInt8) : valF 0 (l ++ [b]) = valF 0 l * 256 + b.toNat := by
  unfold valF; rw [List.foldl_append]; rfl
theorem or_byte {n b : Nat} (hb : b < 256) : n * 256 ||| b = n * 256 + b := by
  have := Nat.two_pow_add_eq_or_of_lt (i := 8) hb n
  rw [show (2 : Nat) ^ 8 = 256 from rfl, Nat.mul_comm] at this
  exact this.symm
theorem splice_blk8 {l : List UInt8} (h : l.length ≤ 8) : splice (bc (List.replicate 8 0)) 0 (bc l) = bc (blk8 l) := by
  unfold splice blk8
  rw [List.take_zero, List.nil_append, Nat.zero_add, bc_len]
  unfold bc
  rw [← List.map_drop, ← List.map_append]
  congr 1
  rw [List.take_append, List.take_of_length_le h, List.drop_replicate, List.take_replicate]
  congr 2
  omega

set_option maxRecDepth 100000 in
set_option maxHeartbeats 2000000 in
theorem take_any (w : World) (gs : Nat) (st : Nat) (hst : st < two64) (hg : Blk w gs 123 #[.int .u64 st]) (p : ByteArray) (hp : p.size ≤ 8) :
    Calls Tryz.prog 106 #[.string p, .pointer (some ⟨gs, 0, none⟩)] w fun e w' => e = .returned (.tuple #[]) ∧ Blk w' gs 123 #[.int .u64 (mixN (st ^^^ blockN p.data.toList) : Nat)] ∧ Only (· = gs) w w' := by
  have hl := len_bytes p
  have h8 := splice_blk8 (l := p.data.toList) (by omega)
  have hB := blk8_len p.data.toList
  have hbl : blockN p.data.toList = valF 0 (blk8 p.data.toList) := rfl
  rw [hbl]
  have kb : Blk (w.alloc (.cells #[.int .u8 0, .int .u8 0, .int .u8 0, .int .u8 0, .int .u8 0, .int .u8 0, .int .u8 0, .int .u8 0] 129)) w.heap.size 129 (bc (List.replicate 8 0)).toArray := Blk.new w 129 _
  have kg := hg.alloc (.cells #[.int .u8 0, .int .u8 0, .int .u8 0, .int .u8 0, .int .u8 0, .int .u8 0, .int .u8 0, .int .u8 0] 129)
  have O1 := (Only.refl (· = gs) w).alloc (.cells #[.int .u8 0, .int .u8 0, .int .u8 0, .int .u8 0, .int .u8 0, .int .u8 0, .int .u8 0, .int .u8 0] 129)
  have hgl := hg.lt
  generalize blk8 p.data.toList = B at *
  obtain ⟨r, hr⟩ : ∃ r, mixN (st ^^^ valF 0 B) = r := ⟨_, rfl⟩
  rw [hr]
  have HR := Lib.hid hr
  clear hr
  have HP := Lib.hid hp
  have HL := Lib.hid hl
  have H8 := Lib.hid h8
  have HB := Lib.hid hB
  clear hp hl h8 hB hbl
  go_enter Tryz.func106, Tryz.ntmps106
  go_wp2_with (refine wpList_copy_str rfl (.tmp 6) (.tmp 7) _ _ rfl 5 (by kernel_rfl) (by kernel_rfl) w.heap.size 0 8 8 p rfl rfl (bc (List.replicate 8 0)) _ kb HP.out (by have := HP.out; simp [bc_len]; omega) ?_; intro w2 kb2 O2 s2)
  rw [H8.out] at kb2
  have kg2 := O2.blk kg (Nat.ne_of_lt hgl)
  have O3 : Only (· = gs) w w2 := O1.trans O2 (fun i hi => .inr (by rw [hi]; exact Nat.le_refl _))
  have hgn : gs ≠ w.heap.size := Nat.ne_of_lt hgl
  clear kb kg O1 O2 s2 hg
  have KB := Lib.hid kb2
  clear kb2
  go_loopw [9, 4] (fun i n wr => wr = w2 ∧ ∃ k : Nat, k ≤ 8 ∧ i = .int .i64 (k : Int) ∧ n = .int .u64 (valF 0 (B.take k) : Nat)) (fun i _ _ => 8 - (intOf i).toNat)
  case atStart => exact ⟨rfl, 0, by omega, rfl, rfl⟩
  case round =>
    obtain ⟨rfl, k, hk, rfl, rfl⟩ := hrel
    by_cases hlt : k < 8
    · obtain ⟨b, hb⟩ : ∃ b, B[k]? = some b := ⟨_, List.getElem?_eq_getElem (by rw [HB.out]; exact hlt)⟩
      have htk : B.take (k + 1) = B.take k ++ [b] := by
        obtain ⟨h1, h2⟩ := List.getElem?_eq_some_iff.1 hb
        rw [List.take_succ_eq_append_getElem h1, h2]
      have hval := valF_snoc (B.take k) b
      rw [← htk] at hval
      have hlt2 := val_lt (B.take k)
      rw [List.length_take, HB.out, Nat.min_eq_left (by omega)] at hlt2
      have h7 : 256 ^ k ≤ 256 ^ 7 := Nat.pow_le_pow_right (by decide) (by omega)
      have h77 : 256 ^ 7 = 72057594037927936 := rfl
      have cb := KB.out.cell k
      have hbt := b.toNat_lt
      rw [show ((bc B).toArray)[k]? = some (.int .u8 (b.toNat : Int)) by rw [List.getElem?_toArray, bc_at, hb]; rfl] at cb
      obtain ⟨n, hn⟩ : ∃ n, valF 0 (B.take k) = n := ⟨_, rfl⟩
      obtain ⟨m, hm⟩ : ∃ m, valF 0 (B.take (k + 1)) = m := ⟨_, rfl⟩
      rw [hn] at hval hlt2
      rw [hm] at hval
      have hn7 : n < 72057594037927936 := by omega
      have e1 : bits .or .u64 ((n : Int) * 256) (b.toNat : Int) = (m : Int) := by
        rw [show ((n : Int) * 256) = ((n * 256 : Nat) : Int) by omega, bits_or_u64_nat _ _ (by omega) (by omega), or_byte (by omega), ← hval]
      have HM := Lib.hid hm
      rw [hn]
      clear hb htk hval hlt2 h7 h77 hn hm
      go_wp2
      go_roundw
      case rel => exact ⟨by first | trivial | rfl, k + 1, by omega, by go_num, by rw [HM.out]⟩
      case measure => simp [intOf]; omega
    · obtain rfl : k = 8 := by omega
      rw [List.take_of_length_le (by rw [HB.out]; exact Nat.le_refl _)]
      have hv8 := val_lt B
      rw [HB.out] at hv8
      obtain ⟨n, hn⟩ : ∃ n, valF 0 B = n := ⟨_, rfl⟩
      rw [hn] at hv8 ⊢
      have h88 : 256 ^ 8 = 18446744073709551616 := rfl
      rw [h88] at hv8
      have hx : st ^^^ n < two64 := xor_lt hst hv8
      have e1 : bits .xor .u64 (st : Int) (n : Int) = ((st ^^^ n : Nat) : Int) := bits_xor_u64_nat _ _ hst hv8
      have hmx := fun W => mix_any W (st ^^^ n) hx
      have hr := HR.out
      rw [hn] at hr
      rw [hr] at hmx
      clear hr
      generalize st ^^^ n = x at *
      obtain ⟨c0, c1, c2⟩ := kg2.all
      have HMX := Lib.hid hmx
      clear hmx hn h88
      go_wp2_with fail
      refine (HMX.out _).mono ?_
      rintro e w3 ⟨rfl, rfl⟩
      have kg3 : Blk (wr.setCell ⟨gs, 0, none⟩ (.int .u64 r)) gs 123 #[.int .u64 r] := kg2.set_ 0 _
      have O4 := O3.setCell (p := ⟨gs, 0, none⟩) (.inl rfl) (.int .u64 r)
      go_wp2
      go_end0
      exact ⟨rfl, kg3, O4⟩
end Go.Proofs.YtfjejfgdnjnflaaGreatDoor
