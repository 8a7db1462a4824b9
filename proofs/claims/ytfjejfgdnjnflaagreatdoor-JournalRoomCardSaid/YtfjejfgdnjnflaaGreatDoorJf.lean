/- The journal's texts: the count of a head. -/
import Derived.Test.YtfjejfgdnjnflaaGreatDoorJe
namespace Go.Proofs.YtfjejfgdnjnflaaGreatDoor
open Go.RowKit Go.Shelf

theorem beq_bs {a b : List UInt8} (h : a ≠ b) : ((bs a).toList == (bs b).toList) = false := by
  rw [Lib.toList_data, Lib.toList_data]
  exact beq_eq_false_iff_ne.2 h
theorem sl_mid (l : List UInt8) (a b : Nat) (h : a ≤ b) (h2 : b ≤ l.length) (W : World) : (Instr.slice 9 (.string (bs l)) (some (.int .i64 (a : Int))) (some (.int .i64 (b : Int))) none).run Tryz.prog W = .ok (.string (bs ((l.drop a).take (b - a)))) W := by
  rw [run_slice_string (P := Tryz.prog) (w := W) 9 _ .i64 .i64 (a : Int) (b : Int) (by kernel_rfl) (by omega) (by omega) (by rw [bs_size]; omega)]
  rw [Int.toNat_natCast, Int.toNat_natCast, bs_extract]
theorem atoi_yes (w : World) (l : List UInt8) (n : Int) (hl : l.length ≤ 18) (h : Lib.atoi l = some n) : Calls Tryz.prog 35 #[.string (bs l)] w fun e w' => e = .returned (.tuple #[.int .i64 n, .nilIface]) ∧ Below w.heap.size w w' :=
  (sh_strconv_Atoi (bs l) n (by rw [bs_size]; exact hl) h w).mono fun _ _ ⟨he, _, hw⟩ => ⟨he, hw ▸ Go.Joins.below_bytesWorld _ _ _ _ (Nat.le_refl _)⟩
/-- Behind a call that makes an error: some error, and nothing that was there has turned. -/
def ErrPost (w : World) (n : Int) (e : Ending) (w' : World) : Prop := ∃ t v, e = .returned (.tuple #[.int .i64 n, .iface t v]) ∧ Below w.heap.size w w'
theorem atoi_no (w : World) (ht : Tbs w) (l : List UInt8) (hl : l.length ≤ 18) (h : Lib.atoi l = none) : Calls Tryz.prog 35 #[.string (bs l)] w (ErrPost w 0) := by
  obtain ⟨ev, hv, hev⟩ := ht.syn
  exact (sh_strconv_Atoi_err (bs l) (by rw [bs_size]; exact hl) h ev w hv hev).mono fun _ _ ⟨N, he, _, _, hb⟩ => ⟨_, _, he, hb⟩

set_option maxRecDepth 100000 in
set_option maxHeartbeats 2000000 in
theorem count_any (w : World) (ht : Tbs w) (place : Nat) (hp : place < 100000000) (l : List UInt8) (hl : l.length = 64) (room : Nat) (hr : room ≤ 4000) :
    Calls Tryz.prog 34 #[.int .i64 (place : Int), .string (bs l), .int .i64 (room : Int)] w fun e w' => e = .returned (.int .i64 (cntL place l room)) ∧ Below w.heap.size w w' := by
  obtain ⟨r, hrr⟩ : ∃ r, cntL place l room = r := ⟨_, rfl⟩
  rw [hrr]
  unfold cntL at hrr
  have hz := fun W => zero_any W
  have HZ := Lib.hid hz
  have HT := Lib.hid ht
  clear hz ht
  by_cases h0 : l = zeroL
  · subst h0
    rw [if_pos rfl] at hrr
    subst hrr
    generalize zeroL = Z at *
    go_enter Tryz.func34, Tryz.ntmps34
    go_wp2_with fail
    refine (HZ.out _).mono ?_
    rintro e w1 ⟨rfl, b1⟩
    go_wp2
    go_ret
    exact ⟨rfl, b1⟩
  rw [if_neg h0] at hrr
  have q0 := beq_bs h0
  have s1 : ∀ W : World, (Instr.slice 9 (.string (bs l)) (some (.int .i64 16)) (some (.int .i64 24)) none).run Tryz.prog W = .ok (.string (bs ((l.drop 16).take 8))) W := sl_mid l 16 24 (by decide) (by omega)
  have hl8 : ((l.drop 16).take 8).length ≤ 18 := by rw [List.length_take]; omega
  clear h0
  generalize zeroL = Z at *
  cases ha : Lib.atoi ((l.drop 16).take 8) with
  | none =>
    rw [ha] at hrr
    subst hrr
    have hno := fun W h => atoi_no W h _ hl8 ha
    generalize (l.drop 16).take 8 = D at *
    have HNO := Lib.hid hno
    clear hno ha hl8 hl
    go_enter Tryz.func34, Tryz.ntmps34
    go_wp2_with fail
    refine (HZ.out _).mono ?_
    rintro e w1 ⟨rfl, b1⟩
    go_wp2_with fail
    refine (HNO.out _ (HT.out.below b1)).mono ?_
    rintro e w2 ⟨t, v, rfl, b2⟩
    have b3 := b1.trans (b2.mono b1.size)
    clear b1 b2 q0 s1
    go_wp2
    go_ret
    exact ⟨rfl, b3⟩
  | some n =>
    rw [ha] at hrr
    simp only at hrr
    have hye := fun W => atoi_yes W _ n hl8 ha
    generalize (l.drop 16).take 8 = D at *
    have HYE := Lib.hid hye
    clear hye ha hl8
    by_cases h1 : 0 ≤ n
    · by_cases h2 : n ≤ room
      · obtain ⟨k, rfl⟩ := Int.eq_ofNat_of_zero_le h1
        have hk : k ≤ 4000 := by omega
        have hhd := fun W h => head_place_any W h place hp k (by omega)
        rw [Int.toNat_natCast] at hrr
        generalize headL place k = H at *
        have HHD := Lib.hid hhd
        clear hhd
        by_cases h3 : H = l
        · rw [if_pos ⟨h1, h2, h3⟩] at hrr
          subst h3 hrr
          have HL := Lib.hid hl
          clear hl
          go_enter Tryz.func34, Tryz.ntmps34
          go_wp2_with fail
          refine (HZ.out _).mono ?_
          rintro e w1 ⟨rfl, b1⟩
          go_wp2_with fail
          refine (HYE.out _).mono ?_
          rintro e w2 ⟨rfl, b2⟩
          have b3 := b1.trans (b2.mono b1.size)
          clear b1 b2 q0 s1
          go_wp2_with fail
          refine (HHD.out _ (HT.out.below b3)).mono ?_
          rintro e w3 ⟨rfl, b4⟩
          have b5 := b3.trans (b4.mono b3.size)
          go_wp2
          go_ret
          exact ⟨rfl, b5⟩
        · rw [if_neg (fun h => h3 h.2.2)] at hrr
          subst hrr
          have q3 := beq_bs h3
          have HL := Lib.hid hl
          clear hl h3
          go_enter Tryz.func34, Tryz.ntmps34
          go_wp2_with fail
          refine (HZ.out _).mono ?_
          rintro e w1 ⟨rfl, b1⟩
          go_wp2_with fail
          refine (HYE.out _).mono ?_
          rintro e w2 ⟨rfl, b2⟩
          have b3 := b1.trans (b2.mono b1.size)
          clear b1 b2 q0 s1
          go_wp2_with fail
          refine (HHD.out _ (HT.out.below b3)).mono ?_
          rintro e w3 ⟨rfl, b4⟩
          have b5 := b3.trans (b4.mono b3.size)
          go_wp2
          go_ret
          exact ⟨rfl, b5⟩
      · rw [if_neg (fun h => h2 h.2.1)] at hrr
        subst hrr
        have d1 : decide (n < 0) = false := decide_eq_false (by omega)
        have d2 : decide ((room : Int) < n) = true := decide_eq_true (by omega)
        have HL := Lib.hid hl
        clear hl h1 h2
        go_enter Tryz.func34, Tryz.ntmps34
        go_wp2_with fail
        refine (HZ.out _).mono ?_
        rintro e w1 ⟨rfl, b1⟩
        go_wp2_with fail
        refine (HYE.out _).mono ?_
        rintro e w2 ⟨rfl, b2⟩
        have b3 := b1.trans (b2.mono b1.size)
        clear b1 b2 q0 s1
        go_wp2
        go_ret
        exact ⟨rfl, b3⟩
    · rw [if_neg (fun h => h1 h.1)] at hrr
      subst hrr
      have d1 : decide (n < 0) = true := decide_eq_true (by omega)
      have HL := Lib.hid hl
      clear hl h1
      go_enter Tryz.func34, Tryz.ntmps34
      go_wp2_with fail
      refine (HZ.out _).mono ?_
      rintro e w1 ⟨rfl, b1⟩
      go_wp2_with fail
      refine (HYE.out _).mono ?_
      rintro e w2 ⟨rfl, b2⟩
      have b3 := b1.trans (b2.mono b1.size)
      clear b1 b2 q0 s1
      go_wp2
      go_ret
      exact ⟨rfl, b3⟩
end Go.Proofs.YtfjejfgdnjnflaaGreatDoor
