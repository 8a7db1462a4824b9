/- The reference's numerals, texts and pieces; long records. -/
import Derived.Test.YtfjejfgdnjnflaaGreatDoorKn
import Derived.Lib.BufSteps
namespace Go.Proofs.YtfjejfgdnjnflaaGreatDoor
open Go.RowKit Go.Shelf

def decO (m : Nat) : List UInt8 := if m = 0 then [] else Lib.decDigits m
theorem decO_step (n : Nat) : decO (n / 10) ++ [c8 (n % 10)] = Lib.decDigits n := by
  unfold decO
  by_cases h : n < 10
  · rw [if_pos (by omega), dec_ten h, show n % 10 = n by omega]; rfl
  · rw [if_neg (by omega), dec_more h]
theorem decO_pos {n : Nat} (h : 0 < n) : decO n = Lib.decDigits n := if_neg (by omega)
theorem dec_len20 {n : Nat} (h : n < 18446744073709551616) : (Lib.decDigits n).length ≤ 20 := (dec_pad (w := 19) (n := n) (Nat.lt_of_lt_of_le h (by decide))).1
theorem digU_slice (d : Nat) (h : d < 10) (W : World) : (Instr.slice 9 (.string ⟨#[48, 49, 50, 51, 52, 53, 54, 55, 56, 57]⟩) (some (.int .u64 (d : Int))) (some (.int .u64 ((d : Int) + 1))) none).run Tryz.prog W = .ok (.string (bs [c8 d])) W := by
  have e : ((d : Int) + 1) = ((d + 1 : Nat) : Int) := rfl
  have hs : ((⟨#[48, 49, 50, 51, 52, 53, 54, 55, 56, 57]⟩ : ByteArray).size : Int) = 10 := rfl
  rw [run_slice_string (P := Tryz.prog) (w := W) 9 _ .u64 .u64 (d : Int) ((d : Int) + 1) (by kernel_rfl) (by omega) (by omega) (by rw [hs]; omega)]
  congr 2
  rw [Int.toNat_natCast, e, Int.toNat_natCast]
  match d, h with
  | 0, _ => rfl
  | 1, _ => rfl
  | 2, _ => rfl
  | 3, _ => rfl
  | 4, _ => rfl
  | 5, _ => rfl
  | 6, _ => rfl
  | 7, _ => rfl
  | 8, _ => rfl
  | 9, _ => rfl
theorem bs_cons (b : UInt8) (t : List UInt8) : bs [b] ++ bs t = bs (b :: t) := by
  apply ByteArray.ext
  apply Array.ext'
  rw [ByteArray.data_append, Array.toList_append]
  rfl
theorem bs_appL (s t : List UInt8) : bs s ++ bs t = bs (s ++ t) := by
  apply ByteArray.ext
  apply Array.ext'
  rw [ByteArray.data_append, Array.toList_append]
  simp [bs]

set_option maxRecDepth 100000 in
set_option maxHeartbeats 4000000 in
theorem rdigits_any (w : World) (n : Nat) (hn : n < 18446744073709551616) : Calls Tryz.prog 100 #[.int .u64 (n : Int)] w fun e w' => e = .returned (.string (bs (Lib.decDigits n))) ∧ w = w' := by
  obtain ⟨D, hD⟩ : ∃ D, Lib.decDigits n = D := ⟨_, rfl⟩
  have hDl := dec_len20 hn
  have h0 := decO_step n
  rw [hD] at hDl h0 ⊢
  obtain ⟨d, hd⟩ : ∃ d, n % 10 = d := ⟨_, rfl⟩
  have hd10 : d < 10 := by omega
  obtain ⟨q, hq⟩ : ∃ q, n / 10 = q := ⟨_, rfl⟩
  have hmod2 : ((n : Nat) : Int).tmod 10 = (d : Int) := by rw [Int.tmod_eq_emod_of_nonneg (by omega)]; omega
  have hmod : ((n : Nat) : Int) % 10 = (d : Int) := by omega
  have hdiv : ((n : Nat) : Int).tdiv 10 = (q : Int) := by rw [Int.tdiv_eq_ediv_of_nonneg (by omega)]; omega
  have hdiv2 : ((n : Nat) : Int) / 10 = (q : Int) := by omega
  have sl := digU_slice d hd10
  rw [hd, hq] at h0
  have H0 := Lib.hid h0
  have hqn : q ≤ n := by omega
  clear hD h0 hd hq
  go_enter Tryz.func100, Tryz.ntmps100
  go_wp2_with fail
  go_loopw [0, 3] (fun v s wr => wr = w ∧ ∃ (m : Nat) (t : List UInt8), v = .int .u64 (m : Int) ∧ s = .string (bs t) ∧ m ≤ n ∧ Hid (decO m ++ t = D)) (fun v _ _ => (intOf v).toNat)
  case atStart => exact ⟨rfl, q, [c8 d], rfl, rfl, hqn, H0⟩
  case round =>
    clear H0 sl hmod hmod2 hdiv hdiv2 hqn
    obtain ⟨rfl, m, t, rfl, rfl, hmn, HK⟩ := hrel
    by_cases hlt : 0 < m
    · obtain ⟨d, hd⟩ : ∃ d, m % 10 = d := ⟨_, rfl⟩
      have hd10 : d < 10 := by omega
      obtain ⟨q, hq⟩ : ∃ q, m / 10 = q := ⟨_, rfl⟩
      have hmod : ((m : Nat) : Int) % 10 = (d : Int) := by omega
      have hmod2 : ((m : Nat) : Int).tmod 10 = (d : Int) := by rw [Int.tmod_eq_emod_of_nonneg (by omega)]; exact hmod
      have hdiv : ((m : Nat) : Int).tdiv 10 = (q : Int) := by rw [Int.tdiv_eq_ediv_of_nonneg (by omega)]; omega
      have hdiv2 : ((m : Nat) : Int) / 10 = (q : Int) := by omega
      have sl := digU_slice d hd10
      have hnx : decO q ++ c8 d :: t = D := by
        have h1 := HK.out
        rw [decO_pos hlt, ← decO_step m, hd, hq, List.append_assoc] at h1
        exact h1
      have htl : t.length ≤ 20 := by
        have h1 := congrArg List.length HK.out
        rw [List.length_append] at h1
        omega
      have hsum : ∀ W : World, (Op.stringOp .add (bs [c8 d]) (bs t)).run Tryz.prog W = .ok (.string (bs (c8 d :: t))) W := fun W => by
        have := run_string_add_sum (P := Tryz.prog) (w := W) (bs [c8 d]) (bs t) (by rw [bs_size, bs_size]; simp only [List.length_singleton]; omega)
        rw [bs_cons] at this
        exact this
      have hqm : q < m := by omega
      have HN := Lib.hid hnx
      clear hnx hd hq HK htl
      go_wp2_with fail
      go_roundw
      case rel => exact ⟨by first | trivial | rfl, q, c8 d :: t, by first | rfl | go_num, rfl, by omega, HN⟩
      case measure => simp [intOf]; omega
    · obtain rfl : m = 0 := by omega
      have hfin := HK.out
      rw [show decO 0 = [] from rfl, List.nil_append] at hfin
      subst hfin
      go_wp2
      go_ret
      exact ⟨rfl, rfl⟩
set_option maxRecDepth 100000 in
set_option maxHeartbeats 4000000 in
theorem rdecimal_any (w : World) (n : Nat) (hn : n ≤ 9223372036854775807) : Calls Tryz.prog 78 #[.int .i64 (n : Int)] w fun e w' => e = .returned (.string (bs (Lib.decDigits n))) ∧ w = w' := by
  have P := Lib.hid (rdigits_any w n (by omega))
  have h0 : ¬ ((n : Int) < 0) := by omega
  go_enter Tryz.func78, Tryz.ntmps78
  go_wp2_with fail
  refine P.out.mono ?_
  rintro e w1 ⟨rfl, rfl⟩
  go_wp2
  go_ret
  exact ⟨rfl, rfl⟩

set_option maxRecDepth 100000 in
set_option maxHeartbeats 4000000 in
theorem rlong_any (w : World) (B : Nat) (A : Option Addr) (c : Nat) (l : List (List UInt8)) (h : StrsAt w B A l) (hl : l.length ≤ 1000000) :
    Calls Tryz.prog 12 #[.slice A l.length c] w fun e w' => e = .returned (.bool (l.any fun r => decide (20000 < r.length))) ∧ w = w' := by
  obtain ⟨R, hR⟩ : ∃ r, (l.any fun r => decide (20000 < r.length)) = r := ⟨_, rfl⟩
  rw [hR]
  have HR := Lib.hid hR
  have HS := Lib.hid h
  clear hR h
  go_enter Tryz.func12, Tryz.ntmps12
  go_wp2_with fail
  go_loopw [3] (fun v wr => wr = w ∧ ∃ k : Nat, k ≤ l.length ∧ v = .int .i64 (k : Int) ∧ Hid ((l.take k).any (fun r => decide (20000 < r.length)) = false)) (fun v _ => l.length - (intOf v).toNat)
  case atStart => exact ⟨rfl, 0, Nat.zero_le _, rfl, Lib.hid rfl⟩
  case round =>
    obtain ⟨rfl, k, hk, rfl, HK⟩ := hrel
    by_cases hlt : k < l.length
    · obtain ⟨r, hr⟩ : ∃ r, l[k]? = some r := ⟨_, List.getElem?_eq_getElem hlt⟩
      obtain ⟨g, off, rfl, hg, hc⟩ := HS.out k r hr
      have hki : (k : Int) < (l.length : Int) := by omega
      have hk0 : (0 : Int) ≤ (k : Int) := by omega
      have hsz := bs_size r
      by_cases hb : 20000 < r.length
      · have hb1 : decide (20000 < (r.length : Int)) = true := decide_eq_true (by omega)
        have hfin : (l.any fun r => decide (20000 < r.length)) = true := List.any_eq_true.2 ⟨r, List.mem_of_getElem? hr, decide_eq_true hb⟩
        obtain rfl : R = true := HR.out.symm.trans hfin
        clear hr hb hfin HR HK
        go_wp2
        go_ret
        exact ⟨rfl, rfl⟩
      · have hb1 : decide (20000 < (r.length : Int)) = false := decide_eq_false (by omega)
        have hnx : (l.take (k + 1)).any (fun r => decide (20000 < r.length)) = false := by
          rw [List.take_add_one, hr, List.any_append, HK.out]
          simp
          omega
        have HN := Lib.hid hnx
        clear hr hb hnx HK
        go_wp2_with fail
        go_roundw
        case rel => exact ⟨by first | trivial | rfl, k + 1, by omega, by go_num, HN⟩
        case measure => simp [intOf]; omega
    · obtain rfl : k = l.length := by omega
      have hfin := HK.out
      rw [List.take_length] at hfin
      obtain rfl : R = false := HR.out.symm.trans hfin
      clear HR HK hfin
      go_wp2
      go_ret
      exact ⟨rfl, rfl⟩

set_option maxRecDepth 100000 in
set_option maxHeartbeats 4000000 in
theorem rpieces_any (w : World) (t : List UInt8) (ht : t.length ≤ 1000000) : Calls Tryz.prog 10 #[.string (bs t)] w fun e w' => ∃ v, e = .returned v ∧ OwnStrs w' w.heap.size v (piecesL t) ∧ Below w.heap.size w w' := by
  obtain ⟨i0, hi0, hz0, hz1, hz2⟩ := info_parts Tryz.infoStr
  obtain ⟨P, hP⟩ : ∃ P, piecesL t = P := ⟨_, rfl⟩
  rw [hP]
  have hPl : P.length ≤ t.length := by rw [← hP]; exact pieces_le t
  have HP := Lib.hid hP
  clear hP
  have hw0 : OwnStrs w w.heap.size (.slice none 0 0) [] := OwnStrs.nil _ _
  have hsz := bs_size t
  go_enter Tryz.func10, Tryz.ntmps10
  go_wp2_with fail
  go_loopw [3, 4] (fun v f wr => ∃ (a : Nat) (ps : List (List UInt8)) (A : Option Addr) (c : Nat), a ≤ t.length + 46 ∧ f = .int .i64 (a : Int) ∧ v = .slice A ps.length c ∧ OwnStrs wr w.heap.size (.slice A ps.length c) ps ∧ Hid (ps ++ piecesL (t.drop a) = P) ∧ Below w.heap.size w wr) (fun _ f _ => t.length + 46 - (intOf f).toNat)
  case atStart => exact ⟨0, [], none, 0, Nat.zero_le _, rfl, rfl, hw0, Lib.hid (by rw [HP.out.symm]; rfl), Below.refl _ _⟩
  case round =>
    clear hw0 HP
    obtain ⟨a, ps, A, c, ha, rfl, rfl, own, HM, hb⟩ := hrel
    by_cases h0 : a < t.length
    · have hne : t.drop a ≠ [] := by
        intro e
        have := congrArg List.length e
        rw [List.length_drop] at this
        simp at this
        omega
      have hnx : (ps ++ [(t.drop a).take 46]) ++ piecesL (t.drop (a + 46)) = P := by
        rw [← HM.out, pieces_cons hne, List.append_assoc, List.drop_drop]; rfl
      have hpsl : ps.length + 1 ≤ P.length := by rw [← hnx]; simp
      obtain ⟨k, hk⟩ : ∃ k, min (a + 46) t.length = k := ⟨_, rfl⟩
      have hmin := run_min2 (P := Tryz.prog) ((a : Int) + 46) (t.length : Int) (k : Int) (by omega)
      have hak : a ≤ k := by omega
      have hkm : k ≤ t.length := by omega
      have s1 := sl_mid t a k hak hkm
      have htk : (t.drop a).take 46 = (t.drop a).take (k - a) := by
        by_cases h46 : a + 46 ≤ t.length
        · rw [show k - a = 46 by omega]
        · rw [List.take_of_length_le (by rw [List.length_drop]; omega), List.take_of_length_le (by rw [List.length_drop]; omega)]
      rw [htk] at hnx
      obtain ⟨pc, hpc⟩ : ∃ pc, (t.drop a).take (k - a) = pc := ⟨_, rfl⟩
      rw [hpc] at hnx s1
      have HNX := Lib.hid hnx
      have HPL := Lib.hid hpsl
      have hal : (a : Int) < (t.length : Int) := by omega
      have kn := Blk.new wr 9 #[sv pc]
      have hb2 := hb.alloc hb.size (.cells #[sv pc] 9)
      have own2 : OwnStrs (wr.alloc (.cells #[sv pc] 9)) w.heap.size (.slice A ps.length c) ps := World.ownsRow.alloc own _
      clear hnx hk htk hne hpsl hpc HM
      go_wp2_with (at_builtin; refine wpList_append_lies _ rfl _ _ 26 rfl w.heap.size 9 i0 _ 1 16 Tryz.underlying26 hi0 hz0 hz1 hz2 rfl (by omega) (.slice A ps.length c) ps.length (ps.map sv) rfl own2 ⟨wr.heap.size, 0, none⟩ 1 1 [sv pc] rfl rfl (World.news_of_block kn) (sv_one [pc]) (by omega) (by have := HPL.out; unfold maxLen; omega) (by have := HPL.out; omega) (by have := hb.size; simp; omega) (wr.heap.size + 1) (by simp) ?_; intro gz cz Y own9 gr9 l9 z9)
      have hb3 := hb2.grown gr9 hb2.size (fun x hx => (World.ownsRow.lt own2 x hx).1)
      have hl1 : (ps ++ [pc]).length = ps.length + 1 := by simp
      have own3 : OwnStrs Y w.heap.size (.slice (some ⟨gz, 0, none⟩) (ps.length + 1) cz) (ps ++ [pc]) := by
        unfold OwnStrs
        rw [hl1, List.map_append]
        exact own9
      go_roundw
      case rel => exact ⟨a + 46, ps ++ [pc], some ⟨gz, 0, none⟩, cz, by omega, by go_num, by rw [hl1], by rw [hl1]; exact own3, HNX, hb3⟩
      case measure => simp [intOf]; omega
    · have hfin : ps = P := by have := HM.out; rw [List.drop_of_length_le (by omega), pieces_nil, List.append_nil] at this; exact this
      subst hfin
      have hal : ¬ (a : Int) < (t.length : Int) := by omega
      clear HM
      go_wp2
      go_ret
      exact ⟨_, rfl, own, hb⟩
end Go.Proofs.YtfjejfgdnjnflaaGreatDoor
