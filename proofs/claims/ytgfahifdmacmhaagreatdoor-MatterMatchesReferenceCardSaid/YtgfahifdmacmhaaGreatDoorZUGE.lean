/- The reference's number. The reference's Decimal. The reference's numbers. The reference's line. The reference's names, stops, terms, Is; Proper of a limit. The reference's Name, Day, right, In. -/
import Derived.Test.YtgfahifdmacmhaaGreatDoorZUGA
import Derived.Lib.BufSteps
import Derived.Deep.LoopGhost
import Derived.Test.YtgfahifdmacmhaaGreatDoorQq
namespace Go.Proofs.YtgfahifdmacmhaaGreatDoor
open Go.RowKit Go.Shelf

def numR (s : List UInt8) : Int := if 0 < s.length ∧ s.length ≤ 7 then (match Lib.decFrom 0 s with | some n => (n : Int) | none => -1) else -1
theorem digit_cases (b : UInt8) : (48 ≤ b.toNat ∧ b.toNat ≤ 57 ∧ Lib.digitVal b = some (b.toNat - 48)) ∨ ((b.toNat < 48 ∨ 57 < b.toNat) ∧ Lib.digitVal b = none) := by
  unfold Lib.digitVal
  by_cases h : 48 ≤ b.toNat ∧ b.toNat ≤ 57
  · exact .inl ⟨h.1, h.2, if_pos h⟩
  · exact .inr ⟨by omega, if_neg h⟩
set_option maxRecDepth 100000 in
set_option maxHeartbeats 2000000 in
theorem rnum31_any (w : World) (s : List UInt8) (hs : s.length ≤ 9223372036854775807) : Calls Tryz.prog 46 #[.string (bs s)] w fun e w' => e = .returned (.int .i64 (numR s)) ∧ w = w' := by
  have hsz := bs_size s
  obtain ⟨R, hR⟩ : ∃ R, numR s = R := ⟨_, rfl⟩
  rw [hR]
  have HR := Lib.hid hR
  clear hR
  go_enter Tryz.func46, Tryz.ntmps46
  go_wp2_with fail
  go_loopw [3, 4] (fun n v wr => wr = w ∧ ∃ k m : Nat, k ≤ s.length ∧ v = .int .i64 (k : Int) ∧ n = .int .i64 (m : Int) ∧ m < 10 ^ k ∧ Hid (0 < k → s.length ≤ 7) ∧ Hid (Lib.decFrom 0 (s.take k) = some m)) (fun _ v _ => s.length - (intOf v).toNat)
  case atStart => exact ⟨rfl, 0, 0, Nat.zero_le _, rfl, rfl, by decide, Lib.hid (by omega), Lib.hid rfl⟩
  case round =>
    obtain ⟨hwr, k, m, hk, rfl, rfl, hm, HK7, HK⟩ := hrel
    have hwr := hwr.symm
    subst hwr
    by_cases hlt : k < s.length
    · obtain ⟨b, hb⟩ : ∃ b, s[k]? = some b := ⟨_, List.getElem?_eq_getElem hlt⟩
      have hin3 : k < (bs s).size := by rw [bs_size]; exact hlt
      have hget : (bs s)[k] = b := by
        obtain ⟨h1, h2⟩ := List.getElem?_eq_some_iff.1 hb
        rw [← h2]
        rfl
      have hki : (k : Int) < (s.length : Int) := by omega
      have hb255 := b.toNat_lt
      rcases digit_cases b with ⟨d1, d2, d3⟩ | ⟨d1, d2⟩
      · have e1 : decide ((b.toNat : Int) < 48) = false := decide_eq_false (by omega)
        have e2 : decide (57 < (b.toNat : Int)) = false := decide_eq_false (by omega)
        by_cases h7 : 7 < s.length
        · have e3 : decide ((7 : Int) < (s.length : Int)) = true := decide_eq_true (by omega)
          have hfin : R = -1 := by
            rw [← HR.out]
            unfold numR
            rw [if_neg (by omega)]
          subst hfin
          clear HR HK hb d1 d2 d3 hm
          go_wp2_with fail
          go_ret
          exact ⟨rfl, rfl⟩
        have e3 : decide ((7 : Int) < (s.length : Int)) = false := decide_eq_false (by omega)
        have hp8 : 10 ^ k ≤ 10 ^ 8 := Nat.pow_le_pow_right (by decide) (by omega)
        have hp8' : (10 : Nat) ^ 8 = 100000000 := rfl
        have HS7 : Hid (0 < k + 1 → s.length ≤ 7) := Lib.hid (fun _ => by omega)
        have hst := Lib.decFrom_take s k 0 m b _ HK.out hb d3
        have hmb : m * 10 + (b.toNat - 48) < 10 ^ (k + 1) := by rw [Nat.pow_succ]; omega
        have HST := Lib.hid hst
        have HMB := Lib.hid hmb
        have HLT := Lib.hid hlt
        have hm8 : m < 100000000 := by omega
        obtain ⟨d, hd⟩ : ∃ d, b.toNat = 48 + d := ⟨b.toNat - 48, by omega⟩
        have hd9 : d ≤ 9 := by omega
        rw [show b.toNat - 48 = d by omega] at HST HMB
        have w1 : IntKind.u8.wrap ((b.toNat : Int) - 48) = (d : Int) := by rw [hd]; rw [show ((48 + d : Nat) : Int) - 48 = (d : Int) by omega]; exact IntWalk.u8_in _ (by omega)
        have w2 : IntKind.i64.wrap (10 * (m : Int)) = 10 * (m : Int) := IntWalk.i64_in _ (by omega)
        have w3 : IntKind.i64.wrap (10 * (m : Int) + (d : Int)) = 10 * (m : Int) + (d : Int) := IntWalk.i64_in _ (by omega)
        have w4 : IntKind.i64.wrap (d : Int) = (d : Int) := IntWalk.i64_in _ (by omega)
        clear hst hmb hb d1 d2 d3 hlt hd hp8 hp8' hm HK h7
        go_wp2_with fail
        exact ⟨⟨by first | trivial | rfl, k + 1, m * 10 + d, HLT.out, by go_num, by go_num, HMB.out, HS7, HST⟩, by have := HLT.out; simp [intOf]; omega⟩
      · have hfin : R = -1 := by
          rw [← HR.out]
          unfold numR
          split
          case isFalse => rfl
          cases hd : Lib.decFrom 0 s with
          | none => rfl
          | some n =>
            obtain ⟨d, e⟩ := Lib.digit_of_decFrom s 0 n hd k b hb
            rw [d2] at e
            cases e
        subst hfin
        clear HR HK hb d2 hm
        rcases d1 with d1 | d1
        · have e1 : decide ((b.toNat : Int) < 48) = true := decide_eq_true (by omega)
          go_wp2_with fail
          go_ret
          exact ⟨rfl, rfl⟩
        · have e1 : decide ((b.toNat : Int) < 48) = false := decide_eq_false (by omega)
          have e2 : decide (57 < (b.toNat : Int)) = true := decide_eq_true (by omega)
          go_wp2_with fail
          go_ret
          exact ⟨rfl, rfl⟩
    · obtain rfl : k = s.length := by omega
      have hki : ¬ (s.length : Int) < (s.length : Int) := by omega
      by_cases h0 : s.length = 0
      · have hfin : R = -1 := by
          rw [← HR.out]
          unfold numR
          rw [if_neg (by omega)]
        have e4 : ((s.length : Int) == 0) = true := by simp [h0]
        subst hfin
        clear HR HK hm h0
        go_wp2_with fail
        go_ret
        exact ⟨rfl, rfl⟩
      · have h7 : s.length ≤ 7 ∨ 7 < s.length := by omega
        have e4 : ((s.length : Int) == 0) = false := by simp; exact fun h => h0 (by simp [h])
        have hfin : R = (m : Int) := by
          rw [← HR.out]
          unfold numR
          have := HK.out
          rw [List.take_length] at this
          rw [if_pos ⟨by omega, HK7.out (by omega)⟩, this]
        subst hfin
        clear HR HK hm h0 h7
        go_wp2_with fail
        go_ret
        exact ⟨rfl, rfl⟩
end Go.Proofs.YtgfahifdmacmhaaGreatDoor

namespace Go.Proofs.YtgfahifdmacmhaaGreatDoor
open Go.RowKit Go.Shelf

def decO (m : Nat) : List UInt8 := if m = 0 then [] else Lib.decDigits m
theorem decO_step (n : Nat) : decO (n / 10) ++ [c8 (n % 10)] = Lib.decDigits n := by
  unfold decO
  by_cases h : n < 10
  · rw [if_pos (by omega), dec_ten h, show n % 10 = n by omega]; rfl
  · rw [if_neg (by omega), dec_more h]
theorem decO_pos {n : Nat} (h : 0 < n) : decO n = Lib.decDigits n := if_neg (by omega)
theorem dec_lenK : ∀ {w n : Nat}, n < 10 ^ (w + 1) → (Lib.decDigits n).length ≤ w + 1
  | 0, n, h => by
    have h : n < 10 := by simpa using h
    rw [dec_ten h]
    simp
  | w + 1, n, h => by
    by_cases h10 : n < 10
    · rw [dec_ten h10]
      simp
    · rw [Nat.pow_succ] at h
      have := dec_lenK (w := w) (n := n / 10) (by omega)
      rw [dec_more h10]
      simp
      omega
theorem dec_len20 {n : Nat} (h : n < 18446744073709551616) : (Lib.decDigits n).length ≤ 20 := dec_lenK (w := 19) (n := n) (Nat.lt_of_lt_of_le h (by decide))
theorem digU_slice (d : Nat) (h : d < 10) (W : World) : (Instr.slice 9 (.string ⟨#[48, 49, 50, 51, 52, 53, 54, 55, 56, 57]⟩) (some (.int .u64 (d : Int))) (some (.int .u64 ((d : Int) + 1))) none).run Tryz.prog W = .ok (.string (bs [c8 d])) W := by
  have e : ((d : Int) + 1) = ((d + 1 : Nat) : Int) := rfl
  have hs : ((⟨#[48, 49, 50, 51, 52, 53, 54, 55, 56, 57]⟩ : ByteArray).size : Int) = 10 := rfl
  rw [run_slice_string (P := Tryz.prog) (w := W) 9 _ .u64 .u64 (d : Int) ((d : Int) + 1) (by kernel_rfl) (by omega) (by omega) (by rw [hs]; omega)]
  congr 2
  rw [Int.toNat_natCast, e, Int.toNat_natCast]
  match d, h with
  | 0, _ => rfl
  | 1, _ => rfl
  | 2, _ => rfl
  | 3, _ => rfl
  | 4, _ => rfl
  | 5, _ => rfl
  | 6, _ => rfl
  | 7, _ => rfl
  | 8, _ => rfl
  | 9, _ => rfl
theorem bs_cons (b : UInt8) (t : List UInt8) : bs [b] ++ bs t = bs (b :: t) := by
  apply ByteArray.ext
  apply Array.ext'
  rw [ByteArray.data_append, Array.toList_append]
  rfl
theorem bs_appL (s t : List UInt8) : bs s ++ bs t = bs (s ++ t) := by
  apply ByteArray.ext
  apply Array.ext'
  rw [ByteArray.data_append, Array.toList_append]
  simp [bs]

set_option maxRecDepth 100000 in
set_option maxHeartbeats 4000000 in
theorem rdigits_any (w : World) (n : Nat) (hn : n < 18446744073709551616) : Calls Tryz.prog 82 #[.int .u64 (n : Int)] w fun e w' => e = .returned (.string (bs (Lib.decDigits n))) ∧ w = w' := by
  obtain ⟨D, hD⟩ : ∃ D, Lib.decDigits n = D := ⟨_, rfl⟩
  have hDl := dec_len20 hn
  have h0 := decO_step n
  rw [hD] at hDl h0 ⊢
  obtain ⟨d, hd⟩ : ∃ d, n % 10 = d := ⟨_, rfl⟩
  have hd10 : d < 10 := by omega
  obtain ⟨q, hq⟩ : ∃ q, n / 10 = q := ⟨_, rfl⟩
  have hmod2 : ((n : Nat) : Int).tmod 10 = (d : Int) := by rw [Int.tmod_eq_emod_of_nonneg (by omega)]; omega
  have hmod : ((n : Nat) : Int) % 10 = (d : Int) := by omega
  have hdiv : ((n : Nat) : Int).tdiv 10 = (q : Int) := by rw [Int.tdiv_eq_ediv_of_nonneg (by omega)]; omega
  have hdiv2 : ((n : Nat) : Int) / 10 = (q : Int) := by omega
  have sl := digU_slice d hd10
  rw [hd, hq] at h0
  have H0 := Lib.hid h0
  have hqn : q ≤ n := by omega
  clear hD h0 hd hq
  go_enter Tryz.func82, Tryz.ntmps82
  go_wp2_with fail
  go_loopw [0, 3] (fun v s wr => wr = w ∧ ∃ (m : Nat) (t : List UInt8), v = .int .u64 (m : Int) ∧ s = .string (bs t) ∧ m ≤ n ∧ Hid (decO m ++ t = D)) (fun v _ _ => (intOf v).toNat)
  case atStart => exact ⟨rfl, q, [c8 d], rfl, rfl, hqn, H0⟩
  case round =>
    clear H0 sl hmod hmod2 hdiv hdiv2 hqn
    obtain ⟨rfl, m, t, rfl, rfl, hmn, HK⟩ := hrel
    by_cases hlt : 0 < m
    · obtain ⟨d, hd⟩ : ∃ d, m % 10 = d := ⟨_, rfl⟩
      have hd10 : d < 10 := by omega
      obtain ⟨q, hq⟩ : ∃ q, m / 10 = q := ⟨_, rfl⟩
      have hmod : ((m : Nat) : Int) % 10 = (d : Int) := by omega
      have hmod2 : ((m : Nat) : Int).tmod 10 = (d : Int) := by rw [Int.tmod_eq_emod_of_nonneg (by omega)]; exact hmod
      have hdiv : ((m : Nat) : Int).tdiv 10 = (q : Int) := by rw [Int.tdiv_eq_ediv_of_nonneg (by omega)]; omega
      have hdiv2 : ((m : Nat) : Int) / 10 = (q : Int) := by omega
      have sl := digU_slice d hd10
      have hnx : decO q ++ c8 d :: t = D := by
        have h1 := HK.out
        rw [decO_pos hlt, ← decO_step m, hd, hq, List.append_assoc] at h1
        exact h1
      have htl : t.length ≤ 20 := by
        have h1 := congrArg List.length HK.out
        rw [List.length_append] at h1
        omega
      have hsum : ∀ W : World, (Op.stringOp .add (bs [c8 d]) (bs t)).run Tryz.prog W = .ok (.string (bs (c8 d :: t))) W := fun W => by
        have := run_string_add_sum (P := Tryz.prog) (w := W) (bs [c8 d]) (bs t) (by rw [bs_size, bs_size]; simp only [List.length_singleton]; omega)
        rw [bs_cons] at this
        exact this
      have hqm : q < m := by omega
      have HN := Lib.hid hnx
      clear hnx hd hq HK htl
      go_wp2_with fail
      go_roundw
      case rel => exact ⟨by first | trivial | rfl, q, c8 d :: t, by first | rfl | go_num, rfl, by omega, HN⟩
      case measure => simp [intOf]; omega
    · obtain rfl : m = 0 := by omega
      have hfin := HK.out
      rw [show decO 0 = [] from rfl, List.nil_append] at hfin
      subst hfin
      go_wp2
      go_ret
      exact ⟨rfl, rfl⟩
set_option maxRecDepth 100000 in
set_option maxHeartbeats 4000000 in
theorem rdecimal_any (w : World) (n : Nat) (hn : n ≤ 9223372036854775807) : Calls Tryz.prog 38 #[.int .i64 (n : Int)] w fun e w' => e = .returned (.string (bs (Lib.decDigits n))) ∧ w = w' := by
  have P := Lib.hid (rdigits_any w n (by omega))
  have h0 : ¬ ((n : Int) < 0) := by omega
  go_enter Tryz.func38, Tryz.ntmps38
  go_wp2_with fail
  refine P.out.mono ?_
  rintro e w1 ⟨rfl, rfl⟩
  go_wp2
  go_ret
  exact ⟨rfl, rfl⟩
end Go.Proofs.YtgfahifdmacmhaaGreatDoor

namespace Go.Proofs.YtgfahifdmacmhaaGreatDoor
open Go.RowKit Go.Shelf

set_option maxRecDepth 100000 in
set_option maxHeartbeats 1000000 in
theorem rnums_any (w : World) (B : Nat) (A0 : Option Addr) (l : List (List UInt8)) (c0 : Nat) (h : StrsAt w B A0 l) (hB : B ≤ w.heap.size) (hs : ∀ s ∈ l, s.length ≤ 9223372036854775807) (hll : l.length ≤ 1000001) :
    Calls Tryz.prog 47 #[.slice A0 l.length c0] w fun e w' => ∃ A c, e = .returned (.slice A l.length c) ∧ w'.ownsRow w.heap.size 3 1 (.slice A l.length c) l.length (intCells (l.map numR)) ∧ Below w.heap.size w w' := by
  obtain ⟨i0, hi0, hz0, hz1, hz2⟩ := info_parts Tryz.infoInt
  have HA := Lib.hid h
  have HS := Lib.hid hs
  have HBB := Lib.hid hB
  obtain ⟨N, hN⟩ : ∃ N, l.length = N := ⟨_, rfl⟩
  have HN := Lib.hid hN
  rw [hN] at hll ⊢
  clear h hs hN hB
  go_enter Tryz.func47, Tryz.ntmps47
  go_wp2_with fail
  go_loopg [3, 4] N (fun n v i wr => ∃ (k : Nat) (A : Option Addr) (c : Nat), k + n = N ∧ v = .slice A k c ∧ i = .int .i64 (k : Int) ∧ Hid (wr.ownsRow w.heap.size 3 1 (.slice A k c) k (intCells ((l.take k).map numR))) ∧ Hid (Below w.heap.size w wr))
  case atStart => exact ⟨0, none, 0, Nat.zero_add _, rfl, rfl, Lib.hid (World.ownsRow_nil _ _ _ _), Lib.hid (Below.refl _ _)⟩
  case round =>
    obtain ⟨k, A, c, hk, rfl, rfl, OW, HB⟩ := hrel
    by_cases hlt : k < N
    · obtain ⟨m, rfl⟩ : ∃ m, gk = m + 1 := ⟨gk - 1, by omega⟩
      obtain ⟨x, hx⟩ : ∃ x, l[k]? = some x := ⟨_, List.getElem?_eq_getElem (by rw [HN.out]; exact hlt)⟩
      have hst := HA.out.below (HB.out.mono HBB.out)
      obtain ⟨ga, oa, hA, hga, p0⟩ := hst k x hx
      subst hA
      have ib0 : (0 : Int) ≤ (k : Int) := by omega
      have ib1 : (k : Int) < (N : Int) := by omega
      have hnum := rnum31_any wr x (HS.out x (List.mem_of_getElem? hx))
      have tk := take_snoc' hx
      have TK := Lib.hid tk
      obtain ⟨X, hX⟩ : ∃ X, numR x = X := ⟨_, rfl⟩
      rw [hX] at hnum
      have HNUM := Lib.hid hnum
      have HX := Lib.hid hX
      clear hnum hx hX tk hst
      go_wp2_with fail
      refine HNUM.out.mono ?_
      rintro e w2 ⟨rfl, rfl⟩
      have kn := Blk.new wr 3 #[.int .i64 X]
      have own3 := OW.out.alloc (.cells #[.int .i64 X] 3)
      have o3 := HB.out.alloc HB.out.size (.cells #[.int .i64 X] 3)
      have hsz := o3.size
      have O3 := Lib.hid o3
      clear o3 HNUM p0
      go_wp2_with (at_builtin; refine wpList_append_lies _ rfl _ _ 22 rfl w.heap.size 3 i0 _ 1 8 Tryz.underlying22 hi0 hz0 hz1 hz2 rfl (by omega) (.slice A k c) k _ rfl own3 ⟨wr.heap.size, 0, none⟩ 1 1 [.int .i64 X] rfl rfl (World.news_of_block kn) (intCells_one [X]) (by omega) (by unfold maxLen; omega) (by omega) (by omega) _ rfl ?_; intro gz cz Y own4 gr4 l4 z4)
      have o4 := O3.out.grown gr4 O3.out.size (fun i hi => (World.ownsRow.lt own3 i hi).1)
      have OW4 := Lib.hid own4
      have O4 := Lib.hid o4
      clear o4 own4 own3 gr4 l4 kn
      go_wp2
      go_roundg m
      case rel => exact ⟨k + 1, _, _, by omega, rfl, by go_num, Lib.hid (by rw [TK.out, List.map_append, intCells_app, List.map_cons, List.map_nil, HX.out]; exact OW4.out), O4⟩
      case measure => omega
    · obtain rfl : gk = 0 := by omega
      obtain rfl : k = N := by omega
      have hown := OW.out
      rw [List.take_of_length_le (by rw [HN.out]; exact Nat.le_refl _)] at hown
      have OWN := Lib.hid hown
      have nb : ¬ (k : Int) < (k : Int) := by omega
      clear hown
      go_wp2
      go_ret
      exact ⟨A, c, rfl, OWN.out, HB.out⟩
end Go.Proofs.YtgfahifdmacmhaaGreatDoor

namespace Go.Proofs.YtgfahifdmacmhaaGreatDoor
open Go.RowKit Go.Shelf

def wjF (l : List (List UInt8)) : List UInt8 := (l.map (32 :: ·)).flatten
def wj (l : List (List UInt8)) : List UInt8 := (wjF l).drop 1
def njF (l : List Nat) : List UInt8 := (l.map fun n => 32 :: Lib.decDigits n).flatten
theorem wjF_snoc (l : List (List UInt8)) (x : List UInt8) : wjF (l ++ [x]) = wjF l ++ 32 :: x := by simp [wjF]
theorem njF_snoc (l : List Nat) (n : Nat) : njF (l ++ [n]) = njF l ++ 32 :: Lib.decDigits n := by simp [njF]
theorem wj_one (x : List UInt8) : wj [x] = x := by simp [wj, wjF]
theorem wj_snoc {l : List (List UInt8)} (h : l ≠ []) (x : List UInt8) : wj (l ++ [x]) = wj l ++ 32 :: x := by
  obtain ⟨y, r, rfl⟩ := List.exists_cons_of_ne_nil h
  simp [wj, wjF]
theorem wjF_take (l : List (List UInt8)) (k : Nat) : (wjF (l.take k)).length ≤ (wjF l).length := by
  have : wjF l = wjF (l.take k) ++ wjF (l.drop k) := by
    unfold wjF
    rw [← List.flatten_append, ← List.map_append, List.take_append_drop]
  rw [this, List.length_append]
  omega
theorem njF_take (l : List Nat) (k : Nat) : (njF (l.take k)).length ≤ (njF l).length := by
  have : njF l = njF (l.take k) ++ njF (l.drop k) := by
    unfold njF
    rw [← List.flatten_append, ← List.map_append, List.take_append_drop]
  rw [this, List.length_append]
  omega
theorem wj_len (l : List (List UInt8)) : (wj l).length ≤ (wjF l).length := by simp [wj]

set_option maxRecDepth 100000 in
set_option maxHeartbeats 2000000 in
theorem rline_any (w : World) (B : Nat) (A1 : Option Addr) (ws : List (List UInt8)) (c1 : Nat) (h1 : StrsAt w B A1 ws) (A2 : Option Addr) (ns : List Nat) (c2 : Nat) (h2 : IntsAt w B A2 (ns.map fun n : Nat => (n : Int))) (hn : ∀ n ∈ ns, n ≤ 9223372036854775807)
    (hb : (wjF ws).length + (njF ns).length ≤ 1000000000) (l1 : ws.length ≤ 1000000) (l2 : ns.length ≤ 1000000) :
    Calls Tryz.prog 37 #[.slice A1 ws.length c1, .slice A2 ns.length c2] w fun e w' => e = .returned (.string (bs (wj ws ++ (njF ns ++ [10])))) ∧ w = w' := by
  have H1 := Lib.hid h1
  have H2 := Lib.hid h2
  have HN := Lib.hid hn
  obtain ⟨N, hN⟩ : ∃ N, ws.length = N := ⟨_, rfl⟩
  obtain ⟨M, hM⟩ : ∃ M, ns.length = M := ⟨_, rfl⟩
  rw [hN] at l1 ⊢
  rw [hM] at l2 ⊢
  have H3 := Lib.hid hN
  have H4 := Lib.hid hM
  have HBD := Lib.hid hb
  clear h1 h2 hn hN hM hb
  go_enter Tryz.func37, Tryz.ntmps37
  go_wp2_with fail
  go_loopw [5, 6] (fun v i wr => wr = w ∧ ∃ (k : Nat) (T : List UInt8), k ≤ N ∧ i = .int .i64 (k : Int) ∧ v = .string (bs T) ∧ Hid (T = wj (ws.take k))) (fun _ i _ => N - (intOf i).toNat)
  case atStart => exact ⟨rfl, 0, [], Nat.zero_le _, rfl, rfl, Lib.hid rfl⟩
  case round =>
    obtain ⟨hwr, k, T, hk, rfl, rfl, HT⟩ := hrel
    have hwr := hwr.symm
    subst hwr
    by_cases hlt : k < N
    · obtain ⟨x, hx⟩ : ∃ x, ws[k]? = some x := ⟨_, List.getElem?_eq_getElem (by rw [H3.out]; exact hlt)⟩
      obtain ⟨g, off, hA, hg, p0⟩ := H1.out k x hx
      subst hA
      have ib0 : (0 : Int) ≤ (k : Int) := by omega
      have ib1 : (k : Int) < (N : Int) := by omega
      have hln : (wjF (ws.take (k + 1))).length ≤ 1000000000 := by have := wjF_take ws (k + 1); have := HBD.out; omega
      rw [take_snoc' hx, wjF_snoc, List.length_append, List.length_cons] at hln
      have hTl : T.length ≤ (wjF (ws.take k)).length := by rw [HT.out]; exact wj_len _
      have TK := Lib.hid (take_snoc' hx)
      have HLT := Lib.hid hlt
      clear hx hlt
      by_cases h0 : k = 0
      · have e0 : ¬ 0 < k := by omega
        have e0' : k = 0 := h0
        have ht0 : ws.take k = [] := by rw [h0]; rfl
        have hs2 : ∀ W, (Op.stringOp .add (bs T) (bs x)).run Tryz.prog W = .ok (.string (bs (T ++ x))) W := fun W => sum_bs T x (by omega) W
        have hT2 : Hid (T ++ x = wj (ws.take (k + 1))) := Lib.hid (by rw [HT.out, TK.out, ht0]; simp [wj, wjF])
        clear hln hTl h0 ht0 e0'
        go_wp2_with fail
        exact ⟨⟨by first | trivial | rfl, k + 1, T ++ x, HLT.out, by go_num, by first | rfl | trivial, hT2⟩, by have := HLT.out; simp [intOf]; omega⟩
      · have e0 : 0 < k := by omega
        have hs1 : ∀ W, (Op.stringOp .add (bs T) ⟨#[32]⟩).run Tryz.prog W = .ok (.string (bs (T ++ [32]))) W := fun W => sum_bs T [32] (by rw [List.length_singleton]; omega) W
        have hs2 : ∀ W, (Op.stringOp .add (bs (T ++ [32])) (bs x)).run Tryz.prog W = .ok (.string (bs (T ++ [32] ++ x))) W := fun W => sum_bs (T ++ [32]) x (by rw [List.length_append, List.length_singleton]; omega) W
        have hT2 : Hid (T ++ [32] ++ x = wj (ws.take (k + 1))) := Lib.hid (by
          rw [TK.out, wj_snoc (by intro h; have h2 := congrArg List.length h; have := HLT.out; have := H3.out; rw [List.length_take, List.length_nil] at h2; omega), HT.out]
          simp)
        generalize T ++ [32] ++ x = T2 at *
        generalize T ++ [32] = T1 at *
        clear hln hTl
        go_wp2_with fail
        exact ⟨⟨by first | trivial | rfl, k + 1, T2, HLT.out, by go_num, by first | rfl | trivial, hT2⟩, by have := HLT.out; simp [intOf]; omega⟩
    · have hkN : k = N := by omega
      have hTw : T = wj ws := by rw [HT.out, List.take_of_length_le (by rw [H3.out]; omega)]
      have nb : ¬ (k : Int) < (N : Int) := by omega
      have HTW := Lib.hid hTw
      clear hTw hkN HT
      go_wp2_with fail
      go_loopw [5, 7] (fun v i wr => wr = w ∧ ∃ (j : Nat) (S : List UInt8), j ≤ M ∧ i = .int .i64 (j : Int) ∧ v = .string (bs S) ∧ Hid (S = wj ws ++ njF (ns.take j))) (fun _ i _ => M - (intOf i).toNat)
      case atStart => exact ⟨rfl, 0, T, Nat.zero_le _, rfl, rfl, Lib.hid (by rw [HTW.out]; simp [njF])⟩
      case round =>
        obtain ⟨hwr, j, S, hj, rfl, rfl, HS⟩ := hrel
        have hwr := hwr.symm
        subst hwr
        by_cases hjl : j < M
        · obtain ⟨n, hnx⟩ : ∃ x, ns[j]? = some x := ⟨_, List.getElem?_eq_getElem (by rw [H4.out]; exact hjl)⟩
          obtain ⟨g, off, hA, hg, p0⟩ := H2.out j (n : Int) (by rw [List.getElem?_map, hnx]; rfl)
          subst hA
          have jb0 : (0 : Int) ≤ (j : Int) := by omega
          have jb1 : (j : Int) < (M : Int) := by omega
          have hc := rdecimal_any w n (HN.out n (List.mem_of_getElem? hnx))
          have hln : (wjF ws).length + (njF (ns.take (j + 1))).length ≤ 1000000000 := by have := njF_take ns (j + 1); have := HBD.out; omega
          rw [take_snoc' hnx, njF_snoc, List.length_append, List.length_cons] at hln
          have hSl : S.length ≤ (wjF ws).length + (njF (ns.take j)).length := by
            rw [HS.out, List.length_append]
            have := wj_len ws
            omega
          have hT2 : S ++ 32 :: Lib.decDigits n = wj ws ++ njF (ns.take (j + 1)) := by rw [take_snoc' hnx, njF_snoc, HS.out, List.append_assoc]
          generalize Lib.decDigits n = D at *
          have hs1 : ∀ W, (Op.stringOp .add ⟨#[32]⟩ (bs D)).run Tryz.prog W = .ok (.string (bs (32 :: D))) W := fun W => sum_bs [32] D (by rw [List.length_singleton]; omega) W
          have hs2 : ∀ W, (Op.stringOp .add (bs S) (bs (32 :: D))).run Tryz.prog W = .ok (.string (bs (S ++ 32 :: D))) W := fun W => sum_bs S (32 :: D) (by rw [List.length_cons]; omega) W
          have HT2 := Lib.hid hT2
          have HC := Lib.hid hc
          have HJL := Lib.hid hjl
          clear hln hSl hT2 hc hnx hjl
          generalize S ++ 32 :: D = S2 at *
          generalize 32 :: D = D2 at *
          go_wp2_with fail
          refine HC.out.mono ?_
          rintro e w2 ⟨rfl, rfl⟩
          go_wp2_with fail
          exact ⟨⟨by first | trivial | rfl, j + 1, S2, HJL.out, by go_num, by first | rfl | trivial, HT2⟩, by have := HJL.out; simp [intOf]; omega⟩
        · have nb2 : ¬ (j : Int) < (M : Int) := by omega
          have hSw : S = wj ws ++ njF ns := by rw [HS.out, List.take_of_length_le (by rw [H4.out]; omega)]
          have hs1 : ∀ W, (Op.stringOp .add (bs S) ⟨#[10]⟩).run Tryz.prog W = .ok (.string (bs (S ++ [10]))) W := fun W => sum_bs S [10] (by
            rw [List.length_singleton, hSw, List.length_append]
            have := wj_len ws
            have := HBD.out
            omega) W
          have hfin : S ++ [10] = wj ws ++ (njF ns ++ [10]) := by rw [hSw, List.append_assoc]
          have HF := Lib.hid hfin
          generalize S ++ [10] = S2 at *
          clear hSw hfin
          go_wp2_with fail
          go_ret
          exact ⟨by rw [HF.out]; rfl, rfl⟩
end Go.Proofs.YtgfahifdmacmhaaGreatDoor

namespace Go.Proofs.YtgfahifdmacmhaaGreatDoor
open Go.RowKit Go.Shelf

theorem letter_any (w : World) (c : UInt8) : Calls Tryz.prog 108 #[.int .u8 (c.toNat : Int)] w fun e w' => e = .returned (.bool (letB c)) ∧ w = w' := by
  have hl : letB c = (decide (97 ≤ c.toNat ∧ c.toNat ≤ 122) || decide (65 ≤ c.toNat ∧ c.toNat ≤ 90)) := rfl
  obtain ⟨r, hr⟩ : ∃ r, letB c = r := ⟨_, rfl⟩
  rw [hr]
  rw [hr] at hl
  have HL := Lib.hid hl
  clear hl hr
  have h255 := c.toNat_lt
  rcases (by omega : c.toNat < 65 ∨ (65 ≤ c.toNat ∧ c.toNat ≤ 90) ∨ (90 < c.toNat ∧ c.toNat < 97) ∨ (97 ≤ c.toNat ∧ c.toNat ≤ 122) ∨ 122 < c.toNat) with h | h | h | h | h <;> cases d90 : decide ((c.toNat : Int) ≤ 90) <;> cases d122 : decide ((c.toNat : Int) ≤ 122)
  all_goals try (exfalso; simp at d90 d122; omega)
  all_goals
    go_enter Tryz.func108, Tryz.ntmps108
    go_wp2
    go_ret
    exact ⟨by rw [HL.out]; simp; omega, rfl⟩

theorem digit_any (w : World) (c : UInt8) : Calls Tryz.prog 129 #[.int .u8 (c.toNat : Int)] w fun e w' => e = .returned (.bool (decide (48 ≤ c.toNat ∧ c.toNat ≤ 57))) ∧ w = w' := by
  obtain ⟨r, hr⟩ : ∃ r, decide (48 ≤ c.toNat ∧ c.toNat ≤ 57) = r := ⟨_, rfl⟩
  rw [hr]
  have HL := Lib.hid hr
  clear hr
  have h255 := c.toNat_lt
  rcases (by omega : c.toNat < 48 ∨ (48 ≤ c.toNat ∧ c.toNat ≤ 57) ∨ 57 < c.toNat) with h | h | h <;> cases d57 : decide ((c.toNat : Int) ≤ 57)
  all_goals try (exfalso; simp at d57; omega)
  all_goals
    go_enter Tryz.func129, Tryz.ntmps129
    go_wp2
    go_ret
    exact ⟨by rw [← HL.out]; simp; omega, rfl⟩

def wrdB (c : UInt8) : Bool := letB c || digB c
theorem word_any (w : World) (c : UInt8) : Calls Tryz.prog 107 #[.int .u8 (c.toNat : Int)] w fun e w' => e = .returned (.bool (wrdB c)) ∧ w = w' := by
  have hw : wrdB c = (letB c || (decide (48 ≤ c.toNat ∧ c.toNat ≤ 57) || decide (c.toNat = 95))) := rfl
  have h1 := fun W => letter_any W c
  have h2 := fun W => digit_any W c
  obtain ⟨r, hr⟩ : ∃ r, wrdB c = r := ⟨_, rfl⟩
  rw [hr]
  rw [hr] at hw
  clear hr
  generalize letB c = b1 at *
  generalize decide (48 ≤ c.toNat ∧ c.toNat ≤ 57) = b2 at *
  have H1 := Lib.hid h1
  have H2 := Lib.hid h2
  have HW := Lib.hid hw
  clear h1 h2 hw
  cases b1 with
  | true =>
    go_enter Tryz.func107, Tryz.ntmps107
    go_wp2_with fail
    refine (H1.out _).mono ?_
    rintro e w1 ⟨rfl, rfl⟩
    go_wp2
    go_ret
    exact ⟨by rw [HW.out]; rfl, rfl⟩
  | false =>
    cases b2 with
    | true =>
      go_enter Tryz.func107, Tryz.ntmps107
      go_wp2_with fail
      refine (H1.out _).mono ?_
      rintro e w1 ⟨rfl, rfl⟩
      go_wp2_with fail
      refine (H2.out _).mono ?_
      rintro e w1 ⟨rfl, rfl⟩
      go_wp2
      go_ret
      exact ⟨by rw [HW.out]; rfl, rfl⟩
    | false =>
      cases e95 : ((c.toNat : Int) == 95)
      all_goals
        go_enter Tryz.func107, Tryz.ntmps107
        go_wp2_with fail
        refine (H1.out _).mono ?_
        rintro e w1 ⟨rfl, rfl⟩
        go_wp2_with fail
        refine (H2.out _).mono ?_
        rintro e w1 ⟨rfl, rfl⟩
        go_wp2
        go_ret
        exact ⟨by rw [HW.out]; simp at e95; simp; omega, rfl⟩

theorem wrd_go : ∀ (l : List UInt8) (i : Nat), 0 < i → nmGo i l = l.all wrdB
  | [], _, _ => rfl
  | c :: l, i, h => by
    show (okAt i c && nmGo (i + 1) l) = (wrdB c && l.all wrdB)
    rw [wrd_go l (i + 1) (by omega)]
    unfold okAt wrdB
    rw [decide_eq_true h, Bool.true_and]
theorem nm_wrd (l : List UInt8) : nmB l = match l with
    | [] => false
    | c :: cs => letB c && (cs.all wrdB && decide ((c :: cs).length ≤ 24)) := by
  cases l with
  | nil => rfl
  | cons c cs =>
    show ((okAt 0 c && nmGo 1 cs) && (true && decide ((c :: cs).length ≤ 24))) = _
    rw [wrd_go cs 1 (by omega)]
    unfold okAt
    simp [Bool.and_assoc]
theorem wrd_no {l : List UInt8} {c : UInt8} (h : c ∈ l) (hc : wrdB c = false) : nmB l = false := by
  rw [nm_wrd]
  cases l with
  | nil => rfl
  | cons d cs =>
    simp only
    rcases List.mem_cons.1 h with rfl | h
    · unfold wrdB at hc
      rw [(Bool.or_eq_false_iff.1 hc).1]
      rfl
    · have : cs.all wrdB = false := by
        rw [List.all_eq_false]
        exact ⟨c, h, by rw [hc]; simp⟩
      rw [this]
      simp

set_option maxHeartbeats 1000000 in
theorem name_any (w : World) (s : ByteArray) (hs : s.size ≤ 9223372036854775807) : Calls Tryz.prog 90 #[.string s] w fun e w' => e = .returned (.bool (nmB s.data.toList)) ∧ w = w' := by
  have hsz : s.data.toList.length = s.size := rfl
  have HL := Lib.hid hsz
  obtain ⟨r, hr⟩ : ∃ r, r = nmB s.data.toList := ⟨_, rfl⟩
  rw [← hr]
  have HR := Lib.hid hr
  clear hsz hr
  go_enter Tryz.func90, Tryz.ntmps90
  go_wp2_with fail
  go_loop [3] (fun i => ∃ k : Nat, k ≤ s.size ∧ i = .int .i64 (k : Int) ∧ Hid ((s.data.toList.take k).all wrdB = true)) (fun i => s.size - (intOf i).toNat)
  case atStart => exact ⟨0, Nat.zero_le _, rfl, Lib.hid rfl⟩
  case round =>
    obtain ⟨k, hk, rfl, hn⟩ := hrel
    by_cases hlt : k < s.size
    · obtain ⟨c, hc⟩ : ∃ c, s.data.toList[k]? = some c := ⟨_, List.getElem?_eq_getElem (by rw [HL.out]; exact hlt)⟩
      have hget : s[k] = c := by
        obtain ⟨h1, h2⟩ := List.getElem?_eq_some_iff.1 hc
        rw [← h2]
        rfl
      have hwd := fun W => word_any W c
      have HC := Lib.hid hc
      clear hc
      cases hb : wrdB c with
      | true =>
        rw [hb] at hwd
        have hnx : (s.data.toList.take (k + 1)).all wrdB = true := by
          obtain ⟨h1, h2⟩ := List.getElem?_eq_some_iff.1 HC.out
          rw [List.take_succ_eq_append_getElem h1, h2, List.all_append, hn.out]
          simp [hb]
        have HX := Lib.hid hnx
        have HW := Lib.hid hwd
        clear hnx hb hwd
        go_wp2_with fail
        refine (HW.out _).mono ?_
        rintro e w1 ⟨rfl, rfl⟩
        go_wp2
        go_round
        case rel => exact ⟨k + 1, by omega, by go_num, HX⟩
        case measure => simp [intOf]; omega
      | false =>
        rw [hb] at hwd
        have hno := HR.out.trans (wrd_no (List.mem_of_getElem? HC.out) hb)
        have HE := Lib.hid hno
        have HW := Lib.hid hwd
        clear hno hb hwd
        go_wp2_with fail
        refine (HW.out _).mono ?_
        rintro e w1 ⟨rfl, rfl⟩
        go_wp2
        go_ret
        exact ⟨by rw [HE.out]; rfl, rfl⟩
    · obtain rfl : k = s.size := by omega
      have hall := hn.out
      rw [List.take_of_length_le (by rw [HL.out]; exact Nat.le_refl _)] at hall
      clear hn
      cases hcs : s.data.toList with
      | nil =>
        have hz : s.size = 0 := by rw [← HL.out, hcs]; rfl
        have hz2 : s.size ≤ 0 := by omega
        have HE : Hid (r = false) := Lib.hid (by rw [HR.out, hcs]; rfl)
        clear hz hall hcs
        have d0 : decide (0 < (s.size : Int)) = false := decide_eq_false (by omega)
        go_wp2
        go_ret
        exact ⟨by rw [HE.out]; rfl, rfl⟩
      | cons c cs =>
        have hz : 0 < s.size := by rw [← HL.out, hcs]; simp
        have hget : s[0] = c := by
          have h1 : s.data.toList[0]? = some c := by rw [hcs]; rfl
          obtain ⟨h1, h2⟩ := List.getElem?_eq_some_iff.1 h1
          rw [← h2]
          rfl
        have hle := fun W => letter_any W c
        have hrr : r = (letB c && decide ((s.size : Int) ≤ 24)) := by
          rw [HR.out, nm_wrd, hcs]
          rw [hcs] at hall
          have h2 : cs.all wrdB = true := by
            rw [List.all_cons, Bool.and_eq_true] at hall
            exact hall.2
          simp only
          rw [h2, Bool.true_and]
          congr 1
          rw [decide_eq_decide, ← HL.out, hcs]
          omega
        generalize letB c = b at *
        have HRR := Lib.hid hrr
        have HLE := Lib.hid hle
        clear hrr hle hall hcs
        by_cases h24 : s.size ≤ 24
        · have e24 : Hid (decide ((s.size : Int) ≤ 24) = true) := Lib.hid (decide_eq_true (by omega))
          go_wp2_with fail
          refine (HLE.out _).mono ?_
          rintro e w1 ⟨rfl, rfl⟩
          cases b
          all_goals
            go_wp2
            go_ret
            exact ⟨by rw [HRR.out, e24.out]; rfl, rfl⟩
        · have d24 : decide ((s.size : Int) ≤ 24) = false := decide_eq_false (by omega)
          go_wp2
          go_ret
          exact ⟨by rw [HRR.out, d24, Bool.and_false]; rfl, rfl⟩

theorem rStop_any (w : World) (a b : Int) : Calls Tryz.prog 97 #[.agg #[.int .i64 a, .int .i64 b]] w fun e w' => e = .returned (.bool (psB (a, b))) ∧ Below w.heap.size w w' := by
  have hb := (Below.refl w.heap.size w).alloc (Nat.le_refl _) (.cells #[.int .i64 a, .int .i64 b] 77)
  cases hp : psB (a, b) with
  | true =>
    obtain ⟨h0, h1, h2⟩ := psB_iff.1 hp
    simp only at h0 h1 h2
    clear hp
    go_enter Tryz.func97, Tryz.ntmps97
    go_wp2
    go_ret
    exact ⟨rfl, hb⟩
  | false =>
    have h : a < 0 ∨ (0 ≤ a ∧ b < a) ∨ (0 ≤ a ∧ a ≤ b ∧ 1000000 < b) := by
      simp [psB] at hp
      omega
    clear hp
    rcases h with h | ⟨h, h1⟩ | ⟨h, h1, h2⟩
    all_goals cases d6 : decide (b ≤ 1000000)
    all_goals cases d7 : decide (a ≤ b)
    all_goals try (exfalso; simp at d6 d7; omega)
    all_goals
      go_enter Tryz.func97, Tryz.ntmps97
      go_wp2
      go_ret
      exact ⟨rfl, hb⟩

theorem rTerm_any (w : World) (n u : Int) : Calls Tryz.prog 99 #[.agg #[.int .i64 n, .int .i64 u]] w fun e w' => e = .returned (.bool (ptB n u)) ∧ Below w.heap.size w w' := by
  have hb := (Below.refl w.heap.size w).alloc (Nat.le_refl _) (.cells #[.int .i64 n, .int .i64 u] 62)
  cases hp : ptB n u with
  | true =>
    obtain ⟨h0, h1, h2, h3⟩ := ptB_iff.1 hp
    clear hp
    go_enter Tryz.func99, Tryz.ntmps99
    go_wp2
    go_ret
    exact ⟨rfl, hb⟩
  | false =>
    have h : u < 1 ∨ (1 ≤ u ∧ 5 < u) ∨ (1 ≤ u ∧ u ≤ 5 ∧ n < 0) ∨ (1 ≤ u ∧ u ≤ 5 ∧ 0 ≤ n ∧ 1000000 < n) := by
      simp [ptB] at hp
      omega
    clear hp
    rcases h with h | ⟨h, h1⟩ | ⟨h, h1, h2⟩ | ⟨h, h1, h2, h3⟩
    all_goals cases d6 : decide (n ≤ 1000000)
    all_goals try (exfalso; simp at d6; omega)
    all_goals
      go_enter Tryz.func99, Tryz.ntmps99
      go_wp2
      go_ret
      exact ⟨rfl, hb⟩

theorem rIs_any (w : World) (n : Int) : Calls Tryz.prog 98 #[.int .i64 n] w fun e w' => e = .returned (.bool (isB n)) ∧ w = w' := by
  by_cases h0 : 0 ≤ n
  · by_cases h1 : n ≤ 1000000
    · rw [(isB_iff n).2 ⟨h0, h1⟩]
      go_enter Tryz.func98, Tryz.ntmps98
      go_wp2
      go_ret
      exact ⟨rfl, rfl⟩
    · rw [isB_no (.inr (by omega))]
      go_enter Tryz.func98, Tryz.ntmps98
      go_wp2
      go_ret
      exact ⟨rfl, rfl⟩
  · rw [isB_no (.inl (by omega))]
    go_enter Tryz.func98, Tryz.ntmps98
    go_wp2
    go_ret
    exact ⟨rfl, rfl⟩

theorem all_take {S : List Stp2} {p : Stp2 → Bool} {k : Nat} {s : Stp2} (h : S[k]? = some s) : (S.take (k + 1)).all p = ((S.take k).all p && p s) := by
  obtain ⟨hk, hs⟩ := List.getElem?_eq_some_iff.1 h
  rw [List.take_succ_eq_append_getElem hk, hs, List.all_append]
  simp
set_option maxHeartbeats 2000000 in
set_option maxRecDepth 100000 in
theorem rProper_any (w : World) (L : Lm) (B : Nat) (A : Option Addr) (c : Nat) (h : LmAt w B A L) (hB : B ≤ w.heap.size) :
    Calls Tryz.prog 81 #[.agg (L.cells A c)] w fun e w' => e = .returned (.bool (prB L)) ∧ Below w.heap.size w w' := by
  obtain ⟨hs, hid, hsl⟩ := h
  obtain ⟨id, n, u, f, S⟩ := L
  show Calls Tryz.prog 81 #[.agg #[.string id, .int .i64 n, .int .i64 u, .int .i64 f, .slice A S.length c]] w _
  have hr : prB ⟨id, n, u, f, S⟩ = (nmB id.data.toList && isB f && ptB n u && decide (S.length ≤ 60) && S.all psB) := rfl
  obtain ⟨r, hrr⟩ : ∃ r, prB ⟨id, n, u, f, S⟩ = r := ⟨_, rfl⟩
  rw [hrr] at hr ⊢
  clear hrr
  have hb := (Below.refl w.heap.size w).alloc (Nat.le_refl _) (.cells #[.string id, .int .i64 n, .int .i64 u, .int .i64 f, .slice A S.length c] 65)
  have k0 := Blk.new w 65 #[.string id, .int .i64 n, .int .i64 u, .int .i64 f, .slice A S.length c]
  simp only at hid hsl hs
  have h1 := fun W => name_any W id hid
  have h2 := fun W => rIs_any W f
  have h3 := fun W => rTerm_any W n u
  have HS := Lib.hid hs
  have HR := Lib.hid hr
  clear hs hr
  go_enter Tryz.func81, Tryz.ntmps81
  go_wp2_with fail
  go_loopw [3] (fun i wr => ∃ k : Nat, k ≤ S.length ∧ i = .int .i64 (k : Int) ∧ Hid ((S.take k).all psB = true) ∧ Blk wr w.heap.size 65 #[.string id, .int .i64 n, .int .i64 u, .int .i64 f, .slice A S.length c] ∧ Below w.heap.size w wr) (fun i _ => S.length - (intOf i).toNat)
  case atStart => exact ⟨0, Nat.zero_le _, rfl, Lib.hid rfl, k0, hb⟩
  case round =>
    clear k0 hb
    obtain ⟨k, hk, rfl, hall, k0, hb⟩ := hrel
    obtain ⟨t0, t1, -⟩ := k0.all
    by_cases hlt : k < S.length
    · obtain ⟨s, hss⟩ : ∃ s, S[k]? = some s := ⟨_, List.getElem?_eq_getElem hlt⟩
      obtain ⟨gb, off, hA, hg, e0, e1⟩ := (HS.out.below (hb.mono hB)) k s hss
      subst hA
      have hat := all_take (p := psB) hss
      rw [hall.out, Bool.true_and] at hat
      have hmem := List.mem_of_getElem? hss
      clear hss
      obtain ⟨a, b⟩ := s
      simp only at e0 e1
      have hst := fun W => rStop_any W a b
      cases hp : psB (a, b) with
      | true =>
        rw [hp] at hat hst
        have HAT := Lib.hid hat
        have HST := Lib.hid hst
        clear hat hst hp hmem h1 h2 h3
        go_wp2_with fail
        refine (HST.out _).mono ?_
        rintro e w1 ⟨rfl, b1⟩
        have k1 := k0.below b1 k0.lt
        replace hb := hb.trans (b1.mono hb.size)
        clear b1 k0 t0 t1 e0 e1
        go_wp2
        go_roundw
        case rel => exact ⟨k + 1, by omega, by go_num, HAT, k1, hb⟩
        case measure => simp [intOf]; omega
      | false =>
        have hno : r = false := by
          rw [HR.out]
          have : S.all psB = false := by rw [List.all_eq_false]; exact ⟨_, hmem, by rw [hp]; simp⟩
          rw [this, Bool.and_false]
        rw [hp] at hst
        have HNO := Lib.hid hno
        have HST := Lib.hid hst
        clear hat hst hp hmem hno h1 h2 h3
        go_wp2_with fail
        refine (HST.out _).mono ?_
        rintro e w1 ⟨rfl, b1⟩
        replace hb := hb.trans (b1.mono hb.size)
        clear b1 k0 t0 t1 e0 e1
        go_wp2
        go_ret
        exact ⟨by rw [HNO.out]; rfl, hb⟩
    · obtain rfl : k = S.length := by omega
      have hal := hall.out
      rw [List.take_length] at hal
      have hrr := HR.out
      rw [hal, Bool.and_true] at hrr
      have HRR := Lib.hid hrr
      generalize nmB id.data.toList = b1 at *
      generalize isB f = b2 at *
      generalize ptB n u = b3 at *
      have H1 := Lib.hid h1
      have H2 := Lib.hid h2
      have H3 := Lib.hid h3
      clear hrr hal hall HR h1 h2 h3
      cases b1 with
      | false =>
        go_wp2_with fail
        refine (H1.out _).mono ?_
        rintro e w1 ⟨rfl, rfl⟩
        go_wp2
        go_ret
        exact ⟨by rw [HRR.out]; rfl, hb⟩
      | true =>
        cases b2 with
        | false =>
          go_wp2_with fail
          refine (H1.out _).mono ?_
          rintro e w1 ⟨rfl, rfl⟩
          go_wp2_with fail
          refine (H2.out _).mono ?_
          rintro e w1 ⟨rfl, rfl⟩
          go_wp2
          go_ret
          exact ⟨by rw [HRR.out]; rfl, hb⟩
        | true =>
          cases b3 with
          | false =>
            go_wp2_with fail
            refine (H1.out _).mono ?_
            rintro e w1 ⟨rfl, rfl⟩
            go_wp2_with fail
            refine (H2.out _).mono ?_
            rintro e w1 ⟨rfl, rfl⟩
            go_wp2_with fail
            refine (H3.out _).mono ?_
            rintro e w1 ⟨rfl, b⟩
            replace hb := hb.trans (b.mono hb.size)
            clear b t0 t1
            go_wp2
            go_ret
            exact ⟨by rw [HRR.out]; rfl, hb⟩
          | true =>
            cases h60 : decide (S.length ≤ 60)
            all_goals
              have hrr := HRR.out
              rw [h60] at hrr
              have HE := Lib.hid hrr
              clear hrr HRR
              have h60' : decide ((S.length : Int) ≤ 60) = decide (S.length ≤ 60) := by rw [decide_eq_decide]; omega
              rw [h60] at h60'
              clear h60
              go_wp2_with fail
              refine (H1.out _).mono ?_
              rintro e w1 ⟨rfl, rfl⟩
              go_wp2_with fail
              refine (H2.out _).mono ?_
              rintro e w1 ⟨rfl, rfl⟩
              go_wp2_with fail
              refine (H3.out _).mono ?_
              rintro e w1 ⟨rfl, b⟩
              have k1 := k0.below b k0.lt
              replace hb := hb.trans (b.mono hb.size)
              clear b t0 t1 k0
              obtain ⟨t0, t1, -⟩ := k1.all
              go_wp2
              go_ret
              exact ⟨by rw [HE.out]; rfl, hb⟩
end Go.Proofs.YtgfahifdmacmhaaGreatDoor

namespace Go.Proofs.YtgfahifdmacmhaaGreatDoor
open Go.RowKit Go.Shelf

set_option maxHeartbeats 1000000 in
theorem rname07_any (w : World) (s : ByteArray) (hs : s.size ≤ 9223372036854775807) : Calls Tryz.prog 58 #[.string s] w fun e w' => e = .returned (.bool (nmB s.data.toList)) ∧ w = w' := by
  have hsz : s.data.toList.length = s.size := rfl
  have HL := Lib.hid hsz
  clear hsz
  obtain ⟨r, hr⟩ : ∃ r, r = nmB s.data.toList := ⟨_, rfl⟩
  rw [← hr]
  have HR := Lib.hid hr
  clear hr
  go_enter Tryz.func58, Tryz.ntmps58
  go_wp2_with fail
  go_loop [3] (fun i => ∃ k : Nat, k ≤ s.size ∧ i = .int .i64 (k : Int) ∧ Hid (nmGo 0 (s.data.toList.take k) = true)) (fun i => s.size - (intOf i).toNat)
  case atStart => exact ⟨0, Nat.zero_le _, rfl, Lib.hid rfl⟩
  case round =>
    obtain ⟨k, hk, rfl, hn⟩ := hrel
    by_cases hlt : k < s.size
    · obtain ⟨c, hc⟩ : ∃ c, s.data.toList[k]? = some c := ⟨_, List.getElem?_eq_getElem (by rw [HL.out]; exact hlt)⟩
      have hget : s[k] = c := by
        obtain ⟨h1, h2⟩ := List.getElem?_eq_some_iff.1 hc
        rw [← h2]
        rfl
      have HC := Lib.hid hc
      clear hc
      have h255 := c.toNat_lt
      have hcl : (c.toNat ≤ 47 ∨ (58 ≤ c.toNat ∧ c.toNat ≤ 64) ∨ (91 ≤ c.toNat ∧ c.toNat ≤ 94) ∨ c.toNat = 96 ∨ 123 ≤ c.toNat) ∨ ((48 ≤ c.toNat ∧ c.toNat ≤ 57) ∨ c.toNat = 95) ∨ (65 ≤ c.toNat ∧ c.toNat ≤ 90) ∨ (97 ≤ c.toNat ∧ c.toNat ≤ 122) := by omega
      rcases hcl with hcl | hcl | hcl
      · have hok : okAt k c = false := by simp [okAt, letB, digB]; omega
        have e95 : ((c.toNat : Int) == 95) = false := by simp; omega
        have n95 : ((c.toNat : Int) != 95) = true := by simp; omega
        have hno := nmGo_no HC.out hok
        have e : nmB s.data.toList = false := by unfold nmB; rw [hno]; rfl
        have HE := Lib.hid (HR.out.trans e)
        clear e hno hok HC
        have hk0 : ((k : Int) == 0) = true ∨ ((k : Int) == 0) = false := by cases ((k : Int) == 0) <;> simp
        rcases hk0 with e0 | e0 <;> rcases hcl with h | h | h | h | h <;> cases d57 : decide ((c.toNat : Int) ≤ 57) <;> cases d90 : decide ((c.toNat : Int) ≤ 90) <;> cases d122 : decide ((c.toNat : Int) ≤ 122)
        all_goals first
          | (exfalso; simp at d57 d90 d122; omega)
          | (go_wp2; go_ret; exact ⟨by rw [HE.out]; rfl, rfl⟩)
      · cases h0 : decide (0 < k) with
        | false =>
          have hk0 : k = 0 := by simpa using h0
          have hok : okAt k c = false := by
            subst hk0
            simp [okAt, letB, digB]; omega
          have e0 : ((k : Int) == 0) = true := by simpa using hk0
          have hno := nmGo_no HC.out hok
          have e : nmB s.data.toList = false := by unfold nmB; rw [hno]; rfl
          have HE := Lib.hid (HR.out.trans e)
          clear e hno hok HC hk0 h0
          rcases hcl with h | h
          · cases e95 : ((c.toNat : Int) == 95) with
            | true => exfalso; simp at e95; omega
            | false =>
              go_wp2
              go_ret
              exact ⟨by rw [HE.out]; rfl, rfl⟩
          · have e95 : ((c.toNat : Int) == 95) = true := by simp; omega
            go_wp2
            go_ret
            exact ⟨by rw [HE.out]; rfl, rfl⟩
        | true =>
          have hk0 : 0 < k := by simpa using h0
          have hok : okAt k c = true := by
            simp [okAt, letB, digB]; omega
          have e0 : ((k : Int) == 0) = false := by simp; omega
          have hnx : nmGo 0 (s.data.toList.take (k + 1)) = true := by rw [nmGo_at HC.out, hn.out, hok]; rfl
          have HX := Lib.hid hnx
          clear hnx hok h0
          rcases hcl with h | h
          · have d57 : decide ((c.toNat : Int) ≤ 57) = true := by simp; omega
            go_wp2
            go_round
            case rel => exact ⟨k + 1, by omega, by go_num, HX⟩
            case measure => simp [intOf]; omega
          · have e95 : ((c.toNat : Int) == 95) = true := by simp; omega
            go_wp2
            go_round
            case rel => exact ⟨k + 1, by omega, by go_num, HX⟩
            case measure => simp [intOf]; omega
      · have hok : okAt k c = true := by simp [okAt, letB, digB]; omega
        have e95 : ((c.toNat : Int) == 95) = false := by simp; omega
        have n95 : ((c.toNat : Int) != 95) = true := by simp; omega
        have hnx : nmGo 0 (s.data.toList.take (k + 1)) = true := by rw [nmGo_at HC.out, hn.out, hok]; rfl
        have HX := Lib.hid hnx
        clear hnx hok
        rcases hcl with h | h <;> cases d57 : decide ((c.toNat : Int) ≤ 57) <;> cases d90 : decide ((c.toNat : Int) ≤ 90) <;> cases d122 : decide ((c.toNat : Int) ≤ 122)
        all_goals try (exfalso; simp at d57 d90 d122; omega)
        all_goals
          go_wp2
          go_round
          case rel => exact ⟨k + 1, by omega, by go_num, HX⟩
          case measure => simp [intOf]; omega
    · obtain rfl : k = s.size := by omega
      have hn2 : nmGo 0 s.data.toList = true := by have := hn.out; rwa [List.take_of_length_le (by rw [HL.out]; exact Nat.le_refl _)] at this
      have hie : s.data.toList.isEmpty = decide (s.size = 0) := by
        rw [← HL.out]
        cases s.data.toList with
        | nil => rfl
        | cons c cs => simp
      have e : r = (decide (0 < s.size) && decide (s.size ≤ 24)) := by
        rw [HR.out]
        unfold nmB
        rw [hn2, Bool.true_and, HL.out, hie]
        have hz : (!decide (s.size = 0)) = decide (0 < s.size) := by
          by_cases h : s.size = 0
          · rw [decide_eq_true h, decide_eq_false (by omega)]; rfl
          · rw [decide_eq_false h, decide_eq_true (by omega)]; rfl
        rw [hz]
      have HE := Lib.hid e
      clear e hie hn2 hn HR
      by_cases h0 : 0 < s.size
      · have e0 : decide (0 < (s.size : Int)) = true := decide_eq_true (by omega)
        by_cases h24 : s.size ≤ 24
        · have e24 : decide ((s.size : Int) ≤ 24) = true := decide_eq_true (by omega)
          have hr : r = true := by rw [HE.out, decide_eq_true h0, decide_eq_true h24]; rfl
          have HRR := Lib.hid hr
          clear hr
          go_wp2
          go_ret
          exact ⟨by rw [HRR.out]; first | done | rfl | simp [e24], rfl⟩
        · have e24 : decide ((s.size : Int) ≤ 24) = false := decide_eq_false (by omega)
          have hr : r = false := by rw [HE.out, decide_eq_true h0, decide_eq_false h24]; rfl
          have HRR := Lib.hid hr
          clear hr
          go_wp2
          go_ret
          exact ⟨by rw [HRR.out]; first | done | rfl | simp [e24], rfl⟩
      · have e0 : decide (0 < (s.size : Int)) = false := decide_eq_false (by omega)
        have hr : r = false := by rw [HE.out, decide_eq_false h0]; rfl
        have HRR := Lib.hid hr
        clear hr
        go_wp2
        go_ret
        exact ⟨by rw [HRR.out]; first | done | rfl, rfl⟩

theorem rDay_any (w : World) (n : Int) : Calls Tryz.prog 57 #[.int .i64 n] w fun e w' => e = .returned (.bool (isB n)) ∧ w = w' := by
  by_cases h0 : 0 ≤ n
  · by_cases h1 : n ≤ 1000000
    · rw [(isB_iff n).2 ⟨h0, h1⟩]
      go_enter Tryz.func57, Tryz.ntmps57
      go_wp2
      go_ret
      exact ⟨rfl, rfl⟩
    · rw [isB_no (.inr (by omega))]
      go_enter Tryz.func57, Tryz.ntmps57
      go_wp2
      go_ret
      exact ⟨rfl, rfl⟩
  · rw [isB_no (.inl (by omega))]
    go_enter Tryz.func57, Tryz.ntmps57
    go_wp2
    go_ret
    exact ⟨rfl, rfl⟩

theorem mem_take_snoc {α : Type} [DecidableEq α] {l : List α} {k : Nat} {x y : α} (h : l[k]? = some x) : y ∈ l.take (k + 1) ↔ y ∈ l.take k ∨ y = x := by
  rw [take_snoc' h]; simp

set_option maxRecDepth 100000 in
set_option maxHeartbeats 2000000 in
theorem rright_any (w : World) (B : Nat) (A : Option Addr) (l : List Rt) (c : Nat) (h : RtsAt w B A l) (hl : l.length ≤ 4611686018427387904) (n : ByteArray) (q : Bool) (hq : q = true ↔ n ∈ l.map (·.1)) :
    Calls Tryz.prog 59 #[.slice A l.length c, .string n] w fun e w' => e = .returned (.bool q) ∧ w = w' := by
  have HH := Lib.hid h
  have HQ := Lib.hid hq
  obtain ⟨N, hN⟩ : ∃ N, l.length = N := ⟨_, rfl⟩
  have HN := Lib.hid hN
  rw [hN] at hl ⊢
  clear h hq hN
  go_enter Tryz.func59, Tryz.ntmps59
  go_wp2_with fail
  go_loop [5] (fun i => ∃ k : Nat, k ≤ N ∧ i = .int .i64 (k : Int) ∧ Hid (n ∉ (l.take k).map (·.1))) (fun i => N - (intOf i).toNat)
  case atStart => exact ⟨0, Nat.zero_le _, rfl, Lib.hid (by simp)⟩
  case round =>
    obtain ⟨k, hk, rfl, HT⟩ := hrel
    by_cases hlt : k < N
    · obtain ⟨x, hx⟩ : ∃ x, l[k]? = some x := ⟨_, List.getElem?_eq_getElem (by rw [HN.out]; exact hlt)⟩
      obtain ⟨g, off, hA, hg, c0, c1⟩ := HH.out k x hx
      subst hA
      have ib0 : (0 : Int) ≤ (k : Int) := by omega
      have ib1 : (k : Int) < (N : Int) := by omega
      have HX := Lib.hid hx
      clear hx
      obtain ⟨a, d⟩ := x
      simp only at c0 c1
      by_cases hxn : a = n
      · obtain rfl : q = true := HQ.out.2 (List.mem_map.2 ⟨(a, d), List.mem_of_getElem? HX.out, hxn⟩)
        subst hxn
        clear c1
        go_wp2_with fail
        go_ret
        exact ⟨rfl, rfl⟩
      · have HT2 : Hid (n ∉ (l.take (k + 1)).map (·.1)) := Lib.hid (by
          rw [take_snoc' HX.out, List.map_append, List.mem_append]
          rintro (h | h)
          · exact HT.out h
          · simp at h; exact hxn h.symm)
        have e3 := str_no hxn
        clear hxn c1
        go_wp2_with fail
        go_round
        case rel => exact ⟨k + 1, by omega, by go_num, HT2⟩
        case measure => simp [intOf]; omega
    · obtain rfl : k = N := by omega
      have hno : n ∉ l.map (·.1) := by
        have := HT.out
        rwa [List.take_of_length_le (by rw [HN.out]; exact Nat.le_refl _)] at this
      obtain rfl : q = false := by
        cases q with
        | false => rfl
        | true => exact absurd (HQ.out.1 rfl) hno
      clear hno
      go_wp2
      go_ret
      exact ⟨rfl, rfl⟩

set_option maxRecDepth 100000 in
set_option maxHeartbeats 2000000 in
theorem rin_any (w : World) (B : Nat) (A : Option Addr) (l : List ByteArray) (c : Nat) (h : BtsAt w B A l) (hl : l.length ≤ 4611686018427387904) (n : ByteArray) (q : Bool) (hq : q = true ↔ n ∈ l) :
    Calls Tryz.prog 65 #[.slice A l.length c, .string n] w fun e w' => e = .returned (.bool q) ∧ w = w' := by
  have HH := Lib.hid h
  have HQ := Lib.hid hq
  obtain ⟨N, hN⟩ : ∃ N, l.length = N := ⟨_, rfl⟩
  have HN := Lib.hid hN
  rw [hN] at hl ⊢
  clear h hq hN
  go_enter Tryz.func65, Tryz.ntmps65
  go_wp2_with fail
  go_loop [5] (fun i => ∃ k : Nat, k ≤ N ∧ i = .int .i64 (k : Int) ∧ Hid (n ∉ l.take k)) (fun i => N - (intOf i).toNat)
  case atStart => exact ⟨0, Nat.zero_le _, rfl, Lib.hid (by simp)⟩
  case round =>
    obtain ⟨k, hk, rfl, HT⟩ := hrel
    by_cases hlt : k < N
    · obtain ⟨x, hx⟩ : ∃ x, l[k]? = some x := ⟨_, List.getElem?_eq_getElem (by rw [HN.out]; exact hlt)⟩
      obtain ⟨g, off, hA, hg, c0⟩ := HH.out k x hx
      subst hA
      have ib0 : (0 : Int) ≤ (k : Int) := by omega
      have ib1 : (k : Int) < (N : Int) := by omega
      have HX := Lib.hid hx
      clear hx
      by_cases hxn : x = n
      · obtain rfl : q = true := HQ.out.2 (by rw [← hxn]; exact List.mem_of_getElem? HX.out)
        subst hxn
        go_wp2_with fail
        go_ret
        exact ⟨rfl, rfl⟩
      · have HT2 : Hid (n ∉ l.take (k + 1)) := Lib.hid (by
          rw [take_snoc' HX.out, List.mem_append]
          rintro (h | h)
          · exact HT.out h
          · simp at h; exact hxn h.symm)
        have e3 := str_no hxn
        clear hxn
        go_wp2_with fail
        go_round
        case rel => exact ⟨k + 1, by omega, by go_num, HT2⟩
        case measure => simp [intOf]; omega
    · obtain rfl : k = N := by omega
      have hno : n ∉ l := by
        have := HT.out
        rwa [List.take_of_length_le (by rw [HN.out]; exact Nat.le_refl _)] at this
      obtain rfl : q = false := by
        cases q with
        | false => rfl
        | true => exact absurd (HQ.out.1 rfl) hno
      clear hno
      go_wp2
      go_ret
      exact ⟨rfl, rfl⟩
end Go.Proofs.YtgfahifdmacmhaaGreatDoor
