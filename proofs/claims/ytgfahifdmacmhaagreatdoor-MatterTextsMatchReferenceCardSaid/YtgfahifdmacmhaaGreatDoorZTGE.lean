/- The reference's number. The reference's Decimal. The reference's numbers. The reference's line. The reference's names, stops, terms, Is; Proper of a limit. The reference's Name, Day, right, In. The reference's words; what it reads loosely (plain): it accepts just what the package's Parse accepts. The reference's words: lines of words, in memory of the call's own. -/
import Derived.Test.YtgfahifdmacmhaaGreatDoorZTGA
import Derived.Lib.BufSteps
import Derived.Deep.LoopGhost
import Derived.Test.YtgfahifdmacmhaaGreatDoorQq
namespace Go.Proofs.YtgfahifdmacmhaaGreatDoor
open Go.RowKit Go.Shelf

def numR (s : List UInt8) : Int := if 0 < s.length ∧ s.length ≤ 7 then (match Lib.decFrom 0 s with | some n => (n : Int) | none => -1) else -1
theorem digit_cases (b : UInt8) : (48 ≤ b.toNat ∧ b.toNat ≤ 57 ∧ Lib.digitVal b = some (b.toNat - 48)) ∨ ((b.toNat < 48 ∨ 57 < b.toNat) ∧ Lib.digitVal b = none) := by
  unfold Lib.digitVal
  by_cases h : 48 ≤ b.toNat ∧ b.toNat ≤ 57
  · exact .inl ⟨h.1, h.2, if_pos h⟩
  · exact .inr ⟨by omega, if_neg h⟩
set_option maxRecDepth 100000 in
set_option maxHeartbeats 2000000 in
theorem rnum31_any (w : World) (s : List UInt8) (hs : s.length ≤ 9223372036854775807) : Calls Tryz.prog 46 #[.string (bs s)] w fun e w' => e = .returned (.int .i64 (numR s)) ∧ w = w' := by
  have hsz := bs_size s
  obtain ⟨R, hR⟩ : ∃ R, numR s = R := ⟨_, rfl⟩
  rw [hR]
  have HR := Lib.hid hR
  clear hR
  go_enter Tryz.func46, Tryz.ntmps46
  go_wp2_with fail
  go_loopw [3, 4] (fun n v wr => wr = w ∧ ∃ k m : Nat, k ≤ s.length ∧ v = .int .i64 (k : Int) ∧ n = .int .i64 (m : Int) ∧ m < 10 ^ k ∧ Hid (0 < k → s.length ≤ 7) ∧ Hid (Lib.decFrom 0 (s.take k) = some m)) (fun _ v _ => s.length - (intOf v).toNat)
  case atStart => exact ⟨rfl, 0, 0, Nat.zero_le _, rfl, rfl, by decide, Lib.hid (by omega), Lib.hid rfl⟩
  case round =>
    obtain ⟨hwr, k, m, hk, rfl, rfl, hm, HK7, HK⟩ := hrel
    have hwr := hwr.symm
    subst hwr
    by_cases hlt : k < s.length
    · obtain ⟨b, hb⟩ : ∃ b, s[k]? = some b := ⟨_, List.getElem?_eq_getElem hlt⟩
      have hin3 : k < (bs s).size := by rw [bs_size]; exact hlt
      have hget : (bs s)[k] = b := by
        obtain ⟨h1, h2⟩ := List.getElem?_eq_some_iff.1 hb
        rw [← h2]
        rfl
      have hki : (k : Int) < (s.length : Int) := by omega
      have hb255 := b.toNat_lt
      rcases digit_cases b with ⟨d1, d2, d3⟩ | ⟨d1, d2⟩
      · have e1 : decide ((b.toNat : Int) < 48) = false := decide_eq_false (by omega)
        have e2 : decide (57 < (b.toNat : Int)) = false := decide_eq_false (by omega)
        by_cases h7 : 7 < s.length
        · have e3 : decide ((7 : Int) < (s.length : Int)) = true := decide_eq_true (by omega)
          have hfin : R = -1 := by
            rw [← HR.out]
            unfold numR
            rw [if_neg (by omega)]
          subst hfin
          clear HR HK hb d1 d2 d3 hm
          go_wp2_with fail
          go_ret
          exact ⟨rfl, rfl⟩
        have e3 : decide ((7 : Int) < (s.length : Int)) = false := decide_eq_false (by omega)
        have hp8 : 10 ^ k ≤ 10 ^ 8 := Nat.pow_le_pow_right (by decide) (by omega)
        have hp8' : (10 : Nat) ^ 8 = 100000000 := rfl
        have HS7 : Hid (0 < k + 1 → s.length ≤ 7) := Lib.hid (fun _ => by omega)
        have hst := Lib.decFrom_take s k 0 m b _ HK.out hb d3
        have hmb : m * 10 + (b.toNat - 48) < 10 ^ (k + 1) := by rw [Nat.pow_succ]; omega
        have HST := Lib.hid hst
        have HMB := Lib.hid hmb
        have HLT := Lib.hid hlt
        have hm8 : m < 100000000 := by omega
        obtain ⟨d, hd⟩ : ∃ d, b.toNat = 48 + d := ⟨b.toNat - 48, by omega⟩
        have hd9 : d ≤ 9 := by omega
        rw [show b.toNat - 48 = d by omega] at HST HMB
        have w1 : IntKind.u8.wrap ((b.toNat : Int) - 48) = (d : Int) := by rw [hd]; rw [show ((48 + d : Nat) : Int) - 48 = (d : Int) by omega]; exact IntWalk.u8_in _ (by omega)
        have w2 : IntKind.i64.wrap (10 * (m : Int)) = 10 * (m : Int) := IntWalk.i64_in _ (by omega)
        have w3 : IntKind.i64.wrap (10 * (m : Int) + (d : Int)) = 10 * (m : Int) + (d : Int) := IntWalk.i64_in _ (by omega)
        have w4 : IntKind.i64.wrap (d : Int) = (d : Int) := IntWalk.i64_in _ (by omega)
        clear hst hmb hb d1 d2 d3 hlt hd hp8 hp8' hm HK h7
        go_wp2_with fail
        exact ⟨⟨by first | trivial | rfl, k + 1, m * 10 + d, HLT.out, by go_num, by go_num, HMB.out, HS7, HST⟩, by have := HLT.out; simp [intOf]; omega⟩
      · have hfin : R = -1 := by
          rw [← HR.out]
          unfold numR
          split
          case isFalse => rfl
          cases hd : Lib.decFrom 0 s with
          | none => rfl
          | some n =>
            obtain ⟨d, e⟩ := Lib.digit_of_decFrom s 0 n hd k b hb
            rw [d2] at e
            cases e
        subst hfin
        clear HR HK hb d2 hm
        rcases d1 with d1 | d1
        · have e1 : decide ((b.toNat : Int) < 48) = true := decide_eq_true (by omega)
          go_wp2_with fail
          go_ret
          exact ⟨rfl, rfl⟩
        · have e1 : decide ((b.toNat : Int) < 48) = false := decide_eq_false (by omega)
          have e2 : decide (57 < (b.toNat : Int)) = true := decide_eq_true (by omega)
          go_wp2_with fail
          go_ret
          exact ⟨rfl, rfl⟩
    · obtain rfl : k = s.length := by omega
      have hki : ¬ (s.length : Int) < (s.length : Int) := by omega
      by_cases h0 : s.length = 0
      · have hfin : R = -1 := by
          rw [← HR.out]
          unfold numR
          rw [if_neg (by omega)]
        have e4 : ((s.length : Int) == 0) = true := by simp [h0]
        subst hfin
        clear HR HK hm h0
        go_wp2_with fail
        go_ret
        exact ⟨rfl, rfl⟩
      · have h7 : s.length ≤ 7 ∨ 7 < s.length := by omega
        have e4 : ((s.length : Int) == 0) = false := by simp; exact fun h => h0 (by simp [h])
        have hfin : R = (m : Int) := by
          rw [← HR.out]
          unfold numR
          have := HK.out
          rw [List.take_length] at this
          rw [if_pos ⟨by omega, HK7.out (by omega)⟩, this]
        subst hfin
        clear HR HK hm h0 h7
        go_wp2_with fail
        go_ret
        exact ⟨rfl, rfl⟩
end Go.Proofs.YtgfahifdmacmhaaGreatDoor

namespace Go.Proofs.YtgfahifdmacmhaaGreatDoor
open Go.RowKit Go.Shelf

def decO (m : Nat) : List UInt8 := if m = 0 then [] else Lib.decDigits m
theorem decO_step (n : Nat) : decO (n / 10) ++ [c8 (n % 10)] = Lib.decDigits n := by
  unfold decO
  by_cases h : n < 10
  · rw [if_pos (by omega), dec_ten h, show n % 10 = n by omega]; rfl
  · rw [if_neg (by omega), dec_more h]
theorem decO_pos {n : Nat} (h : 0 < n) : decO n = Lib.decDigits n := if_neg (by omega)
theorem dec_lenK : ∀ {w n : Nat}, n < 10 ^ (w + 1) → (Lib.decDigits n).length ≤ w + 1
  | 0, n, h => by
    have h : n < 10 := by simpa using h
    rw [dec_ten h]
    simp
  | w + 1, n, h => by
    by_cases h10 : n < 10
    · rw [dec_ten h10]
      simp
    · rw [Nat.pow_succ] at h
      have := dec_lenK (w := w) (n := n / 10) (by omega)
      rw [dec_more h10]
      simp
      omega
theorem dec_len20 {n : Nat} (h : n < 18446744073709551616) : (Lib.decDigits n).length ≤ 20 := dec_lenK (w := 19) (n := n) (Nat.lt_of_lt_of_le h (by decide))
theorem digU_slice (d : Nat) (h : d < 10) (W : World) : (Instr.slice 9 (.string ⟨#[48, 49, 50, 51, 52, 53, 54, 55, 56, 57]⟩) (some (.int .u64 (d : Int))) (some (.int .u64 ((d : Int) + 1))) none).run Tryz.prog W = .ok (.string (bs [c8 d])) W := by
  have e : ((d : Int) + 1) = ((d + 1 : Nat) : Int) := rfl
  have hs : ((⟨#[48, 49, 50, 51, 52, 53, 54, 55, 56, 57]⟩ : ByteArray).size : Int) = 10 := rfl
  rw [run_slice_string (P := Tryz.prog) (w := W) 9 _ .u64 .u64 (d : Int) ((d : Int) + 1) (by kernel_rfl) (by omega) (by omega) (by rw [hs]; omega)]
  congr 2
  rw [Int.toNat_natCast, e, Int.toNat_natCast]
  match d, h with
  | 0, _ => rfl
  | 1, _ => rfl
  | 2, _ => rfl
  | 3, _ => rfl
  | 4, _ => rfl
  | 5, _ => rfl
  | 6, _ => rfl
  | 7, _ => rfl
  | 8, _ => rfl
  | 9, _ => rfl
theorem bs_cons (b : UInt8) (t : List UInt8) : bs [b] ++ bs t = bs (b :: t) := by
  apply ByteArray.ext
  apply Array.ext'
  rw [ByteArray.data_append, Array.toList_append]
  rfl
theorem bs_appL (s t : List UInt8) : bs s ++ bs t = bs (s ++ t) := by
  apply ByteArray.ext
  apply Array.ext'
  rw [ByteArray.data_append, Array.toList_append]
  simp [bs]

set_option maxRecDepth 100000 in
set_option maxHeartbeats 4000000 in
theorem rdigits_any (w : World) (n : Nat) (hn : n < 18446744073709551616) : Calls Tryz.prog 82 #[.int .u64 (n : Int)] w fun e w' => e = .returned (.string (bs (Lib.decDigits n))) ∧ w = w' := by
  obtain ⟨D, hD⟩ : ∃ D, Lib.decDigits n = D := ⟨_, rfl⟩
  have hDl := dec_len20 hn
  have h0 := decO_step n
  rw [hD] at hDl h0 ⊢
  obtain ⟨d, hd⟩ : ∃ d, n % 10 = d := ⟨_, rfl⟩
  have hd10 : d < 10 := by omega
  obtain ⟨q, hq⟩ : ∃ q, n / 10 = q := ⟨_, rfl⟩
  have hmod2 : ((n : Nat) : Int).tmod 10 = (d : Int) := by rw [Int.tmod_eq_emod_of_nonneg (by omega)]; omega
  have hmod : ((n : Nat) : Int) % 10 = (d : Int) := by omega
  have hdiv : ((n : Nat) : Int).tdiv 10 = (q : Int) := by rw [Int.tdiv_eq_ediv_of_nonneg (by omega)]; omega
  have hdiv2 : ((n : Nat) : Int) / 10 = (q : Int) := by omega
  have sl := digU_slice d hd10
  rw [hd, hq] at h0
  have H0 := Lib.hid h0
  have hqn : q ≤ n := by omega
  clear hD h0 hd hq
  go_enter Tryz.func82, Tryz.ntmps82
  go_wp2_with fail
  go_loopw [0, 3] (fun v s wr => wr = w ∧ ∃ (m : Nat) (t : List UInt8), v = .int .u64 (m : Int) ∧ s = .string (bs t) ∧ m ≤ n ∧ Hid (decO m ++ t = D)) (fun v _ _ => (intOf v).toNat)
  case atStart => exact ⟨rfl, q, [c8 d], rfl, rfl, hqn, H0⟩
  case round =>
    clear H0 sl hmod hmod2 hdiv hdiv2 hqn
    obtain ⟨rfl, m, t, rfl, rfl, hmn, HK⟩ := hrel
    by_cases hlt : 0 < m
    · obtain ⟨d, hd⟩ : ∃ d, m % 10 = d := ⟨_, rfl⟩
      have hd10 : d < 10 := by omega
      obtain ⟨q, hq⟩ : ∃ q, m / 10 = q := ⟨_, rfl⟩
      have hmod : ((m : Nat) : Int) % 10 = (d : Int) := by omega
      have hmod2 : ((m : Nat) : Int).tmod 10 = (d : Int) := by rw [Int.tmod_eq_emod_of_nonneg (by omega)]; exact hmod
      have hdiv : ((m : Nat) : Int).tdiv 10 = (q : Int) := by rw [Int.tdiv_eq_ediv_of_nonneg (by omega)]; omega
      have hdiv2 : ((m : Nat) : Int) / 10 = (q : Int) := by omega
      have sl := digU_slice d hd10
      have hnx : decO q ++ c8 d :: t = D := by
        have h1 := HK.out
        rw [decO_pos hlt, ← decO_step m, hd, hq, List.append_assoc] at h1
        exact h1
      have htl : t.length ≤ 20 := by
        have h1 := congrArg List.length HK.out
        rw [List.length_append] at h1
        omega
      have hsum : ∀ W : World, (Op.stringOp .add (bs [c8 d]) (bs t)).run Tryz.prog W = .ok (.string (bs (c8 d :: t))) W := fun W => by
        have := run_string_add_sum (P := Tryz.prog) (w := W) (bs [c8 d]) (bs t) (by rw [bs_size, bs_size]; simp only [List.length_singleton]; omega)
        rw [bs_cons] at this
        exact this
      have hqm : q < m := by omega
      have HN := Lib.hid hnx
      clear hnx hd hq HK htl
      go_wp2_with fail
      go_roundw
      case rel => exact ⟨by first | trivial | rfl, q, c8 d :: t, by first | rfl | go_num, rfl, by omega, HN⟩
      case measure => simp [intOf]; omega
    · obtain rfl : m = 0 := by omega
      have hfin := HK.out
      rw [show decO 0 = [] from rfl, List.nil_append] at hfin
      subst hfin
      go_wp2
      go_ret
      exact ⟨rfl, rfl⟩
set_option maxRecDepth 100000 in
set_option maxHeartbeats 4000000 in
theorem rdecimal_any (w : World) (n : Nat) (hn : n ≤ 9223372036854775807) : Calls Tryz.prog 38 #[.int .i64 (n : Int)] w fun e w' => e = .returned (.string (bs (Lib.decDigits n))) ∧ w = w' := by
  have P := Lib.hid (rdigits_any w n (by omega))
  have h0 : ¬ ((n : Int) < 0) := by omega
  go_enter Tryz.func38, Tryz.ntmps38
  go_wp2_with fail
  refine P.out.mono ?_
  rintro e w1 ⟨rfl, rfl⟩
  go_wp2
  go_ret
  exact ⟨rfl, rfl⟩
end Go.Proofs.YtgfahifdmacmhaaGreatDoor

namespace Go.Proofs.YtgfahifdmacmhaaGreatDoor
open Go.RowKit Go.Shelf

set_option maxRecDepth 100000 in
set_option maxHeartbeats 1000000 in
theorem rnums_any (w : World) (B : Nat) (A0 : Option Addr) (l : List (List UInt8)) (c0 : Nat) (h : StrsAt w B A0 l) (hB : B ≤ w.heap.size) (hs : ∀ s ∈ l, s.length ≤ 9223372036854775807) (hll : l.length ≤ 1000001) :
    Calls Tryz.prog 47 #[.slice A0 l.length c0] w fun e w' => ∃ A c, e = .returned (.slice A l.length c) ∧ w'.ownsRow w.heap.size 3 1 (.slice A l.length c) l.length (intCells (l.map numR)) ∧ Below w.heap.size w w' := by
  obtain ⟨i0, hi0, hz0, hz1, hz2⟩ := info_parts Tryz.infoInt
  have HA := Lib.hid h
  have HS := Lib.hid hs
  have HBB := Lib.hid hB
  obtain ⟨N, hN⟩ : ∃ N, l.length = N := ⟨_, rfl⟩
  have HN := Lib.hid hN
  rw [hN] at hll ⊢
  clear h hs hN hB
  go_enter Tryz.func47, Tryz.ntmps47
  go_wp2_with fail
  go_loopg [3, 4] N (fun n v i wr => ∃ (k : Nat) (A : Option Addr) (c : Nat), k + n = N ∧ v = .slice A k c ∧ i = .int .i64 (k : Int) ∧ Hid (wr.ownsRow w.heap.size 3 1 (.slice A k c) k (intCells ((l.take k).map numR))) ∧ Hid (Below w.heap.size w wr))
  case atStart => exact ⟨0, none, 0, Nat.zero_add _, rfl, rfl, Lib.hid (World.ownsRow_nil _ _ _ _), Lib.hid (Below.refl _ _)⟩
  case round =>
    obtain ⟨k, A, c, hk, rfl, rfl, OW, HB⟩ := hrel
    by_cases hlt : k < N
    · obtain ⟨m, rfl⟩ : ∃ m, gk = m + 1 := ⟨gk - 1, by omega⟩
      obtain ⟨x, hx⟩ : ∃ x, l[k]? = some x := ⟨_, List.getElem?_eq_getElem (by rw [HN.out]; exact hlt)⟩
      have hst := HA.out.below (HB.out.mono HBB.out)
      obtain ⟨ga, oa, hA, hga, p0⟩ := hst k x hx
      subst hA
      have ib0 : (0 : Int) ≤ (k : Int) := by omega
      have ib1 : (k : Int) < (N : Int) := by omega
      have hnum := rnum31_any wr x (HS.out x (List.mem_of_getElem? hx))
      have tk := take_snoc' hx
      have TK := Lib.hid tk
      obtain ⟨X, hX⟩ : ∃ X, numR x = X := ⟨_, rfl⟩
      rw [hX] at hnum
      have HNUM := Lib.hid hnum
      have HX := Lib.hid hX
      clear hnum hx hX tk hst
      go_wp2_with fail
      refine HNUM.out.mono ?_
      rintro e w2 ⟨rfl, rfl⟩
      have kn := Blk.new wr 3 #[.int .i64 X]
      have own3 := OW.out.alloc (.cells #[.int .i64 X] 3)
      have o3 := HB.out.alloc HB.out.size (.cells #[.int .i64 X] 3)
      have hsz := o3.size
      have O3 := Lib.hid o3
      clear o3 HNUM p0
      go_wp2_with (at_builtin; refine wpList_append_lies _ rfl _ _ 22 rfl w.heap.size 3 i0 _ 1 8 Tryz.underlying22 hi0 hz0 hz1 hz2 rfl (by omega) (.slice A k c) k _ rfl own3 ⟨wr.heap.size, 0, none⟩ 1 1 [.int .i64 X] rfl rfl (World.news_of_block kn) (intCells_one [X]) (by omega) (by unfold maxLen; omega) (by omega) (by omega) _ rfl ?_; intro gz cz Y own4 gr4 l4 z4)
      have o4 := O3.out.grown gr4 O3.out.size (fun i hi => (World.ownsRow.lt own3 i hi).1)
      have OW4 := Lib.hid own4
      have O4 := Lib.hid o4
      clear o4 own4 own3 gr4 l4 kn
      go_wp2
      go_roundg m
      case rel => exact ⟨k + 1, _, _, by omega, rfl, by go_num, Lib.hid (by rw [TK.out, List.map_append, intCells_app, List.map_cons, List.map_nil, HX.out]; exact OW4.out), O4⟩
      case measure => omega
    · obtain rfl : gk = 0 := by omega
      obtain rfl : k = N := by omega
      have hown := OW.out
      rw [List.take_of_length_le (by rw [HN.out]; exact Nat.le_refl _)] at hown
      have OWN := Lib.hid hown
      have nb : ¬ (k : Int) < (k : Int) := by omega
      clear hown
      go_wp2
      go_ret
      exact ⟨A, c, rfl, OWN.out, HB.out⟩
end Go.Proofs.YtgfahifdmacmhaaGreatDoor

namespace Go.Proofs.YtgfahifdmacmhaaGreatDoor
open Go.RowKit Go.Shelf

def wjF (l : List (List UInt8)) : List UInt8 := (l.map (32 :: ·)).flatten
def wj (l : List (List UInt8)) : List UInt8 := (wjF l).drop 1
def njF (l : List Nat) : List UInt8 := (l.map fun n => 32 :: Lib.decDigits n).flatten
theorem wjF_snoc (l : List (List UInt8)) (x : List UInt8) : wjF (l ++ [x]) = wjF l ++ 32 :: x := by simp [wjF]
theorem njF_snoc (l : List Nat) (n : Nat) : njF (l ++ [n]) = njF l ++ 32 :: Lib.decDigits n := by simp [njF]
theorem wj_one (x : List UInt8) : wj [x] = x := by simp [wj, wjF]
theorem wj_snoc {l : List (List UInt8)} (h : l ≠ []) (x : List UInt8) : wj (l ++ [x]) = wj l ++ 32 :: x := by
  obtain ⟨y, r, rfl⟩ := List.exists_cons_of_ne_nil h
  simp [wj, wjF]
theorem wjF_take (l : List (List UInt8)) (k : Nat) : (wjF (l.take k)).length ≤ (wjF l).length := by
  have : wjF l = wjF (l.take k) ++ wjF (l.drop k) := by
    unfold wjF
    rw [← List.flatten_append, ← List.map_append, List.take_append_drop]
  rw [this, List.length_append]
  omega
theorem njF_take (l : List Nat) (k : Nat) : (njF (l.take k)).length ≤ (njF l).length := by
  have : njF l = njF (l.take k) ++ njF (l.drop k) := by
    unfold njF
    rw [← List.flatten_append, ← List.map_append, List.take_append_drop]
  rw [this, List.length_append]
  omega
theorem wj_len (l : List (List UInt8)) : (wj l).length ≤ (wjF l).length := by simp [wj]

set_option maxRecDepth 100000 in
set_option maxHeartbeats 2000000 in
theorem rline_any (w : World) (B : Nat) (A1 : Option Addr) (ws : List (List UInt8)) (c1 : Nat) (h1 : StrsAt w B A1 ws) (A2 : Option Addr) (ns : List Nat) (c2 : Nat) (h2 : IntsAt w B A2 (ns.map fun n : Nat => (n : Int))) (hn : ∀ n ∈ ns, n ≤ 9223372036854775807)
    (hb : (wjF ws).length + (njF ns).length ≤ 1000000000) (l1 : ws.length ≤ 1000000) (l2 : ns.length ≤ 1000000) :
    Calls Tryz.prog 37 #[.slice A1 ws.length c1, .slice A2 ns.length c2] w fun e w' => e = .returned (.string (bs (wj ws ++ (njF ns ++ [10])))) ∧ w = w' := by
  have H1 := Lib.hid h1
  have H2 := Lib.hid h2
  have HN := Lib.hid hn
  obtain ⟨N, hN⟩ : ∃ N, ws.length = N := ⟨_, rfl⟩
  obtain ⟨M, hM⟩ : ∃ M, ns.length = M := ⟨_, rfl⟩
  rw [hN] at l1 ⊢
  rw [hM] at l2 ⊢
  have H3 := Lib.hid hN
  have H4 := Lib.hid hM
  have HBD := Lib.hid hb
  clear h1 h2 hn hN hM hb
  go_enter Tryz.func37, Tryz.ntmps37
  go_wp2_with fail
  go_loopw [5, 6] (fun v i wr => wr = w ∧ ∃ (k : Nat) (T : List UInt8), k ≤ N ∧ i = .int .i64 (k : Int) ∧ v = .string (bs T) ∧ Hid (T = wj (ws.take k))) (fun _ i _ => N - (intOf i).toNat)
  case atStart => exact ⟨rfl, 0, [], Nat.zero_le _, rfl, rfl, Lib.hid rfl⟩
  case round =>
    obtain ⟨hwr, k, T, hk, rfl, rfl, HT⟩ := hrel
    have hwr := hwr.symm
    subst hwr
    by_cases hlt : k < N
    · obtain ⟨x, hx⟩ : ∃ x, ws[k]? = some x := ⟨_, List.getElem?_eq_getElem (by rw [H3.out]; exact hlt)⟩
      obtain ⟨g, off, hA, hg, p0⟩ := H1.out k x hx
      subst hA
      have ib0 : (0 : Int) ≤ (k : Int) := by omega
      have ib1 : (k : Int) < (N : Int) := by omega
      have hln : (wjF (ws.take (k + 1))).length ≤ 1000000000 := by have := wjF_take ws (k + 1); have := HBD.out; omega
      rw [take_snoc' hx, wjF_snoc, List.length_append, List.length_cons] at hln
      have hTl : T.length ≤ (wjF (ws.take k)).length := by rw [HT.out]; exact wj_len _
      have TK := Lib.hid (take_snoc' hx)
      have HLT := Lib.hid hlt
      clear hx hlt
      by_cases h0 : k = 0
      · have e0 : ¬ 0 < k := by omega
        have e0' : k = 0 := h0
        have ht0 : ws.take k = [] := by rw [h0]; rfl
        have hs2 : ∀ W, (Op.stringOp .add (bs T) (bs x)).run Tryz.prog W = .ok (.string (bs (T ++ x))) W := fun W => sum_bs T x (by omega) W
        have hT2 : Hid (T ++ x = wj (ws.take (k + 1))) := Lib.hid (by rw [HT.out, TK.out, ht0]; simp [wj, wjF])
        clear hln hTl h0 ht0 e0'
        go_wp2_with fail
        exact ⟨⟨by first | trivial | rfl, k + 1, T ++ x, HLT.out, by go_num, by first | rfl | trivial, hT2⟩, by have := HLT.out; simp [intOf]; omega⟩
      · have e0 : 0 < k := by omega
        have hs1 : ∀ W, (Op.stringOp .add (bs T) ⟨#[32]⟩).run Tryz.prog W = .ok (.string (bs (T ++ [32]))) W := fun W => sum_bs T [32] (by rw [List.length_singleton]; omega) W
        have hs2 : ∀ W, (Op.stringOp .add (bs (T ++ [32])) (bs x)).run Tryz.prog W = .ok (.string (bs (T ++ [32] ++ x))) W := fun W => sum_bs (T ++ [32]) x (by rw [List.length_append, List.length_singleton]; omega) W
        have hT2 : Hid (T ++ [32] ++ x = wj (ws.take (k + 1))) := Lib.hid (by
          rw [TK.out, wj_snoc (by intro h; have h2 := congrArg List.length h; have := HLT.out; have := H3.out; rw [List.length_take, List.length_nil] at h2; omega), HT.out]
          simp)
        generalize T ++ [32] ++ x = T2 at *
        generalize T ++ [32] = T1 at *
        clear hln hTl
        go_wp2_with fail
        exact ⟨⟨by first | trivial | rfl, k + 1, T2, HLT.out, by go_num, by first | rfl | trivial, hT2⟩, by have := HLT.out; simp [intOf]; omega⟩
    · have hkN : k = N := by omega
      have hTw : T = wj ws := by rw [HT.out, List.take_of_length_le (by rw [H3.out]; omega)]
      have nb : ¬ (k : Int) < (N : Int) := by omega
      have HTW := Lib.hid hTw
      clear hTw hkN HT
      go_wp2_with fail
      go_loopw [5, 7] (fun v i wr => wr = w ∧ ∃ (j : Nat) (S : List UInt8), j ≤ M ∧ i = .int .i64 (j : Int) ∧ v = .string (bs S) ∧ Hid (S = wj ws ++ njF (ns.take j))) (fun _ i _ => M - (intOf i).toNat)
      case atStart => exact ⟨rfl, 0, T, Nat.zero_le _, rfl, rfl, Lib.hid (by rw [HTW.out]; simp [njF])⟩
      case round =>
        obtain ⟨hwr, j, S, hj, rfl, rfl, HS⟩ := hrel
        have hwr := hwr.symm
        subst hwr
        by_cases hjl : j < M
        · obtain ⟨n, hnx⟩ : ∃ x, ns[j]? = some x := ⟨_, List.getElem?_eq_getElem (by rw [H4.out]; exact hjl)⟩
          obtain ⟨g, off, hA, hg, p0⟩ := H2.out j (n : Int) (by rw [List.getElem?_map, hnx]; rfl)
          subst hA
          have jb0 : (0 : Int) ≤ (j : Int) := by omega
          have jb1 : (j : Int) < (M : Int) := by omega
          have hc := rdecimal_any w n (HN.out n (List.mem_of_getElem? hnx))
          have hln : (wjF ws).length + (njF (ns.take (j + 1))).length ≤ 1000000000 := by have := njF_take ns (j + 1); have := HBD.out; omega
          rw [take_snoc' hnx, njF_snoc, List.length_append, List.length_cons] at hln
          have hSl : S.length ≤ (wjF ws).length + (njF (ns.take j)).length := by
            rw [HS.out, List.length_append]
            have := wj_len ws
            omega
          have hT2 : S ++ 32 :: Lib.decDigits n = wj ws ++ njF (ns.take (j + 1)) := by rw [take_snoc' hnx, njF_snoc, HS.out, List.append_assoc]
          generalize Lib.decDigits n = D at *
          have hs1 : ∀ W, (Op.stringOp .add ⟨#[32]⟩ (bs D)).run Tryz.prog W = .ok (.string (bs (32 :: D))) W := fun W => sum_bs [32] D (by rw [List.length_singleton]; omega) W
          have hs2 : ∀ W, (Op.stringOp .add (bs S) (bs (32 :: D))).run Tryz.prog W = .ok (.string (bs (S ++ 32 :: D))) W := fun W => sum_bs S (32 :: D) (by rw [List.length_cons]; omega) W
          have HT2 := Lib.hid hT2
          have HC := Lib.hid hc
          have HJL := Lib.hid hjl
          clear hln hSl hT2 hc hnx hjl
          generalize S ++ 32 :: D = S2 at *
          generalize 32 :: D = D2 at *
          go_wp2_with fail
          refine HC.out.mono ?_
          rintro e w2 ⟨rfl, rfl⟩
          go_wp2_with fail
          exact ⟨⟨by first | trivial | rfl, j + 1, S2, HJL.out, by go_num, by first | rfl | trivial, HT2⟩, by have := HJL.out; simp [intOf]; omega⟩
        · have nb2 : ¬ (j : Int) < (M : Int) := by omega
          have hSw : S = wj ws ++ njF ns := by rw [HS.out, List.take_of_length_le (by rw [H4.out]; omega)]
          have hs1 : ∀ W, (Op.stringOp .add (bs S) ⟨#[10]⟩).run Tryz.prog W = .ok (.string (bs (S ++ [10]))) W := fun W => sum_bs S [10] (by
            rw [List.length_singleton, hSw, List.length_append]
            have := wj_len ws
            have := HBD.out
            omega) W
          have hfin : S ++ [10] = wj ws ++ (njF ns ++ [10]) := by rw [hSw, List.append_assoc]
          have HF := Lib.hid hfin
          generalize S ++ [10] = S2 at *
          clear hSw hfin
          go_wp2_with fail
          go_ret
          exact ⟨by rw [HF.out]; rfl, rfl⟩
end Go.Proofs.YtgfahifdmacmhaaGreatDoor

namespace Go.Proofs.YtgfahifdmacmhaaGreatDoor
open Go.RowKit Go.Shelf

theorem letter_any (w : World) (c : UInt8) : Calls Tryz.prog 108 #[.int .u8 (c.toNat : Int)] w fun e w' => e = .returned (.bool (letB c)) ∧ w = w' := by
  have hl : letB c = (decide (97 ≤ c.toNat ∧ c.toNat ≤ 122) || decide (65 ≤ c.toNat ∧ c.toNat ≤ 90)) := rfl
  obtain ⟨r, hr⟩ : ∃ r, letB c = r := ⟨_, rfl⟩
  rw [hr]
  rw [hr] at hl
  have HL := Lib.hid hl
  clear hl hr
  have h255 := c.toNat_lt
  rcases (by omega : c.toNat < 65 ∨ (65 ≤ c.toNat ∧ c.toNat ≤ 90) ∨ (90 < c.toNat ∧ c.toNat < 97) ∨ (97 ≤ c.toNat ∧ c.toNat ≤ 122) ∨ 122 < c.toNat) with h | h | h | h | h <;> cases d90 : decide ((c.toNat : Int) ≤ 90) <;> cases d122 : decide ((c.toNat : Int) ≤ 122)
  all_goals try (exfalso; simp at d90 d122; omega)
  all_goals
    go_enter Tryz.func108, Tryz.ntmps108
    go_wp2
    go_ret
    exact ⟨by rw [HL.out]; simp; omega, rfl⟩

theorem digit_any (w : World) (c : UInt8) : Calls Tryz.prog 129 #[.int .u8 (c.toNat : Int)] w fun e w' => e = .returned (.bool (decide (48 ≤ c.toNat ∧ c.toNat ≤ 57))) ∧ w = w' := by
  obtain ⟨r, hr⟩ : ∃ r, decide (48 ≤ c.toNat ∧ c.toNat ≤ 57) = r := ⟨_, rfl⟩
  rw [hr]
  have HL := Lib.hid hr
  clear hr
  have h255 := c.toNat_lt
  rcases (by omega : c.toNat < 48 ∨ (48 ≤ c.toNat ∧ c.toNat ≤ 57) ∨ 57 < c.toNat) with h | h | h <;> cases d57 : decide ((c.toNat : Int) ≤ 57)
  all_goals try (exfalso; simp at d57; omega)
  all_goals
    go_enter Tryz.func129, Tryz.ntmps129
    go_wp2
    go_ret
    exact ⟨by rw [← HL.out]; simp; omega, rfl⟩

def wrdB (c : UInt8) : Bool := letB c || digB c
theorem word_any (w : World) (c : UInt8) : Calls Tryz.prog 107 #[.int .u8 (c.toNat : Int)] w fun e w' => e = .returned (.bool (wrdB c)) ∧ w = w' := by
  have hw : wrdB c = (letB c || (decide (48 ≤ c.toNat ∧ c.toNat ≤ 57) || decide (c.toNat = 95))) := rfl
  have h1 := fun W => letter_any W c
  have h2 := fun W => digit_any W c
  obtain ⟨r, hr⟩ : ∃ r, wrdB c = r := ⟨_, rfl⟩
  rw [hr]
  rw [hr] at hw
  clear hr
  generalize letB c = b1 at *
  generalize decide (48 ≤ c.toNat ∧ c.toNat ≤ 57) = b2 at *
  have H1 := Lib.hid h1
  have H2 := Lib.hid h2
  have HW := Lib.hid hw
  clear h1 h2 hw
  cases b1 with
  | true =>
    go_enter Tryz.func107, Tryz.ntmps107
    go_wp2_with fail
    refine (H1.out _).mono ?_
    rintro e w1 ⟨rfl, rfl⟩
    go_wp2
    go_ret
    exact ⟨by rw [HW.out]; rfl, rfl⟩
  | false =>
    cases b2 with
    | true =>
      go_enter Tryz.func107, Tryz.ntmps107
      go_wp2_with fail
      refine (H1.out _).mono ?_
      rintro e w1 ⟨rfl, rfl⟩
      go_wp2_with fail
      refine (H2.out _).mono ?_
      rintro e w1 ⟨rfl, rfl⟩
      go_wp2
      go_ret
      exact ⟨by rw [HW.out]; rfl, rfl⟩
    | false =>
      cases e95 : ((c.toNat : Int) == 95)
      all_goals
        go_enter Tryz.func107, Tryz.ntmps107
        go_wp2_with fail
        refine (H1.out _).mono ?_
        rintro e w1 ⟨rfl, rfl⟩
        go_wp2_with fail
        refine (H2.out _).mono ?_
        rintro e w1 ⟨rfl, rfl⟩
        go_wp2
        go_ret
        exact ⟨by rw [HW.out]; simp at e95; simp; omega, rfl⟩

theorem wrd_go : ∀ (l : List UInt8) (i : Nat), 0 < i → nmGo i l = l.all wrdB
  | [], _, _ => rfl
  | c :: l, i, h => by
    show (okAt i c && nmGo (i + 1) l) = (wrdB c && l.all wrdB)
    rw [wrd_go l (i + 1) (by omega)]
    unfold okAt wrdB
    rw [decide_eq_true h, Bool.true_and]
theorem nm_wrd (l : List UInt8) : nmB l = match l with
    | [] => false
    | c :: cs => letB c && (cs.all wrdB && decide ((c :: cs).length ≤ 24)) := by
  cases l with
  | nil => rfl
  | cons c cs =>
    show ((okAt 0 c && nmGo 1 cs) && (true && decide ((c :: cs).length ≤ 24))) = _
    rw [wrd_go cs 1 (by omega)]
    unfold okAt
    simp [Bool.and_assoc]
theorem wrd_no {l : List UInt8} {c : UInt8} (h : c ∈ l) (hc : wrdB c = false) : nmB l = false := by
  rw [nm_wrd]
  cases l with
  | nil => rfl
  | cons d cs =>
    simp only
    rcases List.mem_cons.1 h with rfl | h
    · unfold wrdB at hc
      rw [(Bool.or_eq_false_iff.1 hc).1]
      rfl
    · have : cs.all wrdB = false := by
        rw [List.all_eq_false]
        exact ⟨c, h, by rw [hc]; simp⟩
      rw [this]
      simp

set_option maxHeartbeats 1000000 in
theorem name_any (w : World) (s : ByteArray) (hs : s.size ≤ 9223372036854775807) : Calls Tryz.prog 90 #[.string s] w fun e w' => e = .returned (.bool (nmB s.data.toList)) ∧ w = w' := by
  have hsz : s.data.toList.length = s.size := rfl
  have HL := Lib.hid hsz
  obtain ⟨r, hr⟩ : ∃ r, r = nmB s.data.toList := ⟨_, rfl⟩
  rw [← hr]
  have HR := Lib.hid hr
  clear hsz hr
  go_enter Tryz.func90, Tryz.ntmps90
  go_wp2_with fail
  go_loop [3] (fun i => ∃ k : Nat, k ≤ s.size ∧ i = .int .i64 (k : Int) ∧ Hid ((s.data.toList.take k).all wrdB = true)) (fun i => s.size - (intOf i).toNat)
  case atStart => exact ⟨0, Nat.zero_le _, rfl, Lib.hid rfl⟩
  case round =>
    obtain ⟨k, hk, rfl, hn⟩ := hrel
    by_cases hlt : k < s.size
    · obtain ⟨c, hc⟩ : ∃ c, s.data.toList[k]? = some c := ⟨_, List.getElem?_eq_getElem (by rw [HL.out]; exact hlt)⟩
      have hget : s[k] = c := by
        obtain ⟨h1, h2⟩ := List.getElem?_eq_some_iff.1 hc
        rw [← h2]
        rfl
      have hwd := fun W => word_any W c
      have HC := Lib.hid hc
      clear hc
      cases hb : wrdB c with
      | true =>
        rw [hb] at hwd
        have hnx : (s.data.toList.take (k + 1)).all wrdB = true := by
          obtain ⟨h1, h2⟩ := List.getElem?_eq_some_iff.1 HC.out
          rw [List.take_succ_eq_append_getElem h1, h2, List.all_append, hn.out]
          simp [hb]
        have HX := Lib.hid hnx
        have HW := Lib.hid hwd
        clear hnx hb hwd
        go_wp2_with fail
        refine (HW.out _).mono ?_
        rintro e w1 ⟨rfl, rfl⟩
        go_wp2
        go_round
        case rel => exact ⟨k + 1, by omega, by go_num, HX⟩
        case measure => simp [intOf]; omega
      | false =>
        rw [hb] at hwd
        have hno := HR.out.trans (wrd_no (List.mem_of_getElem? HC.out) hb)
        have HE := Lib.hid hno
        have HW := Lib.hid hwd
        clear hno hb hwd
        go_wp2_with fail
        refine (HW.out _).mono ?_
        rintro e w1 ⟨rfl, rfl⟩
        go_wp2
        go_ret
        exact ⟨by rw [HE.out]; rfl, rfl⟩
    · obtain rfl : k = s.size := by omega
      have hall := hn.out
      rw [List.take_of_length_le (by rw [HL.out]; exact Nat.le_refl _)] at hall
      clear hn
      cases hcs : s.data.toList with
      | nil =>
        have hz : s.size = 0 := by rw [← HL.out, hcs]; rfl
        have hz2 : s.size ≤ 0 := by omega
        have HE : Hid (r = false) := Lib.hid (by rw [HR.out, hcs]; rfl)
        clear hz hall hcs
        have d0 : decide (0 < (s.size : Int)) = false := decide_eq_false (by omega)
        go_wp2
        go_ret
        exact ⟨by rw [HE.out]; rfl, rfl⟩
      | cons c cs =>
        have hz : 0 < s.size := by rw [← HL.out, hcs]; simp
        have hget : s[0] = c := by
          have h1 : s.data.toList[0]? = some c := by rw [hcs]; rfl
          obtain ⟨h1, h2⟩ := List.getElem?_eq_some_iff.1 h1
          rw [← h2]
          rfl
        have hle := fun W => letter_any W c
        have hrr : r = (letB c && decide ((s.size : Int) ≤ 24)) := by
          rw [HR.out, nm_wrd, hcs]
          rw [hcs] at hall
          have h2 : cs.all wrdB = true := by
            rw [List.all_cons, Bool.and_eq_true] at hall
            exact hall.2
          simp only
          rw [h2, Bool.true_and]
          congr 1
          rw [decide_eq_decide, ← HL.out, hcs]
          omega
        generalize letB c = b at *
        have HRR := Lib.hid hrr
        have HLE := Lib.hid hle
        clear hrr hle hall hcs
        by_cases h24 : s.size ≤ 24
        · have e24 : Hid (decide ((s.size : Int) ≤ 24) = true) := Lib.hid (decide_eq_true (by omega))
          go_wp2_with fail
          refine (HLE.out _).mono ?_
          rintro e w1 ⟨rfl, rfl⟩
          cases b
          all_goals
            go_wp2
            go_ret
            exact ⟨by rw [HRR.out, e24.out]; rfl, rfl⟩
        · have d24 : decide ((s.size : Int) ≤ 24) = false := decide_eq_false (by omega)
          go_wp2
          go_ret
          exact ⟨by rw [HRR.out, d24, Bool.and_false]; rfl, rfl⟩

theorem rStop_any (w : World) (a b : Int) : Calls Tryz.prog 97 #[.agg #[.int .i64 a, .int .i64 b]] w fun e w' => e = .returned (.bool (psB (a, b))) ∧ Below w.heap.size w w' := by
  have hb := (Below.refl w.heap.size w).alloc (Nat.le_refl _) (.cells #[.int .i64 a, .int .i64 b] 77)
  cases hp : psB (a, b) with
  | true =>
    obtain ⟨h0, h1, h2⟩ := psB_iff.1 hp
    simp only at h0 h1 h2
    clear hp
    go_enter Tryz.func97, Tryz.ntmps97
    go_wp2
    go_ret
    exact ⟨rfl, hb⟩
  | false =>
    have h : a < 0 ∨ (0 ≤ a ∧ b < a) ∨ (0 ≤ a ∧ a ≤ b ∧ 1000000 < b) := by
      simp [psB] at hp
      omega
    clear hp
    rcases h with h | ⟨h, h1⟩ | ⟨h, h1, h2⟩
    all_goals cases d6 : decide (b ≤ 1000000)
    all_goals cases d7 : decide (a ≤ b)
    all_goals try (exfalso; simp at d6 d7; omega)
    all_goals
      go_enter Tryz.func97, Tryz.ntmps97
      go_wp2
      go_ret
      exact ⟨rfl, hb⟩

theorem rTerm_any (w : World) (n u : Int) : Calls Tryz.prog 99 #[.agg #[.int .i64 n, .int .i64 u]] w fun e w' => e = .returned (.bool (ptB n u)) ∧ Below w.heap.size w w' := by
  have hb := (Below.refl w.heap.size w).alloc (Nat.le_refl _) (.cells #[.int .i64 n, .int .i64 u] 62)
  cases hp : ptB n u with
  | true =>
    obtain ⟨h0, h1, h2, h3⟩ := ptB_iff.1 hp
    clear hp
    go_enter Tryz.func99, Tryz.ntmps99
    go_wp2
    go_ret
    exact ⟨rfl, hb⟩
  | false =>
    have h : u < 1 ∨ (1 ≤ u ∧ 5 < u) ∨ (1 ≤ u ∧ u ≤ 5 ∧ n < 0) ∨ (1 ≤ u ∧ u ≤ 5 ∧ 0 ≤ n ∧ 1000000 < n) := by
      simp [ptB] at hp
      omega
    clear hp
    rcases h with h | ⟨h, h1⟩ | ⟨h, h1, h2⟩ | ⟨h, h1, h2, h3⟩
    all_goals cases d6 : decide (n ≤ 1000000)
    all_goals try (exfalso; simp at d6; omega)
    all_goals
      go_enter Tryz.func99, Tryz.ntmps99
      go_wp2
      go_ret
      exact ⟨rfl, hb⟩

theorem rIs_any (w : World) (n : Int) : Calls Tryz.prog 98 #[.int .i64 n] w fun e w' => e = .returned (.bool (isB n)) ∧ w = w' := by
  by_cases h0 : 0 ≤ n
  · by_cases h1 : n ≤ 1000000
    · rw [(isB_iff n).2 ⟨h0, h1⟩]
      go_enter Tryz.func98, Tryz.ntmps98
      go_wp2
      go_ret
      exact ⟨rfl, rfl⟩
    · rw [isB_no (.inr (by omega))]
      go_enter Tryz.func98, Tryz.ntmps98
      go_wp2
      go_ret
      exact ⟨rfl, rfl⟩
  · rw [isB_no (.inl (by omega))]
    go_enter Tryz.func98, Tryz.ntmps98
    go_wp2
    go_ret
    exact ⟨rfl, rfl⟩

theorem all_take {S : List Stp2} {p : Stp2 → Bool} {k : Nat} {s : Stp2} (h : S[k]? = some s) : (S.take (k + 1)).all p = ((S.take k).all p && p s) := by
  obtain ⟨hk, hs⟩ := List.getElem?_eq_some_iff.1 h
  rw [List.take_succ_eq_append_getElem hk, hs, List.all_append]
  simp
set_option maxHeartbeats 2000000 in
set_option maxRecDepth 100000 in
theorem rProper_any (w : World) (L : Lm) (B : Nat) (A : Option Addr) (c : Nat) (h : LmAt w B A L) (hB : B ≤ w.heap.size) :
    Calls Tryz.prog 81 #[.agg (L.cells A c)] w fun e w' => e = .returned (.bool (prB L)) ∧ Below w.heap.size w w' := by
  obtain ⟨hs, hid, hsl⟩ := h
  obtain ⟨id, n, u, f, S⟩ := L
  show Calls Tryz.prog 81 #[.agg #[.string id, .int .i64 n, .int .i64 u, .int .i64 f, .slice A S.length c]] w _
  have hr : prB ⟨id, n, u, f, S⟩ = (nmB id.data.toList && isB f && ptB n u && decide (S.length ≤ 60) && S.all psB) := rfl
  obtain ⟨r, hrr⟩ : ∃ r, prB ⟨id, n, u, f, S⟩ = r := ⟨_, rfl⟩
  rw [hrr] at hr ⊢
  clear hrr
  have hb := (Below.refl w.heap.size w).alloc (Nat.le_refl _) (.cells #[.string id, .int .i64 n, .int .i64 u, .int .i64 f, .slice A S.length c] 65)
  have k0 := Blk.new w 65 #[.string id, .int .i64 n, .int .i64 u, .int .i64 f, .slice A S.length c]
  simp only at hid hsl hs
  have h1 := fun W => name_any W id hid
  have h2 := fun W => rIs_any W f
  have h3 := fun W => rTerm_any W n u
  have HS := Lib.hid hs
  have HR := Lib.hid hr
  clear hs hr
  go_enter Tryz.func81, Tryz.ntmps81
  go_wp2_with fail
  go_loopw [3] (fun i wr => ∃ k : Nat, k ≤ S.length ∧ i = .int .i64 (k : Int) ∧ Hid ((S.take k).all psB = true) ∧ Blk wr w.heap.size 65 #[.string id, .int .i64 n, .int .i64 u, .int .i64 f, .slice A S.length c] ∧ Below w.heap.size w wr) (fun i _ => S.length - (intOf i).toNat)
  case atStart => exact ⟨0, Nat.zero_le _, rfl, Lib.hid rfl, k0, hb⟩
  case round =>
    clear k0 hb
    obtain ⟨k, hk, rfl, hall, k0, hb⟩ := hrel
    obtain ⟨t0, t1, -⟩ := k0.all
    by_cases hlt : k < S.length
    · obtain ⟨s, hss⟩ : ∃ s, S[k]? = some s := ⟨_, List.getElem?_eq_getElem hlt⟩
      obtain ⟨gb, off, hA, hg, e0, e1⟩ := (HS.out.below (hb.mono hB)) k s hss
      subst hA
      have hat := all_take (p := psB) hss
      rw [hall.out, Bool.true_and] at hat
      have hmem := List.mem_of_getElem? hss
      clear hss
      obtain ⟨a, b⟩ := s
      simp only at e0 e1
      have hst := fun W => rStop_any W a b
      cases hp : psB (a, b) with
      | true =>
        rw [hp] at hat hst
        have HAT := Lib.hid hat
        have HST := Lib.hid hst
        clear hat hst hp hmem h1 h2 h3
        go_wp2_with fail
        refine (HST.out _).mono ?_
        rintro e w1 ⟨rfl, b1⟩
        have k1 := k0.below b1 k0.lt
        replace hb := hb.trans (b1.mono hb.size)
        clear b1 k0 t0 t1 e0 e1
        go_wp2
        go_roundw
        case rel => exact ⟨k + 1, by omega, by go_num, HAT, k1, hb⟩
        case measure => simp [intOf]; omega
      | false =>
        have hno : r = false := by
          rw [HR.out]
          have : S.all psB = false := by rw [List.all_eq_false]; exact ⟨_, hmem, by rw [hp]; simp⟩
          rw [this, Bool.and_false]
        rw [hp] at hst
        have HNO := Lib.hid hno
        have HST := Lib.hid hst
        clear hat hst hp hmem hno h1 h2 h3
        go_wp2_with fail
        refine (HST.out _).mono ?_
        rintro e w1 ⟨rfl, b1⟩
        replace hb := hb.trans (b1.mono hb.size)
        clear b1 k0 t0 t1 e0 e1
        go_wp2
        go_ret
        exact ⟨by rw [HNO.out]; rfl, hb⟩
    · obtain rfl : k = S.length := by omega
      have hal := hall.out
      rw [List.take_length] at hal
      have hrr := HR.out
      rw [hal, Bool.and_true] at hrr
      have HRR := Lib.hid hrr
      generalize nmB id.data.toList = b1 at *
      generalize isB f = b2 at *
      generalize ptB n u = b3 at *
      have H1 := Lib.hid h1
      have H2 := Lib.hid h2
      have H3 := Lib.hid h3
      clear hrr hal hall HR h1 h2 h3
      cases b1 with
      | false =>
        go_wp2_with fail
        refine (H1.out _).mono ?_
        rintro e w1 ⟨rfl, rfl⟩
        go_wp2
        go_ret
        exact ⟨by rw [HRR.out]; rfl, hb⟩
      | true =>
        cases b2 with
        | false =>
          go_wp2_with fail
          refine (H1.out _).mono ?_
          rintro e w1 ⟨rfl, rfl⟩
          go_wp2_with fail
          refine (H2.out _).mono ?_
          rintro e w1 ⟨rfl, rfl⟩
          go_wp2
          go_ret
          exact ⟨by rw [HRR.out]; rfl, hb⟩
        | true =>
          cases b3 with
          | false =>
            go_wp2_with fail
            refine (H1.out _).mono ?_
            rintro e w1 ⟨rfl, rfl⟩
            go_wp2_with fail
            refine (H2.out _).mono ?_
            rintro e w1 ⟨rfl, rfl⟩
            go_wp2_with fail
            refine (H3.out _).mono ?_
            rintro e w1 ⟨rfl, b⟩
            replace hb := hb.trans (b.mono hb.size)
            clear b t0 t1
            go_wp2
            go_ret
            exact ⟨by rw [HRR.out]; rfl, hb⟩
          | true =>
            cases h60 : decide (S.length ≤ 60)
            all_goals
              have hrr := HRR.out
              rw [h60] at hrr
              have HE := Lib.hid hrr
              clear hrr HRR
              have h60' : decide ((S.length : Int) ≤ 60) = decide (S.length ≤ 60) := by rw [decide_eq_decide]; omega
              rw [h60] at h60'
              clear h60
              go_wp2_with fail
              refine (H1.out _).mono ?_
              rintro e w1 ⟨rfl, rfl⟩
              go_wp2_with fail
              refine (H2.out _).mono ?_
              rintro e w1 ⟨rfl, rfl⟩
              go_wp2_with fail
              refine (H3.out _).mono ?_
              rintro e w1 ⟨rfl, b⟩
              have k1 := k0.below b k0.lt
              replace hb := hb.trans (b.mono hb.size)
              clear b t0 t1 k0
              obtain ⟨t0, t1, -⟩ := k1.all
              go_wp2
              go_ret
              exact ⟨by rw [HE.out]; rfl, hb⟩
end Go.Proofs.YtgfahifdmacmhaaGreatDoor

namespace Go.Proofs.YtgfahifdmacmhaaGreatDoor
open Go.RowKit Go.Shelf

set_option maxHeartbeats 1000000 in
theorem rname07_any (w : World) (s : ByteArray) (hs : s.size ≤ 9223372036854775807) : Calls Tryz.prog 58 #[.string s] w fun e w' => e = .returned (.bool (nmB s.data.toList)) ∧ w = w' := by
  have hsz : s.data.toList.length = s.size := rfl
  have HL := Lib.hid hsz
  clear hsz
  obtain ⟨r, hr⟩ : ∃ r, r = nmB s.data.toList := ⟨_, rfl⟩
  rw [← hr]
  have HR := Lib.hid hr
  clear hr
  go_enter Tryz.func58, Tryz.ntmps58
  go_wp2_with fail
  go_loop [3] (fun i => ∃ k : Nat, k ≤ s.size ∧ i = .int .i64 (k : Int) ∧ Hid (nmGo 0 (s.data.toList.take k) = true)) (fun i => s.size - (intOf i).toNat)
  case atStart => exact ⟨0, Nat.zero_le _, rfl, Lib.hid rfl⟩
  case round =>
    obtain ⟨k, hk, rfl, hn⟩ := hrel
    by_cases hlt : k < s.size
    · obtain ⟨c, hc⟩ : ∃ c, s.data.toList[k]? = some c := ⟨_, List.getElem?_eq_getElem (by rw [HL.out]; exact hlt)⟩
      have hget : s[k] = c := by
        obtain ⟨h1, h2⟩ := List.getElem?_eq_some_iff.1 hc
        rw [← h2]
        rfl
      have HC := Lib.hid hc
      clear hc
      have h255 := c.toNat_lt
      have hcl : (c.toNat ≤ 47 ∨ (58 ≤ c.toNat ∧ c.toNat ≤ 64) ∨ (91 ≤ c.toNat ∧ c.toNat ≤ 94) ∨ c.toNat = 96 ∨ 123 ≤ c.toNat) ∨ ((48 ≤ c.toNat ∧ c.toNat ≤ 57) ∨ c.toNat = 95) ∨ (65 ≤ c.toNat ∧ c.toNat ≤ 90) ∨ (97 ≤ c.toNat ∧ c.toNat ≤ 122) := by omega
      rcases hcl with hcl | hcl | hcl
      · have hok : okAt k c = false := by simp [okAt, letB, digB]; omega
        have e95 : ((c.toNat : Int) == 95) = false := by simp; omega
        have n95 : ((c.toNat : Int) != 95) = true := by simp; omega
        have hno := nmGo_no HC.out hok
        have e : nmB s.data.toList = false := by unfold nmB; rw [hno]; rfl
        have HE := Lib.hid (HR.out.trans e)
        clear e hno hok HC
        have hk0 : ((k : Int) == 0) = true ∨ ((k : Int) == 0) = false := by cases ((k : Int) == 0) <;> simp
        rcases hk0 with e0 | e0 <;> rcases hcl with h | h | h | h | h <;> cases d57 : decide ((c.toNat : Int) ≤ 57) <;> cases d90 : decide ((c.toNat : Int) ≤ 90) <;> cases d122 : decide ((c.toNat : Int) ≤ 122)
        all_goals first
          | (exfalso; simp at d57 d90 d122; omega)
          | (go_wp2; go_ret; exact ⟨by rw [HE.out]; rfl, rfl⟩)
      · cases h0 : decide (0 < k) with
        | false =>
          have hk0 : k = 0 := by simpa using h0
          have hok : okAt k c = false := by
            subst hk0
            simp [okAt, letB, digB]; omega
          have e0 : ((k : Int) == 0) = true := by simpa using hk0
          have hno := nmGo_no HC.out hok
          have e : nmB s.data.toList = false := by unfold nmB; rw [hno]; rfl
          have HE := Lib.hid (HR.out.trans e)
          clear e hno hok HC hk0 h0
          rcases hcl with h | h
          · cases e95 : ((c.toNat : Int) == 95) with
            | true => exfalso; simp at e95; omega
            | false =>
              go_wp2
              go_ret
              exact ⟨by rw [HE.out]; rfl, rfl⟩
          · have e95 : ((c.toNat : Int) == 95) = true := by simp; omega
            go_wp2
            go_ret
            exact ⟨by rw [HE.out]; rfl, rfl⟩
        | true =>
          have hk0 : 0 < k := by simpa using h0
          have hok : okAt k c = true := by
            simp [okAt, letB, digB]; omega
          have e0 : ((k : Int) == 0) = false := by simp; omega
          have hnx : nmGo 0 (s.data.toList.take (k + 1)) = true := by rw [nmGo_at HC.out, hn.out, hok]; rfl
          have HX := Lib.hid hnx
          clear hnx hok h0
          rcases hcl with h | h
          · have d57 : decide ((c.toNat : Int) ≤ 57) = true := by simp; omega
            go_wp2
            go_round
            case rel => exact ⟨k + 1, by omega, by go_num, HX⟩
            case measure => simp [intOf]; omega
          · have e95 : ((c.toNat : Int) == 95) = true := by simp; omega
            go_wp2
            go_round
            case rel => exact ⟨k + 1, by omega, by go_num, HX⟩
            case measure => simp [intOf]; omega
      · have hok : okAt k c = true := by simp [okAt, letB, digB]; omega
        have e95 : ((c.toNat : Int) == 95) = false := by simp; omega
        have n95 : ((c.toNat : Int) != 95) = true := by simp; omega
        have hnx : nmGo 0 (s.data.toList.take (k + 1)) = true := by rw [nmGo_at HC.out, hn.out, hok]; rfl
        have HX := Lib.hid hnx
        clear hnx hok
        rcases hcl with h | h <;> cases d57 : decide ((c.toNat : Int) ≤ 57) <;> cases d90 : decide ((c.toNat : Int) ≤ 90) <;> cases d122 : decide ((c.toNat : Int) ≤ 122)
        all_goals try (exfalso; simp at d57 d90 d122; omega)
        all_goals
          go_wp2
          go_round
          case rel => exact ⟨k + 1, by omega, by go_num, HX⟩
          case measure => simp [intOf]; omega
    · obtain rfl : k = s.size := by omega
      have hn2 : nmGo 0 s.data.toList = true := by have := hn.out; rwa [List.take_of_length_le (by rw [HL.out]; exact Nat.le_refl _)] at this
      have hie : s.data.toList.isEmpty = decide (s.size = 0) := by
        rw [← HL.out]
        cases s.data.toList with
        | nil => rfl
        | cons c cs => simp
      have e : r = (decide (0 < s.size) && decide (s.size ≤ 24)) := by
        rw [HR.out]
        unfold nmB
        rw [hn2, Bool.true_and, HL.out, hie]
        have hz : (!decide (s.size = 0)) = decide (0 < s.size) := by
          by_cases h : s.size = 0
          · rw [decide_eq_true h, decide_eq_false (by omega)]; rfl
          · rw [decide_eq_false h, decide_eq_true (by omega)]; rfl
        rw [hz]
      have HE := Lib.hid e
      clear e hie hn2 hn HR
      by_cases h0 : 0 < s.size
      · have e0 : decide (0 < (s.size : Int)) = true := decide_eq_true (by omega)
        by_cases h24 : s.size ≤ 24
        · have e24 : decide ((s.size : Int) ≤ 24) = true := decide_eq_true (by omega)
          have hr : r = true := by rw [HE.out, decide_eq_true h0, decide_eq_true h24]; rfl
          have HRR := Lib.hid hr
          clear hr
          go_wp2
          go_ret
          exact ⟨by rw [HRR.out]; first | done | rfl | simp [e24], rfl⟩
        · have e24 : decide ((s.size : Int) ≤ 24) = false := decide_eq_false (by omega)
          have hr : r = false := by rw [HE.out, decide_eq_true h0, decide_eq_false h24]; rfl
          have HRR := Lib.hid hr
          clear hr
          go_wp2
          go_ret
          exact ⟨by rw [HRR.out]; first | done | rfl | simp [e24], rfl⟩
      · have e0 : decide (0 < (s.size : Int)) = false := decide_eq_false (by omega)
        have hr : r = false := by rw [HE.out, decide_eq_false h0]; rfl
        have HRR := Lib.hid hr
        clear hr
        go_wp2
        go_ret
        exact ⟨by rw [HRR.out]; first | done | rfl, rfl⟩

theorem rDay_any (w : World) (n : Int) : Calls Tryz.prog 57 #[.int .i64 n] w fun e w' => e = .returned (.bool (isB n)) ∧ w = w' := by
  by_cases h0 : 0 ≤ n
  · by_cases h1 : n ≤ 1000000
    · rw [(isB_iff n).2 ⟨h0, h1⟩]
      go_enter Tryz.func57, Tryz.ntmps57
      go_wp2
      go_ret
      exact ⟨rfl, rfl⟩
    · rw [isB_no (.inr (by omega))]
      go_enter Tryz.func57, Tryz.ntmps57
      go_wp2
      go_ret
      exact ⟨rfl, rfl⟩
  · rw [isB_no (.inl (by omega))]
    go_enter Tryz.func57, Tryz.ntmps57
    go_wp2
    go_ret
    exact ⟨rfl, rfl⟩

theorem mem_take_snoc {α : Type} [DecidableEq α] {l : List α} {k : Nat} {x y : α} (h : l[k]? = some x) : y ∈ l.take (k + 1) ↔ y ∈ l.take k ∨ y = x := by
  rw [take_snoc' h]; simp

set_option maxRecDepth 100000 in
set_option maxHeartbeats 2000000 in
theorem rright_any (w : World) (B : Nat) (A : Option Addr) (l : List Rt) (c : Nat) (h : RtsAt w B A l) (hl : l.length ≤ 4611686018427387904) (n : ByteArray) (q : Bool) (hq : q = true ↔ n ∈ l.map (·.1)) :
    Calls Tryz.prog 59 #[.slice A l.length c, .string n] w fun e w' => e = .returned (.bool q) ∧ w = w' := by
  have HH := Lib.hid h
  have HQ := Lib.hid hq
  obtain ⟨N, hN⟩ : ∃ N, l.length = N := ⟨_, rfl⟩
  have HN := Lib.hid hN
  rw [hN] at hl ⊢
  clear h hq hN
  go_enter Tryz.func59, Tryz.ntmps59
  go_wp2_with fail
  go_loop [5] (fun i => ∃ k : Nat, k ≤ N ∧ i = .int .i64 (k : Int) ∧ Hid (n ∉ (l.take k).map (·.1))) (fun i => N - (intOf i).toNat)
  case atStart => exact ⟨0, Nat.zero_le _, rfl, Lib.hid (by simp)⟩
  case round =>
    obtain ⟨k, hk, rfl, HT⟩ := hrel
    by_cases hlt : k < N
    · obtain ⟨x, hx⟩ : ∃ x, l[k]? = some x := ⟨_, List.getElem?_eq_getElem (by rw [HN.out]; exact hlt)⟩
      obtain ⟨g, off, hA, hg, c0, c1⟩ := HH.out k x hx
      subst hA
      have ib0 : (0 : Int) ≤ (k : Int) := by omega
      have ib1 : (k : Int) < (N : Int) := by omega
      have HX := Lib.hid hx
      clear hx
      obtain ⟨a, d⟩ := x
      simp only at c0 c1
      by_cases hxn : a = n
      · obtain rfl : q = true := HQ.out.2 (List.mem_map.2 ⟨(a, d), List.mem_of_getElem? HX.out, hxn⟩)
        subst hxn
        clear c1
        go_wp2_with fail
        go_ret
        exact ⟨rfl, rfl⟩
      · have HT2 : Hid (n ∉ (l.take (k + 1)).map (·.1)) := Lib.hid (by
          rw [take_snoc' HX.out, List.map_append, List.mem_append]
          rintro (h | h)
          · exact HT.out h
          · simp at h; exact hxn h.symm)
        have e3 := str_no hxn
        clear hxn c1
        go_wp2_with fail
        go_round
        case rel => exact ⟨k + 1, by omega, by go_num, HT2⟩
        case measure => simp [intOf]; omega
    · obtain rfl : k = N := by omega
      have hno : n ∉ l.map (·.1) := by
        have := HT.out
        rwa [List.take_of_length_le (by rw [HN.out]; exact Nat.le_refl _)] at this
      obtain rfl : q = false := by
        cases q with
        | false => rfl
        | true => exact absurd (HQ.out.1 rfl) hno
      clear hno
      go_wp2
      go_ret
      exact ⟨rfl, rfl⟩

set_option maxRecDepth 100000 in
set_option maxHeartbeats 2000000 in
theorem rin_any (w : World) (B : Nat) (A : Option Addr) (l : List ByteArray) (c : Nat) (h : BtsAt w B A l) (hl : l.length ≤ 4611686018427387904) (n : ByteArray) (q : Bool) (hq : q = true ↔ n ∈ l) :
    Calls Tryz.prog 65 #[.slice A l.length c, .string n] w fun e w' => e = .returned (.bool q) ∧ w = w' := by
  have HH := Lib.hid h
  have HQ := Lib.hid hq
  obtain ⟨N, hN⟩ : ∃ N, l.length = N := ⟨_, rfl⟩
  have HN := Lib.hid hN
  rw [hN] at hl ⊢
  clear h hq hN
  go_enter Tryz.func65, Tryz.ntmps65
  go_wp2_with fail
  go_loop [5] (fun i => ∃ k : Nat, k ≤ N ∧ i = .int .i64 (k : Int) ∧ Hid (n ∉ l.take k)) (fun i => N - (intOf i).toNat)
  case atStart => exact ⟨0, Nat.zero_le _, rfl, Lib.hid (by simp)⟩
  case round =>
    obtain ⟨k, hk, rfl, HT⟩ := hrel
    by_cases hlt : k < N
    · obtain ⟨x, hx⟩ : ∃ x, l[k]? = some x := ⟨_, List.getElem?_eq_getElem (by rw [HN.out]; exact hlt)⟩
      obtain ⟨g, off, hA, hg, c0⟩ := HH.out k x hx
      subst hA
      have ib0 : (0 : Int) ≤ (k : Int) := by omega
      have ib1 : (k : Int) < (N : Int) := by omega
      have HX := Lib.hid hx
      clear hx
      by_cases hxn : x = n
      · obtain rfl : q = true := HQ.out.2 (by rw [← hxn]; exact List.mem_of_getElem? HX.out)
        subst hxn
        go_wp2_with fail
        go_ret
        exact ⟨rfl, rfl⟩
      · have HT2 : Hid (n ∉ l.take (k + 1)) := Lib.hid (by
          rw [take_snoc' HX.out, List.mem_append]
          rintro (h | h)
          · exact HT.out h
          · simp at h; exact hxn h.symm)
        have e3 := str_no hxn
        clear hxn
        go_wp2_with fail
        go_round
        case rel => exact ⟨k + 1, by omega, by go_num, HT2⟩
        case measure => simp [intOf]; omega
    · obtain rfl : k = N := by omega
      have hno : n ∉ l := by
        have := HT.out
        rwa [List.take_of_length_le (by rw [HN.out]; exact Nat.le_refl _)] at this
      obtain rfl : q = false := by
        cases q with
        | false => rfl
        | true => exact absurd (HQ.out.1 rfl) hno
      clear hno
      go_wp2
      go_ret
      exact ⟨rfl, rfl⟩
end Go.Proofs.YtgfahifdmacmhaaGreatDoor

namespace Go.Proofs.YtgfahifdmacmhaaGreatDoor
open Go.RowKit Go.Shelf

theorem digitVal_c8 {k : Nat} (h : k < 10) : Lib.digitVal (c8 k) = some k := by
  have := c8_nat h
  simp only [Lib.digitVal]
  rw [if_pos (by omega)]
  congr 1
  omega
theorem decFrom_app : ∀ (a b : List UInt8) (acc m : Nat), Lib.decFrom acc a = some m → Lib.decFrom acc (a ++ b) = Lib.decFrom m b
  | [], b, acc, m, h => by simp only [Lib.decFrom, Option.some.injEq] at h; subst h; rfl
  | x :: a, b, acc, m, h => by
    simp only [List.cons_append, Lib.decFrom] at h ⊢
    cases hd : Lib.digitVal x with
    | none => rw [hd] at h; cases h
    | some d => rw [hd] at h; simp only at h ⊢; exact decFrom_app a b _ m h
theorem dec_value : ∀ (n : Nat) (acc : Nat), Lib.decFrom acc (Lib.decDigits n) = some (acc * 10 ^ (Lib.decDigits n).length + n) := by
  intro n
  induction n using Nat.strongRecOn with
  | _ n ih =>
    intro acc
    by_cases h : n < 10
    · rw [dec_ten h]
      simp [Lib.decFrom, digitVal_c8 h]
    · rw [dec_more h, decFrom_app _ _ _ _ (ih (n / 10) (by omega) acc)]
      simp only [Lib.decFrom, digitVal_c8 (Nat.mod_lt n (show 0 < 10 by decide)), List.length_append, List.length_singleton, Nat.pow_succ]
      congr 1
      rw [Nat.add_mul, Nat.mul_assoc]
      omega
theorem numR_itoa {n : Int} (h : isB n = true) : numR (Lib.itoa n) = n := by
  have hb := (isB_iff n).1 h
  have e := dec_value n.toNat 0
  have hl := dec_lenK (w := 6) (n := n.toNat) (by show n.toNat < 10000000; omega)
  have hp : 0 < (Lib.decDigits n.toNat).length := List.length_pos_iff.2 (dec_ne _)
  rw [Nat.zero_mul, Nat.zero_add] at e
  unfold numR
  rw [itoa_pos hb.1, if_pos ⟨hp, hl⟩, e]
  show ((n.toNat : Nat) : Int) = n
  omega
theorem numR_wf (s : Wd) : wf64 (numR s) := by
  unfold numR
  split
  · rename_i h
    cases hd : Lib.decFrom 0 s with
    | none => exact ⟨by decide, by decide⟩
    | some n =>
      have := Lib.decFrom_lt18 hd (by omega)
      exact ⟨by show _ ≤ (n : Int); omega, by show (n : Int) ≤ _; omega⟩
  · exact ⟨by decide, by decide⟩

/-! Words. -/
structure Ws where
  ls : List (List Wd)
  l : List Wd
  cur : Wd
def Ws.step (s : Ws) (c : UInt8) : Ws := if c = 10 then ⟨s.ls ++ [s.l ++ [s.cur]], [], []⟩ else if c = 32 then ⟨s.ls, s.l ++ [s.cur], []⟩ else ⟨s.ls, s.l, s.cur ++ [c]⟩
def Ws.run (t : List UInt8) : Ws := t.foldl Ws.step ⟨[], [], []⟩
def wordsR (t : List UInt8) : List (List Wd) := (Ws.run t).ls
theorem Ws.run_snoc (t : List UInt8) (c : UInt8) : Ws.run (t ++ [c]) = (Ws.run t).step c := by simp [Ws.run, List.foldl_append]
/-- Sizes: nothing is longer than the text; no line is empty. -/
structure Ws.Ok (n : Nat) (s : Ws) : Prop where
  ls : s.ls.length ≤ n
  l : s.l.length ≤ n
  cur : s.cur.length ≤ n
  w : ∀ x ∈ s.l, x.length ≤ n
  each : ∀ L ∈ s.ls, L ≠ [] ∧ L.length ≤ n ∧ ∀ x ∈ L, x.length ≤ n
theorem Ws.Ok.step {n : Nat} {s : Ws} (h : s.Ok n) (c : UInt8) : (s.step c).Ok (n + 1) := by
  obtain ⟨h1, h2, h3, h4, h5⟩ := h
  have hw : ∀ x ∈ s.l ++ [s.cur], x.length ≤ n + 1 := fun x hx => by
    rcases List.mem_append.1 hx with hx | hx
    · have := h4 x hx; omega
    · rw [List.mem_singleton] at hx; subst hx; omega
  have he : ∀ L ∈ s.ls, L ≠ [] ∧ L.length ≤ n + 1 ∧ ∀ x ∈ L, x.length ≤ n + 1 := fun L hL => by
    obtain ⟨a, b, d⟩ := h5 L hL
    exact ⟨a, by omega, fun x hx => by have := d x hx; omega⟩
  unfold Ws.step
  by_cases hc : c = 10
  · rw [if_pos hc]
    refine ⟨by simp; omega, by simp, by simp, by simp, fun L hL => ?_⟩
    rcases List.mem_append.1 hL with hL | hL
    · exact he L hL
    · rw [List.mem_singleton] at hL
      subst hL
      exact ⟨by simp, by simp; omega, hw⟩
  · rw [if_neg hc]
    by_cases hs : c = 32
    · rw [if_pos hs]
      exact ⟨by show s.ls.length ≤ _; omega, by simp; omega, by simp, hw, he⟩
    · rw [if_neg hs]
      exact ⟨by show s.ls.length ≤ _; omega, by show s.l.length ≤ _; omega, by simp; omega, fun x hx => by have := h4 x hx; omega, he⟩
theorem Ws.ok : ∀ (n : Nat) (t : List UInt8), t.length = n → (Ws.run t).Ok n
  | 0, t, h => by
    obtain rfl : t = [] := List.length_eq_zero_iff.1 h
    exact ⟨by simp [Ws.run], by simp [Ws.run], by simp [Ws.run], by simp [Ws.run], by simp [Ws.run]⟩
  | n + 1, t, h => by
    have hne : t ≠ [] := by intro e; rw [e] at h; cases h
    have ht := List.dropLast_concat_getLast hne
    have ih := Ws.ok n t.dropLast (by rw [List.length_dropLast]; omega)
    rw [← ht, Ws.run_snoc]
    exact ih.step _
theorem run_word : ∀ (w : Wd), (32 : UInt8) ∉ w → (10 : UInt8) ∉ w → ∀ s : Ws, w.foldl Ws.step s = ⟨s.ls, s.l, s.cur ++ w⟩
  | [], _, _, s => by simp
  | c :: w, h1, h2, s => by
    have e1 : ¬ c = 10 := fun e => h2 (by simp [e])
    have e2 : ¬ c = 32 := fun e => h1 (by simp [e])
    rw [List.foldl_cons]
    unfold Ws.step
    rw [if_neg e1, if_neg e2]
    rw [show (fun (s : Ws) (c : UInt8) => if c = 10 then (⟨s.ls ++ [s.l ++ [s.cur]], [], []⟩ : Ws) else if c = 32 then ⟨s.ls, s.l ++ [s.cur], []⟩ else ⟨s.ls, s.l, s.cur ++ [c]⟩) = Ws.step from rfl]
    rw [run_word w (fun h => h1 (List.mem_cons_of_mem _ h)) (fun h => h2 (List.mem_cons_of_mem _ h))]
    simp
theorem run_more : ∀ (ws : List Wd), (∀ x ∈ ws, (32 : UInt8) ∉ x ∧ (10 : UInt8) ∉ x) → ∀ (ls : List (List Wd)) (l : List Wd) (cur : Wd), ((ws.flatMap fun x => 32 :: x) ++ [10]).foldl Ws.step ⟨ls, l, cur⟩ = ⟨ls ++ [l ++ cur :: ws], [], []⟩
  | [], _, ls, l, cur => by simp [Ws.step]
  | x :: ws, h, ls, l, cur => by
    have hx := h x List.mem_cons_self
    rw [List.flatMap_cons, List.append_assoc, List.cons_append, List.foldl_cons, List.foldl_append]
    have e : (Ws.step ⟨ls, l, cur⟩ 32) = ⟨ls, l ++ [cur], []⟩ := rfl
    rw [e, run_word x hx.1 hx.2]
    rw [List.nil_append, run_more ws (fun y hy => h y (List.mem_cons_of_mem _ hy))]
    simp
theorem run_lines : ∀ (L : List (Wd × List Wd)), (∀ p ∈ L, ((32 : UInt8) ∉ p.1 ∧ (10 : UInt8) ∉ p.1) ∧ ∀ x ∈ p.2, (32 : UInt8) ∉ x ∧ (10 : UInt8) ∉ x) → ∀ ls, (L.flatMap fun p => joinC 32 p.1 p.2 ++ [10]).foldl Ws.step ⟨ls, [], []⟩ = ⟨ls ++ L.map fun p => p.1 :: p.2, [], []⟩
  | [], _, ls => by simp
  | p :: L, h, ls => by
    obtain ⟨h1, h2⟩ := h p List.mem_cons_self
    rw [List.flatMap_cons, List.foldl_append]
    unfold joinC
    rw [List.append_assoc, List.foldl_append, run_word p.1 h1.1 h1.2, List.nil_append, run_more p.2 h2]
    have ih := run_lines L (fun q hq => h q (List.mem_cons_of_mem _ hq)) (ls ++ [[] ++ p.1 :: p.2])
    unfold joinC at ih
    rw [ih]
    simp
theorem words_text {m : Mt} (h : fmB m = true) : wordsR (textL m) = (linesW m).map fun p => p.1 :: p.2 := by
  unfold wordsR Ws.run
  rw [text_lines, run_lines _ (linesW_no h)]
  simp

/-! What is read loosely. -/
def prsR : List Int → List Stp2
  | a :: b :: t => (a, b) :: prsR t
  | _ => []
def rightC (L : List Wd) : Bool := decide (L.getD 0 [] = rightW) && decide (L.length = 3)
def limitC (L : List Wd) : Bool := decide (L.getD 0 [] = limitW) && (decide (5 ≤ L.length) && decide (L.length % 2 = 1))
def rightV (L : List Wd) : Rt := (bs (L.getD 1 []), numR (L.getD 2 []))
def limitV (L : List Wd) : Lm := ⟨bs (L.getD 1 []), numR (L.getD 2 []), numR (L.getD 3 []), numR (L.getD 4 []), prsR ((L.drop 5).map numR)⟩
def rlines : List (List Wd) → List Rt → List Lm → Option (List Rt × List Lm)
  | [], rs, ls => some (rs, ls)
  | L :: t, rs, ls => if rightC L then rlines t (rs ++ [rightV L]) ls else if limitC L then rlines t rs (ls ++ [limitV L]) else none
def firstM (W : List (List Wd)) (rs : List Rt) (ls : List Lm) : Mt :=
  ⟨bs ((W.getD 0 []).getD 1 []), numR ((W.getD 0 []).getD 2 []), ((W.getD 1 []).drop 1).map numR, bs ((W.getD 0 []).getD 3 []), numR ((W.getD 0 []).getD 4 []), ((W.getD 2 []).drop 1).map numR, rs, ls⟩
def rLoose (t : List UInt8) : Option Mt :=
  if (wordsR t).length < 3 ∨ ((wordsR t).getD 0 []).length ≠ 5 then none else (rlines ((wordsR t).drop 3) [] []).map fun p => firstM (wordsR t) p.1 p.2
theorem rnums_back : ∀ l : List Int, (∀ n ∈ l, isB n = true) → (l.map Lib.itoa).map numR = l
  | [], _ => rfl
  | n :: l, h => by rw [List.map_cons, List.map_cons, numR_itoa (h n List.mem_cons_self), rnums_back l fun x hx => h x (List.mem_cons_of_mem _ hx)]
theorem prsR_back : ∀ l : List Stp2, prsR (l.flatMap fun s => [s.1, s.2]) = l
  | [] => rfl
  | s :: l => by
    have e : ((s :: l).flatMap fun s => [s.1, s.2]) = s.1 :: s.2 :: (l.flatMap fun s => [s.1, s.2]) := rfl
    rw [e]
    show (s.1, s.2) :: prsR _ = _
    rw [prsR_back l]
theorem limI_is {x : Lm} (h : prB x = true) : ∀ n ∈ limI x, isB n = true := by
  obtain ⟨_, h1, h2, _, h3⟩ := prB_iff.1 h
  have h2' := ptB_iff.1 h2
  intro n hn
  unfold limI at hn
  rcases List.mem_cons.1 hn with rfl | hn
  · exact (isB_iff _).2 (by omega)
  rcases List.mem_cons.1 hn with rfl | hn
  · exact (isB_iff _).2 (by omega)
  rcases List.mem_cons.1 hn with rfl | hn
  · exact h1
  obtain ⟨s, hs, hn⟩ := List.mem_flatMap.1 hn
  have := psB_iff.1 (h3 s hs)
  simp at hn
  rcases hn with rfl | rfl <;> exact (isB_iff _).2 (by omega)
theorem rlines_rights {o : Int} {T : List (List Wd)} : ∀ (l : List Rt), (∀ r ∈ l, rtB o r = true) → ∀ rs ls, rlines ((l.map fun r => [rightW, sL r.1, Lib.itoa r.2]) ++ T) rs ls = rlines T (rs ++ l) ls
  | [], _, rs, ls => by simp
  | r :: l, h, rs, ls => by
    have hr := h r List.mem_cons_self
    unfold rtB at hr
    rw [Bool.and_eq_true, Bool.and_eq_true] at hr
    have e := numR_itoa hr.2.2
    rw [List.map_cons, List.cons_append]
    show (if rightC [rightW, sL r.1, Lib.itoa r.2] then rlines _ (rs ++ [(bs (sL r.1), numR (Lib.itoa r.2))]) ls else _) = _
    rw [if_pos (by rfl), e, rlines_rights l (fun x hx => h x (List.mem_cons_of_mem _ hx))]
    simp [bs_sL]
theorem rlines_limits : ∀ (l : List Lm), (∀ x ∈ l, prB x = true) → ∀ rs ls, rlines (l.map fun x => limitW :: sL x.id :: (limI x).map Lib.itoa) rs ls = some (rs, ls ++ l)
  | [], _, rs, ls => by simp [rlines]
  | x :: l, h, rs, ls => by
    have hx := h x List.mem_cons_self
    have hi := rnums_back (limI x) (limI_is hx)
    have hl := limI_len x
    have c1 : rightC (limitW :: sL x.id :: (limI x).map Lib.itoa) = false := by
      unfold rightC
      rw [decide_eq_false (by show ¬ limitW = rightW; decide), Bool.false_and]
    have c2 : limitC (limitW :: sL x.id :: (limI x).map Lib.itoa) = true := by
      unfold limitC
      rw [decide_eq_true (by rfl), Bool.true_and, Bool.and_eq_true, decide_eq_true_eq, decide_eq_true_eq]
      simp only [List.length_cons, List.length_map]
      omega
    have c3 : limitV (limitW :: sL x.id :: (limI x).map Lib.itoa) = x := by
      have ei : (limI x).map Lib.itoa = Lib.itoa x.n :: Lib.itoa x.u :: Lib.itoa x.f :: (x.S.flatMap fun s => [s.1, s.2]).map Lib.itoa := rfl
      rw [ei] at hi ⊢
      unfold limI at hi
      simp only [List.map_cons, List.cons.injEq] at hi
      obtain ⟨i1, i2, i3, i4⟩ := hi
      show (⟨bs (sL x.id), numR (Lib.itoa x.n), numR (Lib.itoa x.u), numR (Lib.itoa x.f), prsR (((x.S.flatMap fun s => [s.1, s.2]).map Lib.itoa).map numR)⟩ : Lm) = x
      rw [i1, i2, i3, i4, prsR_back, bs_sL]
    rw [List.map_cons]
    unfold rlines
    rw [c1, c2, c3, if_neg (by decide), if_pos rfl, rlines_limits l (fun y hy => h y (List.mem_cons_of_mem _ hy))]
    simp
/-- The text of a formed matter is read back. -/
theorem rloose_text {m : Mt} (h : fmB m = true) : rLoose (textL m) = some m := by
  obtain ⟨f1, f2, f3, f4, f5, f6, f7, f8, f9, f10⟩ := fmB_iff.1 h
  unfold rLoose
  rw [words_text h]
  obtain ⟨id, o, cs, pr, st, mv, rs, ls⟩ := m
  simp only at f3 f4 f5 f7 f9 f10
  have a1 := numR_itoa f3
  have a2 := numR_itoa (n := st) ((isB_iff _).2 (by omega))
  have d1 := rnums_back cs f5
  have g1 := rnums_back mv fun n hn => by
    have := upB_wf' mv o (((isB_iff _).1 f3).1) f7 n hn
    exact (isB_iff n).2 this
  have eL : (linesW ⟨id, o, cs, pr, st, mv, rs, ls⟩).map (fun p => p.1 :: p.2) = [matterW, sL id, Lib.itoa o, sL pr, Lib.itoa st] :: (caseL :: cs.map Lib.itoa) :: (movedL :: mv.map Lib.itoa) ::
      ((rs.map fun r => [rightW, sL r.1, Lib.itoa r.2]) ++ ls.map fun x => limitW :: sL x.id :: (limI x).map Lib.itoa) := by
    simp only [linesW, List.map_cons, List.map_append, List.map_map]
    rfl
  rw [eL, if_neg (by simp)]
  show (rlines ((rs.map fun r => [rightW, sL r.1, Lib.itoa r.2]) ++ ls.map fun x => limitW :: sL x.id :: (limI x).map Lib.itoa) [] []).map (fun p => (⟨bs (sL id), numR (Lib.itoa o), (cs.map Lib.itoa).map numR, bs (sL pr), numR (Lib.itoa st), (mv.map Lib.itoa).map numR, p.1, p.2⟩ : Mt)) = _
  rw [rlines_rights rs (difB_iff.1 f9).1, rlines_limits ls (difB_iff.1 f10).1, a1, a2, d1, g1, bs_sL, bs_sL, List.nil_append, List.nil_append]
  rfl
/-- The reference accepts what the package accepts. -/
theorem rparse_some {t : List UInt8} {m : Mt} (hf : fmB m = true) (ht : textL m = t) : parseOk t = true ∧ looseM t = m := by
  have := parse_text hf
  rw [ht] at this
  exact this
theorem rparse_ok {t : List UInt8} (h : parseOk t = true) : rLoose t = some (looseM t) ∧ fmB (looseM t) = true ∧ textL (looseM t) = t := by
  obtain ⟨-, h2, h3⟩ := parse_some h
  have := rloose_text h2
  rw [h3] at this
  exact ⟨this, h2, h3⟩
theorem rparse_none {t : List UInt8} (h : rLoose t = none) : parseOk t = false := by
  cases hp : parseOk t with
  | false => rfl
  | true => rw [(rparse_ok hp).1] at h; cases h
theorem rparse_bad {t : List UInt8} {m : Mt} (h : rLoose t = some m) (hb : ¬ (fmB m = true ∧ textL m = t)) : parseOk t = false := by
  cases hp : parseOk t with
  | false => rfl
  | true =>
    obtain ⟨h1, h2, h3⟩ := rparse_ok hp
    rw [h] at h1
    injection h1 with h1
    rw [← h1] at h2 h3
    exact absurd ⟨h2, h3⟩ hb
end Go.Proofs.YtgfahifdmacmhaaGreatDoor

namespace Go.Proofs.YtgfahifdmacmhaaGreatDoor
open Go.RowKit Go.Shelf

theorem Tryz.infoStrs : (Tryz.prog.info? 43).map (fun i => (i.zero, i.size, i.bytes)) = some (some (Value.slice none 0 0), 1, 24) := by kernel_rfl
/-- Slices that read as lines of words. -/
def LinesAt (w : World) (B : Nat) (vs : List Value) (ll : List (List Wd)) : Prop := vs.length = ll.length ∧ ∀ (i : Nat) (L : List Wd), ll[i]? = some L → ∃ A c, vs[i]? = some (.slice A L.length c) ∧ L.length ≤ c ∧ StrsAt w B A L
theorem LinesAt.below {w w' : World} {B : Nat} {vs : List Value} {ll : List (List Wd)} (h : LinesAt w B vs ll) (hb : Below B w w') : LinesAt w' B vs ll := ⟨h.1, fun i L hi => by
  obtain ⟨A, c, h1, h0, h2⟩ := h.2 i L hi
  exact ⟨A, c, h1, h0, h2.below hb⟩⟩
theorem LinesAt.wide {w : World} {B B' : Nat} {vs : List Value} {ll : List (List Wd)} (h : LinesAt w B vs ll) (hB : B ≤ B') : LinesAt w B' vs ll := ⟨h.1, fun i L hi => by
  obtain ⟨A, c, h1, h0, h2⟩ := h.2 i L hi
  exact ⟨A, c, h1, h0, h2.wide hB⟩⟩
/-- .. each in a row of the call's own, below a block. -/
def LinesOwn (w : World) (base B : Nat) (vs : List Value) (ll : List (List Wd)) : Prop := vs.length = ll.length ∧ ∀ (i : Nat) (L : List Wd), ll[i]? = some L → ∃ A c, vs[i]? = some (.slice A L.length c) ∧ w.ownsRow base 9 1 (.slice A L.length c) L.length (L.map sv) ∧ ∀ b, (Value.slice A L.length c).ownBlock = some b → b < B
theorem LinesOwn.nil (w : World) (base B : Nat) : LinesOwn w base B [] [] := ⟨rfl, fun i L h => by simp at h⟩
theorem LinesOwn.map {w w' : World} {base B B' : Nat} {vs : List Value} {ll : List (List Wd)} (h : LinesOwn w base B vs ll) (hB : B ≤ B') (f : ∀ v n xs, w.ownsRow base 9 1 v n xs → (∀ b, v.ownBlock = some b → b < B) → w'.ownsRow base 9 1 v n xs) : LinesOwn w' base B' vs ll := ⟨h.1, fun i L hi => by
  obtain ⟨A, c, h1, h2, h3⟩ := h.2 i L hi
  exact ⟨A, c, h1, f _ _ _ h2 h3, fun b hb => Nat.lt_of_lt_of_le (h3 b hb) hB⟩⟩
theorem LinesOwn.snoc {w : World} {base B : Nat} {vs : List Value} {ll : List (List Wd)} (h : LinesOwn w base B vs ll) {A : Option Addr} {L : List Wd} {n c : Nat} (hn : L.length = n) (hs : w.ownsRow base 9 1 (.slice A n c) n (L.map sv)) (hb : ∀ b, (Value.slice A n c).ownBlock = some b → b < B) : LinesOwn w base B (vs ++ [.slice A n c]) (ll ++ [L]) := ⟨by simp [h.1], fun i M hi => by
  subst hn
  by_cases hl : i < ll.length
  · rw [List.getElem?_append_left hl] at hi
    obtain ⟨A', c', h1, h2⟩ := h.2 i M hi
    exact ⟨A', c', by rw [List.getElem?_append_left (by rw [h.1]; exact hl)]; exact h1, h2⟩
  · have hlt := (List.getElem?_eq_some_iff.1 hi).1
    have e : i = ll.length := by simp at hlt; omega
    subst e
    simp at hi
    subst hi
    exact ⟨A, c, by rw [← h.1]; simp, hs, hb⟩⟩
theorem owns_cap {w : World} {base size n c : Nat} {e : TypeId} {A : Option Addr} {xs : List Value} (h : w.ownsRow base e size (.slice A n c) n xs) : n ≤ c := by
  rcases h.2 with ⟨h0, _⟩ | ⟨g, cap', cur, hv, _, _, hn, _⟩
  · injection h0 with h1 h2 h3
    omega
  · injection hv with h1 h2 h3
    omega
theorem StrsAt.of_own {w : World} {base : Nat} {A : Option Addr} {l : List Wd} {c n : Nat} (hn : l.length = n) (h : w.ownsRow base 9 1 (.slice A n c) n (l.map sv)) : StrsAt w w.heap.size A l := by
  intro i s hi
  have hlt := (List.getElem?_eq_some_iff.1 hi).1
  rcases h.2 with ⟨_, h0⟩ | ⟨g, cap', cur, hv, _⟩
  · omega
  · injection hv with hA hc hcap
    subst hA
    have hlg := (h.lt g (by simp [Value.ownBlock])).2
    have k1 := h.cellAt i (by omega)
    refine ⟨g, 0, rfl, hlg, ?_⟩
    rw [Nat.zero_add, k1, List.getElem?_map, hi]
    rfl
theorem LinesOwn.at_ {w : World} {base B : Nat} {vs : List Value} {ll : List (List Wd)} (h : LinesOwn w base B vs ll) : LinesAt w w.heap.size vs ll := ⟨h.1, fun i L hi => by
  obtain ⟨A, c, h1, h2, _⟩ := h.2 i L hi
  exact ⟨A, c, h1, owns_cap h2, StrsAt.of_own rfl h2⟩⟩
theorem sl_one (v : Value) (h : v.oneCell' = true) : ∀ u ∈ [v], u.oneCell' = true := by intro u hu; rw [List.mem_singleton] at hu; subst hu; exact h
/-- What lies in memory behind some bytes of the text. -/
structure WI (w wr : World) (Bk : Nat) (s : Ws) (v3 v4 : Value) (vs : List Value) (n3 n4 : Nat) : Prop where
  b : Below w.heap.size w wr
  o3 : wr.ownsRow w.heap.size 43 1 v3 n3 vs
  o4 : wr.ownsRow Bk 9 1 v4 n4 (s.l.map sv)
  ls : LinesOwn wr w.heap.size Bk vs s.ls
  b1 : w.heap.size ≤ Bk
  b2 : Bk ≤ wr.heap.size
  l3 : s.ls.length = n3
  l4 : s.l.length = n4
  m3 : n3 ≤ 1000000
  m4 : n4 ≤ 1000000
theorem run_take {t : List UInt8} {k : Nat} {c : UInt8} (h : t[k]? = some c) : Ws.run (t.take (k + 1)) = (Ws.run (t.take k)).step c := by rw [take_snoc' h, Ws.run_snoc]
theorem step_nl (s : Ws) : s.step 10 = ⟨s.ls ++ [s.l ++ [s.cur]], [], []⟩ := rfl
theorem step_sp (s : Ws) : s.step 32 = ⟨s.ls, s.l ++ [s.cur], []⟩ := rfl
theorem step_ch (s : Ws) {c : UInt8} (h1 : c ≠ 10) (h2 : c ≠ 32) : s.step c = ⟨s.ls, s.l, s.cur ++ [c]⟩ := by unfold Ws.step; rw [if_neg h1, if_neg h2]
theorem run_le {t : List UInt8} (ht : t.length ≤ 1000000) (k : Nat) : (Ws.run (t.take k)).ls.length ≤ 1000000 ∧ (Ws.run (t.take k)).l.length ≤ 1000000 := by
  have h := Ws.ok _ (t.take k) rfl
  have hl := List.length_take_le' k t
  exact ⟨by have := h.ls; omega, by have := h.l; omega⟩

set_option maxRecDepth 100000 in
set_option maxHeartbeats 4000000 in
theorem words_any (w : World) (t : List UInt8) (ht : t.length ≤ 1000000) :
    Calls Tryz.prog 45 #[.string (bs t)] w fun e w' => ∃ A c vs, e = .returned (.slice A (wordsR t).length c) ∧ w'.ownsRow w.heap.size 43 1 (.slice A (wordsR t).length c) (wordsR t).length vs ∧ LinesAt w' w'.heap.size vs (wordsR t) ∧ Below w.heap.size w w' := by
  obtain ⟨i0, hi0, hz0, hz1, hz2⟩ := info_parts Tryz.infoStr
  obtain ⟨j0, hj0, hy0, hy1, hy2⟩ := info_parts Tryz.infoStrs
  have hsz := bs_size t
  obtain ⟨N, hN⟩ : ∃ N, t.length = N := ⟨_, rfl⟩
  have HT := Lib.hid ht
  have HN := Lib.hid hN
  rw [hN] at ht hsz
  clear hN
  go_enter Tryz.func45, Tryz.ntmps45
  go_wp2_with fail
  go_loopg [3, 4, 5, 6] N (fun n v3 v4 v5 v6 wr => ∃ (k f Bk : Nat) (A3 : Option Addr) (n3 c3 : Nat) (A4 : Option Addr) (n4 c4 : Nat) (vs : List Value), k + n = N ∧ f ≤ k ∧ v3 = .slice A3 n3 c3 ∧ v4 = .slice A4 n4 c4 ∧ v5 = .int .i64 (f : Int) ∧ v6 = .int .i64 (k : Int) ∧ Hid (WI w wr Bk (Ws.run (t.take k)) (.slice A3 n3 c3) (.slice A4 n4 c4) vs n3 n4) ∧ Hid ((t.drop f).take (k - f) = (Ws.run (t.take k)).cur))
  case atStart => exact ⟨0, 0, w.heap.size, none, 0, 0, none, 0, 0, [], Nat.zero_add _, Nat.le_refl _, rfl, rfl, rfl, rfl, Lib.hid ⟨Below.refl _ _, World.ownsRow_nil _ _ _ _, World.ownsRow_nil _ _ _ _, LinesOwn.nil _ _ _, Nat.le_refl _, Nat.le_refl _, rfl, rfl, Nat.zero_le _, Nat.zero_le _⟩, Lib.hid rfl⟩
  case round =>
    obtain ⟨k, f, Bk, A3, n3, c3, A4, n4, c4, vs, hk, hf, rfl, rfl, rfl, rfl, HW, HC⟩ := hrel
    by_cases hlt : k < N
    · obtain ⟨m, rfl⟩ : ∃ m, gk = m + 1 := ⟨gk - 1, by omega⟩
      obtain ⟨b, hb⟩ : ∃ b, t[k]? = some b := ⟨_, List.getElem?_eq_getElem (by rw [HN.out]; exact hlt)⟩
      have hin3 : k < (bs t).size := by rw [hsz]; exact hlt
      have hget : (bs t)[k] = b := by
        obtain ⟨h1, h2⟩ := List.getElem?_eq_some_iff.1 hb
        rw [← h2]
        rfl
      have hrt := run_take hb
      obtain ⟨s, hs⟩ : ∃ s, Ws.run (t.take k) = s := ⟨_, rfl⟩
      obtain ⟨s', hs'⟩ : ∃ s', Ws.run (t.take (k + 1)) = s' := ⟨_, rfl⟩
      have hle := run_le HT.out (k + 1)
      rw [hs, hs'] at hrt
      rw [hs'] at hle
      rw [hs] at HW HC
      have hsl := fun W => sl_mid t f k hf (by rw [HN.out]; omega) W
      rw [HC.out] at hsl
      obtain ⟨p, hp⟩ : ∃ p, s.cur = p := ⟨_, rfl⟩
      rw [hp] at hsl
      have HS' := Lib.hid hs'
      have HRT := Lib.hid hrt
      have HP := Lib.hid hp
      have HLE := Lib.hid hle
      have hsz4 := HW.out.b.size
      have hb2 := HW.out.b2
      have hm3 := HW.out.m3
      have hm4 := HW.out.m4
      clear hrt hs hs' hp hle
      by_cases h10 : b = 10
      · have e10 : ((b.toNat : Int) == 10) = true := by subst h10; rfl
        have e32 : ((b.toNat : Int) == 32) = false := by subst h10; rfl
        have hst : s' = ⟨s.ls ++ [s.l ++ [p]], [], []⟩ := by rw [HRT.out, h10, step_nl, HP.out]
        have HST := Lib.hid hst
        have HLT := Lib.hid hlt
        clear hst h10 hb hlt
        have kn := Blk.new wr 9 #[.string (bs p)]
        have own3 := HW.out.o4.alloc (.cells #[.string (bs p)] 9)
        have hszA : Bk ≤ (wr.alloc (.cells #[.string (bs p)] 9)).heap.size := by simp; omega
        go_upto_region 9 with (at_builtin; refine wpList_append_lies _ rfl _ _ 43 rfl Bk 9 i0 _ 1 16 Tryz.underlying43 hi0 hz0 hz1 hz2 rfl (by omega) (.slice A4 n4 c4) n4 _ rfl own3 ⟨wr.heap.size, 0, none⟩ 1 1 [.string (bs p)] rfl rfl (World.news_of_block kn) (sl_one _ rfl) (by omega) (by unfold maxLen; omega) (by omega) (by omega) _ rfl ?_; intro gz cz Y own4 gr4 l4 z4)
        have bY := (HW.out.b.alloc HW.out.b.size (.cells #[.string (bs p)] 9)).grown gr4 (HW.out.b.alloc HW.out.b.size (.cells #[.string (bs p)] 9)).size (fun i hi => Nat.le_trans HW.out.b1 (own3.lt i hi).1)
        have o3Y := owns_grown (HW.out.o3.alloc (.cells #[.string (bs p)] 9)) own3 (by decide) gr4
        have lsY := HW.out.ls.map (Nat.le_refl _) (fun v n xs o hlt => owns_apart (o.alloc (.cells #[.string (bs p)] 9)) hlt own3 (Nat.le_refl _) gr4)
        have hszY := bY.size
        have hYs : Bk ≤ Y.heap.size := by have := gr4.size; simp at this; omega
        have kn2 := Blk.new Y 43 #[.slice (some ⟨gz, 0, none⟩) (n4 + 1) cz]
        have own5 := o3Y.alloc (.cells #[.slice (some ⟨gz, 0, none⟩) (n4 + 1) cz] 43)
        have hszB : w.heap.size ≤ (Y.alloc (.cells #[.slice (some ⟨gz, 0, none⟩) (n4 + 1) cz] 43)).heap.size := by simp; omega
        have HBY := Lib.hid bY
        have HLY := Lib.hid lsY
        have HOY := Lib.hid own4
        clear bY o3Y lsY own4 gr4 l4 kn own3
        go_wp2_with (at_builtin; refine wpList_append_lies _ rfl _ _ 89 rfl w.heap.size 43 j0 _ 1 24 Tryz.underlying89 hj0 hy0 hy1 hy2 rfl (by omega) (.slice A3 n3 c3) n3 _ rfl own5 ⟨Y.heap.size, 0, none⟩ 1 1 [.slice (some ⟨gz, 0, none⟩) (n4 + 1) cz] rfl rfl (World.news_of_block kn2) (sl_one _ rfl) (by omega) (by unfold maxLen; omega) (by omega) (by omega) _ rfl ?_; intro gy cy Z own6 gr6 l6 z6)
        have bZ := (HBY.out.alloc HBY.out.size (.cells #[.slice (some ⟨gz, 0, none⟩) (n4 + 1) cz] 43)).grown gr6 (HBY.out.alloc HBY.out.size (.cells #[.slice (some ⟨gz, 0, none⟩) (n4 + 1) cz] 43)).size (fun i hi => (own5.lt i hi).1)
        have o4Z := owns_low (owns_grown (HOY.out.alloc (.cells #[.slice (some ⟨gz, 0, none⟩) (n4 + 1) cz] 43)) own5 (by decide) gr6) HW.out.b1
        have hltZ := fun b hb => (o4Z.lt b hb).2
        have hgs : Bk ≤ Z.heap.size := by have := gr6.size; simp at this; omega
        have lsZ := (HLY.out.map (w' := Z) hgs (fun v n xs o hlt => owns_grown (o.alloc (.cells #[.slice (some ⟨gz, 0, none⟩) (n4 + 1) cz] 43)) own5 (by decide) gr6)).snoc (L := s.l ++ [p]) (n := n4 + 1) (by rw [List.length_append, HW.out.l4]; rfl) (by rw [List.map_append]; exact o4Z) hltZ
        have HZ : Hid (WI w Z Z.heap.size s' (.slice (some ⟨gy, 0, none⟩) (n3 + 1) cy) (.slice none 0 0) (vs ++ [.slice (some ⟨gz, 0, none⟩) (n4 + 1) cz]) (n3 + 1) 0) := Lib.hid (by
          have h1 := HLE.out.1
          rw [HST.out] at h1 ⊢
          exact ⟨bZ, own6, World.ownsRow_nil _ _ _ _, lsZ, bZ.size, Nat.le_refl _, by simp [HW.out.l3], rfl, by simpa [HW.out.l3] using h1, Nat.zero_le _⟩)
        have HCZ : Hid ((t.drop (k + 1)).take (k + 1 - (k + 1)) = s'.cur) := Lib.hid (by rw [HST.out]; simp)
        clear bZ o4Z hltZ lsZ own6 gr6 l6 z6 kn2 own5 HBY HLY HOY HW HC z4
        go_wp2
        go_roundg m
        case rel =>
          refine ⟨k + 1, k + 1, Z.heap.size, some ⟨gy, 0, none⟩, n3 + 1, cy, none, 0, 0, vs ++ [.slice (some ⟨gz, 0, none⟩) (n4 + 1) cz], by omega, Nat.le_refl _, rfl, rfl, by go_num, by go_num, ?_, ?_⟩
          · rw [HS'.out]; exact HZ
          · rw [HS'.out]; exact HCZ
        case measure => omega
      · have e10 : ((b.toNat : Int) == 10) = false := by
          rw [beq_eq_false_iff_ne]
          intro e
          exact h10 (UInt8.toNat_inj.1 (by show b.toNat = 10; omega))
        by_cases h32 : b = 32
        · have e32 : ((b.toNat : Int) == 32) = true := by subst h32; rfl
          have hst : s' = ⟨s.ls, s.l ++ [p], []⟩ := by rw [HRT.out, h32, step_sp, HP.out]
          have HST := Lib.hid hst
          have HLT := Lib.hid hlt
          clear hst h10 h32 hb hlt
          have kn := Blk.new wr 9 #[.string (bs p)]
          have own3 := HW.out.o4.alloc (.cells #[.string (bs p)] 9)
          have hszA : Bk ≤ (wr.alloc (.cells #[.string (bs p)] 9)).heap.size := by simp; omega
          go_wp2_with (at_builtin; refine wpList_append_lies _ rfl _ _ 43 rfl Bk 9 i0 _ 1 16 Tryz.underlying43 hi0 hz0 hz1 hz2 rfl (by omega) (.slice A4 n4 c4) n4 _ rfl own3 ⟨wr.heap.size, 0, none⟩ 1 1 [.string (bs p)] rfl rfl (World.news_of_block kn) (sl_one _ rfl) (by omega) (by unfold maxLen; omega) (by omega) (by omega) _ rfl ?_; intro gz cz Y own4 gr4 l4 z4)
          have bY := (HW.out.b.alloc HW.out.b.size (.cells #[.string (bs p)] 9)).grown gr4 (HW.out.b.alloc HW.out.b.size (.cells #[.string (bs p)] 9)).size (fun i hi => Nat.le_trans HW.out.b1 (own3.lt i hi).1)
          have o3Y := owns_grown (HW.out.o3.alloc (.cells #[.string (bs p)] 9)) own3 (by decide) gr4
          have lsY := HW.out.ls.map (Nat.le_refl _) (fun v n xs o hlt => owns_apart (o.alloc (.cells #[.string (bs p)] 9)) hlt own3 (Nat.le_refl _) gr4)
          have HZ : Hid (WI w Y Bk s' (.slice A3 n3 c3) (.slice (some ⟨gz, 0, none⟩) (n4 + 1) cz) vs n3 (n4 + 1)) := Lib.hid (by
            have h1 := HLE.out.2
            rw [HST.out] at h1 ⊢
            refine ⟨bY, o3Y, by rw [List.map_append]; exact own4, lsY, HW.out.b1, ?_, HW.out.l3, by simp [HW.out.l4], HW.out.m3, by simpa [HW.out.l4] using h1⟩
            have := gr4.size
            simp at this
            omega)
          have HCZ : Hid ((t.drop (k + 1)).take (k + 1 - (k + 1)) = s'.cur) := Lib.hid (by rw [HST.out]; simp)
          clear bY o3Y lsY own4 gr4 l4 kn own3 HW HC z4
          go_wp2
          go_roundg m
          case rel =>
            refine ⟨k + 1, k + 1, Bk, A3, n3, c3, some ⟨gz, 0, none⟩, n4 + 1, cz, vs, by omega, Nat.le_refl _, rfl, by go_num, by go_num, by go_num, ?_, ?_⟩
            · rw [HS'.out]; exact HZ
            · rw [HS'.out]; exact HCZ
          case measure => omega
        · have e32 : ((b.toNat : Int) == 32) = false := by
            rw [beq_eq_false_iff_ne]
            intro e
            exact h32 (UInt8.toNat_inj.1 (by show b.toNat = 32; omega))
          have hst : s' = ⟨s.ls, s.l, p ++ [b]⟩ := by rw [HRT.out, step_ch s h10 h32, HP.out]
          have HZ : Hid (WI w wr Bk s' (.slice A3 n3 c3) (.slice A4 n4 c4) vs n3 n4) := Lib.hid (by
            rw [hst]
            exact ⟨HW.out.b, HW.out.o3, HW.out.o4, HW.out.ls, HW.out.b1, HW.out.b2, HW.out.l3, HW.out.l4, HW.out.m3, HW.out.m4⟩)
          have HCZ : Hid ((t.drop f).take (k + 1 - f) = s'.cur) := Lib.hid (by
            rw [hst]
            have hc := HC.out
            rw [HP.out] at hc
            have e : (t.drop f)[k - f]? = some b := by rw [List.getElem?_drop, show f + (k - f) = k by omega]; exact hb
            rw [show k + 1 - f = (k - f) + 1 by omega, take_snoc' e, hc])
          have HLT := Lib.hid hlt
          clear hst h10 h32 hb hlt HW HC hsl
          go_wp2
          go_roundg m
          case rel =>
            refine ⟨k + 1, f, Bk, A3, n3, c3, A4, n4, c4, vs, by omega, by omega, rfl, rfl, rfl, by go_num, ?_, ?_⟩
            · rw [HS'.out]; exact HZ
            · rw [HS'.out]; exact HCZ
          case measure => omega
    · obtain rfl : gk = 0 := by omega
      obtain rfl : k = N := by omega
      have hw := HW.out
      have e : Ws.run (t.take k) = Ws.run t := by rw [List.take_of_length_le (by rw [HN.out]; exact Nat.le_refl _)]
      rw [e] at hw
      have hl3 := hw.l3
      have HWW := Lib.hid hw
      have nb : ¬ (k : Int) < (k : Int) := by omega
      clear hw e
      go_wp2
      go_ret
      refine ⟨A3, c3, ?_, vs, ?_, HWW.out.ls.at_, HWW.out.b⟩
      · show _ = Ending.returned (.slice A3 (Ws.run t).ls.length c3)
        rw [hl3]
        rfl
      · show World.ownsRow _ _ _ _ (.slice A3 (Ws.run t).ls.length c3) (Ws.run t).ls.length _
        rw [hl3]
        exact HWW.out.o3
end Go.Proofs.YtgfahifdmacmhaaGreatDoor
