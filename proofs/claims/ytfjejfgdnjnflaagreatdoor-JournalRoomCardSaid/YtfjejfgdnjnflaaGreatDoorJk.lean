/- The journal's texts: parse. -/
import Derived.Test.YtfjejfgdnjnflaaGreatDoorJg
import Derived.Test.YtfjejfgdnjnflaaGreatDoorJf
import Derived.Test.YtfjejfgdnjnflaaGreatDoorJq
namespace Go.Proofs.YtfjejfgdnjnflaaGreatDoor
open Go.RowKit Go.Shelf

theorem below_dN {B : Nat} {w w1 : World} (h : Below B w w1) (n : Nat) : Below B w (w1.drewN n) := ⟨h.os, h.tape, h.output, h.size, h.block⟩
/-- strconv.Atoi at any text that is not too long. -/
theorem atoi_ok (w : World) (l : List UInt8) (n : Int) (hl : l.length ≤ 1000000) (h : Lib.atoiAll l = .ok n) : Calls Tryz.prog 35 #[.string (bs l)] w fun e w' => e = .returned (.tuple #[.int .i64 n, .nilIface]) ∧ Below w.heap.size w w' :=
  (sh_strconv_Atoi_ok (bs l) (by rw [bs_size]; omega) n h w).mono fun _ _ ⟨he, hw⟩ => ⟨he, by
    rcases hw with rfl | ⟨t, rfl⟩
    · exact Below.refl _ _
    · exact Go.Joins.below_bytesWorld _ _ _ _ (Nat.le_refl _)⟩
theorem atoi_bad (w : World) (ht : Tbs w) (l : List UInt8) (hl : l.length ≤ 1000000) (h : ∀ n, Lib.atoiAll l ≠ .ok n) : ∃ n, Calls Tryz.prog 35 #[.string (bs l)] w (ErrPost w n) := by
  cases ha : Lib.atoiAll l with
  | ok v => exact absurd ha (h v)
  | «syntax» =>
    obtain ⟨ev, hv, hev⟩ := ht.syn
    exact ⟨0, (sh_strconv_Atoi_syntax (bs l) (by rw [bs_size]; omega) ha ev w hv hev).mono fun _ _ ⟨N, he, _, _, hb⟩ => ⟨_, _, he, hb⟩⟩
  | range =>
    obtain ⟨ev, hv, hev⟩ := ht.rng
    exact ⟨_, (sh_strconv_Atoi_range (bs l) (by rw [bs_size]; omega) ha ev w hv hev).mono fun _ _ ⟨N, he, _, _, hb⟩ => ⟨_, _, he, hb⟩⟩
theorem cut_any (w : World) (ht : Tbs w) (l : List UInt8) (hl : l.length ≤ 1000000) : Calls Tryz.prog 73 #[.string (bs l), .string ⟨#[58]⟩] w fun e w' =>
    e = .returned (.tuple #[.string (bs (Lib.cut l [58]).1), .string (bs (Lib.cut l [58]).2.1), .bool (Lib.cut l [58]).2.2]) ∧ Below w.heap.size w w' := by
  obtain ⟨m, hm⟩ := ht.max
  exact (sh_strings_Cut (bs l) ⟨#[58]⟩ m w (by rw [bs_size]; omega) hm).mono fun _ _ ⟨he, n, hw⟩ => ⟨he, hw ▸ below_dN (Below.refl _ _) n⟩

/-- What parse returns. -/
def ParsePost (w : World) (r : Option (List (List UInt8))) (e : Ending) (w' : World) : Prop :=
  Below w.heap.size w w' ∧ match r with
  | none => e = .returned (.tuple #[.slice none 0 0, .bool false])
  | some rs => ∃ A c, e = .returned (.tuple #[.slice A rs.length c, .bool true]) ∧ OwnStrs w' w.heap.size (.slice A rs.length c) rs

theorem ParsePost.no {w w' : World} (hb : Below w.heap.size w w') : ParsePost w none (.returned (.tuple #[.slice none 0 0, .bool false])) w' := ⟨hb, rfl⟩
theorem numOf_bad {a : List UInt8} (h : ∀ n, Lib.atoiAll a ≠ .ok n) : numOf a = none := by
  cases hn : numOf a with
  | none => rfl
  | some n =>
    obtain ⟨h1, h2⟩ := numOf_some hn
    rw [itoa_nat] at h2
    have := atoiAll_dec (n := n) (by unfold mxB at h1; omega)
    rw [h2] at this
    exact absurd this (h _)
theorem numOf_ok {a : List UInt8} {v : Int} (h : Lib.atoiAll a = .ok v) {n : Nat} (hn : numOf a = some n) : v = n := by
  obtain ⟨h1, h2⟩ := numOf_some hn
  rw [itoa_nat] at h2
  have := atoiAll_dec (n := n) (by unfold mxB at h1; omega)
  rw [h2, h] at this
  injection this

set_option maxRecDepth 100000 in
set_option maxHeartbeats 8000000 in
theorem parse_any (w : World) (ht : Tbs w) (t : List UInt8) (hl : t.length ≤ 1000000) : Calls Tryz.prog 38 #[.string (bs t)] w (ParsePost w (parseR t)) := by
  obtain ⟨i0, hi0, hz0, hz1, hz2⟩ := info_parts Tryz.infoStr
  obtain ⟨R, hR⟩ : ∃ R, parseR t = R := ⟨_, rfl⟩
  rw [hR]
  have HR := Lib.hid hR
  have HT := Lib.hid ht
  clear hR ht
  have hw0 : OwnStrs w w.heap.size (.slice none 0 0) [] := OwnStrs.nil _ _
  go_enter Tryz.func38, Tryz.ntmps38
  go_wp2_with fail
  go_loopw [0, 4] (fun s v wr => ∃ (m : List UInt8) (rs : List (List UInt8)) (A : Option Addr) (c : Nat), s = .string (bs m) ∧ v = .slice A rs.length c ∧ OwnStrs wr w.heap.size (.slice A rs.length c) rs ∧ Hid (R = (parseR m).map (fun x => rs ++ x)) ∧ m.length + rs.length ≤ t.length ∧ Below w.heap.size w wr) (fun s _ _ => strSize s)
  case atStart => exact ⟨t, [], none, 0, rfl, rfl, hw0, Lib.hid (by rw [HR.out]; cases R <;> rfl), by simp, Below.refl _ _⟩
  case round =>
    clear hw0 HR
    obtain ⟨m, rs, A, c, rfl, rfl, own, HM, hml, hb⟩ := hrel
    have hsz := bs_size m
    by_cases h0 : m = []
    · subst h0
      have hfin : R = some rs := by have := HM.out; rw [parseR_nil] at this; simpa using this
      subst hfin
      have he : (bs []).toList = [] := by rw [Lib.toList_data]; rfl
      have OW := Lib.hid own
      clear HM own
      go_wp2
      go_ret2
      exact ⟨hb, _, _, rfl, OW.out⟩
    obtain ⟨q1, q2⟩ := ne_empty h0
    have hcut := fun W h => cut_any W h m (by omega)
    cases hc : cutC m with
    | none =>
      have hnone : R = none := by rw [HM.out, parseR_none h0 hc]; rfl
      subst hnone
      rw [cut_miss (cutC_none hc)] at hcut
      simp only at hcut
      have HC := Lib.hid hcut
      clear hcut hc HM h0 own
      go_wp2_with fail
      refine (HC.out _ (HT.out.below hb)).mono ?_
      rintro e w3 ⟨rfl, b⟩
      replace hb := hb.trans (b.mono hb.size)
      clear b
      by_cases hok : ∃ n, Lib.atoiAll m = .ok n
      · obtain ⟨n, hn⟩ := hok
        have ha := fun W => atoi_ok W m n (by omega) hn
        have HA := Lib.hid ha
        clear ha hn
        go_wp2_with fail
        refine (HA.out _).mono ?_
        rintro e w4 ⟨rfl, b⟩
        replace hb := hb.trans (b.mono hb.size)
        clear b
        go_wp2
        go_ret2
        exact ParsePost.no hb
      · obtain ⟨n, ha⟩ := atoi_bad w3 (HT.out.below hb) m (by omega) (fun n hn => hok ⟨n, hn⟩)
        have HA := Lib.hid ha
        clear ha hok
        go_wp2_with fail
        refine HA.out.mono ?_
        rintro e w4 ⟨ty, v, rfl, b⟩
        replace hb := hb.trans (b.mono hb.size)
        clear b
        go_wp2
        go_ret2
        exact ParsePost.no hb
    | some pr =>
      obtain ⟨a, r⟩ := pr
      have hstep := parseR_step hc
      obtain ⟨hma, hac⟩ := cutC_some hc
      rw [hma, cut_hit hac, ← hma] at hcut
      simp only at hcut
      have hal : a.length + 1 + r.length = m.length := by rw [hma]; simp; omega
      have hsr := bs_size r
      have HC := Lib.hid hcut
      have HST := Lib.hid hstep
      clear hcut hc h0 hstep hma hac
      go_wp2_with fail
      refine (HC.out _ (HT.out.below hb)).mono ?_
      rintro e w3 ⟨rfl, b⟩
      have own3 : OwnStrs w3 w.heap.size (.slice A rs.length c) rs := (Only.of_below b (fun _ => False)).owns own (fun _ _ h => h)
      replace hb := hb.trans (b.mono hb.size)
      clear b own q1 q2 HC
      by_cases hok : ∃ n, Lib.atoiAll a = .ok n
      case neg =>
        have hnone : R = none := by rw [HM.out, HST.out, numOf_bad (fun n hn => hok ⟨n, hn⟩)]; rfl
        subst hnone
        obtain ⟨n, ha⟩ := atoi_bad w3 (HT.out.below hb) a (by omega) (fun n hn => hok ⟨n, hn⟩)
        have HA := Lib.hid ha
        clear ha hok HM HST own3
        go_wp2_with fail
        refine HA.out.mono ?_
        rintro e w4 ⟨ty, v, rfl, b⟩
        replace hb := hb.trans (b.mono hb.size)
        clear b
        go_wp2
        go_ret2
        exact ParsePost.no hb
      obtain ⟨n, hn⟩ := hok
      have ha := fun W => atoi_ok W a n (by omega) hn
      have HA := Lib.hid ha
      have HN := Lib.hid hn
      clear ha hn
      go_wp2_with fail
      refine (HA.out _).mono ?_
      rintro e w4 ⟨rfl, b⟩
      have own4 : OwnStrs w4 w.heap.size (.slice A rs.length c) rs := (Only.of_below b (fun _ => False)).owns own3 (fun _ _ h => h)
      replace hb := hb.trans (b.mono hb.size)
      clear b own3 HA
      by_cases h1 : n < 0
      · have d1 : decide (n < 0) = true := decide_eq_true h1
        have hnone : R = none := by
          rw [HM.out, HST.out]
          cases hq : numOf a with
          | none => rfl
          | some k => have := numOf_ok HN.out hq; omega
        subst hnone
        clear HM HST own4 h1
        go_wp2
        go_ret2
        exact ParsePost.no hb
      have d1 : decide (n < 0) = false := decide_eq_false h1
      by_cases h2 : 20000 < n
      · have d2 : decide (20000 < n) = true := decide_eq_true h2
        have hnone : R = none := by
          rw [HM.out, HST.out]
          cases hq : numOf a with
          | none => rfl
          | some k => have := numOf_ok HN.out hq; have := (numOf_some hq).1; unfold mxB at this; omega
        subst hnone
        clear HM HST own4 h1 h2
        go_wp2
        go_ret2
        exact ParsePost.no hb
      have d2 : decide (20000 < n) = false := decide_eq_false h2
      obtain ⟨k, rfl⟩ := Int.eq_ofNat_of_zero_le (show 0 ≤ n by omega)
      have hk : k ≤ 20000 := by omega
      have hit := fun W h => itoa_any W h k (by omega)
      clear h1 h2
      by_cases h3 : Lib.decDigits k = a
      case neg =>
        have hnone : R = none := by
          rw [HM.out, HST.out]
          cases hq : numOf a with
          | none => rfl
          | some j =>
            have := numOf_ok HN.out hq
            have h5 := (numOf_some hq).2
            rw [itoa_nat] at h5
            exact absurd (by rw [show k = j by omega]; exact h5) h3
        subst hnone
        have q3 := beq_bs h3
        generalize Lib.decDigits k = D at *
        have HI := Lib.hid hit
        clear HM HST own4 hit h3
        go_wp2_with fail
        refine (HI.out _ (HT.out.below hb)).mono ?_
        rintro e w5 ⟨rfl, b⟩
        replace hb := hb.trans (b.mono hb.size)
        clear b
        go_wp2
        go_ret2
        exact ParsePost.no hb
      have hnum : numOf a = some k := by rw [← h3, ← itoa_nat]; exact numOf_itoa (by unfold mxB; omega)
      rw [h3] at hit
      have HI := Lib.hid hit
      have HNUM := Lib.hid hnum
      clear hit h3 hnum
      by_cases h4 : k ≤ r.length
      case neg =>
        have hnone : R = none := by rw [HM.out, HST.out, HNUM.out, Option.bind_some, if_neg h4]; rfl
        subst hnone
        have d4 : decide (r.length < k) = true := decide_eq_true (by omega)
        clear HM HST own4
        go_wp2_with fail
        refine (HI.out _ (HT.out.below hb)).mono ?_
        rintro e w5 ⟨rfl, b⟩
        replace hb := hb.trans (b.mono hb.size)
        clear b
        go_wp2
        go_ret2
        exact ParsePost.no hb
      have d4 : decide (r.length < k) = false := decide_eq_false (by omega)
      have s1 := sl_to r k h4
      have s2 := sl_from r k h4
      have hdl : (r.drop k).length = r.length - k := List.length_drop
      have hnx : R = (parseR (r.drop k)).map (fun x => (rs ++ [r.take k]) ++ x) := by
        have e : ((fun x => rs ++ x) ∘ fun x => r.take k :: x) = fun x => (rs ++ [r.take k]) ++ x := by funext x; simp
        rw [HM.out, HST.out, HNUM.out, Option.bind_some, if_pos h4, Option.map_map, e]
      have HNX := Lib.hid hnx
      have HDL := Lib.hid hdl
      clear HM HST hnx hdl
      go_wp2_with fail
      refine (HI.out _ (HT.out.below hb)).mono ?_
      rintro e w5 ⟨rfl, b⟩
      have own5 : OwnStrs w5 w.heap.size (.slice A rs.length c) rs := (Only.of_below b (fun _ => False)).owns own4 (fun _ _ h => h)
      replace hb := hb.trans (b.mono hb.size)
      have kn := Blk.new w5 9 #[sv (r.take k)]
      have hb2 := hb.alloc hb.size (.cells #[sv (r.take k)] 9)
      have own6 : OwnStrs (w5.alloc (.cells #[sv (r.take k)] 9)) w.heap.size (.slice A rs.length c) rs := World.ownsRow.alloc own5 _
      have hrsl : rs.length ≤ 1000000 := by omega
      clear b own4 own5 HI
      go_wp2_with (at_builtin; refine wpList_append_lies _ rfl _ _ 26 rfl w.heap.size 9 i0 _ 1 16 Tryz.underlying26 hi0 hz0 hz1 hz2 rfl (by omega) (.slice A rs.length c) rs.length (rs.map sv) rfl own6 ⟨w5.heap.size, 0, none⟩ 1 1 [sv (r.take k)] rfl rfl (World.news_of_block kn) (sv_one [r.take k]) (by omega) (by unfold maxLen; omega) (by omega) (by have := hb.size; simp; omega) (w5.heap.size + 1) (by simp) ?_; intro gz cz Y own9 gr9 l9 z9)
      have hb3 := hb2.grown gr9 hb2.size (fun x hx => (World.ownsRow.lt own6 x hx).1)
      have hl1 : (rs ++ [r.take k]).length = rs.length + 1 := by simp
      have own7 : OwnStrs Y w.heap.size (.slice (some ⟨gz, 0, none⟩) (rs.length + 1) cz) (rs ++ [r.take k]) := by
        unfold OwnStrs
        rw [hl1, List.map_append]
        exact own9
      go_roundw
      case rel => exact ⟨r.drop k, rs ++ [r.take k], some ⟨gz, 0, none⟩, cz, rfl, by rw [hl1], by rw [hl1]; exact own7, HNX, by rw [hl1, HDL.out]; omega, hb3⟩
      case measure =>
        show (bs (r.drop k)).size < (bs m).size
        rw [bs_size, bs_size, HDL.out]; omega
end Go.Proofs.YtfjejfgdnjnflaaGreatDoor
