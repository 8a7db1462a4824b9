/- The reference's text of records; light, where texts are no longer than memory. -/
import Derived.Test.YtfjejfgdnjnflaaGreatDoorNa
namespace Go.Proofs.YtfjejfgdnjnflaaGreatDoor
open Go.RowKit Go.Shelf

theorem same_yes (w : World) (A B : Option Addr) (c c' : Nat) (l : List (List UInt8)) (h1 : StrsAt w w.heap.size A l) (h2 : StrsAt w w.heap.size B l) (hl : l.length ≤ 1000000) :
    Calls Tryz.prog 15 #[.slice A l.length c, .slice B l.length c'] w fun e w' => e = .returned (.bool true) ∧ Below w.heap.size w w' := by
  have h := same_any w A B c c' l l h1 h2 hl
  rwa [show decide (l = l) = true from decide_eq_true rfl] at h
theorem strCells_bs (s : List UInt8) : Lib.strCells (bs s) = bc s := by simp [Lib.strCells, bs, bc]
theorem own_string {B : Nat} {v : Value} {s : List UInt8} {W0 w : World} (h : Lib.OwnBuf B 5 v s.length (bc s) W0 w) : (convert 56 9 v).run Tryz.prog w = .ok (.string (bs s)) w := by
  obtain ⟨h1, _, _⟩ := h
  have hc := fun g (hg : v.ownBlock = some g) => World.ownsRowF.cells h1 hg
  obtain ⟨_, ⟨rfl, h0⟩ | ⟨g, cap, cur, fz, rfl, _⟩⟩ := h1
  · obtain rfl : s = [] := List.length_eq_zero_iff.1 h0
    exact run_convert_bytes_nil w 56 5 Tryz.underlying56 Tryz.underlying5 0 0 9 Tryz.underlying9
  · exact run_convert_bytes_back w 56 9 5 ⟨g, 0, none⟩ cap s Tryz.underlying56 Tryz.underlying5 Tryz.underlying9 fun j hj => hc g rfl j _ (by rw [bc_at, List.getElem?_eq_getElem hj]; rfl)

set_option maxRecDepth 100000 in
set_option maxHeartbeats 8000000 in
theorem rjoined_any (w : World) (B : Nat) (A : Option Addr) (l : List (List UInt8)) (c : Nat) (h : StrsAt w B A l) (hB : B ≤ w.heap.size) (hn : l.length ≤ 1000000) (htot : total l ≤ 100000000) :
    Calls Tryz.prog 44 #[.slice A l.length c] w fun e w' => e = .returned (.string (bs (textR l))) ∧ Below w.heap.size w w' := by
  obtain ⟨i0, hi, hz0, hz1, hz2⟩ := info_parts Tryz.infoByte
  have HS := Lib.hid (h.wide hB)
  have htl := textR_len l (by omega)
  clear h
  go_enter Tryz.func44, Tryz.ntmps44
  go_wp2_with fail
  go_loopw [3, 4] (fun n i wr => wr = w ∧ ∃ k s : Nat, k ≤ l.length ∧ n = .int .i64 (s : Int) ∧ i = .int .i64 (k : Int) ∧ Hid (s = total (l.take k) + 21 * k)) (fun _ i _ => l.length - (intOf i).toNat)
  case atStart => exact ⟨rfl, 0, 0, Nat.zero_le _, rfl, rfl, Lib.hid rfl⟩
  case round =>
    obtain ⟨rfl, k, s, hk, rfl, rfl, HK⟩ := hrel
    have hst := total_take l k
    have hsk := HK.out
    by_cases hlt : k < l.length
    · obtain ⟨r, hr⟩ : ∃ r, l[k]? = some r := ⟨_, List.getElem?_eq_getElem hlt⟩
      obtain ⟨g, off, rfl, hg, hc⟩ := HS.out k r hr
      have hki : (k : Int) < (l.length : Int) := by omega
      have hk0 : (0 : Int) ≤ (k : Int) := by omega
      have hsz := bs_size r
      have hrt := total_le (List.mem_of_getElem? hr)
      have hnx : s + (r.length + 21) = total (l.take (k + 1)) + 21 * (k + 1) := by
        rw [List.take_add_one, hr, total_app, hsk]
        simp [total]
        omega
      have HN := Lib.hid hnx
      have hs1 : s ≤ 121000000 := by omega
      clear hr hnx hsk hst HK
      go_wp2_with fail
      go_roundw
      case rel => exact ⟨by first | trivial | rfl, k + 1, s + (r.length + 21), by omega, by go_num, by go_num, HN⟩
      case measure => simp [intOf]; omega
    · obtain rfl : k = l.length := by omega
      obtain ⟨we, rfl⟩ : ∃ q, q = wr := ⟨wr, rfl⟩
      rw [List.take_length] at hsk
      have hs1 : s ≤ 121000000 := by omega
      clear HK hst hsk
      go_wp2_with (at_make; refine wpList_make_own _ rfl _ _ 56 rfl we.heap.size 5 i0 (.int .u8 0) 1 Tryz.underlying56 hi hz0 hz1 .i64 .i64 (s : Int) s rfl rfl rfl (by rw [hz2]; omega) (by unfold maxLen; omega) (Nat.le_refl _) ?_; intro w1 own1 gr1)
      have OB := Lib.hid (show Lib.OwnBuf we.heap.size 5 (.slice (some ⟨we.heap.size, 0, none⟩) 0 s) 0 [] we w1 from ⟨World.ownsRowF_of own1, (Below.refl _ we).grown gr1 (Nat.le_refl _) (fun _ h => by cases h), gr1.size⟩)
      clear own1 gr1
      go_wp2_with fail
      go_loopw [5, 6] (fun v i wx => ∃ k : Nat, k ≤ l.length ∧ i = .int .i64 (k : Int) ∧ Hid (Lib.OwnBuf we.heap.size 5 v (textR (l.take k)).length (bc (textR (l.take k))) we wx)) (fun _ i _ => l.length - (intOf i).toNat)
      case atStart => exact ⟨0, Nat.zero_le _, rfl, OB⟩
      case round =>
        clear OB
        obtain ⟨k, hk, rfl, HB⟩ := hrel
        by_cases hlt : k < l.length
        · obtain ⟨r, hr⟩ : ∃ r, l[k]? = some r := ⟨_, List.getElem?_eq_getElem hlt⟩
          obtain ⟨g, off, rfl, hg, hc⟩ := HS.out k r hr
          have HC := Lib.hid (fun W (hW : Below we.heap.size we W) => (hW.cell (p := ⟨g, off + k, none⟩) hg).trans hc)
          have hki : (k : Int) < (l.length : Int) := by omega
          have hk0 : (0 : Int) ≤ (k : Int) := by omega
          have hsz := bs_size r
          have hrt := total_le (List.mem_of_getElem? hr)
          have P := Lib.hid (fun W => rdecimal_any W r.length (by omega))
          have hdl := dec_short (n := r.length) (by omega)
          have htk : textR (l.take (k + 1)) = textR (l.take k) ++ Lib.decDigits r.length ++ [58] ++ r := by
            rw [textR_take l hr]
            unfold recL
            rw [itoa_nat]
            simp
          have hlen : (textR (l.take (k + 1))).length ≤ 121000000 := by
            have h1 := textR_len (l.take (k + 1)) (by have := total_take l (k + 1); omega)
            have h2 := total_take l (k + 1)
            have h3 : (l.take (k + 1)).length ≤ l.length := by rw [List.length_take]; omega
            omega
          have hlen2 : (textR (l.take k)).length + (Lib.decDigits r.length).length + 1 + r.length ≤ 121000000 := by
            rw [htk] at hlen
            simp only [List.length_append, List.length_singleton] at hlen
            omega
          have HTK := Lib.hid htk
          have hcx := HC.out _ HB.out.2.1
          obtain ⟨T, hT⟩ : ∃ T, textR (l.take k) = T := ⟨_, rfl⟩
          obtain ⟨D, hD⟩ : ∃ D, Lib.decDigits r.length = D := ⟨_, rfl⟩
          rw [hT] at HB HTK hlen2
          rw [hD] at P HTK hlen2 hdl
          clear hr hc htk hlen hT hD
          go_wp2_with fail
          refine (P.out _).mono ?_
          rintro e w2 ⟨rfl, rfl⟩
          have OB := HB.out
          clear HB
          have e58 : bc (T ++ D) ++ [Value.int .u8 58] = bc (T ++ D ++ [58]) := by rw [bc_app (T ++ D) [58]]; rfl
          go_wp2_with (first
            | (at_builtin; refine Lib.wpList_append_text rfl _ _ 56 9 rfl we.heap.size 5 i0 Tryz.underlying56 Tryz.underlying9 hi hz0 hz1 hz2 _ T.length (bc T) rfl we OB (bs D) rfl (by rw [bs_size]; omega) ?_; intro v3 w3 OB3; rw [bs_size, strCells_bs, ← bc_app] at OB3; clear OB)
            | (at_builtin; refine Lib.wpList_append_byte rfl _ _ 56 rfl we.heap.size 5 i0 Tryz.underlying56 hi hz0 hz1 hz2 v3 (T.length + D.length) (bc (T ++ D)) rfl we w3 58 OB3 rfl (by omega) ?_; intro v4 w4 OB4; rw [e58] at OB4; have hc4 := HC.out _ OB4.2.1; clear OB3)
            | (at_builtin; refine Lib.wpList_append_text rfl _ _ 56 9 rfl we.heap.size 5 i0 Tryz.underlying56 Tryz.underlying9 hi hz0 hz1 hz2 v4 (T.length + D.length + 1) (bc (T ++ D ++ [58])) rfl we OB4 (bs r) rfl (by rw [bs_size]; omega) ?_; intro v5' w5 OB5; rw [bs_size, strCells_bs, ← bc_app] at OB5; clear OB4))
          have OB6 : Lib.OwnBuf we.heap.size 5 v5' (textR (l.take (k + 1))).length (bc (textR (l.take (k + 1)))) we w5 := by
            rw [HTK.out]
            have : (T ++ D ++ [58] ++ r).length = T.length + D.length + 1 + r.length := by simp only [List.length_append, List.length_singleton]
            rw [this]
            exact OB5
          have HB6 := Lib.hid OB6
          clear OB5 OB6
          go_roundw
          case rel => exact ⟨k + 1, by omega, by go_num, HB6⟩
          case measure => simp [intOf]; omega
        · obtain rfl : k = l.length := by omega
          have OB := HB.out
          rw [List.take_length] at OB
          have hcv := own_string OB
          have hbel := OB.2.1
          clear OB HB
          go_wp2
          go_ret
          exact ⟨rfl, hbel⟩
set_option maxRecDepth 100000 in
set_option maxHeartbeats 4000000 in
theorem rtext_any (w : World) (B : Nat) (A : Option Addr) (l : List (List UInt8)) (c : Nat) (h : StrsAt w B A l) (hB : B ≤ w.heap.size) (hn : l.length ≤ 1000000) (htot : total l ≤ 100000000) :
    Calls Tryz.prog 11 #[.slice A l.length c] w fun e w' => e = .returned (.string (bs (textR l))) ∧ Below w.heap.size w w' := by
  have P := Lib.hid (rjoined_any w B A l c h hB hn htot)
  clear h
  go_enter Tryz.func11, Tryz.ntmps11
  go_wp2_with fail
  refine P.out.mono ?_
  rintro e w1 ⟨rfl, hb⟩
  clear P
  go_wp2
  go_ret
  exact ⟨rfl, hb⟩
set_option maxRecDepth 100000 in
set_option maxHeartbeats 4000000 in
theorem light2_any (w : World) (s : Int) (A : Option Addr) (c : Nat) (l : List OpJ) (h : OpsAt w w.heap.size A l) (hsm : ∀ o ∈ l, ∀ r ∈ o.list, r.length ≤ 140737488355328) :
    Calls Tryz.prog 6 #[.int .i64 s, .slice A l.length c] w fun e w' => ∃ b : Bool, e = .returned (.bool b) ∧ (b = true → s ≤ 40 ∧ l.length ≤ 16 ∧ ∀ o ∈ l, o.list.length ≤ 20 ∧ total o.list ≤ 6000) ∧ Below w.heap.size w w' := by
  by_cases hs40 : 40 < s
  · have d1 : decide (40 < s) = true := decide_eq_true hs40
    clear h hs40 hsm
    go_enter Tryz.func6, Tryz.ntmps6
    go_wp2
    go_ret
    exact ⟨false, rfl, fun h => (by cases h), Below.refl _ _⟩
  have d1 : decide (40 < s) = false := decide_eq_false hs40
  have hll := h.len
  by_cases h16 : 16 < l.length
  · have d2 : decide (16 < (l.length : Int)) = true := decide_eq_true (by omega)
    clear h hs40 hsm
    go_enter Tryz.func6, Tryz.ntmps6
    go_wp2
    go_ret
    exact ⟨false, rfl, fun h => (by cases h), Below.refl _ _⟩
  have d2 : decide (16 < (l.length : Int)) = false := decide_eq_false (by omega)
  have HO := Lib.hid h
  have HSM := Lib.hid hsm
  clear h hsm
  go_enter Tryz.func6, Tryz.ntmps6
  go_wp2_with fail
  go_loopw [5, 6] (fun t i wr => ∃ (z : Nat) (k : Nat), k ≤ l.length ∧ z ≤ 6000 ∧ t = .int .i64 (z : Int) ∧ i = .int .i64 (k : Int) ∧ Hid (∀ o ∈ l.take k, o.list.length ≤ 20 ∧ total o.list ≤ 6000) ∧ Below w.heap.size w wr) (fun _ i _ => l.length - (intOf i).toNat)
  case atStart => exact ⟨0, 0, Nat.zero_le _, Nat.zero_le _, rfl, rfl, Lib.hid (by simp), Below.refl _ _⟩
  case round =>
    obtain ⟨z, k, hk, hz6, rfl, rfl, HK, hb⟩ := hrel
    by_cases hlt : k < l.length
    · obtain ⟨o, ho⟩ : ∃ o, l[k]? = some o := ⟨_, List.getElem?_eq_getElem hlt⟩
      have hor := HO.out.below hb
      obtain ⟨g, off, rfl, hg, hcs⟩ := hor.cell k o ho
      have c1 : wr.cell? ⟨g, off + k * 5 + 1, none⟩ = some (.slice o.la o.list.length o.lc) := hcs 1 _ rfl
      have hst := hor.strs o (List.mem_of_getElem? ho)
      have hki : (k : Int) < (l.length : Int) := by omega
      have hk0 : (0 : Int) ≤ (k : Int) := by omega
      have hsmo := HSM.out o (List.mem_of_getElem? ho)
      have hnx : o.list.length ≤ 20 ∧ total o.list ≤ 6000 → ∀ x ∈ l.take (k + 1), x.list.length ≤ 20 ∧ total x.list ≤ 6000 := fun hle x hx => by
        rw [List.take_add_one, ho] at hx
        rcases List.mem_append.1 hx with hx | hx
        · exact HK.out x hx
        · obtain rfl : x = o := by simpa using hx
          exact hle
      obtain ⟨kd, la, lc, ls, at_, wn, bn⟩ := o
      simp only at *
      have HS := Lib.hid hst.1
      have hsl := hst.2
      have HNX := Lib.hid hnx
      clear hcs hst hor ho hnx HK
      by_cases h20 : 20 < ls.length
      · have d3 : decide (20 < (ls.length : Int)) = true := decide_eq_true (by omega)
        clear h20
        go_wp2
        go_ret
        exact ⟨false, rfl, fun h => (by cases h), hb⟩
      · have d3 : decide (20 < (ls.length : Int)) = false := decide_eq_false (by omega)
        have HSO := Lib.hid hsmo
        clear hsmo
        go_wp2_with fail
        go_loopw [5, 7] (fun t m wx => ∃ (y : Nat) (n : Nat), n ≤ ls.length ∧ y ≤ 6000 ∧ t = .int .i64 (y : Int) ∧ m = .int .i64 (n : Int) ∧ wx = wr ∧ Hid (total (ls.take n) ≤ y)) (fun _ m _ => ls.length - (intOf m).toNat)
        case atStart => exact ⟨z, 0, Nat.zero_le _, hz6, rfl, rfl, rfl, Lib.hid (Nat.zero_le _)⟩
        case round =>
          obtain ⟨y, n, hn, hy6, rfl, rfl, rfl, HY⟩ := hrel
          by_cases hlt2 : n < ls.length
          · obtain ⟨r, hr⟩ : ∃ r, ls[n]? = some r := ⟨_, List.getElem?_eq_getElem hlt2⟩
            obtain ⟨g2, off2, rfl, hg2, hc2⟩ := HS.out n r hr
            have hni : (n : Int) < (ls.length : Int) := by omega
            have hn0 : (0 : Int) ≤ (n : Int) := by omega
            have hsz := bs_size r
            have hrs := HSO.out r (List.mem_of_getElem? hr)
            have hny : total (ls.take (n + 1)) ≤ y + r.length := by
              rw [List.take_add_one, hr, total_app]
              have := HY.out
              simp [total] at this ⊢
              omega
            have HNY := Lib.hid hny
            clear hr hny HY
            by_cases h6 : 6000 < y + r.length
            · have d4 : decide (6000 < (y : Int) + (r.length : Int)) = true := decide_eq_true (by omega)
              go_wp2
              go_ret
              exact ⟨false, rfl, fun h => (by cases h), hb⟩
            · have d4 : decide (6000 < (y : Int) + (r.length : Int)) = false := decide_eq_false (by omega)
              go_wp2_with fail
              go_roundw
              case rel => exact ⟨y + r.length, n + 1, by omega, by omega, by go_num, by go_num, by first | trivial | rfl, HNY⟩
              case measure => simp [intOf]; omega
          · obtain rfl : n = ls.length := by omega
            have hty := HY.out
            rw [List.take_length] at hty
            have HN := Lib.hid (HNX.out ⟨by omega, by omega⟩)
            clear HY hty HNX
            go_wp2_with fail
            go_roundw
            case rel => exact ⟨y, k + 1, by omega, hy6, rfl, by go_num, HN, hb⟩
            case measure => simp [intOf]; omega
    · obtain rfl : k = l.length := by omega
      have hall := HK.out
      rw [List.take_length] at hall
      have HALL := Lib.hid hall
      clear hall HK
      go_wp2
      go_ret
      exact ⟨true, rfl, fun _ => ⟨by omega, by omega, HALL.out⟩, hb⟩
end Go.Proofs.YtfjejfgdnjnflaaGreatDoor
