/- The walk of DiskMatchesReference. -/
import Derived.Test.YtahkahmkoibmhaaSg
import Derived.Deep.DeepCutAuto
namespace Go.Proofs.Ytahkahmkoibmhaa
open Go.RowKit

set_option maxRecDepth 100000 in
set_option maxHeartbeats 1000000 in
theorem match_no (w : World) (r : Nat) (A : Option Addr) (c : Nat) (l : List Ac) (h : Acts w w.heap.size A l) (hok : okB l = false) (sn : Int) :
    Calls Try.prog 3 #[.int .u8 (r : Int), .int .i64 sn, .slice A l.length c] w fun e w' => e = .returned (.bool true) ∧ Below w.heap.size w w' := by
  have hl := h.len
  have HK := Lib.hid hok
  clear hok
  go_enter Try.func3, Try.ntmps3
  go_wp2_with fail
  refine (head_any _).mono ?_
  rintro e w1 ⟨rfl, hb⟩
  go_wp2_with fail
  refine (ok_any w1 w.heap.size A l c (h.below hb).at_ (by omega)).mono ?_
  rintro e w2 ⟨rfl, rfl⟩
  rw [HK.out]
  go_wp2
  go_ret
  exact ⟨rfl, hb⟩

set_option maxRecDepth 100000 in
set_option maxHeartbeats 4000000 in
theorem match_yes (w : World) (r : Nat) (hr : r < 256) (A : Option Addr) (c : Nat) (l : List Ac) (h : Acts w w.heap.size A l) (hok : okB l = true) (sn : Int) :
    Calls Try.prog 3 #[.int .u8 (r : Int), .int .i64 sn, .slice A l.length c] w fun e w' => e = .returned (.bool true) ∧ Below w.heap.size w w' := by
  have hl := h.len
  have hts := (okB_spec hok).1
  have hl60 := (okB_spec hok).2
  have HK := Lib.hid hok
  clear hok
  obtain ⟨n, hn⟩ : ∃ n, 1 + r % 12 = n := ⟨_, rfl⟩
  have hn1 : 1 ≤ n := by omega
  have hn2 : n ≤ 4000 := by omega
  have HN := Lib.hid hn
  clear hn
  go_enter Try.func3, Try.ntmps3
  go_wp2_with fail
  refine (head_any _).mono ?_
  rintro e w1 ⟨rfl, hb⟩
  go_wp2_with fail
  refine (ok_any w1 w.heap.size A l c (h.below hb).at_ (by omega)).mono ?_
  rintro e w2 ⟨rfl, rfl⟩
  rw [HK.out]
  go_wp2_with fail
  by_cases hs1 : sn < 1
  · refine (new_no _ sn (.inl hs1)).mono ?_
    rintro e wx ⟨rfl, rfl⟩
    go_wp2_with fail
    refine (size_any _ r hr).mono ?_
    rintro e w2 ⟨rfl, rfl⟩
    rw [HN.out]
    go_wp2_with fail
    refine (new_yes _ n hn1 hn2).mono ?_
    rintro e w2 ⟨a, rfl, hb2, -, hd2⟩
    have L2 : Live w w2 a (Dk.new n) (fun _ => False) := Live.of_new hb hb2 hd2
    clear hd2 hb2 hb
    go_wp2_with fail
    refine (size_any _ r hr).mono ?_
    rintro e w3 ⟨rfl, rfl⟩
    rw [HN.out]
    go_wp2_with fail
    refine (rnew_yes _ n hn1 hn2).mono ?_
    rintro e w3 ⟨b, rfl, hb3, hd3⟩
    have T3 : Mix w w3 a (Dk.new n) b (Dk.new n) := Mix.of_new L2 hb3 hd3
    clear hd3 hb3 L2
    go_wp2_with fail
    go_loopw [10] (fun v wr => ∃ k : Nat, k ≤ l.length ∧ v = .int .i64 (k : Int) ∧ Mix w wr a ((Dk.new n).acts (l.take k)) b ((Dk.new n).acts (l.take k))) (fun v _ => l.length - (intOf v).toNat)
    case atStart => exact ⟨0, Nat.zero_le _, rfl, T3⟩
    case round =>
      clear T3
      obtain ⟨k, hk, rfl, hT⟩ := hrel
      by_cases hlt : k < l.length
      · obtain ⟨z, hz⟩ : ∃ a, l[k]? = some a := ⟨_, List.getElem?_eq_getElem hlt⟩
        have hstep := Dk.acts_take (Dk.new n) l k z hz
        have hqa := Dk.acts_q (l.take k) (Dk.new n)
        have hqb : ((Dk.new n).acts (l.take k)).q.length < 4096 := by
          have h1 : (Dk.new n).q.length = 0 := rfl
          have h2 : (l.take k).length ≤ l.length := by simp; omega
          omega
        have hxt' := hts z (List.mem_of_getElem? hz)
        have hxa' := h.wf z (List.mem_of_getElem? hz)
        have HX := Lib.hid hz
        have HST := Lib.hid hstep
        generalize (Dk.new n).acts (l.take k) = D at *
        clear hz hstep hqa
        have hA := ((h.below hT.below).at_).at_ HX.out
        obtain ⟨g, off, hA, hg, c0, c1, c2, c3, c4, c5⟩ := hA
        subst hA
        go_wp2_with fail
        refine (hT.left fun F hF => do_any hF hqb z hxt' hxa').mono ?_
        rintro e w4 ⟨rfl, T4⟩
        clear c0 c1 c2 c3 c4 c5
        obtain ⟨g', off', hA', hg', c0, c1, c2, c3, c4, c5⟩ := ((h.below T4.below).at_).at_ HX.out
        injection hA' with hA'
        injection hA' with e1 e2
        subst e1 e2
        go_wp2_with fail
        refine (T4.right fun F hF => rdo_any hF hqb z hxt' hxa').mono ?_
        rintro e w5 ⟨rfl, T5⟩
        clear c0 c1 c2 c3 c4 c5
        go_wp2
        go_roundw
        case rel => exact ⟨k + 1, by omega, by go_num, by rw [HST.out]; exact T5⟩
        case measure => simp [intOf]; omega
      · obtain rfl : k = l.length := by omega
        rw [List.take_length] at hT
        generalize (Dk.new n).acts l = D at *
        go_wp2_with fail
        go_loopw [15] (fun v wr => ∃ k : Nat, k ≤ n ∧ v = .int .i64 (k : Int) ∧ Mix w wr a D b D) (fun v _ => n - (intOf v).toNat)
        case atStart => exact ⟨0, Nat.zero_le _, rfl, hT⟩
        case round =>
          clear hT
          obtain ⟨k, hk, rfl, hT⟩ := hrel
          go_wp2_with fail
          refine (size_any _ r hr).mono ?_
          rintro e w5 ⟨rfl, rfl⟩
          rw [HN.out]
          by_cases hlt : k < n
          · go_wp2_with fail
            refine (hT.lookl fun F hF => read_any hF (k : Int)).mono ?_
            rintro e w6 ⟨rfl, hb6⟩
            have T6 := hT.same hb6
            clear hT hb6
            go_wp2_with fail
            refine (T6.lookr fun F hF => rreadA hF (k : Int)).mono ?_
            rintro e w7 ⟨rfl, hb7⟩
            have T7 := T6.same hb7
            clear T6 hb7
            go_wp2
            go_roundw
            case rel => exact ⟨k + 1, by omega, by go_num, T7⟩
            case measure => simp [intOf]; omega
          · go_wp2
            go_ret
            exact ⟨rfl, hT.below⟩
  · by_cases hs2 : 4000 < sn
    · refine (new_no _ sn (.inr hs2)).mono ?_
      rintro e wx ⟨rfl, rfl⟩
      go_wp2_with fail
      refine (size_any _ r hr).mono ?_
      rintro e w2 ⟨rfl, rfl⟩
      rw [HN.out]
      go_wp2_with fail
      refine (new_yes _ n hn1 hn2).mono ?_
      rintro e w2 ⟨a, rfl, hb2, -, hd2⟩
      have L2 : Live w w2 a (Dk.new n) (fun _ => False) := Live.of_new hb hb2 hd2
      clear hd2 hb2 hb
      go_wp2_with fail
      refine (size_any _ r hr).mono ?_
      rintro e w3 ⟨rfl, rfl⟩
      rw [HN.out]
      go_wp2_with fail
      refine (rnew_yes _ n hn1 hn2).mono ?_
      rintro e w3 ⟨b, rfl, hb3, hd3⟩
      have T3 : Mix w w3 a (Dk.new n) b (Dk.new n) := Mix.of_new L2 hb3 hd3
      clear hd3 hb3 L2
      go_wp2_with fail
      go_loopw [10] (fun v wr => ∃ k : Nat, k ≤ l.length ∧ v = .int .i64 (k : Int) ∧ Mix w wr a ((Dk.new n).acts (l.take k)) b ((Dk.new n).acts (l.take k))) (fun v _ => l.length - (intOf v).toNat)
      case atStart => exact ⟨0, Nat.zero_le _, rfl, T3⟩
      case round =>
        clear T3
        obtain ⟨k, hk, rfl, hT⟩ := hrel
        by_cases hlt : k < l.length
        · obtain ⟨z, hz⟩ : ∃ a, l[k]? = some a := ⟨_, List.getElem?_eq_getElem hlt⟩
          have hstep := Dk.acts_take (Dk.new n) l k z hz
          have hqa := Dk.acts_q (l.take k) (Dk.new n)
          have hqb : ((Dk.new n).acts (l.take k)).q.length < 4096 := by
            have h1 : (Dk.new n).q.length = 0 := rfl
            have h2 : (l.take k).length ≤ l.length := by simp; omega
            omega
          have hxt' := hts z (List.mem_of_getElem? hz)
          have hxa' := h.wf z (List.mem_of_getElem? hz)
          have HX := Lib.hid hz
          have HST := Lib.hid hstep
          generalize (Dk.new n).acts (l.take k) = D at *
          clear hz hstep hqa
          have hA := ((h.below hT.below).at_).at_ HX.out
          obtain ⟨g, off, hA, hg, c0, c1, c2, c3, c4, c5⟩ := hA
          subst hA
          go_wp2_with fail
          refine (hT.left fun F hF => do_any hF hqb z hxt' hxa').mono ?_
          rintro e w4 ⟨rfl, T4⟩
          clear c0 c1 c2 c3 c4 c5
          obtain ⟨g', off', hA', hg', c0, c1, c2, c3, c4, c5⟩ := ((h.below T4.below).at_).at_ HX.out
          injection hA' with hA'
          injection hA' with e1 e2
          subst e1 e2
          go_wp2_with fail
          refine (T4.right fun F hF => rdo_any hF hqb z hxt' hxa').mono ?_
          rintro e w5 ⟨rfl, T5⟩
          clear c0 c1 c2 c3 c4 c5
          go_wp2
          go_roundw
          case rel => exact ⟨k + 1, by omega, by go_num, by rw [HST.out]; exact T5⟩
          case measure => simp [intOf]; omega
        · obtain rfl : k = l.length := by omega
          rw [List.take_length] at hT
          generalize (Dk.new n).acts l = D at *
          go_wp2_with fail
          go_loopw [15] (fun v wr => ∃ k : Nat, k ≤ n ∧ v = .int .i64 (k : Int) ∧ Mix w wr a D b D) (fun v _ => n - (intOf v).toNat)
          case atStart => exact ⟨0, Nat.zero_le _, rfl, hT⟩
          case round =>
            clear hT
            obtain ⟨k, hk, rfl, hT⟩ := hrel
            go_wp2_with fail
            refine (size_any _ r hr).mono ?_
            rintro e w5 ⟨rfl, rfl⟩
            rw [HN.out]
            by_cases hlt : k < n
            · go_wp2_with fail
              refine (hT.lookl fun F hF => read_any hF (k : Int)).mono ?_
              rintro e w6 ⟨rfl, hb6⟩
              have T6 := hT.same hb6
              clear hT hb6
              go_wp2_with fail
              refine (T6.lookr fun F hF => rreadA hF (k : Int)).mono ?_
              rintro e w7 ⟨rfl, hb7⟩
              have T7 := T6.same hb7
              clear T6 hb7
              go_wp2
              go_roundw
              case rel => exact ⟨k + 1, by omega, by go_num, T7⟩
              case measure => simp [intOf]; omega
            · go_wp2
              go_ret
              exact ⟨rfl, hT.below⟩
    · obtain ⟨sk, rfl⟩ := Int.eq_ofNat_of_zero_le (show 0 ≤ sn by omega)
      refine (new_yes _ sk (by omega) (by omega)).mono ?_
      rintro e wx ⟨ax, rfl, hbx, -, -⟩
      have hb := hb.trans (hbx.mono hb.size)
      clear hbx
      go_wp2_with fail
      refine (size_any _ r hr).mono ?_
      rintro e w2 ⟨rfl, rfl⟩
      rw [HN.out]
      go_wp2_with fail
      refine (new_yes _ n hn1 hn2).mono ?_
      rintro e w2 ⟨a, rfl, hb2, -, hd2⟩
      have L2 : Live w w2 a (Dk.new n) (fun _ => False) := Live.of_new hb hb2 hd2
      clear hd2 hb2 hb
      go_wp2_with fail
      refine (size_any _ r hr).mono ?_
      rintro e w3 ⟨rfl, rfl⟩
      rw [HN.out]
      go_wp2_with fail
      refine (rnew_yes _ n hn1 hn2).mono ?_
      rintro e w3 ⟨b, rfl, hb3, hd3⟩
      have T3 : Mix w w3 a (Dk.new n) b (Dk.new n) := Mix.of_new L2 hb3 hd3
      clear hd3 hb3 L2
      go_wp2_with fail
      go_loopw [10] (fun v wr => ∃ k : Nat, k ≤ l.length ∧ v = .int .i64 (k : Int) ∧ Mix w wr a ((Dk.new n).acts (l.take k)) b ((Dk.new n).acts (l.take k))) (fun v _ => l.length - (intOf v).toNat)
      case atStart => exact ⟨0, Nat.zero_le _, rfl, T3⟩
      case round =>
        clear T3
        obtain ⟨k, hk, rfl, hT⟩ := hrel
        by_cases hlt : k < l.length
        · obtain ⟨z, hz⟩ : ∃ a, l[k]? = some a := ⟨_, List.getElem?_eq_getElem hlt⟩
          have hstep := Dk.acts_take (Dk.new n) l k z hz
          have hqa := Dk.acts_q (l.take k) (Dk.new n)
          have hqb : ((Dk.new n).acts (l.take k)).q.length < 4096 := by
            have h1 : (Dk.new n).q.length = 0 := rfl
            have h2 : (l.take k).length ≤ l.length := by simp; omega
            omega
          have hxt' := hts z (List.mem_of_getElem? hz)
          have hxa' := h.wf z (List.mem_of_getElem? hz)
          have HX := Lib.hid hz
          have HST := Lib.hid hstep
          generalize (Dk.new n).acts (l.take k) = D at *
          clear hz hstep hqa
          have hA := ((h.below hT.below).at_).at_ HX.out
          obtain ⟨g, off, hA, hg, c0, c1, c2, c3, c4, c5⟩ := hA
          subst hA
          go_wp2_with fail
          refine (hT.left fun F hF => do_any hF hqb z hxt' hxa').mono ?_
          rintro e w4 ⟨rfl, T4⟩
          clear c0 c1 c2 c3 c4 c5
          obtain ⟨g', off', hA', hg', c0, c1, c2, c3, c4, c5⟩ := ((h.below T4.below).at_).at_ HX.out
          injection hA' with hA'
          injection hA' with e1 e2
          subst e1 e2
          go_wp2_with fail
          refine (T4.right fun F hF => rdo_any hF hqb z hxt' hxa').mono ?_
          rintro e w5 ⟨rfl, T5⟩
          clear c0 c1 c2 c3 c4 c5
          go_wp2
          go_roundw
          case rel => exact ⟨k + 1, by omega, by go_num, by rw [HST.out]; exact T5⟩
          case measure => simp [intOf]; omega
        · obtain rfl : k = l.length := by omega
          rw [List.take_length] at hT
          generalize (Dk.new n).acts l = D at *
          go_wp2_with fail
          go_loopw [15] (fun v wr => ∃ k : Nat, k ≤ n ∧ v = .int .i64 (k : Int) ∧ Mix w wr a D b D) (fun v _ => n - (intOf v).toNat)
          case atStart => exact ⟨0, Nat.zero_le _, rfl, hT⟩
          case round =>
            clear hT
            obtain ⟨k, hk, rfl, hT⟩ := hrel
            go_wp2_with fail
            refine (size_any _ r hr).mono ?_
            rintro e w5 ⟨rfl, rfl⟩
            rw [HN.out]
            by_cases hlt : k < n
            · go_wp2_with fail
              refine (hT.lookl fun F hF => read_any hF (k : Int)).mono ?_
              rintro e w6 ⟨rfl, hb6⟩
              have T6 := hT.same hb6
              clear hT hb6
              go_wp2_with fail
              refine (T6.lookr fun F hF => rreadA hF (k : Int)).mono ?_
              rintro e w7 ⟨rfl, hb7⟩
              have T7 := T6.same hb7
              clear T6 hb7
              go_wp2
              go_roundw
              case rel => exact ⟨k + 1, by omega, by go_num, T7⟩
              case measure => simp [intOf]; omega
            · go_wp2
              go_ret
              exact ⟨rfl, hT.below⟩

theorem match_walk (w : World) (r : Int) (wr : (Lit.int .u8 r).wf = true) (s : Int) (_ : (Lit.int .i64 s).wf = true) (A : Option Addr) (c : Nat) (l : List Ac) (h : Acts w w.heap.size A l) :
    Calls Try.prog 3 #[.int .u8 r, .int .i64 s, .slice A l.length c] w fun e w' => e = .returned (.bool true) ∧ Below w.heap.size w w' := by
  obtain ⟨k, rfl, hk⟩ := u8_nat wr
  cases hok : okB l with
  | false => exact match_no w k A c l h hok s
  | true => exact match_yes w k hk A c l h hok s
end Go.Proofs.Ytahkahmkoibmhaa
