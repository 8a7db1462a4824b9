/- The walk of DiskDamage. -/
import Derived.Test.YtahkahmkoibmhaaLp
import Derived.Deep.DeepCutAuto
namespace Go.Proofs.Ytahkahmkoibmhaa
open Go.RowKit

set_option maxRecDepth 100000 in
set_option maxHeartbeats 1000000 in
theorem damage_no (w : World) (r : Nat) (A : Option Addr) (c : Nat) (l : List Ac) (h : Acts w w.heap.size A l) (hok : okB l = false) (sc at_ mk : Int) :
    Calls Try.prog 9 #[.int .u8 (r : Int), .slice A l.length c, .int .i64 sc, .int .i64 at_, .int .i64 mk] w fun e w' => e = .returned (.bool true) ∧ Below w.heap.size w w' := by
  have hl := h.len
  have HK := Lib.hid hok
  clear hok
  go_enter Try.func9, Try.ntmps9
  go_wp2_with fail
  refine (head_any _).mono ?_
  rintro e w1 ⟨rfl, hb⟩
  go_wp2_with fail
  refine (ok_any w1 w.heap.size A l c (h.below hb).at_ (by omega)).mono ?_
  rintro e w2 ⟨rfl, rfl⟩
  rw [HK.out]
  go_wp2
  go_ret
  exact ⟨rfl, hb⟩

set_option maxRecDepth 100000 in
set_option maxHeartbeats 8000000 in
theorem damage_yes (w : World) (r : Nat) (hr : r < 256) (A : Option Addr) (c : Nat) (l : List Ac) (h : Acts w w.heap.size A l) (hok : okB l = true) (sc at_ mk : Int) :
    Calls Try.prog 9 #[.int .u8 (r : Int), .slice A l.length c, .int .i64 sc, .int .i64 at_, .int .i64 mk] w fun e w' => e = .returned (.bool true) ∧ Below w.heap.size w w' := by
  have hl := h.len
  have hts := (okB_spec hok).1
  have hl60 := (okB_spec hok).2
  have HK := Lib.hid hok
  clear hok
  obtain ⟨n, hn⟩ : ∃ n, 1 + r % 12 = n := ⟨_, rfl⟩
  have hn1 : 1 ≤ n := by omega
  have hn2 : n ≤ 4000 := by omega
  have HN := Lib.hid hn
  clear hn
  go_enter Try.func9, Try.ntmps9
  go_wp2_with fail
  refine (head_any _).mono ?_
  rintro e w1 ⟨rfl, hb⟩
  go_wp2_with fail
  refine (ok_any w1 w.heap.size A l c (h.below hb).at_ (by omega)).mono ?_
  rintro e w2 ⟨rfl, rfl⟩
  rw [HK.out]
  go_wp2_with fail
  refine (size_any _ r hr).mono ?_
  rintro e w2 ⟨rfl, rfl⟩
  rw [HN.out]
  go_wp2_with fail
  refine (new_yes _ n hn1 hn2).mono ?_
  rintro e wq ⟨a, rfl, hb4, -, hd⟩
  have Lq : Live w wq a (Dk.new n) (fun _ => False) := Live.of_new hb hb4 hd
  clear hb4 hd hb
  go_wp2_with fail
  go_loopw [14] (fun v wr => ∃ k : Nat, k ≤ l.length ∧ v = .int .i64 (k : Int) ∧ Live w wr a ((Dk.new n).acts (l.take k)) (fun _ => False)) (fun v _ => l.length - (intOf v).toNat)
  case atStart => exact ⟨0, Nat.zero_le _, rfl, Lq⟩
  case round =>
    obtain ⟨k, hk, rfl, hT⟩ := hrel
    by_cases hlt : k < l.length
    · obtain ⟨y, hy⟩ : ∃ a, l[k]? = some a := ⟨_, List.getElem?_eq_getElem hlt⟩
      have hstep := Dk.acts_take (Dk.new n) l k y hy
      have hqa := Dk.acts_q (l.take k) (Dk.new n)
      have hqb : ((Dk.new n).acts (l.take k)).q.length < 4096 := by
        have h1 : (Dk.new n).q.length = 0 := rfl
        have h2 : (l.take k).length ≤ l.length := by simp; omega
        omega
      have hxt' := hts y (List.mem_of_getElem? hy)
      have hxa' := h.wf y (List.mem_of_getElem? hy)
      have HX := Lib.hid hy
      have HST := Lib.hid hstep
      generalize (Dk.new n).acts (l.take k) = D at *
      clear hy hstep hqa
      have hA := ((h.below hT.below).at_).at_ HX.out
      obtain ⟨g, off, hA, hg, c0, c1, c2, c3, c4, c5⟩ := hA
      subst hA
      go_wp2_with fail
      refine (hT.lift fun F hF => do_any hF hqb y hxt' hxa').mono ?_
      rintro e w4 ⟨rfl, T4, K4⟩
      clear c0 c1 c2 c3 c4 c5
      go_wp2
      go_roundw
      case rel => exact ⟨k + 1, by omega, by go_num, by rw [HST.out]; exact T4⟩
      case measure => simp [intOf]; omega
    · obtain rfl : k = l.length := by omega
      rw [List.take_length] at hT
      have hqa := Dk.acts_q l (Dk.new n)
      have hna := Dk.acts_n l (Dk.new n)
      have hqb : ((Dk.new n).acts l).q.length ≤ 60 := by
        have h1 : (Dk.new n).q.length = 0 := rfl
        omega
      have hnn : ((Dk.new n).acts l).n = n := hna.trans rfl
      generalize (Dk.new n).acts l = D at *
      have HNN := Lib.hid hnn
      clear hqa hna hnn Lq
      go_wp2_with fail
      refine (hT.lift fun F hF => startany hF).mono ?_
      rintro e w5 ⟨rfl, L5, K5⟩
      go_wp2_with fail
      refine (L5.lift fun F hF => sync_any hF).mono ?_
      rintro e w6 ⟨rfl, L6, K6⟩
      have hsy := Dk.sync_start D
      have e1 : D.start.sync.1.n = n := by rw [hsy]; exact ((Dk.settle_same D.q D.start).1).trans HNN.out
      have e2 : D.start.sync.1.q = [] := by rw [hsy]
      have e3 : D.start.sync.1.off = false := by rw [hsy]; exact (Dk.settle_same D.q D.start).2.2.1
      have e4 : D.start.sync.1.arm = none := by rw [hsy]; exact (Dk.settle_same D.q D.start).2.2.2
      have e5 : D.start.sync.2 = 0 := by rw [hsy]
      rw [e5]
      clear K5 K6 hT L5 hsy e5
      generalize D.start.sync.1 = E at *
      have HN5 := Lib.hid e1
      have HQ5 := Lib.hid e2
      have HO5 := Lib.hid e3
      have HA5 := Lib.hid e4
      have VL := Lib.hid (E.views_len.trans e1)
      clear e1 e2 e3 e4
      have HOK := Lib.hid L6.ok
      obtain ⟨f1, f2, f3, -⟩ := Dk.rot_same E sc at_ mk
      have HNr := Lib.hid (f1.trans HN5.out)
      have HOr := Lib.hid (f3.trans HO5.out)
      have HRR := Lib.hid (Dk.rot_rot (d := E) sc at_ mk)
      have HB := Lib.hid (fun (i j : Nat) (hi : i < E.n) (hj : j < 64) => Dk.rot_bits HOK.out HQ5.out sc at_ mk hi hj)
      have VR := Lib.hid ((Dk.views_len (E.rot sc at_ mk)).trans (f1.trans HN5.out))
      obtain ⟨g1, g2, g3, -⟩ := Dk.stale_same E sc
      have HNs := Lib.hid (g1.trans HN5.out)
      have HOs := Lib.hid (g3.trans HO5.out)
      have HSS := Lib.hid (Dk.stale_stale HOK.out sc)
      have HF := Lib.hid (fun (i : Nat) (hi : i < E.n) (hs : (i : Int) ≠ sc) => Dk.stale_far HOK.out HQ5.out sc hi hs)
      have VS := Lib.hid ((Dk.views_len (E.stale sc)).trans (g1.trans HN5.out))
      have hrb : rotB E.n sc at_ mk = rotB n sc at_ mk := by rw [HN5.out]
      have HRB := Lib.hid hrb
      clear f1 f2 f3 g1 g2 g3 hrb
      go_wp2_with fail
      refine (L6.look fun F hF => contents_o _ _ _ F hF HO5.out n HN5.out).mono ?_
      rintro e w7 ⟨A1, c1, rfl, hb7, hS1, hA1⟩
      obtain ⟨g1, rfl, hg1⟩ := own_some hS1 (by omega)
      have hg1' := hA1 _ rfl
      simp only at hg1'
      have L7 := L6.more (H := fun i => i = g1) hb7 (fun i hi => by right; omega)
      clear hb7 hA1 L6
      go_wp2_with fail
      refine (L7.lift fun F hF => rot_any hF sc at_ mk).mono ?_
      rintro e w8 ⟨rfl, L8, K8⟩
      have hS8 := K8.owns hS1 rfl
      clear L7 hS1 K8
      go_wp2_with fail
      refine (L8.look fun F hF => contents_o _ _ _ F hF HOr.out n HNr.out).mono ?_
      rintro e w9 ⟨A2, c2, rfl, hb9, hS2, hA2⟩
      obtain ⟨g2, rfl, hg2⟩ := own_some hS2 (by omega)
      have hg2' := hA2 _ rfl
      simp only at hg2'
      have L9 := L8.more (H := fun i => i = g1 ∨ i = g2) hb9 (fun i hi => by
        rcases hi with hi | hi
        · exact .inl hi
        · right; omega)
      have hS9 := Only.owns (Only.of_below hb9 (fun _ => False)) hS8 (by simp)
      clear hb9 hA2 L8 hS8
      go_wp2_with fail
      refine (L9.lift fun F hF => rot_any hF sc at_ mk).mono ?_
      rintro e w10 ⟨rfl, L10, K10⟩
      rw [HRR.out] at L10
      have hS10 := K10.owns hS9 (.inl rfl)
      have hN10 := K10.owns hS2 (.inr rfl)
      clear L9 hS2 hS9 K10
      go_wp2_with fail
      refine (L10.look fun F hF => contents_o _ _ _ F hF HO5.out n HN5.out).mono ?_
      rintro e w11 ⟨A3, c3, rfl, hb11, hS3, hA3⟩
      have L11 := L10.same hb11
      have hS11 := Only.owns (Only.of_below hb11 (fun _ => False)) hS10 (by simp)
      have hN11 := Only.owns (Only.of_below hb11 (fun _ => False)) hN10 (by simp)
      clear hb11 hA3 L10 hS10 hN10
      go_wp2_with fail
      refine (same_n _ _ _ _ _ _ _ n (StrsAt.of_own hS11) (StrsAt.of_own hS3) VL.out VL.out (by omega)).mono ?_
      rintro e w12 ⟨rfl, hb12⟩
      rw [sameB_iff.2 rfl]
      have L12 := L11.same hb12
      have hS12 := Only.owns (Only.of_below hb12 (fun _ => False)) hS11 (by simp)
      have hN12 := Only.owns (Only.of_below hb12 (fun _ => False)) hN11 (by simp)
      clear hb12 hS3 L11 hS11 hN11
      go_upto_region 20 with fail
      go_cut [21] (fun v wx => v = .bool (rotB n sc at_ mk) ∧ wx = w12)
      case first =>
        clear HB HF HRB HRR HSS
        go_wp2_with fail
        all_goals
          go_meet
          first
            | exact ⟨congrArg Value.bool (decide_eq_true (by omega)).symm, rfl⟩
            | exact ⟨congrArg Value.bool (decide_eq_false (by omega)).symm, rfl⟩
            | exact ⟨congrArg Value.bool (by unfold rotB; rw [decide_eq_decide]; omega), rfl⟩
      case rest =>
        obtain ⟨rfl, rfl⟩ := hcut
        go_wp2_with fail
        go_loopw [22] (fun v wr => ∃ (i : Nat), i ≤ n ∧ v = .int .i64 (i : Int) ∧ Below wc.heap.size wc wr) (fun v _ => n - (intOf v).toNat)
        case atStart => exact ⟨0, Nat.zero_le _, rfl, Below.refl _ _⟩
        case round =>
          obtain ⟨i, hi, rfl, hb⟩ := hrel
          by_cases hi2 : i < n
          · have hI0 : (0 : Int) ≤ i := by omega
            have hiI : (i : Int) < n := by omega
            go_wp2_with fail
            go_loopw [23] (fun v wr => ∃ (j : Nat), j ≤ 64 ∧ v = .int .i64 (j : Int) ∧ Below wc.heap.size wc wr) (fun v _ => 64 - (intOf v).toNat)
            case atStart => exact ⟨0, Nat.zero_le _, rfl, hb⟩
            case round =>
              clear hb
              obtain ⟨j, hj, rfl, hb⟩ := hrel
              by_cases hj2 : j < 64
              · obtain ⟨x, y, hx, hy, sx, sy, ba, bb, ha, hbb, hab⟩ := HB.out i j (by rw [HN5.out]; exact hi2) hj2
                rw [HRB.out] at hab
                have q1 : wr.cell? ⟨g1, i, none⟩ = some (.string x) := by
                  rw [(Only.owns (Only.of_below hb (fun _ => False)) hS12 (by simp)).cellAt i (by omega)]; simp [hx]
                have q2 : wr.cell? ⟨g2, i, none⟩ = some (.string y) := by
                  rw [(Only.owns (Only.of_below hb (fun _ => False)) hN12 (by simp)).cellAt i (by omega)]; simp [hy]
                have ix : ∀ W : World, (Instr.index 9 (.string x) (.int .i64 (j : Int))).run Try.prog W = .ok (.int .u8 (ba.toNat : Int)) W := fun W => by
                  rw [run_index_string W 9 x .i64 (j : Int) (by kernel_rfl), dif_pos (by omega)]
                  congr 4
                  have : x.data[j]? = some (x[j]'(by omega)) := by rw [Array.getElem?_eq_getElem]; rfl
                  rw [ha] at this
                  exact (Option.some.inj this).symm
                have iy : ∀ W : World, (Instr.index 9 (.string y) (.int .i64 (j : Int))).run Try.prog W = .ok (.int .u8 (bb.toNat : Int)) W := fun W => by
                  rw [run_index_string W 9 y .i64 (j : Int) (by kernel_rfl), dif_pos (by omega)]
                  congr 4
                  have : y.data[j]? = some (y[j]'(by omega)) := by rw [Array.getElem?_eq_getElem]; rfl
                  rw [hbb] at this
                  exact (Option.some.inj this).symm
                have hxr := u8_xor_nat ba.toNat bb.toNat ba.toNat_lt bb.toNat_lt
                rw [hab] at hxr
                have HBD := Lib.hid hb
                have hjI : (j : Int) < 64 := by omega
                generalize (ba.toNat : Int) = av at *
                generalize (bb.toNat : Int) = bv at *
                clear hx hy sx sy ha hbb hab hb hS12 hN12
                by_cases hv : rotB n sc at_ mk = true
                · have hm := rotB_spec.1 hv
                  by_cases h1 : (i : Int) = sc
                  · by_cases h2 : (j : Int) = at_
                    · rw [if_pos ⟨hv, h1, h2⟩] at hxr
                      rw [hv]
                      have hm1 : 0 ≤ mk := by omega
                      have hm2 : mk ≤ 255 := by omega
                      have h1b : ((i : Int) == sc) = true := by simpa using h1
                      have h2b : ((j : Int) == at_) = true := by simpa using h2
                      clear hv hm h1 h2
                      go_wp2_with fail
                      go_quiet (fail)
                      go_wp2
                      go_roundw
                      case rel => exact ⟨j + 1, by omega, by go_num, below_drewN HBD.out nq⟩
                      case measure => simp [intOf]; omega
                    · rw [if_neg (fun c => h2 c.2.2)] at hxr
                      rw [hv]
                      have h1b : ((i : Int) == sc) = true := by simpa using h1
                      have h2b : ((j : Int) == at_) = false := by simpa using h2
                      clear hv hm h1 h2
                      go_wp2_with fail
                      go_quiet (fail)
                      go_wp2
                      go_roundw
                      case rel => exact ⟨j + 1, by omega, by go_num, below_drewN HBD.out nq⟩
                      case measure => simp [intOf]; omega
                  · rw [if_neg (fun c => h1 c.2.1)] at hxr
                    rw [hv]
                    have h1b : ((i : Int) == sc) = false := by simpa using h1
                    clear hv hm h1
                    go_wp2_with fail
                    go_quiet (fail)
                    go_wp2
                    go_roundw
                    case rel => exact ⟨j + 1, by omega, by go_num, below_drewN HBD.out nq⟩
                    case measure => simp [intOf]; omega
                · rw [if_neg (fun c => hv c.1)] at hxr
                  have hv' : rotB n sc at_ mk = false := by simpa using hv
                  rw [hv']
                  clear hv hv'
                  go_wp2_with fail
                  go_quiet (fail)
                  go_wp2
                  go_roundw
                  case rel => exact ⟨j + 1, by omega, by go_num, below_drewN HBD.out nq⟩
                  case measure => simp [intOf]; omega
              · obtain rfl : j = 64 := by omega
                go_wp2
                go_roundw
                case rel => exact ⟨i + 1, by omega, by go_num, hb⟩
                case measure => simp [intOf]; omega
          · obtain rfl : n = i := by omega
            have L13 := L12.same hb
            have hS13 := Only.owns (Only.of_below hb (fun _ => False)) hS12 (by simp)
            clear hb hS12 hN12 L12 HB
            go_wp2_with fail
            refine (L13.lift fun F hF => stale_any hF sc).mono ?_
            rintro e w14 ⟨rfl, L14, K14⟩
            have hS14 := K14.owns hS13 (.inl rfl)
            clear L13 hS13 K14
            go_wp2_with fail
            refine (L14.look fun F hF => contents_o _ _ _ F hF HOs.out n HNs.out).mono ?_
            rintro e w15 ⟨A4, c4, rfl, hb15, hS4, hA4⟩
            obtain ⟨g4, rfl, hg4⟩ := own_some hS4 (by omega)
            have hg4' := hA4 _ rfl
            simp only at hg4'
            have L15 := L14.more (H := fun i => i = g1 ∨ i = g4) hb15 (fun i hi => by
              rcases hi with hi | hi
              · exact .inl (.inl hi)
              · right; omega)
            have hS15 := Only.owns (Only.of_below hb15 (fun _ => False)) hS14 (by simp)
            clear hb15 hA4 L14 hS14
            go_wp2_with fail
            refine (L15.lift fun F hF => stale_any hF sc).mono ?_
            rintro e w16 ⟨rfl, L16, K16⟩
            rw [HSS.out] at L16
            have hS16 := K16.owns hS15 (.inl rfl)
            have hN16 := K16.owns hS4 (.inr rfl)
            clear L15 hS15 K16 hS4
            go_wp2_with fail
            refine (L16.look fun F hF => contents_o _ _ _ F hF HOs.out n HNs.out).mono ?_
            rintro e w17 ⟨A5, c5, rfl, hb17, hS5, hA5⟩
            have L17 := L16.same hb17
            have hS17 := Only.owns (Only.of_below hb17 (fun _ => False)) hS16 (by simp)
            have hN17 := Only.owns (Only.of_below hb17 (fun _ => False)) hN16 (by simp)
            clear hb17 hA5 L16 hS16 hN16
            go_wp2_with fail
            refine (same_n _ _ _ _ _ _ _ n (StrsAt.of_own hN17) (StrsAt.of_own hS5) VS.out VS.out (by omega)).mono ?_
            rintro e w18 ⟨rfl, hb18⟩
            rw [sameB_iff.2 rfl]
            have L18 := L17.same hb18
            have hS18 := Only.owns (Only.of_below hb18 (fun _ => False)) hS17 (by simp)
            have hN18 := Only.owns (Only.of_below hb18 (fun _ => False)) hN17 (by simp)
            clear hb18 hS5 L17 hS17 hN17
            go_wp2_with fail
            go_loopw [29] (fun v wr => ∃ (j : Nat), j ≤ n ∧ v = .int .i64 (j : Int) ∧ Below w18.heap.size w18 wr) (fun v _ => n - (intOf v).toNat)
            case atStart => exact ⟨0, Nat.zero_le _, rfl, Below.refl _ _⟩
            case round =>
              obtain ⟨j, hj, rfl, hb⟩ := hrel
              by_cases hj2 : j < n
              · have hjI : (j : Int) < n := by omega
                obtain ⟨x, hx⟩ : ∃ x, E.views[j]? = some x := ⟨_, List.getElem?_eq_getElem (by rw [VL.out]; exact hj2)⟩
                obtain ⟨y, hy⟩ : ∃ y, (E.stale sc).views[j]? = some y := ⟨_, List.getElem?_eq_getElem (by rw [VS.out]; exact hj2)⟩
                have q1 : wr.cell? ⟨g1, j, none⟩ = some (.string x) := by
                  rw [(Only.owns (Only.of_below hb (fun _ => False)) hS18 (by simp)).cellAt j (by omega)]; simp [hx]
                have q2 : wr.cell? ⟨g4, j, none⟩ = some (.string y) := by
                  rw [(Only.owns (Only.of_below hb (fun _ => False)) hN18 (by simp)).cellAt j (by omega)]; simp [hy]
                have hfar : (j : Int) ≠ sc → y = x := fun hne => by
                  have := HF.out j (by rw [HN5.out]; exact hj2) hne
                  rw [hx, hy] at this
                  exact Option.some.inj this
                have HBD := Lib.hid hb
                clear hx hy hb hS18 hN18
                by_cases h1 : (j : Int) = sc
                · have h1b : ((j : Int) != sc) = false := by simpa using h1
                  clear h1 hfar
                  go_wp2_with fail
                  go_quiet (fail)
                  go_wp2
                  go_roundw
                  case rel => exact ⟨j + 1, by omega, by go_num, below_drewN HBD.out nq⟩
                  case measure => simp [intOf]; omega
                · obtain rfl := hfar h1
                  have h1b : ((j : Int) != sc) = true := by simpa using h1
                  clear h1 hfar
                  go_wp2_with fail
                  go_quiet (fail)
                  go_wp2
                  go_roundw
                  case rel => exact ⟨j + 1, by omega, by go_num, below_drewN HBD.out nq⟩
                  case measure => simp [intOf]; omega
              · obtain rfl : n = j := by omega
                have hbl := L18.below.trans (hb.mono L18.below.size)
                go_wp2
                go_ret
                exact ⟨rfl, hbl⟩

theorem damage_walk (w : World) (r : Int) (wr : (Lit.int .u8 r).wf = true) (A : Option Addr) (c : Nat) (l : List Ac) (h : Acts w w.heap.size A l) (x : Int) (_ : (Lit.int .i64 x).wf = true) (y : Int) (_ : (Lit.int .i64 y).wf = true) (z : Int) (_ : (Lit.int .i64 z).wf = true) :
    Calls Try.prog 9 #[.int .u8 r, .slice A l.length c, .int .i64 x, .int .i64 y, .int .i64 z] w fun e w' => e = .returned (.bool true) ∧ Below w.heap.size w w' := by
  obtain ⟨k, rfl, hk⟩ := u8_nat wr
  cases hok : okB l with
  | false => exact damage_no w k A c l h hok x y z
  | true => exact damage_yes w k hk A c l h hok x y z
end Go.Proofs.Ytahkahmkoibmhaa
