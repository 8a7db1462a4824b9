/- The walk of DiskStable. -/
import Derived.Test.YtahkahmkoibmhaaLi
import Derived.Test.YtahkahmkoibmhaaRa
namespace Go.Proofs.Ytahkahmkoibmhaa
open Go.RowKit

set_option maxRecDepth 100000 in
set_option maxHeartbeats 1000000 in
theorem stable_no (w : World) (r : Nat) (A : Option Addr) (c : Nat) (l : List Ac) (h : Acts w w.heap.size A l) (B : Option Addr) (e : Nat) (m : List Ac) (wx by_ : Int) (hok : okB l = false) :
    Calls Try.prog 4 #[.int .u8 (r : Int), .slice A l.length c, .slice B m.length e, .int .i64 wx, .int .i64 by_] w fun e w' => e = .returned (.bool true) ∧ Below w.heap.size w w' := by
  have hl := h.len
  have HK := Lib.hid hok
  clear hok
  go_enter Try.func4, Try.ntmps4
  go_wp2_with fail
  refine (head_any _).mono ?_
  rintro e w1 ⟨rfl, hb⟩
  go_wp2_with fail
  refine (ok_any w1 w.heap.size A l c (h.below hb).at_ (by omega)).mono ?_
  rintro e w2 ⟨rfl, rfl⟩
  rw [HK.out]
  go_wp2
  go_ret
  exact ⟨rfl, hb⟩

set_option maxRecDepth 100000 in
set_option maxHeartbeats 1000000 in
theorem stable_no2 (w : World) (r : Nat) (A : Option Addr) (c : Nat) (l : List Ac) (h : Acts w w.heap.size A l) (B : Option Addr) (e : Nat) (m : List Ac) (hm : Acts w w.heap.size B m) (wx by_ : Int) (hok : okB l = true) (hok2 : okB m = false) :
    Calls Try.prog 4 #[.int .u8 (r : Int), .slice A l.length c, .slice B m.length e, .int .i64 wx, .int .i64 by_] w fun e w' => e = .returned (.bool true) ∧ Below w.heap.size w w' := by
  have hl := h.len
  have hlm := hm.len
  have HK := Lib.hid hok
  have HK2 := Lib.hid hok2
  clear hok hok2
  go_enter Try.func4, Try.ntmps4
  go_wp2_with fail
  refine (head_any _).mono ?_
  rintro e w1 ⟨rfl, hb⟩
  go_wp2_with fail
  refine (ok_any w1 w.heap.size A l c (h.below hb).at_ (by omega)).mono ?_
  rintro e w2 ⟨rfl, rfl⟩
  rw [HK.out]
  go_wp2_with fail
  refine (ok_any _ w.heap.size B m e (hm.below hb).at_ (by omega)).mono ?_
  rintro e w2 ⟨rfl, rfl⟩
  rw [HK2.out]
  go_wp2
  go_ret
  exact ⟨rfl, hb⟩

theorem below_drewN {B : Nat} {a w : World} (h : Below B a w) (n : Nat) : Below B a (w.drewN n) := ⟨h.os, h.tape, h.output, h.size, h.block⟩

theorem ActsAt.six {w : World} {N g off : Nat} {l : List Ac} {i : Nat} {a : Ac} (h : ActsAt w N (some ⟨g, off, none⟩) l) (hi : l[i]? = some a) :
    w.cell? ⟨g, off + i * 6, none⟩ = some (.int .i64 a.kind) ∧ w.cell? ⟨g, off + i * 6 + 1, none⟩ = some (.int .i64 a.sector) ∧ w.cell? ⟨g, off + i * 6 + 2, none⟩ = some (.int .i64 a.bytes) ∧
      w.cell? ⟨g, off + i * 6 + 3, none⟩ = some (.string a.text) ∧ w.cell? ⟨g, off + i * 6 + 4, none⟩ = some (.bool a.odd) ∧ w.cell? ⟨g, off + i * 6 + 5, none⟩ = some (.int .i64 a.after) := by
  obtain ⟨g', off', hA, hg, hc⟩ := h.at_ hi
  injection hA with hA
  injection hA with h1 h2
  subst h1 h2
  exact hc

theorem Try.infoBool : (Try.prog.info? 4).map (fun i => (i.zero, i.size, i.bytes)) = some (some (.bool false), 1, 1) := by kernel_rfl

set_option maxRecDepth 100000 in
set_option maxHeartbeats 4000000 in
theorem stable_yes (w : World) (r : Nat) (hr : r < 256) (A : Option Addr) (c : Nat) (l : List Ac) (h : Acts w w.heap.size A l) (B : Option Addr) (e : Nat) (m : List Ac) (hm : Acts w w.heap.size B m) (wx by_ : Int) (hok : okB l = true) (hok2 : okB m = true) :
    Calls Try.prog 4 #[.int .u8 (r : Int), .slice A l.length c, .slice B m.length e, .int .i64 wx, .int .i64 by_] w fun e w' => e = .returned (.bool true) ∧ Below w.heap.size w w' := by
  have hl := h.len
  have hlm := hm.len
  have hts := (okB_spec hok).1
  have hl60 := (okB_spec hok).2
  have htm := (okB_spec hok2).1
  have hm60 := (okB_spec hok2).2
  have HK := Lib.hid hok
  have HK2 := Lib.hid hok2
  clear hok hok2
  obtain ⟨n, hn⟩ : ∃ n, 1 + r % 12 = n := ⟨_, rfl⟩
  have hn1 : 1 ≤ n := by omega
  have hn2 : n ≤ 4000 := by omega
  have HN := Lib.hid hn
  clear hn
  go_enter Try.func4, Try.ntmps4
  go_wp2_with fail
  refine (head_any _).mono ?_
  rintro e w1 ⟨rfl, hb⟩
  go_wp2_with fail
  refine (ok_any w1 w.heap.size A l c (h.below hb).at_ (by omega)).mono ?_
  rintro e w2 ⟨rfl, rfl⟩
  rw [HK.out]
  go_wp2_with fail
  refine (ok_any _ w.heap.size B m e (hm.below hb).at_ (by omega)).mono ?_
  rintro e w2 ⟨rfl, rfl⟩
  rw [HK2.out]
  go_wp2_with fail
  refine (size_any _ r hr).mono ?_
  rintro e w3 ⟨rfl, rfl⟩
  rw [HN.out]
  go_wp2_with fail
  refine (new_yes _ n hn1 hn2).mono ?_
  rintro e wq ⟨a, rfl, hb4, -, hd⟩
  have Lq : Live w wq a (Dk.new n) (fun _ => False) := Live.of_new hb hb4 hd
  clear hb4 hd hb
  go_wp2_with fail
  go_loopw [14] (fun v wr => ∃ k : Nat, k ≤ l.length ∧ v = .int .i64 (k : Int) ∧ Live w wr a ((Dk.new n).acts (l.take k)) (fun _ => False)) (fun v _ => l.length - (intOf v).toNat)
  case atStart => exact ⟨0, Nat.zero_le _, rfl, Lq⟩
  case round =>
    obtain ⟨k, hk, rfl, hT⟩ := hrel
    by_cases hlt : k < l.length
    · obtain ⟨y, hy⟩ : ∃ a, l[k]? = some a := ⟨_, List.getElem?_eq_getElem hlt⟩
      have hstep := Dk.acts_take (Dk.new n) l k y hy
      have hqa := Dk.acts_q (l.take k) (Dk.new n)
      have hqb : ((Dk.new n).acts (l.take k)).q.length < 4096 := by
        have h1 : (Dk.new n).q.length = 0 := rfl
        have h2 : (l.take k).length ≤ l.length := by simp; omega
        omega
      have hxt' := hts y (List.mem_of_getElem? hy)
      have hxa' := h.wf y (List.mem_of_getElem? hy)
      have HX := Lib.hid hy
      have HST := Lib.hid hstep
      generalize (Dk.new n).acts (l.take k) = D at *
      clear hy hstep hqa
      have hA := ((h.below hT.below).at_).at_ HX.out
      obtain ⟨g, off, hA, hg, c0, c1, c2, c3, c4, c5⟩ := hA
      subst hA
      go_wp2_with fail
      refine (hT.lift fun F hF => do_any hF hqb y hxt' hxa').mono ?_
      rintro e w4 ⟨rfl, T4, K4⟩
      clear c0 c1 c2 c3 c4 c5
      go_wp2
      go_roundw
      case rel => exact ⟨k + 1, by omega, by go_num, by rw [HST.out]; exact T4⟩
      case measure => simp [intOf]; omega
    · obtain rfl : k = l.length := by omega
      rw [List.take_length] at hT
      have hqa := Dk.acts_q l (Dk.new n)
      have hna := Dk.acts_n l (Dk.new n)
      have hqb : ((Dk.new n).acts l).q.length ≤ 60 := by
        have h1 : (Dk.new n).q.length = 0 := rfl
        omega
      have hnn : ((Dk.new n).acts l).n = n := hna.trans rfl
      generalize (Dk.new n).acts l = D at *
      have HNN := Lib.hid hnn
      clear hqa hna hnn Lq
      go_wp2_with fail
      refine (hT.lift fun F hF => startany hF).mono ?_
      rintro e w5 ⟨rfl, L5, K5⟩
      go_wp2_with fail
      refine (L5.lift fun F hF => sync_any hF).mono ?_
      rintro e w6 ⟨rfl, L6, K6⟩
      have hsy := Dk.sync_start D
      have e1 : D.start.sync.1.n = n := by rw [hsy]; exact ((Dk.settle_same D.q D.start).1).trans HNN.out
      have e2 : D.start.sync.1.q = [] := by rw [hsy]
      have e3 : D.start.sync.1.off = false := by rw [hsy]; exact (Dk.settle_same D.q D.start).2.2.1
      have e4 : D.start.sync.1.arm = none := by rw [hsy]; exact (Dk.settle_same D.q D.start).2.2.2
      have e5 : D.start.sync.2 = 0 := by rw [hsy]
      rw [e5]
      clear K5 K6 hT L5 hsy e5
      generalize D.start.sync.1 = E at *
      have HN5 := Lib.hid e1
      have HQ5 := Lib.hid e2
      have HO5 := Lib.hid e3
      have HA5 := Lib.hid e4
      have VL := Lib.hid (E.views_len.trans e1)
      clear e1 e2 e3 e4
      go_wp2_with fail
      refine (L6.look fun F hF => contents_o _ _ _ F hF HO5.out n HN5.out).mono ?_
      rintro e w7 ⟨A1, c1, rfl, hb7, hS1, hA1⟩
      obtain ⟨g1, rfl, hg1⟩ := own_some hS1 (by omega)
      have hg1' := hA1 _ rfl
      simp only at hg1'
      have L7 := L6.more (H := fun i => i = g1) hb7 (fun i hi => by right; omega)
      clear hb7 hA1 L6
      have mk := run_make_one (P := Try.prog) 42 4 (.bool false) 1 (by kernel_rfl) Try.infoBool rfl (n : Int) n rfl (by omega) (by omega)
      go_wp2_with fail
      have hw8 : Below w7.heap.size w7 (w7.alloc (.cells (Array.replicate n (.bool false)) 4)) := (Below.refl _ _).alloc (Nat.le_refl _) _
      have hsz8 : (w7.alloc (.cells (Array.replicate n (.bool false)) 4)).heap.size = w7.heap.size + 1 := by
        unfold World.alloc
        exact Array.size_push _
      have hbw : Blk (w7.alloc (.cells (Array.replicate n (.bool false)) 4)) w7.heap.size 4 ((List.replicate E.n false).map Value.bool).toArray := by
        rw [HN5.out]
        have := Blk.new w7 4 (Array.replicate n (.bool false))
        simpa using this
      have hS8 := Only.owns (Only.of_below hw8 (fun _ => False)) hS1 (by simp)
      have L8 := L7.more (H := fun i => i = g1 ∨ i = w7.heap.size) hw8 (fun i hi => by
        rcases hi with hi | hi
        · exact .inl hi
        · right; rw [hsz8]; omega)
      have hI0 := StI.zero HQ5.out HO5.out HA5.out
      generalize w7.alloc (.cells (Array.replicate n (.bool false)) 4) = w8 at *
      have hw7 : w.heap.size ≤ w7.heap.size := L7.below.size
      clear mk hw8 hS1 L7 hsz8
      generalize w7.heap.size = gw at *
      go_loopw [18] (fun v wr => ∃ (k : Nat) (D : Dk) (ws : List Bool), k ≤ m.length ∧ v = .int .i64 (k : Int) ∧ Live w wr a D (fun i => i = g1 ∨ i = gw) ∧ StI E D ws k ∧ Blk wr gw 4 (ws.map Value.bool).toArray ∧ wr.ownsRow 0 9 1 (.slice (some ⟨g1, 0, none⟩) n c1) n (E.views.map Value.string)) (fun v _ => m.length - (intOf v).toNat)
      case atStart => exact ⟨0, E, _, Nat.zero_le _, rfl, L8, hI0, hbw, hS8⟩
      case round =>
        clear hbw hS8 L8 hI0
        obtain ⟨k, D2, ws, hk2, rfl, hT, hI, hbw, hS⟩ := hrel
        by_cases hlt2 : k < m.length
        · obtain ⟨y, hy⟩ : ∃ a, m[k]? = some a := ⟨_, List.getElem?_eq_getElem hlt2⟩
          have hyt := htm y (List.mem_of_getElem? hy)
          have HX := Lib.hid hy
          have hAt := (hm.below hT.below).at_
          obtain ⟨g, off, hB, hg, c0, c1', c2, c3, c4, c5⟩ := hAt.at_ HX.out
          subst hB
          have hq2 : D2.q.length < 4096 := by have := hI.q; omega
          have HW := Lib.hid (Dk.write_start D2 y.sector y.txt hI.off hI.arm)
          clear hy
          go_wp2_with fail
          clear c0 c1' c2 c3 c4 c5
          refine wp_region_hold (fun W => ActsAt W w.heap.size (some ⟨g, off, none⟩) m) [0, 1, 2, 3, 4, 5, 6, 7, 8, 9] [10] [11, 12] (by kernel_rfl) (by kernel_rfl) (fun _ d _ _ _ h => by cases d <;> exact h) hAt ?_
          simp only [pick, List.drop_succ_cons, List.drop_zero, List.head?_cons, Option.toList_some, List.cons_append, List.nil_append, List.append_nil]
          repeat (refine wpHeld_step ?_ rfl ?_ ?_; rotate_left; · (intro W hW; obtain ⟨y0, y1, y2, y3, y4, y5⟩ := ActsAt.six hW HX.out; go_simp; with_reducible rfl))
          refine wpHeld_nil ?_
          simp only [wpEarly]
          go_wp2_with fail
          refine (text_any _ y hyt).mono ?_
          rintro e w9 ⟨rfl, hbt⟩
          go_wp2_with fail
          have hbt' : Below wr.heap.size wr w9 := below_drew hbt
          have hAt9 : ActsAt w9 w.heap.size (some ⟨g, off, none⟩) m := hAt.below (hbt'.mono hT.below.size)
          refine ⟨hAt9, ?_⟩
          have hT9 := hT.same hbt'
          have hbw9 := hbw.below hbt' hbw.lt
          have hS9 := Only.owns (Only.of_below hbt' (fun _ => False)) hS (by simp)
          clear hbt hAt hT hbw hS
          go_wp2_with fail
          refine (hT9.lift fun F hF => write_any hF hq2 y.sector y.txt).mono ?_
          rintro e w10 ⟨rfl, L10, K10⟩
          have hbw10 := K10.blk hbw9 (.inr rfl)
          have hS10 := K10.owns hS9 (.inl rfl)
          have hAt10 := (hm.below L10.below).at_
          obtain ⟨y0, y1, y2, y3, y4, y5⟩ := ActsAt.six hAt10 HX.out
          clear hT9 hbw9 hS9 K10 hAt9 hbt'
          by_cases hc : D2.has y.sector = true ∧ y.txt.size = 64
          · have hc1 : 0 ≤ y.sector ∧ y.sector < (n : Int) := by
              have h1 := hc.1
              have h2 := hI.n.trans HN5.out
              simp only [Dk.has, Bool.and_eq_true, decide_eq_true_eq] at h1
              omega
            obtain ⟨hs0, hs1⟩ := hc1
            have HR := Lib.hid (show D2.write y.sector y.txt = ({ D2 with q := D2.q ++ [(y.sector.toNat, y.txt)] }, 0) from by rw [HW.out, if_pos hc])
            clear hc HW
            rw [HR.out] at L10
            rw [HR.out]
            have hsn : y.sector.toNat < n := by omega
            have hI2 := hI.push (s := y.sector.toNat) (t := y.txt) (by rw [HN5.out]; exact hsn)
            have hcell := hbw10.cell y.sector.toNat
            have hfz := hbw10.frozen y.sector.toNat
            obtain ⟨u0, hu0⟩ : ∃ u0, (List.map Value.bool ws).toArray[y.sector.toNat]? = some u0 := ⟨_, Array.getElem?_eq_getElem (by have := hI.wl; have := HN5.out; simp; omega)⟩
            rw [hu0] at hcell
            clear hu0
            have j0 : y.sector.toNat < n * 1 := by omega
            have hs1' : ¬ (n : Int) ≤ y.sector := by omega
            have hs0' : ¬ y.sector < 0 := by omega
            go_wp2
            have hO : Only (fun i => i = gw) w10 (w10.setCell ⟨gw, y.sector.toNat, none⟩ (.bool true)) := (Only.refl (fun i => i = gw) w10).setCell (p := ⟨gw, y.sector.toNat, none⟩) (.inl rfl) (.bool true)
            have L12 := L10.only (H := fun i => i = gw) hO (by intro i hi; subst hi; exact ⟨.inr rfl, hw7⟩)
            have hbw12 := hbw10.set_ y.sector.toNat (.bool true)
            have hset : (List.map Value.bool ws).toArray.setIfInBounds y.sector.toNat (.bool true) = (List.map Value.bool (ws.set y.sector.toNat true)).toArray := by simp [List.map_set]
            rw [hset] at hbw12
            have hgne : g1 ≠ gw := by omega
            have hS12 := hO.owns hS10 (fun g0 hg0 hh => by
              obtain ⟨b, hb0, hb1⟩ := own_block hg0
              injection hb0 with hb0
              subst hb0
              exact hgne (hb1.trans hh))
            go_roundw
            case rel => exact ⟨k + 1, _, _, by omega, by go_num, L12, hI2, hbw12, hS12⟩
            case measure => simp [intOf]; omega
          · have HR := Lib.hid (show D2.write y.sector y.txt = (D2, 1) from by rw [HW.out, if_neg hc])
            clear hc HW
            rw [HR.out] at L10
            rw [HR.out]
            go_wp2
            go_roundw
            case rel => exact ⟨k + 1, D2, ws, by omega, by go_num, L10, hI.same, hbw10, hS10⟩
            case measure => simp [intOf]; omega
        · obtain rfl : k = m.length := by omega
          have hql := hI.q
          go_wp2_with fail
          refine (hT.lift fun F hF => fail_any hF wx by_).mono ?_
          rintro e w9 ⟨rfl, L9, K9⟩
          have hbw9 := K9.blk hbw (.inr rfl)
          have hS9 := K9.owns hS (.inl rfl)
          have hok := hT.ok
          clear hT hbw hS K9
          go_wp2_with fail
          refine (L9.lift fun F hF => startany hF).mono ?_
          rintro e w10 ⟨rfl, L10, K10⟩
          have hbw10 := K10.blk hbw9 (.inr rfl)
          have hS10 := K10.owns hS9 (.inl rfl)
          have hlaw := fun i hi hw => hI.law hok HQ5.out wx by_ (i := i) hi hw
          have hn10 : ((D2.fail wx by_).start).n = n := ((Dk.fail_n D2 wx by_).trans hI.n).trans HN5.out
          have ho10 : ((D2.fail wx by_).start).off = false := rfl
          have hwl := hI.wl
          clear L9 hbw9 hS9 K10 hok hI
          generalize (D2.fail wx by_).start = E2 at *
          have HN10 := Lib.hid hn10
          have HO10 := Lib.hid ho10
          have VL10 := Lib.hid (E2.views_len.trans hn10)
          clear hn10 ho10
          go_wp2_with fail
          refine (L10.look fun F hF => contents_o _ _ _ F hF HO10.out n HN10.out).mono ?_
          rintro e w11 ⟨A2, c2, rfl, hb11, hS2, hA2⟩
          have L11 := L10.same hb11
          have hbw11 := hbw10.below hb11 hbw10.lt
          have hS11 := Only.owns (Only.of_below hb11 (fun _ => False)) hS10 (by simp)
          obtain ⟨g2, rfl, hg2⟩ := own_some hS2 (by omega)
          clear L10 hbw10 hS10 hA2 hb11
          go_wp2_with fail
          go_loopw [22] (fun v wr => ∃ (j : Nat), j ≤ n ∧ v = .int .i64 (j : Int) ∧ Below w11.heap.size w11 wr) (fun v _ => n - (intOf v).toNat)
          case atStart => exact ⟨0, Nat.zero_le _, rfl, Below.refl _ _⟩
          case round =>
            obtain ⟨j, hj, rfl, hb⟩ := hrel
            by_cases hj2 : j < n
            · have hjI : (j : Int) < n := by omega
              obtain ⟨bw, hbwv⟩ : ∃ bw, ws[j]? = some bw := ⟨_, List.getElem?_eq_getElem (by have := HN5.out; omega)⟩
              obtain ⟨sw, hsw⟩ : ∃ sw, E.views[j]? = some sw := ⟨_, List.getElem?_eq_getElem (by rw [VL.out]; exact hj2)⟩
              obtain ⟨sn, hsn⟩ : ∃ sn, E2.views[j]? = some sn := ⟨_, List.getElem?_eq_getElem (by rw [VL10.out]; exact hj2)⟩
              have q1 : wr.cell? ⟨gw, j, none⟩ = some (.bool bw) := by
                rw [(hbw11.below hb hbw11.lt).cell j]; simp [hbwv]
              have q2 : wr.cell? ⟨g1, j, none⟩ = some (.string sw) := by
                rw [(Only.owns (Only.of_below hb (fun _ => False)) hS11 (by simp)).cellAt j (by omega)]; simp [hsw]
              have q3 : wr.cell? ⟨g2, j, none⟩ = some (.string sn) := by
                rw [(Only.owns (Only.of_below hb (fun _ => False)) hS2 (by simp)).cellAt j (by omega)]; simp [hsn]
              have hst : bw = false → sn = sw := by
                intro hbf
                subst hbf
                have := hlaw j (by rw [HN5.out]; exact hj2) hbwv
                rw [hsw, hsn] at this
                exact Option.some.inj this
              clear hbwv hsw hsn hlaw hwl hbw11 hS11 hS2 L11 hm h
              go_wp2_with fail
              cases bw with
              | true =>
                clear hst
                have HBD := Lib.hid hb
                clear hb
                go_quiet (fail)
                go_wp2
                go_roundw
                case rel => exact ⟨j + 1, by omega, by go_num, below_drewN HBD.out nq⟩
                case measure => simp [intOf]; omega
              | false =>
                obtain rfl := hst rfl
                clear hst
                have HBD := Lib.hid hb
                clear hb
                go_quiet (fail)
                go_wp2
                go_roundw
                case rel => exact ⟨j + 1, by omega, by go_num, below_drewN HBD.out nq⟩
                case measure => simp [intOf]; omega
            · obtain rfl : j = n := by omega
              have hbl := L11.below.trans (hb.mono L11.below.size)
              go_wp2
              go_ret
              exact ⟨rfl, hbl⟩

theorem stable_walk (w : World) (r : Int) (wr : (Lit.int .u8 r).wf = true) (A : Option Addr) (c : Nat) (l : List Ac) (h : Acts w w.heap.size A l) (B : Option Addr) (e : Nat) (m : List Ac) (hm : Acts w w.heap.size B m) (x : Int) (_ : (Lit.int .i64 x).wf = true) (y : Int) (_ : (Lit.int .i64 y).wf = true) :
    Calls Try.prog 4 #[.int .u8 r, .slice A l.length c, .slice B m.length e, .int .i64 x, .int .i64 y] w fun e w' => e = .returned (.bool true) ∧ Below w.heap.size w w' := by
  obtain ⟨k, rfl, hk⟩ := u8_nat wr
  cases hok : okB l with
  | false => exact stable_no w k A c l h B e m x y hok
  | true =>
    cases hok2 : okB m with
    | false => exact stable_no2 w k A c l h B e m hm x y hok hok2
    | true => exact stable_yes w k hk A c l h B e m hm x y hok hok2
end Go.Proofs.Ytahkahmkoibmhaa
