/- The walk of DiskReads. -/
import Derived.Test.YtahkahmkoibmhaaLg
namespace Go.Proofs.Ytahkahmkoibmhaa
open Go.RowKit

theorem contents_o (w : World) (a : Nat) (d : Dk) (F : Foot) (h : DiskAt w a d F) (ho : d.off = false) (n : Nat) (hn : d.n = n) :
    Calls Try.prog 21 #[.pointer (some ⟨a, 0, none⟩), .int .i64 (n : Int)] w fun e w' =>
      ∃ A c, e = .returned (.tuple #[.slice A n c, .bool true]) ∧ Below w.heap.size w w' ∧ w'.ownsRow 0 9 1 (.slice A n c) n (d.views.map Value.string) ∧ (∀ b, A = some b → w.heap.size ≤ b.block) := by
  subst hn
  exact contents_any w a d F h ho

set_option maxRecDepth 100000 in
set_option maxHeartbeats 1000000 in
theorem reads_no (w : World) (r : Nat) (A : Option Addr) (c : Nat) (l : List Ac) (h : Acts w w.heap.size A l) (x : Ac) (hok : okB l = false) :
    Calls Try.prog 6 #[.int .u8 (r : Int), .slice A l.length c, .agg #[.int .i64 x.kind, .int .i64 x.sector, .int .i64 x.bytes, .string x.text, .bool x.odd, .int .i64 x.after]] w fun e w' => e = .returned (.bool true) ∧ Below w.heap.size w w' := by
  have hl := h.len
  have HK := Lib.hid hok
  clear hok
  go_enter Try.func6, Try.ntmps6
  go_wp2_with fail
  refine (head_any _).mono ?_
  rintro e w1 ⟨rfl, hb⟩
  have hb' := below_alloc hb
  go_wp2_with fail
  refine (ok_any w1 w.heap.size A l c (h.below hb').at_ (by omega)).mono ?_
  rintro e w2 ⟨rfl, rfl⟩
  rw [HK.out]
  go_wp2
  go_ret
  exact ⟨rfl, hb'⟩

set_option maxRecDepth 100000 in
set_option maxHeartbeats 1000000 in
theorem reads_no2 (w : World) (r : Nat) (A : Option Addr) (c : Nat) (l : List Ac) (h : Acts w w.heap.size A l) (x : Ac) (hok : okB l = true) (hok2 : okB [x] = false) :
    Calls Try.prog 6 #[.int .u8 (r : Int), .slice A l.length c, .agg #[.int .i64 x.kind, .int .i64 x.sector, .int .i64 x.bytes, .string x.text, .bool x.odd, .int .i64 x.after]] w fun e w' => e = .returned (.bool true) ∧ Below w.heap.size w w' := by
  have hl := h.len
  have HK := Lib.hid hok
  have HK2 := Lib.hid hok2
  clear hok hok2
  go_enter Try.func6, Try.ntmps6
  go_wp2_with fail
  refine (head_any _).mono ?_
  rintro e w1 ⟨rfl, hb⟩
  have hbx : Blk w1 w.heap.size 34 #[.int .i64 x.kind, .int .i64 x.sector, .int .i64 x.bytes, .string x.text, .bool x.odd, .int .i64 x.after] := (Blk.new w _ _).below hb (by simp)
  obtain ⟨b1, b2, b3⟩ := hbx.all
  have hb' := below_alloc hb
  go_wp2_with fail
  refine (ok_any w1 w.heap.size A l c (h.below hb').at_ (by omega)).mono ?_
  rintro e w2 ⟨rfl, rfl⟩
  rw [HK.out]
  go_wp2_with fail
  refine (ok_any _ _ (some ⟨w1.heap.size, 0, none⟩) [x] 1 (one_act (t := 34) (Blk.new w1 _ x.cells.toArray)) (by simp)).mono ?_
  rintro e w2 ⟨rfl, rfl⟩
  rw [HK2.out]
  go_wp2
  go_ret
  exact ⟨rfl, hb'.alloc hb'.size _⟩

set_option maxRecDepth 100000 in
set_option maxHeartbeats 4000000 in
theorem reads_yes (w : World) (r : Nat) (hr : r < 256) (A : Option Addr) (c : Nat) (l : List Ac) (h : Acts w w.heap.size A l) (x : Ac) (hok : okB l = true) (hok2 : okB [x] = true) :
    Calls Try.prog 6 #[.int .u8 (r : Int), .slice A l.length c, .agg #[.int .i64 x.kind, .int .i64 x.sector, .int .i64 x.bytes, .string x.text, .bool x.odd, .int .i64 x.after]] w fun e w' => e = .returned (.bool true) ∧ Below w.heap.size w w' := by
  have hl := h.len
  have hts := (okB_spec hok).1
  have hl60 := (okB_spec hok).2
  have hxt := (okB_spec hok2).1 x (by simp)
  have HK := Lib.hid hok
  have HK2 := Lib.hid hok2
  clear hok hok2
  obtain ⟨n, hn⟩ : ∃ n, 1 + r % 12 = n := ⟨_, rfl⟩
  have hn1 : 1 ≤ n := by omega
  have hn2 : n ≤ 4000 := by omega
  have HN := Lib.hid hn
  clear hn
  go_enter Try.func6, Try.ntmps6
  go_wp2_with fail
  refine (head_any _).mono ?_
  rintro e w1 ⟨rfl, hb⟩
  have hbx : Blk w1 w.heap.size 34 #[.int .i64 x.kind, .int .i64 x.sector, .int .i64 x.bytes, .string x.text, .bool x.odd, .int .i64 x.after] := (Blk.new w _ _).below hb (by simp)
  have hbxl : w.heap.size < w1.heap.size := hbx.lt
  obtain ⟨b1, b2, b3⟩ := hbx.all
  have hb' := below_alloc hb
  go_wp2_with fail
  refine (ok_any w1 w.heap.size A l c (h.below hb').at_ (by omega)).mono ?_
  rintro e w2 ⟨rfl, rfl⟩
  rw [HK.out]
  go_wp2_with fail
  refine (ok_any _ _ (some ⟨w1.heap.size, 0, none⟩) [x] 1 (one_act (t := 34) (Blk.new w1 _ x.cells.toArray)) (by simp)).mono ?_
  rintro e w2 ⟨rfl, hw2⟩
  have hb2 : Below w1.heap.size w1 w2 := by rw [← hw2]; exact (Below.refl _ _).alloc (Nat.le_refl _) _
  clear hw2
  rw [HK2.out]
  have hb3 := hb'.trans (hb2.mono hb'.size)
  have hbx2 := hbx.below hb2 hbxl
  clear b1 b2 b3 hb2 hb hb'
  go_wp2_with fail
  refine (size_any _ r hr).mono ?_
  rintro e w3 ⟨rfl, rfl⟩
  rw [HN.out]
  go_wp2_with fail
  refine (new_yes _ n hn1 hn2).mono ?_
  rintro e wq ⟨a, rfl, hb4, -, hd⟩
  have Lq : Live w wq a (Dk.new n) (fun i => i = w.heap.size) := Live.of_new' hb3 hb4 hd (fun i hi => by rw [hi]; exact hbx2.lt)
  have hbxq := hbx2.below hb4 hbx2.lt
  clear hb4 hd hb3 hbx hbxl hbx2
  go_wp2_with fail
  go_loopw [10] (fun v wr => ∃ k : Nat, k ≤ l.length ∧ v = .int .i64 (k : Int) ∧ Live w wr a ((Dk.new n).acts (l.take k)) (fun i => i = w.heap.size) ∧ Keep (fun i => i = w.heap.size) wq wr) (fun v _ => l.length - (intOf v).toNat)
  case atStart => exact ⟨0, Nat.zero_le _, rfl, Lq, Keep.refl _ _⟩
  case round =>
    obtain ⟨k, hk, rfl, hT, hKp⟩ := hrel
    by_cases hlt : k < l.length
    · obtain ⟨y, hy⟩ : ∃ a, l[k]? = some a := ⟨_, List.getElem?_eq_getElem hlt⟩
      have hstep := Dk.acts_take (Dk.new n) l k y hy
      have hqa := Dk.acts_q (l.take k) (Dk.new n)
      have hqb : ((Dk.new n).acts (l.take k)).q.length < 4096 := by
        have h1 : (Dk.new n).q.length = 0 := rfl
        have h2 : (l.take k).length ≤ l.length := by simp; omega
        omega
      have hxt' := hts y (List.mem_of_getElem? hy)
      have hxa' := h.wf y (List.mem_of_getElem? hy)
      have HX := Lib.hid hy
      have HST := Lib.hid hstep
      generalize (Dk.new n).acts (l.take k) = D at *
      clear hy hstep hqa
      have hA := ((h.below hT.below).at_).at_ HX.out
      obtain ⟨g, off, hA, hg, c0, c1, c2, c3, c4, c5⟩ := hA
      subst hA
      go_wp2_with fail
      refine (hT.lift fun F hF => do_any hF hqb y hxt' hxa').mono ?_
      rintro e w4 ⟨rfl, T4, K4⟩
      clear c0 c1 c2 c3 c4 c5
      go_wp2
      go_roundw
      case rel => exact ⟨k + 1, by omega, by go_num, by rw [HST.out]; exact T4, hKp.trans K4⟩
      case measure => simp [intOf]; omega
    · obtain rfl : k = l.length := by omega
      rw [List.take_length] at hT
      have hqa := Dk.acts_q l (Dk.new n)
      have hna := Dk.acts_n l (Dk.new n)
      have hqb : ((Dk.new n).acts l).q.length ≤ 60 := by
        have h1 : (Dk.new n).q.length = 0 := rfl
        omega
      have hnn : ((Dk.new n).acts l).n = n := hna.trans rfl
      generalize (Dk.new n).acts l = D at *
      have HNN := Lib.hid hnn
      clear hqa hna hnn

      have hbx := hKp.blk hbxq rfl
      clear hKp hbxq Lq
      go_wp2_with fail
      refine (hT.lift fun F hF => startany hF).mono ?_
      rintro e w5 ⟨rfl, L5, K5⟩
      have hbx5 := K5.blk hbx rfl
      clear hT K5 hbx
      have hn5 : D.start.n = n := HNN.out
      have hq5 : D.start.q.length < 4096 := by show D.q.length < 4096; omega
      have hq6 : D.start.q.length ≤ 60 := hqb
      have ho5 : D.start.off = false := rfl
      have ha5 : D.start.arm = none := rfl
      generalize D.start = E at *
      have HN5 := Lib.hid hn5
      have HO5 := Lib.hid ho5
      have HA5 := Lib.hid ha5
      have VL := Lib.hid (E.views_len.trans hn5)
      clear hn5 ho5 ha5
      go_wp2_with fail
      refine (L5.look fun F hF => contents_o _ _ _ F hF HO5.out n HN5.out).mono ?_
      rintro e w6 ⟨A1, c1, rfl, hb6, hS1, hA1⟩
      have hbx6 := hbx5.below hb6 hbx5.lt
      obtain ⟨g1, rfl, hg1⟩ := own_some hS1 (by omega)
      have hg1' := hA1 _ rfl
      simp only at hg1'
      have hL5 := hbx5.lt
      have L6 : Live w w6 a E (fun i => i = w.heap.size ∨ i = g1) := L5.more hb6 (fun i hi => by
        rcases hi with hi | hi
        · exact .inl hi
        · right; omega)
      clear hb6 hA1 L5 hbx5
      have hL6 := hbx6.lt
      have HW := Lib.hid (Dk.write_start E x.sector x.txt HO5.out HA5.out)
      by_cases hc : E.has x.sector = true ∧ x.txt.size = 64
      · have hc1 : 0 ≤ x.sector ∧ x.sector < (n : Int) := by simpa [Dk.has, HN5.out] using hc.1
        obtain ⟨hs0, hs1⟩ := hc1
        obtain ⟨s, hs⟩ : ∃ s : Nat, x.sector = (s : Int) := ⟨x.sector.toNat, by omega⟩
        have hsn : s < n := by omega
        obtain ⟨T, hT0⟩ : ∃ T, x.txt = T := ⟨_, rfl⟩
        have HR := Lib.hid (show E.write x.sector x.txt = ({ E with q := E.q ++ [(s, T)] }, 0) from by rw [HW.out, if_pos hc, hs, ← hT0]; rfl)
        have HV := Lib.hid (Dk.views_push E s T)
        have HT := Lib.hid hT0
        have HSX := Lib.hid hs
        clear hc hs hT0
        go_wp2
        refine wp_region_hold (fun W => Blk W w.heap.size 34 #[.int .i64 x.kind, .int .i64 x.sector, .int .i64 x.bytes, .string x.text, .bool x.odd, .int .i64 x.after]) [0, 1, 2, 3] [4] [5, 6] (by kernel_rfl) (by kernel_rfl) (fun _ d _ _ _ h => by cases d <;> exact h) hbx6.drew ?_
        simp only [pick, List.drop_succ_cons, List.drop_zero, List.head?_cons, Option.toList_some, List.cons_append, List.nil_append, List.append_nil]
        repeat (refine wpHeld_step ?_ rfl ?_ ?_; rotate_left; · (intro W hW; obtain ⟨y1, y2, y3⟩ := Blk.all hW; go_simp; with_reducible rfl))
        refine wpHeld_nil ?_
        simp only [wpEarly]
        go_wp2_with fail
        refine (text_any _ x hxt).mono ?_
        rintro e wt ⟨rfl, hbt⟩
        go_wp2_with fail
        have hbt' : Below w6.heap.size w6 wt := below_drew hbt
        have hbxt := hbx6.below hbt' hL6
        refine ⟨hbxt, ?_⟩
        have Lt := L6.same hbt'
        have hSt := Only.owns (Only.of_below hbt' (fun _ => False)) hS1 (by simp)
        clear hbt hbx6 hS1 L6
        go_wp2_with fail
        refine (Lt.lift fun F hF => write_any hF hq5 x.sector x.txt).mono ?_
        rintro e w7 ⟨rfl, L7, K7⟩
        all_goals
          have hbx7 := K7.blk hbxt (.inl rfl)
          have hS7 := K7.owns hSt (.inr rfl)
          have hq7 := Dk.write_q E x.sector x.txt
          rw [HR.out] at L7 hq7
          simp only at L7 hq7
          clear K7 hbxt hSt Lt
          rw [HR.out]
          have hq8 : (({ E with q := E.q ++ [(s, T)] } : Dk)).q.length ≤ 61 := by show (E.q ++ [(s, T)]).length ≤ 61; simp; omega
          have ho7 : (({ E with q := E.q ++ [(s, T)] } : Dk)).off = false := HO5.out
          have hn7 : (({ E with q := E.q ++ [(s, T)] } : Dk)).n = n := HN5.out
          generalize ({ E with q := E.q ++ [(s, T)] } : Dk) = E' at *
          have HO7 := Lib.hid ho7
          have HN7 := Lib.hid hn7
          have VL7 := Lib.hid (E'.views_len.trans hn7)
          clear ho7 hn7
          go_wp2_with fail
          refine (L7.look fun F hF => contents_o _ _ _ F hF HO7.out n HN7.out).mono ?_
          rintro e w8 ⟨A2, c2, rfl, hb8, hS2, hA2⟩
          obtain ⟨g2, rfl, hg2⟩ := own_some hS2 (by omega)
          have hg2' := hA2 _ rfl
          simp only at hg2'
          have L8 : Live w w8 a E' (fun i => i = w.heap.size ∨ i = g1 ∨ i = g2) := L7.more hb8 (fun i hi => by
            rcases hi with hi | hi | hi
            · exact .inl (.inl hi)
            · exact .inl (.inr hi)
            · right; omega)
          have hbx8 := hbx7.below hb8 hbx7.lt
          have hS8 := Only.owns (Only.of_below hb8 (fun _ => False)) hS7 (by simp)
          have hg17 : g1 < w7.heap.size := L7.lt _ (.inr rfl)
          clear hS7 hbx7 L7 hA2 hb8
          go_wp2_with fail
          refine (L8.look fun F hF => contents_o _ _ _ F hF HO7.out n HN7.out).mono ?_
          rintro e w9 ⟨A3, c3, rfl, hb9, hS3, hA3⟩
          have L9 := L8.same hb9
          have hbx9 := hbx8.below hb9 hbx8.lt
          have hS9 := Only.owns (Only.of_below hb9 (fun _ => False)) hS8 (by simp)
          have hN9 := StrsAt.of_own (Only.owns (Only.of_below hb9 (fun _ => False)) hS2 (by simp))
          have hM9 := StrsAt.of_own hS3
          clear hS8 hbx8 L8 hA3 hS2 hS3 hb9
          go_wp2_with fail
          refine (same_n _ _ _ _ _ _ _ n hN9 hM9 VL7.out VL7.out (by omega)).mono ?_
          rintro e w10 ⟨rfl, hb10⟩
          rw [sameB_iff.2 rfl]
          have L10 := L9.same hb10
          have hbx10 := hbx9.below hb10 hbx9.lt
          have hS10 := Only.owns (Only.of_below hb10 (fun _ => False)) hS9 (by simp)
          have hN10 := hN9.below hb10
          have hl10 := hbx10.lt
          clear hS9 hN9 hM9 hbx9 L9 hb10
          obtain ⟨b1, b2, b3⟩ := hbx10.all
          go_wp2
          clear b1 b2 b3
          refine wp_region_hold (fun W => Blk W w.heap.size 34 #[.int .i64 x.kind, .int .i64 x.sector, .int .i64 x.bytes, .string x.text, .bool x.odd, .int .i64 x.after]) [0, 1, 2, 3] [4] [5, 6] (by kernel_rfl) (by kernel_rfl) (fun _ d _ _ _ h => by cases d <;> exact h) hbx10.drew ?_
          simp only [pick, List.drop_succ_cons, List.drop_zero, List.head?_cons, Option.toList_some, List.cons_append, List.nil_append, List.append_nil]
          repeat (refine wpHeld_step ?_ rfl ?_ ?_; rotate_left; · (intro W hW; obtain ⟨y1, y2, y3⟩ := Blk.all hW; go_simp; with_reducible rfl))
          refine wpHeld_nil ?_
          simp only [wpEarly]
          go_wp2_with fail
          refine (text_any _ x hxt).mono ?_
          rintro e w11 ⟨rfl, hbt⟩
          rw [HT.out]
          go_wp2_with fail
          have hbt' : Below w10.heap.size w10 w11 := below_drew hbt
          have hbx11 := hbx10.below hbt' hl10
          refine ⟨hbx11, ?_⟩
          have L11 := L10.same hbt'
          have hS11 := Only.owns (Only.of_below hbt' (fun _ => False)) hS10 (by simp)
          have hN11 := hN10.below hbt'
          clear hbt hbx10 hS10 L10 hN10 hbt'
          have j0 : x.sector.toNat < n * 1 := by omega
          have hcell := hS11.cellAt x.sector.toNat j0
          have hfz := hS11.frozenAt x.sector.toNat
          obtain ⟨u0, hu0⟩ : ∃ u0, (List.map Value.string E.views)[x.sector.toNat]? = some u0 := ⟨_, List.getElem?_eq_getElem (by rw [List.length_map, VL.out]; omega)⟩
          rw [hu0] at hcell
          have HU := Lib.hid hu0
          clear hu0
          have hst := hS11.stored x.sector.toNat (.string T)
          go_wp2_with fail
          have hne : g2 ≠ g1 := by omega
          have hO12 : Only (fun i => i = g1) w11 (w11.setCell ⟨g1, x.sector.toNat, none⟩ (.string T)) := (Only.refl (fun i => i = g1) w11).setCell (p := ⟨g1, x.sector.toNat, none⟩) (.inl rfl) (.string T)
          have hst2 := hst.1
          have hset : (List.map Value.string E.views).set x.sector.toNat (Value.string T) = E'.views.map Value.string := by
            rw [HV.out, HSX.out]
            simp [List.map_set]
          rw [hset] at hst2
          have hS12 := StrsAt.of_own hst2
          have hN12 := hN11.only hO12 (by intro a0 ha0 hh; injection ha0 with ha0; subst ha0; exact hne hh)
          have hsz := L11.below.size
          have L12 := L11.only (H := fun i => i = g1) hO12 (by intro i hi; subst hi; exact ⟨.inr (.inl rfl), by have := hbx11.lt; omega⟩)
          clear hst hst2 hset hO12 hN11 hS11 hcell hfz L11 hbx11
          refine (same_n _ _ _ _ _ _ _ n hS12 hN12 VL7.out VL7.out (by omega)).mono ?_
          rintro e w13 ⟨rfl, hb13⟩
          rw [sameB_iff.2 rfl]
          have L13 := L12.same hb13
          clear L12 hS12 hN12 hb13
          go_wp2_with fail
          refine (L13.lift fun F hF => fail_any hF 0 0).mono ?_
          rintro e w14 ⟨rfl, L14, K14⟩
          have hoff : (E'.fail 0 0).off = true := by unfold Dk.fail; rw [HO7.out]; rfl
          have hqq : (E'.fail 0 0).q.length < 4096 := by have := Dk.fail_q E' 0 0; omega
          have hwr : (E'.fail 0 0).write 0 tA = (E'.fail 0 0, 25) := by unfold Dk.write; rw [hoff]; rfl
          have hrd : (E'.fail 0 0).read 0 = (ByteArray.empty, 25) := by unfold Dk.read; rw [hoff]; rfl
          clear K14 L13
          generalize E'.fail 0 0 = E2 at *
          have HWR := Lib.hid hwr
          have HRD := Lib.hid hrd
          clear hwr hrd hoff
          go_wp2_with fail
          refine (fillA _).mono ?_
          rintro e w15 ⟨rfl, hb15⟩
          have L15 := L14.same hb15
          clear L14 hb15
          go_wp2_with fail
          refine (L15.lift fun F hF => write_any hF hqq 0 tA).mono ?_
          rintro e w16 ⟨rfl, L16, K16⟩
          rw [HWR.out] at L16
          rw [HWR.out]
          clear K16 L15
          go_wp2_with fail
          refine (L16.look fun F hF => read_any hF 0).mono ?_
          rintro e w17 ⟨rfl, hb17⟩
          rw [HRD.out]
          have L17 := L16.same hb17
          clear L16 hb17
          go_wp2
          go_ret
          exact ⟨rfl, L17.below⟩
      · have HC := Lib.hid hc
        have HR := Lib.hid (show E.write x.sector x.txt = (E, 1) from by rw [HW.out, if_neg HC.out])
        clear hc
        go_wp2
        refine wp_region_hold (fun W => Blk W w.heap.size 34 #[.int .i64 x.kind, .int .i64 x.sector, .int .i64 x.bytes, .string x.text, .bool x.odd, .int .i64 x.after]) [0, 1, 2, 3] [4] [5, 6] (by kernel_rfl) (by kernel_rfl) (fun _ d _ _ _ h => by cases d <;> exact h) hbx6.drew ?_
        simp only [pick, List.drop_succ_cons, List.drop_zero, List.head?_cons, Option.toList_some, List.cons_append, List.nil_append, List.append_nil]
        repeat (refine wpHeld_step ?_ rfl ?_ ?_; rotate_left; · (intro W hW; obtain ⟨y1, y2, y3⟩ := Blk.all hW; go_simp; with_reducible rfl))
        refine wpHeld_nil ?_
        simp only [wpEarly]
        go_wp2_with fail
        refine (text_any _ x hxt).mono ?_
        rintro e wt ⟨rfl, hbt⟩
        go_wp2_with fail
        have hbt' : Below w6.heap.size w6 wt := below_drew hbt
        have hbxt := hbx6.below hbt' hL6
        refine ⟨hbxt, ?_⟩
        have Lt := L6.same hbt'
        have hSt := Only.owns (Only.of_below hbt' (fun _ => False)) hS1 (by simp)
        clear hbt hbx6 hS1 L6
        go_wp2_with fail
        refine (Lt.lift fun F hF => write_any hF hq5 x.sector x.txt).mono ?_
        rintro e w7 ⟨rfl, L7, K7⟩
        all_goals
          have hbx7 := K7.blk hbxt (.inl rfl)
          have hS7 := K7.owns hSt (.inr rfl)
          rw [HR.out] at L7
          simp only at L7
          clear K7 hbxt hSt Lt
          rw [HR.out]
          go_wp2_with fail
          refine (L7.look fun F hF => contents_o _ _ _ F hF HO5.out n HN5.out).mono ?_
          rintro e w8 ⟨A2, c2, rfl, hb8, hS2, hA2⟩
          have L8 := L7.same hb8
          have hbx8 := hbx7.below hb8 hbx7.lt
          have hS8 := Only.owns (Only.of_below hb8 (fun _ => False)) hS7 (by simp)
          clear hS7 hbx7 L7 hA2
          go_wp2_with fail
          refine (L8.look fun F hF => contents_o _ _ _ F hF HO5.out n HN5.out).mono ?_
          rintro e w9 ⟨A3, c3, rfl, hb9, hS3, hA3⟩
          have L9 := L8.same hb9
          have hbx9 := hbx8.below hb9 hbx8.lt
          have hS9 := StrsAt.of_own (Only.owns (Only.of_below hb9 (fun _ => False)) hS8 (by simp))
          have hN9 := StrsAt.of_own (Only.owns (Only.of_below hb9 (fun _ => False)) hS2 (by simp))
          have hM9 := StrsAt.of_own hS3
          clear hS8 hbx8 L8 hA3 hS2 hS3 hb8
          go_wp2_with fail
          refine (same_n _ _ _ _ _ _ _ n hN9 hM9 VL.out VL.out (by omega)).mono ?_
          rintro e w10 ⟨rfl, hb10⟩
          rw [sameB_iff.2 rfl]
          have L10 := L9.same hb10
          have hbx10 := hbx9.below hb10 hbx9.lt
          have hS10 := hS9.below hb10
          have hN10 := hN9.below hb10
          clear hS9 hN9 hM9 hbx9 L9 hb10 hb9
          go_wp2_with fail
          refine (same_n _ _ _ _ _ _ _ n hS10 hN10 VL.out VL.out (by omega)).mono ?_
          rintro e w11 ⟨rfl, hb11⟩
          rw [sameB_iff.2 rfl]
          have L11 := L10.same hb11
          obtain ⟨b1, b2, b3⟩ := (hbx10.below hb11 hbx10.lt).all
          clear hS10 hN10 hbx10 L10 hb11
          have hcase : x.sector < 0 ∨ (0 ≤ x.sector ∧ (n : Int) ≤ x.sector) ∨ (0 ≤ x.sector ∧ x.sector < (n : Int) ∧ ((x.txt.size : Int) != 64) = true) := by
            have h1 := HC.out
            simp only [Dk.has, HN5.out, Bool.and_eq_true, decide_eq_true_eq] at h1
            by_cases q1 : x.sector < 0
            · exact .inl q1
            · by_cases q2 : (n : Int) ≤ x.sector
              · exact .inr (.inl ⟨by omega, q2⟩)
              · refine .inr (.inr ⟨by omega, by omega, ?_⟩)
                rw [bne_iff_ne]
                intro q3
                exact h1 ⟨⟨by omega, by omega⟩, by omega⟩
          rcases hcase with q1 | ⟨q1, q2⟩ | ⟨q1, q2, q3⟩
          · go_wp2
            go_ret
            exact ⟨rfl, L11.below⟩
          · go_wp2
            go_ret
            exact ⟨rfl, L11.below⟩
          · go_wp2_with fail
            refine (text_any _ x hxt).mono ?_
            rintro e w12 ⟨rfl, hb12⟩
            go_wp2
            go_ret
            exact ⟨rfl, (L11.same hb12).below⟩
end Go.Proofs.Ytahkahmkoibmhaa
