/- The walk of DiskArmed. -/
import Derived.Test.YtahkahmkoibmhaaLn
namespace Go.Proofs.Ytahkahmkoibmhaa
open Go.RowKit

set_option maxRecDepth 100000 in
set_option maxHeartbeats 1000000 in
theorem armed_no (w : World) (r : Nat) (A : Option Addr) (c : Nat) (l : List Ac) (h : Acts w w.heap.size A l) (B : Option Addr) (e : Nat) (m : List Ac) (af x y : Int) (hok : okB l = false) :
    Calls Try.prog 8 #[.int .u8 (r : Int), .slice A l.length c, .slice B m.length e, .int .i64 af, .int .i64 x, .int .i64 y] w fun e w' => e = .returned (.bool true) ∧ Below w.heap.size w w' := by
  have hl := h.len
  have HK := Lib.hid hok
  clear hok
  go_enter Try.func8, Try.ntmps8
  go_wp2_with fail
  refine (head_any _).mono ?_
  rintro e w1 ⟨rfl, hb⟩
  go_wp2_with fail
  refine (ok_any w1 w.heap.size A l c (h.below hb).at_ (by omega)).mono ?_
  rintro e w2 ⟨rfl, rfl⟩
  rw [HK.out]
  go_wp2
  go_ret
  exact ⟨rfl, hb⟩

set_option maxRecDepth 100000 in
set_option maxHeartbeats 1000000 in
theorem armed_no2 (w : World) (r : Nat) (A : Option Addr) (c : Nat) (l : List Ac) (h : Acts w w.heap.size A l) (B : Option Addr) (e : Nat) (m : List Ac) (hm : Acts w w.heap.size B m) (af x y : Int) (hok : okB l = true) (hok2 : okB m = false) :
    Calls Try.prog 8 #[.int .u8 (r : Int), .slice A l.length c, .slice B m.length e, .int .i64 af, .int .i64 x, .int .i64 y] w fun e w' => e = .returned (.bool true) ∧ Below w.heap.size w w' := by
  have hl := h.len
  have hlm := hm.len
  have HK := Lib.hid hok
  have HK2 := Lib.hid hok2
  clear hok hok2
  go_enter Try.func8, Try.ntmps8
  go_wp2_with fail
  refine (head_any _).mono ?_
  rintro e w1 ⟨rfl, hb⟩
  go_wp2_with fail
  refine (ok_any w1 w.heap.size A l c (h.below hb).at_ (by omega)).mono ?_
  rintro e w2 ⟨rfl, rfl⟩
  rw [HK.out]
  go_wp2_with fail
  refine (ok_any _ w.heap.size B m e (hm.below hb).at_ (by omega)).mono ?_
  rintro e w2 ⟨rfl, rfl⟩
  rw [HK2.out]
  go_wp2
  go_ret
  exact ⟨rfl, hb⟩

set_option maxRecDepth 100000 in
set_option maxHeartbeats 4000000 in
theorem armed_yes (w : World) (r : Nat) (hr : r < 256) (A : Option Addr) (c : Nat) (l : List Ac) (h : Acts w w.heap.size A l) (B : Option Addr) (e : Nat) (m : List Ac) (hm : Acts w w.heap.size B m) (af x y : Int) (haf : af ≤ 9223372036854775807) (haf0 : -9223372036854775808 ≤ af) (hok : okB l = true) (hok2 : okB m = true) :
    Calls Try.prog 8 #[.int .u8 (r : Int), .slice A l.length c, .slice B m.length e, .int .i64 af, .int .i64 x, .int .i64 y] w fun e w' => e = .returned (.bool true) ∧ Below w.heap.size w w' := by
  have hl := h.len
  have hlm := hm.len
  have hts := (okB_spec hok).1
  have hl60 := (okB_spec hok).2
  have htm := (okB_spec hok2).1
  have hm60 := (okB_spec hok2).2
  have HK := Lib.hid hok
  have HK2 := Lib.hid hok2
  clear hok hok2
  obtain ⟨n, hn⟩ : ∃ n, 1 + r % 12 = n := ⟨_, rfl⟩
  have hn1 : 1 ≤ n := by omega
  have hn2 : n ≤ 4000 := by omega
  have HN := Lib.hid hn
  clear hn
  go_enter Try.func8, Try.ntmps8
  go_wp2_with fail
  refine (head_any _).mono ?_
  rintro e w1 ⟨rfl, hb⟩
  go_wp2_with fail
  refine (ok_any w1 w.heap.size A l c (h.below hb).at_ (by omega)).mono ?_
  rintro e w2 ⟨rfl, rfl⟩
  rw [HK.out]
  go_wp2_with fail
  refine (ok_any _ w.heap.size B m e (hm.below hb).at_ (by omega)).mono ?_
  rintro e w2 ⟨rfl, rfl⟩
  rw [HK2.out]
  go_wp2_with fail
  refine (size_any _ r hr).mono ?_
  rintro e w3 ⟨rfl, rfl⟩
  rw [HN.out]
  go_wp2_with fail
  refine (new_yes _ n hn1 hn2).mono ?_
  rintro e wq ⟨a, rfl, hb4, -, hd⟩
  have Lq : Live w wq a (Dk.new n) (fun _ => False) := Live.of_new hb hb4 hd
  clear hb4 hd hb
  go_wp2_with fail
  refine (new_yes _ n hn1 hn2).mono ?_
  rintro e wq2 ⟨b, rfl, hb4, -, hd⟩
  have Tq : Two w wq2 a (Dk.new n) b (Dk.new n) := Two.of_new Lq hb4 hd
  clear hb4 hd Lq
  go_wp2_with fail
  go_loopw [17] (fun v wr => ∃ k : Nat, k ≤ l.length ∧ v = .int .i64 (k : Int) ∧ Two w wr a ((Dk.new n).acts (l.take k)) b ((Dk.new n).acts (l.take k))) (fun v _ => l.length - (intOf v).toNat)
  case atStart => exact ⟨0, Nat.zero_le _, rfl, Tq⟩
  case round =>
    obtain ⟨k, hk, rfl, hT⟩ := hrel
    by_cases hlt : k < l.length
    · obtain ⟨z, hz⟩ : ∃ a, l[k]? = some a := ⟨_, List.getElem?_eq_getElem hlt⟩
      have hstep := Dk.acts_take (Dk.new n) l k z hz
      have hqa := Dk.acts_q (l.take k) (Dk.new n)
      have hqb : ((Dk.new n).acts (l.take k)).q.length < 4096 := by
        have h1 : (Dk.new n).q.length = 0 := rfl
        have h2 : (l.take k).length ≤ l.length := by simp; omega
        omega
      have hxt' := hts z (List.mem_of_getElem? hz)
      have hxa' := h.wf z (List.mem_of_getElem? hz)
      have HX := Lib.hid hz
      have HST := Lib.hid hstep
      generalize (Dk.new n).acts (l.take k) = D at *
      clear hz hstep hqa
      have hA := ((h.below hT.below).at_).at_ HX.out
      obtain ⟨g, off, hA, hg, c0, c1, c2, c3, c4, c5⟩ := hA
      subst hA
      go_wp2_with fail
      refine (hT.left fun F hF => do_any hF hqb z hxt' hxa').mono ?_
      rintro e w4 ⟨rfl, T4⟩
      clear c0 c1 c2 c3 c4 c5
      obtain ⟨g', off', hA', hg', c0, c1, c2, c3, c4, c5⟩ := ((h.below T4.below).at_).at_ HX.out
      injection hA' with hA'
      injection hA' with e1 e2
      subst e1 e2
      go_wp2_with fail
      refine (T4.right fun F hF => do_any hF hqb z hxt' hxa').mono ?_
      rintro e w5 ⟨rfl, T5⟩
      clear c0 c1 c2 c3 c4 c5
      go_wp2
      go_roundw
      case rel => exact ⟨k + 1, by omega, by go_num, by rw [HST.out]; exact T5⟩
      case measure => simp [intOf]; omega
    · obtain rfl : k = l.length := by omega
      rw [List.take_length] at hT
      have hqa := Dk.acts_q l (Dk.new n)
      have hna := Dk.acts_n l (Dk.new n)
      have hqb : ((Dk.new n).acts l).q.length ≤ 60 := by
        have h1 : (Dk.new n).q.length = 0 := rfl
        omega
      have hnn : ((Dk.new n).acts l).n = n := hna.trans rfl
      generalize (Dk.new n).acts l = D at *
      clear hqa hna Tq
      go_wp2_with fail
      refine (hT.left fun F hF => startany hF).mono ?_
      rintro e w5 ⟨rfl, L5⟩
      go_wp2_with fail
      refine (L5.right fun F hF => startany hF).mono ?_
      rintro e w6 ⟨rfl, L6⟩
      have hnn' : D.start.n = n := hnn
      have hqq' : D.start.q.length ≤ 60 := hqb
      have hI0 := ArI.zero (d := D.start) rfl rfl hqq' af x y
      clear hT L5 hnn hqb hqq'
      generalize D.start = E at *
      go_wp2_with fail
      refine (L6.left fun F hF => arm_any hF af x y haf).mono ?_
      rintro e w7 ⟨rfl, L7⟩
      clear L6
      go_wp2_with fail
      go_loopw [18, 19] (fun vl v wr => ∃ (k : Nat) (left : Int) (Da Db : Dk), k ≤ m.length ∧ v = .int .i64 (k : Int) ∧ vl = .int .i64 left ∧ Two w wr a Da b Db ∧ ArI af left x y Da Db k ∧ Db.n = n) (fun _ v _ => m.length - (intOf v).toNat)
      case atStart => exact ⟨0, af, _, E, Nat.zero_le _, rfl, rfl, L7, hI0, hnn'⟩
      case round =>
        clear L7 hI0
        obtain ⟨k, left, Da, Db, hk2, rfl, rfl, hT, hI, hnb⟩ := hrel
        have HNB := Lib.hid hnb
        clear hnb hnn'
        by_cases hlt2 : k < m.length
        · obtain ⟨z, hz⟩ : ∃ a, m[k]? = some a := ⟨_, List.getElem?_eq_getElem hlt2⟩
          have hyt := htm z (List.mem_of_getElem? hz)
          have HX := Lib.hid hz
          have hAt := (hm.below hT.below).at_
          obtain ⟨g, off, hB, hg, c0, c1', c2, c3, c4, c5⟩ := hAt.at_ HX.out
          subst hB
          have hqA : Da.q.length < 4096 := by have := hI.qa; omega
          have hqB : Db.q.length < 4096 := by have := hI.q; omega
          clear hz
          by_cases hks : z.kind = 2
          · rw [hks] at c0
            clear hks c1' c2 c3 c4 c5
            by_cases hl0 : left = 0
            · subst hl0
              have HS := Lib.hid (hI.syncOff rfl)
              go_wp2_with fail
              refine (hT.right fun F hF => fail_any hF x y).mono ?_
              rintro e w9 ⟨rfl, L9⟩
              go_wp2_with fail
              refine (L9.left fun F hF => sync_any hF).mono ?_
              rintro e w10 ⟨rfl, L10⟩
              rw [HS.out] at L10
              rw [HS.out]
              have hl1 := hI.yes
              have hl2 := hI.no
              have hn10 : ((Db.fail x y).start).n = n := (Dk.fail_n Db x y).trans HNB.out
              have ho10 : ((Db.fail x y).start).off = false := rfl
              have hcmp : ¬ (af < 0) := fun hh => by have := hl2 hh; omega
              clear hT L9 hAt hI hl1 hl2 c0
              generalize Db.fail x y = E2 at *
              have HN10 := Lib.hid hn10
              have HO10 := Lib.hid ho10
              have VL10 := Lib.hid (E2.start.views_len.trans hn10)
              clear hn10 ho10
              go_wp2_with fail
              refine (L10.left fun F hF => startany hF).mono ?_
              rintro e w11 ⟨rfl, L11⟩
              go_wp2_with fail
              refine (L11.right fun F hF => startany hF).mono ?_
              rintro e w12 ⟨rfl, L12⟩
              go_wp2_with fail
              refine (L12.lookl fun F hF => contents_n _ _ _ F hF HO10.out n HN10.out).mono ?_
              rintro e w13 ⟨A1, c1, rfl, hb13, hS13, hA13⟩
              have L13 := L12.same hb13
              go_wp2_with fail
              refine (L13.lookr fun F hF => contents_n _ _ _ F hF HO10.out n HN10.out).mono ?_
              rintro e w14 ⟨A2, c2, rfl, hb14, hS14, hA14⟩
              have L14 := L13.same hb14
              have hS15 := hS13.below hb14
              clear L10 L11 L12 L13 hS13 hA13 hA14 hb13 hb14
              go_wp2_with fail
              refine (same_n _ _ _ _ _ _ _ n hS15 hS14 VL10.out VL10.out (by omega)).mono ?_
              rintro e w15 ⟨rfl, hb15⟩
              rw [sameB_iff.2 rfl]
              have L15 := L14.same hb15
              go_wp2
              go_ret
              exact ⟨rfl, L15.below⟩
            · obtain ⟨Da', Db', h1, h2, hI'⟩ := hI.syncOn hl0
              have H1 := Lib.hid h1
              have H2 := Lib.hid h2
              have HNB' := Lib.hid (show Db'.n = n by have := Dk.sync_n Db; rw [h1] at this; exact this.trans HNB.out)
              have hlb : (left == 0) = false := by simpa using hl0
              have hly := hI.yes
              have hln := hI.no
              clear h1 h2 hI
              go_wp2_with fail
              refine (hT.right fun F hF => sync_any hF).mono ?_
              rintro e w9 ⟨rfl, L9⟩
              rw [H1.out] at L9
              rw [H1.out]
              go_wp2_with fail
              refine (L9.left fun F hF => sync_any hF).mono ?_
              rintro e w10 ⟨rfl, L10⟩
              rw [H2.out] at L10
              rw [H2.out]
              clear hT L9 hAt c0
              by_cases hlp : 0 < left
              · rw [if_pos hlp] at hI'
                have hlm : left ≤ 9223372036854775807 := by omega
                clear hl0 hly hln
                go_wp2
                go_roundw
                case rel => exact ⟨k + 1, left - 1, Da', Db', by omega, by go_num, by go_num, L10, hI', HNB'.out⟩
                case measure => simp [intOf]; omega
              · rw [if_neg hlp] at hI'
                clear hly hln
                go_wp2
                go_roundw
                case rel => exact ⟨k + 1, left, Da', Db', by omega, by go_num, rfl, L10, hI', HNB'.out⟩
                case measure => simp [intOf]; omega
          · have hkb : (z.kind == 2) = false := by simpa using hks
            clear hks c1' c2 c3 c4 c5
            go_wp2_with fail
            clear c0
            refine wp_region_hold (fun W => ActsAt W w.heap.size (some ⟨g, off, none⟩) m) [0, 1, 2, 3, 4, 5, 6, 7, 8, 9] [10] [11, 12] (by kernel_rfl) (by kernel_rfl) (fun _ d _ _ _ h => by cases d <;> exact h) hAt ?_
            simp only [pick, List.drop_succ_cons, List.drop_zero, List.head?_cons, Option.toList_some, List.cons_append, List.nil_append, List.append_nil]
            repeat (refine wpHeld_step ?_ rfl ?_ ?_; rotate_left; · (intro W hW; obtain ⟨y0, y1, y2, y3, y4, y5⟩ := ActsAt.six hW HX.out; go_simp; with_reducible rfl))
            refine wpHeld_nil ?_
            simp only [wpEarly]
            go_wp2_with fail
            refine (text_any _ z hyt).mono ?_
            rintro e w8 ⟨rfl, hbt⟩
            go_wp2_with fail
            have hbt' := below_drew (w := wr) hbt
            refine ⟨hAt.below (hbt'.mono hT.below.size), ?_⟩
            have hT8 := hT.same hbt'
            clear hbt hbt' hT hAt
            by_cases hc : Db.has z.sector = true ∧ z.txt.size = 64
            · by_cases hl0 : left = 0
              · subst hl0
                obtain ⟨h1, h2⟩ := hI.wroteOff hc rfl
                have H1 := Lib.hid h1
                have H2 := Lib.hid h2
                have hl1 := hI.yes
                have hl2 := hI.no
                have hcmp : ¬ (af < 0) := fun hh => by have := hl2 hh; omega
                have hn10 : ((({ Db with q := Db.q ++ [(z.sector.toNat, z.txt)] } : Dk).fail x y).start).n = n := (Dk.fail_n _ x y).trans HNB.out
                have ho10 : ((({ Db with q := Db.q ++ [(z.sector.toNat, z.txt)] } : Dk).fail x y).start).off = false := rfl
                clear hc hI h1 h2 hl1 hl2
                generalize ({ Db with q := Db.q ++ [(z.sector.toNat, z.txt)] } : Dk) = Db' at *
                go_wp2_with fail
                refine (hT8.right fun F hF => write_any hF hqB z.sector z.txt).mono ?_
                rintro e w9 ⟨rfl, L9⟩
                rw [H1.out] at L9
                rw [H1.out]
                clear hT8
                go_wp2_with fail
                refine (L9.right fun F hF => fail_any hF x y).mono ?_
                rintro e w10 ⟨rfl, L10⟩
                clear L9
                have hAt2 := (hm.below L10.below).at_
                go_wp2_with fail
                refine wp_region_hold (fun W => ActsAt W w.heap.size (some ⟨g, off, none⟩) m) [0, 1, 2, 3, 4, 5, 6, 7, 8, 9] [10] [11, 12] (by kernel_rfl) (by kernel_rfl) (fun _ d _ _ _ h => by cases d <;> exact h) hAt2 ?_
                simp only [pick, List.drop_succ_cons, List.drop_zero, List.head?_cons, Option.toList_some, List.cons_append, List.nil_append, List.append_nil]
                repeat (refine wpHeld_step ?_ rfl ?_ ?_; rotate_left; · (intro W hW; obtain ⟨y0, y1, y2, y3, y4, y5⟩ := ActsAt.six hW HX.out; go_simp; with_reducible rfl))
                refine wpHeld_nil ?_
                simp only [wpEarly]
                go_wp2_with fail
                refine (text_any _ z hyt).mono ?_
                rintro e w11 ⟨rfl, hbt⟩
                go_wp2_with fail
                have hbt' := below_drew (w := w10) hbt
                refine ⟨hAt2.below (hbt'.mono L10.below.size), ?_⟩
                have L11 := L10.same hbt'
                clear hbt hbt' L10 hAt2
                go_wp2_with fail
                refine (L11.left fun F hF => write_any hF hqA z.sector z.txt).mono ?_
                rintro e w12 ⟨rfl, L12⟩
                rw [H2.out] at L12
                rw [H2.out]
                clear L11
                generalize Db'.fail x y = E2 at *
                have HN10 := Lib.hid hn10
                have HO10 := Lib.hid ho10
                have VL10 := Lib.hid (E2.start.views_len.trans hn10)
                clear hn10 ho10
                go_wp2_with fail
                refine (L12.left fun F hF => startany hF).mono ?_
                rintro e w11' ⟨rfl, L11⟩
                go_wp2_with fail
                refine (L11.right fun F hF => startany hF).mono ?_
                rintro e w12' ⟨rfl, L12'⟩
                go_wp2_with fail
                refine (L12'.lookl fun F hF => contents_n _ _ _ F hF HO10.out n HN10.out).mono ?_
                rintro e w13 ⟨A1, c1, rfl, hb13, hS13, hA13⟩
                have L13 := L12'.same hb13
                go_wp2_with fail
                refine (L13.lookr fun F hF => contents_n _ _ _ F hF HO10.out n HN10.out).mono ?_
                rintro e w14 ⟨A2, c2, rfl, hb14, hS14, hA14⟩
                have L14 := L13.same hb14
                have hS15 := hS13.below hb14
                clear L11 L12 L12' L13 hS13 hA13 hA14 hb13 hb14
                go_wp2_with fail
                refine (same_n _ _ _ _ _ _ _ n hS15 hS14 VL10.out VL10.out (by omega)).mono ?_
                rintro e w15 ⟨rfl, hb15⟩
                rw [sameB_iff.2 rfl]
                have L15 := L14.same hb15
                go_wp2
                go_ret
                exact ⟨rfl, L15.below⟩
              · obtain ⟨Da', Db', h1, h2, hI'⟩ := hI.wroteOn hc hl0
                have H1 := Lib.hid h1
                have H2 := Lib.hid h2
                have HNB' := Lib.hid (show Db'.n = n by have := Dk.write_n Db z.sector z.txt; rw [h1] at this; exact this.trans HNB.out)
                have hlb : (left == 0) = false := by simpa using hl0
                have hly := hI.yes
                have hln := hI.no
                clear h1 h2 hI hc
                go_wp2_with fail
                refine (hT8.right fun F hF => write_any hF hqB z.sector z.txt).mono ?_
                rintro e w9 ⟨rfl, L9⟩
                rw [H1.out] at L9
                rw [H1.out]
                clear hT8
                have hAt2 := (hm.below L9.below).at_
                go_wp2_with fail
                refine wp_region_hold (fun W => ActsAt W w.heap.size (some ⟨g, off, none⟩) m) [0, 1, 2, 3, 4, 5, 6, 7, 8, 9] [10] [11, 12] (by kernel_rfl) (by kernel_rfl) (fun _ d _ _ _ h => by cases d <;> exact h) hAt2 ?_
                simp only [pick, List.drop_succ_cons, List.drop_zero, List.head?_cons, Option.toList_some, List.cons_append, List.nil_append, List.append_nil]
                repeat (refine wpHeld_step ?_ rfl ?_ ?_; rotate_left; · (intro W hW; obtain ⟨y0, y1, y2, y3, y4, y5⟩ := ActsAt.six hW HX.out; go_simp; with_reducible rfl))
                refine wpHeld_nil ?_
                simp only [wpEarly]
                go_wp2_with fail
                refine (text_any _ z hyt).mono ?_
                rintro e w11 ⟨rfl, hbt⟩
                go_wp2_with fail
                have hbt' := below_drew (w := w9) hbt
                refine ⟨hAt2.below (hbt'.mono L9.below.size), ?_⟩
                have L11 := L9.same hbt'
                clear hbt hbt' L9 hAt2
                go_wp2_with fail
                refine (L11.left fun F hF => write_any hF hqA z.sector z.txt).mono ?_
                rintro e w10 ⟨rfl, L10⟩
                rw [H2.out] at L10
                rw [H2.out]
                clear L11
                by_cases hlp : 0 < left
                · rw [if_pos hlp] at hI'
                  have hlm : left ≤ 9223372036854775807 := by omega
                  clear hl0 hly hln
                  go_wp2
                  go_roundw
                  case rel => exact ⟨k + 1, left - 1, Da', Db', by omega, by go_num, by go_num, L10, hI', HNB'.out⟩
                  case measure => simp [intOf]; omega
                · rw [if_neg hlp] at hI'
                  clear hly hln
                  go_wp2
                  go_roundw
                  case rel => exact ⟨k + 1, left, Da', Db', by omega, by go_num, rfl, L10, hI', HNB'.out⟩
                  case measure => simp [intOf]; omega
            · obtain ⟨h1, h2⟩ := hI.short hc
              have H1 := Lib.hid h1
              have H2 := Lib.hid h2
              clear h1 h2 hc
              go_wp2_with fail
              refine (hT8.right fun F hF => write_any hF hqB z.sector z.txt).mono ?_
              rintro e w9 ⟨rfl, L9⟩
              rw [H1.out] at L9
              rw [H1.out]
              clear hT8
              have hAt2 := (hm.below L9.below).at_
              go_wp2_with fail
              refine wp_region_hold (fun W => ActsAt W w.heap.size (some ⟨g, off, none⟩) m) [0, 1, 2, 3, 4, 5, 6, 7, 8, 9] [10] [11, 12] (by kernel_rfl) (by kernel_rfl) (fun _ d _ _ _ h => by cases d <;> exact h) hAt2 ?_
              simp only [pick, List.drop_succ_cons, List.drop_zero, List.head?_cons, Option.toList_some, List.cons_append, List.nil_append, List.append_nil]
              repeat (refine wpHeld_step ?_ rfl ?_ ?_; rotate_left; · (intro W hW; obtain ⟨y0, y1, y2, y3, y4, y5⟩ := ActsAt.six hW HX.out; go_simp; with_reducible rfl))
              refine wpHeld_nil ?_
              simp only [wpEarly]
              go_wp2_with fail
              refine (text_any _ z hyt).mono ?_
              rintro e w11 ⟨rfl, hbt⟩
              go_wp2_with fail
              have hbt' := below_drew (w := w9) hbt
              refine ⟨hAt2.below (hbt'.mono L9.below.size), ?_⟩
              have L11 := L9.same hbt'
              clear hbt hbt' L9 hAt2
              go_wp2_with fail
              refine (L11.left fun F hF => write_any hF hqA z.sector z.txt).mono ?_
              rintro e w10 ⟨rfl, L10⟩
              rw [H2.out] at L10
              rw [H2.out]
              clear L11
              go_wp2
              go_roundw
              case rel => exact ⟨k + 1, left, Da, Db, by omega, by go_num, rfl, L10, hI.more, HNB.out⟩
              case measure => simp [intOf]; omega
        · obtain rfl : k = m.length := by omega
          have hes := Lib.hid hI.start
          have hn10 : Db.start.n = n := HNB.out
          have ho10 : Db.start.off = false := rfl
          have hcmp : af < 0 → (left != af) = false := fun hh => by have := hI.no hh; simp [this]
          clear hI
          by_cases haf1 : af < 0
          · have hcm := hcmp haf1
            clear hcmp
            have HES := hes
            have HN10 := Lib.hid hn10
            have HO10 := Lib.hid ho10
            have VL10 := Lib.hid (Db.start.views_len.trans hn10)
            clear hn10 ho10
            go_wp2_with fail
            refine (hT.left fun F hF => startany hF).mono ?_
            rintro e w11 ⟨rfl, L11⟩
            go_wp2_with fail
            refine (L11.right fun F hF => startany hF).mono ?_
            rintro e w12 ⟨rfl, L12⟩
            go_wp2_with fail
            rw [HES.out] at L12
            refine (L12.lookl fun F hF => contents_n _ _ _ F hF HO10.out n HN10.out).mono ?_
            rintro e w13 ⟨A1, c1, rfl, hb13, hS13, hA13⟩
            have L13 := L12.same hb13
            go_wp2_with fail
            refine (L13.lookr fun F hF => contents_n _ _ _ F hF HO10.out n HN10.out).mono ?_
            rintro e w14 ⟨A2, c2, rfl, hb14, hS14, hA14⟩
            have L14 := L13.same hb14
            have hS15 := hS13.below hb14
            clear L11 L12 L13 hS13 hA13 hA14 hb13 hb14
            go_wp2_with fail
            refine (same_n _ _ _ _ _ _ _ n hS15 hS14 VL10.out VL10.out (by omega)).mono ?_
            rintro e w15 ⟨rfl, hb15⟩
            rw [sameB_iff.2 rfl]
            have L15 := L14.same hb15
            go_wp2
            go_ret
            exact ⟨rfl, L15.below⟩
          · clear hcmp
            have HES := hes
            have HN10 := Lib.hid hn10
            have HO10 := Lib.hid ho10
            have VL10 := Lib.hid (Db.start.views_len.trans hn10)
            clear hn10 ho10
            go_wp2_with fail
            refine (hT.left fun F hF => startany hF).mono ?_
            rintro e w11 ⟨rfl, L11⟩
            go_wp2_with fail
            refine (L11.right fun F hF => startany hF).mono ?_
            rintro e w12 ⟨rfl, L12⟩
            go_wp2_with fail
            rw [HES.out] at L12
            refine (L12.lookl fun F hF => contents_n _ _ _ F hF HO10.out n HN10.out).mono ?_
            rintro e w13 ⟨A1, c1, rfl, hb13, hS13, hA13⟩
            have L13 := L12.same hb13
            go_wp2_with fail
            refine (L13.lookr fun F hF => contents_n _ _ _ F hF HO10.out n HN10.out).mono ?_
            rintro e w14 ⟨A2, c2, rfl, hb14, hS14, hA14⟩
            have L14 := L13.same hb14
            have hS15 := hS13.below hb14
            clear L11 L12 L13 hS13 hA13 hA14 hb13 hb14
            go_wp2_with fail
            refine (same_n _ _ _ _ _ _ _ n hS15 hS14 VL10.out VL10.out (by omega)).mono ?_
            rintro e w15 ⟨rfl, hb15⟩
            rw [sameB_iff.2 rfl]
            have L15 := L14.same hb15
            go_wp2
            go_ret
            exact ⟨rfl, L15.below⟩

theorem armed_walk (w : World) (r : Int) (wr : (Lit.int .u8 r).wf = true) (A : Option Addr) (c : Nat) (l : List Ac) (h : Acts w w.heap.size A l) (B : Option Addr) (e : Nat) (m : List Ac) (hm : Acts w w.heap.size B m) (af : Int) (wa : (Lit.int .i64 af).wf = true) (x : Int) (_ : (Lit.int .i64 x).wf = true) (y : Int) (_ : (Lit.int .i64 y).wf = true) :
    Calls Try.prog 8 #[.int .u8 r, .slice A l.length c, .slice B m.length e, .int .i64 af, .int .i64 x, .int .i64 y] w fun e w' => e = .returned (.bool true) ∧ Below w.heap.size w w' := by
  obtain ⟨k, rfl, hk⟩ := u8_nat wr
  have hb := i64_bd wa
  cases hok : okB l with
  | false => exact armed_no w k A c l h B e m af x y hok
  | true =>
    cases hok2 : okB m with
    | false => exact armed_no2 w k A c l h B e m hm af x y hok hok2
    | true => exact armed_yes w k hk A c l h B e m hm af x y hb.2 hb.1 hok hok2
end Go.Proofs.Ytahkahmkoibmhaa
