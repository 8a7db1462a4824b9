/- The walk of DiskPrefix. -/
import Derived.Test.YtahkahmkoibmhaaLl
namespace Go.Proofs.Ytahkahmkoibmhaa
open Go.RowKit

/-- An operation is stored over another. -/
theorem act_stored {w : World} {gx : Nat} {t : TypeId} {V : Ac} (h : Blk w gx t #[.int .i64 V.kind, .int .i64 V.sector, .int .i64 V.bytes, .string V.text, .bool V.odd, .int .i64 V.after]) (z : Ac) :
    Blk ((((((w.setCell ⟨gx, 0, none⟩ (.int .i64 z.kind)).setCell ⟨gx, 1, none⟩ (.int .i64 z.sector)).setCell ⟨gx, 2, none⟩ (.int .i64 z.bytes)).setCell ⟨gx, 3, none⟩ (.string z.text)).setCell ⟨gx, 4, none⟩ (.bool z.odd)).setCell ⟨gx, 5, none⟩ (.int .i64 z.after)) gx t z.cells.toArray ∧
      Only (fun i => i = gx) w ((((((w.setCell ⟨gx, 0, none⟩ (.int .i64 z.kind)).setCell ⟨gx, 1, none⟩ (.int .i64 z.sector)).setCell ⟨gx, 2, none⟩ (.int .i64 z.bytes)).setCell ⟨gx, 3, none⟩ (.string z.text)).setCell ⟨gx, 4, none⟩ (.bool z.odd)).setCell ⟨gx, 5, none⟩ (.int .i64 z.after)) := by
  refine ⟨?_, ?_⟩
  · have := (((((h.set_ 0 (.int .i64 z.kind)).set_ 1 (.int .i64 z.sector)).set_ 2 (.int .i64 z.bytes)).set_ 3 (.string z.text)).set_ 4 (.bool z.odd)).set_ 5 (.int .i64 z.after)
    simpa [Ac.cells] using this
  · exact (((((((Only.refl (fun i => i = gx) w).setCell (p := ⟨gx, 0, none⟩) (.inl rfl) _).setCell (p := ⟨gx, 1, none⟩) (.inl rfl) _).setCell (p := ⟨gx, 2, none⟩) (.inl rfl) _).setCell (p := ⟨gx, 3, none⟩) (.inl rfl) _).setCell (p := ⟨gx, 4, none⟩) (.inl rfl) _).setCell (p := ⟨gx, 5, none⟩) (.inl rfl) _)
/-- What 'next' holds. -/
def nx0 : Ac := ⟨0, -1, 0, ⟨#[]⟩, false, 0⟩
def nxt (n : Nat) (m : List Ac) (k x : Nat) : Ac := ((goods n (m.take k))[x]?).getD nx0
theorem nxt_zero (n : Nat) (m : List Ac) (x : Nat) : nxt n m 0 x = nx0 := rfl
theorem nxt_here {n : Nat} {m : List Ac} {k x : Nat} {y : Ac} (h : m[k]? = some y) (hf : fits n y = true) (hx : (goods n (m.take k)).length = x) : nxt n m (k + 1) x = y := by
  unfold nxt
  rw [goods_take h, if_pos hf, ← hx, List.getElem?_append_right (Nat.le_refl _)]
  simp
theorem nxt_other {n : Nat} {m : List Ac} {k x : Nat} {y : Ac} (h : m[k]? = some y) (hx : fits n y = false ∨ (goods n (m.take k)).length ≠ x) : nxt n m (k + 1) x = nxt n m k x := by
  unfold nxt
  rw [goods_take h]
  by_cases hf : fits n y = true
  · rw [if_pos hf]
    have hx' : (goods n (m.take k)).length ≠ x := by
      rcases hx with hx | hx
      · rw [hf] at hx; cases hx
      · exact hx
    rcases Nat.lt_or_gt_of_ne hx' with h1 | h1
    · rw [List.getElem?_eq_none (by simp; omega), List.getElem?_eq_none (by omega)]
    · rw [List.getElem?_append_left h1]
  · rw [if_neg hf, List.append_nil]

set_option maxRecDepth 100000 in
set_option maxHeartbeats 1000000 in
theorem prefix_wno (w : World) (r : Nat) (A : Option Addr) (c : Nat) (l : List Ac) (h : Acts w w.heap.size A l) (B : Option Addr) (e : Nat) (m : List Ac) (f t : Nat) (hok : okB l = false) :
    Calls Try.prog 5 #[.int .u8 (r : Int), .slice A l.length c, .slice B m.length e, .int .u8 (f : Int), .int .u8 (t : Int)] w fun e w' => e = .returned (.bool true) ∧ Below w.heap.size w w' := by
  have hl := h.len
  have HK := Lib.hid hok
  clear hok
  go_enter Try.func5, Try.ntmps5
  go_wp2_with fail
  refine (head_any _).mono ?_
  rintro e w1 ⟨rfl, hb⟩
  go_wp2_with fail
  refine (ok_any w1 w.heap.size A l c (h.below hb).at_ (by omega)).mono ?_
  rintro e w2 ⟨rfl, rfl⟩
  rw [HK.out]
  go_wp2
  go_ret
  exact ⟨rfl, hb⟩

set_option maxRecDepth 100000 in
set_option maxHeartbeats 1000000 in
theorem prefix_wno2 (w : World) (r : Nat) (A : Option Addr) (c : Nat) (l : List Ac) (h : Acts w w.heap.size A l) (B : Option Addr) (e : Nat) (m : List Ac) (hm : Acts w w.heap.size B m) (f t : Nat) (hok : okB l = true) (hok2 : okB m = false) :
    Calls Try.prog 5 #[.int .u8 (r : Int), .slice A l.length c, .slice B m.length e, .int .u8 (f : Int), .int .u8 (t : Int)] w fun e w' => e = .returned (.bool true) ∧ Below w.heap.size w w' := by
  have hl := h.len
  have hlm := hm.len
  have HK := Lib.hid hok
  have HK2 := Lib.hid hok2
  clear hok hok2
  go_enter Try.func5, Try.ntmps5
  go_wp2_with fail
  refine (head_any _).mono ?_
  rintro e w1 ⟨rfl, hb⟩
  go_wp2_with fail
  refine (ok_any w1 w.heap.size A l c (h.below hb).at_ (by omega)).mono ?_
  rintro e w2 ⟨rfl, rfl⟩
  rw [HK.out]
  go_wp2_with fail
  refine (ok_any _ w.heap.size B m e (hm.below hb).at_ (by omega)).mono ?_
  rintro e w2 ⟨rfl, rfl⟩
  rw [HK2.out]
  go_wp2
  go_ret
  exact ⟨rfl, hb⟩

set_option maxRecDepth 100000 in
set_option maxHeartbeats 4000000 in
theorem prefix_wyes (w : World) (r : Nat) (hr : r < 256) (A : Option Addr) (c : Nat) (l : List Ac) (h : Acts w w.heap.size A l) (B : Option Addr) (e : Nat) (m : List Ac) (hm : Acts w w.heap.size B m) (f t : Nat) (hf : f < 256) (ht : t < 256) (hok : okB l = true) (hok2 : okB m = true) :
    Calls Try.prog 5 #[.int .u8 (r : Int), .slice A l.length c, .slice B m.length e, .int .u8 (f : Int), .int .u8 (t : Int)] w fun e w' => e = .returned (.bool true) ∧ Below w.heap.size w w' := by
  have hl := h.len
  have hlm := hm.len
  have hts := (okB_spec hok).1
  have hl60 := (okB_spec hok).2
  have htm := (okB_spec hok2).1
  have hm60 := (okB_spec hok2).2
  have HK := Lib.hid hok
  have HK2 := Lib.hid hok2
  clear hok hok2
  obtain ⟨n, hn⟩ : ∃ n, 1 + r % 12 = n := ⟨_, rfl⟩
  have hn1 : 1 ≤ n := by omega
  have hn2 : n ≤ 4000 := by omega
  have HN := Lib.hid hn
  clear hn
  obtain ⟨x, hx⟩ : ∃ x, f % 61 = x := ⟨_, rfl⟩
  obtain ⟨y, hy⟩ : ∃ y, t % 33 = y := ⟨_, rfl⟩
  have hx60 : x ≤ 60 := by omega
  have hy32 : y ≤ 32 := by omega
  have HXX := Lib.hid (show (f : Int) % 61 = (x : Int) by omega)
  have HYY := Lib.hid (show (t : Int) % 33 = (y : Int) by omega)
  clear hx hy
  go_enter Try.func5, Try.ntmps5
  go_wp2_with fail
  refine (head_any _).mono ?_
  rintro e w1 ⟨rfl, hb⟩
  go_wp2_with fail
  refine (ok_any w1 w.heap.size A l c (h.below hb).at_ (by omega)).mono ?_
  rintro e w2 ⟨rfl, rfl⟩
  rw [HK.out]
  go_wp2_with fail
  refine (ok_any _ w.heap.size B m e (hm.below hb).at_ (by omega)).mono ?_
  rintro e w2 ⟨rfl, rfl⟩
  rw [HK2.out]
  go_wp2_with fail
  refine (size_any _ r hr).mono ?_
  rintro e w3 ⟨rfl, rfl⟩
  rw [HN.out]
  go_wp2_with fail
  rw [HXX.out, HYY.out]
  refine (new_yes _ n hn1 hn2).mono ?_
  rintro e wq ⟨a, rfl, hb4, -, hd⟩
  have Lq : Live w wq a (Dk.new n) (fun _ => False) := Live.of_new hb hb4 hd
  clear hb4 hd hb
  go_wp2_with fail
  go_loopw [16] (fun v wr => ∃ k : Nat, k ≤ l.length ∧ v = .int .i64 (k : Int) ∧ Live w wr a ((Dk.new n).acts (l.take k)) (fun _ => False)) (fun v _ => l.length - (intOf v).toNat)
  case atStart => exact ⟨0, Nat.zero_le _, rfl, Lq⟩
  case round =>
    obtain ⟨k, hk, rfl, hT⟩ := hrel
    by_cases hlt : k < l.length
    · obtain ⟨y, hy⟩ : ∃ a, l[k]? = some a := ⟨_, List.getElem?_eq_getElem hlt⟩
      have hstep := Dk.acts_take (Dk.new n) l k y hy
      have hqa := Dk.acts_q (l.take k) (Dk.new n)
      have hqb : ((Dk.new n).acts (l.take k)).q.length < 4096 := by
        have h1 : (Dk.new n).q.length = 0 := rfl
        have h2 : (l.take k).length ≤ l.length := by simp; omega
        omega
      have hxt' := hts y (List.mem_of_getElem? hy)
      have hxa' := h.wf y (List.mem_of_getElem? hy)
      have HX := Lib.hid hy
      have HST := Lib.hid hstep
      generalize (Dk.new n).acts (l.take k) = D at *
      clear hy hstep hqa
      have hA := ((h.below hT.below).at_).at_ HX.out
      obtain ⟨g, off, hA, hg, c0, c1, c2, c3, c4, c5⟩ := hA
      subst hA
      go_wp2_with fail
      refine (hT.lift fun F hF => do_any hF hqb y hxt' hxa').mono ?_
      rintro e w4 ⟨rfl, T4, K4⟩
      clear c0 c1 c2 c3 c4 c5
      go_wp2
      go_roundw
      case rel => exact ⟨k + 1, by omega, by go_num, by rw [HST.out]; exact T4⟩
      case measure => simp [intOf]; omega
    · obtain rfl : k = l.length := by omega
      rw [List.take_length] at hT
      obtain ⟨e1, e2, e3, e4, e5⟩ := dE_is n l
      have HD := Lib.hid (show ((Dk.new n).acts l).start.sync.1 = dE n l from rfl)
      have H5 := Lib.hid e5
      have HE := Lib.hid (show dE n l = dE n l from rfl)
      obtain ⟨E, hE⟩ : ∃ E, dE n l = E := ⟨_, rfl⟩
      rw [hE] at e1 e2 e3 e4 HD
      have HEE := Lib.hid hE
      have HN5 := Lib.hid e1
      have HQ5 := Lib.hid e2
      have HO5 := Lib.hid e3
      have HA5 := Lib.hid e4
      clear e1 e2 e3 e4 e5 Lq hE HE
      go_wp2_with fail
      refine (hT.lift fun F hF => startany hF).mono ?_
      rintro e w5 ⟨rfl, L5, K5⟩
      go_wp2_with fail
      refine (L5.lift fun F hF => sync_any hF).mono ?_
      rintro e w6 ⟨rfl, L6, K6⟩
      rw [H5.out, HD.out] at *
      clear K5 K6 hT L5
      go_wp2_with fail
      have hbn : Blk (w6.alloc (.cells nx0.cells.toArray 34)) w6.heap.size 34 nx0.cells.toArray := Blk.new w6 _ _
      have L8 : Live w (w6.alloc (.cells nx0.cells.toArray 34)) a E (fun i => i = w6.heap.size) := L6.more ((Below.refl _ _).alloc (Nat.le_refl _) _) (fun i hi => by right; simp; omega)
      have hw6 := L6.below.size
      have hgn : nxt n m 0 x = nx0 := rfl
      rw [← hgn] at hbn
      clear hgn
      have hbn' := hbn
      unfold nx0 Ac.cells at L8 hbn'
      simp only at L8 hbn'
      have hbn2 : Blk (w6.alloc (.cells #[.int .i64 0, .int .i64 (-1), .int .i64 0, .string ⟨#[]⟩, .bool false, .int .i64 0] 34)) w6.heap.size 34 (nxt n m 0 x).cells.toArray := hbn
      clear hbn hbn'
      generalize w6.alloc (.cells #[.int .i64 0, .int .i64 (-1), .int .i64 0, .string ⟨#[]⟩, .bool false, .int .i64 0] 34) = w8 at *
      clear L6
      generalize w6.heap.size = gx at *
      go_loopw [17, 19] (fun vd v wr => ∃ (k dn : Nat) (D : Dk), k ≤ m.length ∧ v = .int .i64 (k : Int) ∧ vd = .int .i64 (dn : Int) ∧ Live w wr a D (fun i => i = gx) ∧ PrI E m k dn D ∧ Blk wr gx 34 (nxt n m k x).cells.toArray) (fun _ v _ => m.length - (intOf v).toNat)
      case atStart => exact ⟨0, 0, E, Nat.zero_le _, rfl, rfl, L8, PrI.zero HQ5.out m, hbn2⟩
      case round =>
        clear L8 hbn2
        obtain ⟨k, dn, D2, hk2, rfl, rfl, hT, hI, hbn⟩ := hrel
        have hql := hI.q
        have hdn := hI.dn_le
        by_cases hlt2 : k < m.length
        · obtain ⟨z, hz⟩ : ∃ a, m[k]? = some a := ⟨_, List.getElem?_eq_getElem hlt2⟩
          have hyt := htm z (List.mem_of_getElem? hz)
          have HX := Lib.hid hz
          have hAt := (hm.below hT.below).at_
          obtain ⟨g, off, hB, hg, c0, c1', c2, c3, c4, c5⟩ := hAt.at_ HX.out
          subst hB
          have hq2 : D2.q.length < 4096 := by omega
          clear hz
          go_wp2_with fail
          clear c0 c1' c2 c3 c4 c5
          refine wp_region_hold (fun W => ActsAt W w.heap.size (some ⟨g, off, none⟩) m) [0, 1, 2, 3, 4, 5, 6, 7, 8, 9] [10] [11, 12] (by kernel_rfl) (by kernel_rfl) (fun _ d _ _ _ h => by cases d <;> exact h) hAt ?_
          simp only [pick, List.drop_succ_cons, List.drop_zero, List.head?_cons, Option.toList_some, List.cons_append, List.nil_append, List.append_nil]
          repeat (refine wpHeld_step ?_ rfl ?_ ?_; rotate_left; · (intro W hW; obtain ⟨y0, y1, y2, y3, y4, y5⟩ := ActsAt.six hW HX.out; go_simp; with_reducible rfl))
          refine wpHeld_nil ?_
          simp only [wpEarly]
          go_wp2_with fail
          refine (text_any _ z hyt).mono ?_
          rintro e w9 ⟨rfl, hbt⟩
          go_wp2_with fail
          have hbt' : Below wr.heap.size wr w9 := below_drew hbt
          have hAt9 : ActsAt w9 w.heap.size (some ⟨g, off, none⟩) m := hAt.below (hbt'.mono hT.below.size)
          refine ⟨hAt9, ?_⟩
          have hT9 := hT.same hbt'
          have hbn9 := hbn.below hbt' hbn.lt
          clear hbt hAt hT hAt9 hbt' hbn
          by_cases hc : fits E.n z = true
          · obtain ⟨D3, hw3, hI3⟩ := hI.good HO5.out HA5.out HX.out hc
            have HR := Lib.hid hw3
            have HC := Lib.hid hc
            clear hw3 hc
            go_wp2_with fail
            refine (hT9.lift fun F hF => write_any hF hq2 z.sector z.txt).mono ?_
            rintro e w10 ⟨rfl, L10, K10⟩
            rw [HR.out] at L10
            rw [HR.out]
            have hbn10 := K10.blk hbn9 rfl
            have hAt10 := (hm.below L10.below).at_
            obtain ⟨y0, y1, y2, y3, y4, y5⟩ := ActsAt.six hAt10 HX.out
            clear hT9 K10 hbn9
            by_cases hdx : dn = x
            · have hnx : nxt n m (k + 1) x = z := nxt_here HX.out (by rw [← HN5.out]; exact HC.out) (by rw [← HN5.out, ← hI.len]; exact hdx)
              subst hdx
              have HNX := Lib.hid hnx
              clear hnx
              obtain ⟨V, hV⟩ : ∃ V, nxt n m k dn = V := ⟨_, rfl⟩
              rw [hV] at hbn10
              have hbV : Blk w10 gx 34 #[.int .i64 V.kind, .int .i64 V.sector, .int .i64 V.bytes, .string V.text, .bool V.odd, .int .i64 V.after] := hbn10
              clear hV hbn10
              obtain ⟨b1, b2, b3⟩ := hbV.all
              go_wp2
              obtain ⟨hbz, hOz⟩ := act_stored hbV z
              have L12 := L10.only (H := fun i => i = gx) hOz (by intro i hi; subst hi; exact ⟨rfl, hw6⟩)
              go_roundw
              case rel => exact ⟨k + 1, dn + 1, D3, by omega, by go_num, by go_num, L12, hI3, by rw [HNX.out]; exact hbz⟩
              case measure => simp [intOf]; omega
            · have hnx : nxt n m (k + 1) x = nxt n m k x := nxt_other HX.out (.inr (by rw [← HN5.out, ← hI.len]; exact hdx))
              rw [← hnx] at hbn10
              have hdx' : ((dn : Int) == (x : Int)) = false := by rw [beq_eq_false_iff_ne]; omega
              clear hnx y0 y1 y2 y3 y4 y5
              go_wp2
              go_roundw
              case rel => exact ⟨k + 1, dn + 1, D3, by omega, by go_num, by go_num, L10, hI3, hbn10⟩
              case measure => simp [intOf]; omega
          · have hcf : fits E.n z = false := by simpa using hc
            obtain ⟨hw3, hI3⟩ := hI.bad HO5.out HA5.out HX.out hcf
            have HR := Lib.hid hw3
            have hnx : nxt n m (k + 1) x = nxt n m k x := nxt_other HX.out (.inl (by rw [← HN5.out]; exact hcf))
            rw [← hnx] at hbn9
            clear hw3 hc hcf hnx
            go_wp2_with fail
            refine (hT9.lift fun F hF => write_any hF hq2 z.sector z.txt).mono ?_
            rintro e w10 ⟨rfl, L10, K10⟩
            rw [HR.out] at L10
            rw [HR.out]
            have hbn10 := K10.blk hbn9 rfl
            clear hT9 K10 hbn9
            go_wp2
            go_roundw
            case rel => exact ⟨k + 1, dn, D2, by omega, by go_num, rfl, L10, hI3, hbn10⟩
            case measure => simp [intOf]; omega
        · obtain rfl : k = m.length := by omega
          have heq := hI.eq
          rw [List.take_length, HN5.out] at heq
          subst heq
          have hok := hT.ok
          have hokE : E.Ok := ⟨hok.n1, hok.n2, hok.st, hok.el, (fun p hp => by rw [HQ5.out] at hp; cases hp), hok.arm⟩
          have hfit : ∀ z ∈ goods n m, fits E.n z = true := fun z hz => by rw [HN5.out]; exact goods_fits hz
          have htxt : ∀ z ∈ goods n m, z.text.size ≤ 100 := fun z hz => htm z (goods_mem hz)
          have hnxt : nxt n m m.length x = ((goods n m)[x]?).getD nx0 := by unfold nxt; rw [List.take_length]
          rw [hnxt] at hbn
          have hnone := Lib.hid (fun h : (goods n m)[x]? = none => prefix_none hokE HO5.out hfit x y (by omega) h)
          have hsome := Lib.hid (fun (z : Ac) (h : (goods n m)[x]? = some z) => prefix_some hokE HO5.out hfit x y (by omega) h)
          have HOF := Lib.hid hfit
          have HTX := Lib.hid htxt
          have hWok : ((E.pend ((goods n m).take x))).Ok := ⟨hokE.n1, hokE.n2, hokE.st, hokE.el, fun p hp => by
            obtain ⟨z, hz, rfl⟩ := List.mem_map.1 hp
            exact pend_q hfit _ (List.mem_map.2 ⟨z, List.mem_of_mem_take hz, rfl⟩), hokE.arm⟩
          clear hok hokE hfit htxt hnxt hI
          go_wp2_with fail
          refine (hT.lift fun F hF => fail_any hF x y).mono ?_
          rintro e w9 ⟨rfl, L9, K9⟩
          have hbn9 := K9.blk hbn rfl
          clear hT hbn K9
          go_wp2_with fail
          refine (L9.lift fun F hF => startany hF).mono ?_
          rintro e w10 ⟨rfl, L10, K10⟩
          have hbn10 := K10.blk hbn9 rfl
          have hn10 : (((E.pend (goods n m)).fail x y).start).n = n := (Dk.fail_n (E.pend (goods n m)) x y).trans HN5.out
          have ho10 : (((E.pend (goods n m)).fail x y).start).off = false := rfl
          clear L9 hbn9 K10
          generalize ((E.pend (goods n m)).fail x y).start = E2 at *
          have HN10 := Lib.hid hn10
          have HO10 := Lib.hid ho10
          have VL10 := Lib.hid (E2.views_len.trans hn10)
          clear hn10 ho10
          go_wp2_with fail
          refine (L10.look fun F hF => contents_o _ _ _ F hF HO10.out n HN10.out).mono ?_
          rintro e w11 ⟨A2, c2, rfl, hb11, hS2, hA2⟩
          have hl10 := hbn10.lt
          obtain ⟨g2, rfl, hg2⟩ := own_some hS2 (by omega)
          have hg2' := hA2 _ rfl
          simp only at hg2'
          have L11 : Live w w11 a E2 (fun i => i = gx ∨ i = g2) := L10.more hb11 (fun i hi => by
            rcases hi with hi | hi
            · exact .inl hi
            · right; omega)
          have hbn11 := hbn10.below hb11 hl10
          clear L10 hbn10 hA2 hb11
          go_wp2_with fail
          refine (prefix_any w11 n hn1 hn2 A c l ((h.below L11.below).wide L11.below.size) _ e m ((hm.below L11.below).wide L11.below.size) x hx60 HK.out HK2.out).mono ?_
          rintro e w12 ⟨A3, c3, rfl, hb12, hS3, hA3⟩
          rw [HEE.out] at hS3
          obtain ⟨g3, rfl, hg3⟩ := own_some hS3 (by omega)
          have hg3' := hA3 _ rfl
          simp only at hg3'
          have L12 : Live w w12 a E2 (fun i => i = gx ∨ i = g2 ∨ i = g3) := L11.more hb12 (fun i hi => by
            rcases hi with hi | hi | hi
            · exact .inl (.inl hi)
            · exact .inl (.inr hi)
            · right; omega)
          have hbn12 := hbn11.below hb12 hbn11.lt
          have hS12 := Only.owns (Only.of_below hb12 (fun _ => False)) hS2 (by simp)
          have hlx := hbn11.lt
          clear L11 hbn11 hS2 hA3 hb12
          have hgs : (g3 ≠ gx ∧ g3 ≠ g2) := by omega
          cases hG : (goods n m)[x]? with
          | none =>
            have HNO := Lib.hid (hnone.out hG)
            rw [hG] at hbn12
            clear hG hnone hsome
            have hbV : Blk w12 gx 34 #[.int .i64 0, .int .i64 (-1), .int .i64 0, .string ⟨#[]⟩, .bool false, .int .i64 0] := hbn12
            obtain ⟨b1, b2, b3⟩ := hbV.all
            have hm1 : (-1 : Int) < n := by omega
            have WL := Lib.hid (show (E.pend (List.take x (goods n m))).views.length = n from (Dk.views_len _).trans HN5.out)
            have hSame : sameB E2.views (E.pend (List.take x (goods n m))).views = true := sameB_iff.2 HNO.out
            have HS := Lib.hid hSame
            clear hSame
            go_wp2_with fail
            refine (same_n _ _ _ _ _ _ _ n (StrsAt.of_own hS12) (StrsAt.of_own hS3) VL10.out WL.out (by omega)).mono ?_
            rintro e w13 ⟨rfl, hb13⟩
            rw [HS.out]
            have L13 := L12.same hb13
            go_wp2
            go_ret
            exact ⟨rfl, L13.below⟩
          | some z =>
            have hz := List.mem_of_getElem? hG
            have hzf := fits_spec.1 (HOF.out z hz)
            have hzt := HTX.out z hz
            have HSO := Lib.hid (hsome.out z hG)
            rw [hG] at hbn12
            have hz1 : z.sector < (n : Int) := by have := hzf.2.1; rw [HN5.out] at this; exact this
            have hz0 : 0 ≤ z.sector := hzf.1
            have HZ := Lib.hid hzf.2.2
            clear hz hzf
            clear hG hnone hsome HOF HTX
            have hbV : Blk w12 gx 34 #[.int .i64 z.kind, .int .i64 z.sector, .int .i64 z.bytes, .string z.text, .bool z.odd, .int .i64 z.after] := hbn12
            have WL := Lib.hid (show (E.pend (List.take x (goods n m))).views.length = n from (Dk.views_len _).trans HN5.out)
            have hV0 : (E.pend (List.take x (goods n m))).views[z.sector.toNat]? = some ((E.pend (List.take x (goods n m))).view z.sector.toNat) := Dk.views_at _ _ (by show z.sector.toNat < E.n; rw [HN5.out]; omega)
            have hVs : ((E.pend (List.take x (goods n m))).view z.sector.toNat).size = 64 := Dk.view_size hWok _ (by show z.sector.toNat < E.n; rw [HN5.out]; omega)
            generalize (E.pend (List.take x (goods n m))).view z.sector.toNat = V at *
            have HVS := Lib.hid hVs
            have HV0 := Lib.hid hV0
            clear hVs hV0 hbn12 hWok
            have hz1' : ¬ (n : Int) ≤ z.sector := by omega
            obtain ⟨b1, b2, b3⟩ := hbV.all
            go_wp2_with fail
            have sl1 : ∀ W : World, (Instr.slice 9 (.string z.txt) none (some (.int .i64 (y : Int))) none).run Try.prog W = .ok (.string (z.txt.extract 0 y)) W := fun W => by
              have := run_slice_string_h (P := Try.prog) W 9 z.txt (by kernel_rfl) .i64 (y : Int) (by omega) (by rw [HZ.out]; omega)
              simpa using this
            have sl2 : ∀ W : World, (Instr.slice 9 (.string V) (some (.int .i64 (y : Int))) none none).run Try.prog W = .ok (.string (V.extract y V.size)) W := fun W => by
              have := run_slice_string_l (P := Try.prog) W 9 V (by kernel_rfl) .i64 (y : Int) (by omega) (by rw [HVS.out]; omega)
              simpa using this
            have hs1 : (z.txt.extract 0 y).size = y := by rw [ext_size _ _ _ (by rw [HZ.out]; omega)]; omega
            have hs2 : (V.extract y V.size).size = 64 - y := by rw [ext_size _ _ _ (Nat.le_refl _), HVS.out]
            have hsum : (z.txt.extract 0 y).size + (V.extract y V.size).size ≤ 1000 := by omega
            clear hs1 hs2
            generalize hT0 : z.txt.extract 0 y ++ V.extract y V.size = T at *
            have ad : ∀ W : World, (Op.stringOp .add (z.txt.extract 0 y) (V.extract y V.size)).run Try.prog W = .ok (.string T) W := fun W => by
              rw [← hT0]
              exact run_string_add_sum W _ _ (by omega)
            clear hT0 hsum
            generalize z.txt.extract 0 y = T1 at *
            generalize V.extract y V.size = T2 at *
            refine wp_region_hold (fun W => Blk W gx 34 #[.int .i64 z.kind, .int .i64 z.sector, .int .i64 z.bytes, .string z.text, .bool z.odd, .int .i64 z.after] ∧ W.ownsRow 0 9 1 (.slice (some ⟨g3, 0, none⟩) n c3) n (List.map Value.string (E.pend (List.take x (goods n m))).views)) [0, 1, 2, 3, 5, 7, 8, 9, 10, 11, 12, 13] [4, 6, 14] [15, 16] (by kernel_rfl) (by kernel_rfl) (fun _ d _ _ _ h => by cases d <;> exact h) ⟨hbV, hS3⟩ ?_
            simp only [pick, List.drop_succ_cons, List.drop_zero, List.head?_cons, Option.toList_some, List.cons_append, List.nil_append, List.append_nil]
            have hget : (List.map Value.string (E.pend (List.take x (goods n m))).views)[z.sector.toNat]? = some (Value.string V) := by rw [List.getElem?_map, HV0.out]; rfl
            have HGET := Lib.hid hget
            clear hget
            repeat (refine wpHeld_step ?_ rfl ?_ ?_; rotate_left; · (intro W hW; obtain ⟨y1, y2, y3⟩ := hW.1.all; have q := hW.2.cellAt z.sector.toNat (by omega); rw [HGET.out] at q; go_simp; with_reducible rfl))
            refine wpHeld_nil ?_
            simp only [wpEarly]
            go_wp2_with fail
            refine (text_any _ z hzt).mono ?_
            rintro e w13 ⟨rfl, hbt⟩
            have hbt' : Below w12.heap.size w12 w13 := below_drew hbt
            have hbV13 := hbV.below hbt' b3
            have hS13 := Only.owns (Only.of_below hbt' (fun _ => False)) hS3 (by simp)
            have hN13 := Only.owns (Only.of_below hbt' (fun _ => False)) hS12 (by simp)
            have L13 := L12.same hbt'
            clear hbt hbt' hbV hS3 hS12 L12 b1 b2 b3
            go_wp2_with fail
            refine ⟨⟨hbV13, hS13⟩, ?_⟩
            go_wp2_with fail
            refine ⟨⟨hbV13, hS13⟩, ?_⟩
            go_wp2_with fail
            refine ⟨⟨hbV13, hS13⟩, ?_⟩
            have hcell := hS13.cellAt z.sector.toNat (by omega)
            have hfz := hS13.frozenAt z.sector.toNat
            rw [HGET.out] at hcell
            have hst := (hS13.stored z.sector.toNat (.string T)).1
            have hset : (List.map Value.string (E.pend (List.take x (goods n m))).views).set z.sector.toNat (Value.string T) = E2.views.map Value.string := by
              rw [HSO.out]
              simp [List.map_set]
            rw [hset] at hst
            clear hset
            have hO14 : Only (fun i => i = g3) w13 (w13.setCell ⟨g3, z.sector.toNat, none⟩ (.string T)) := (Only.refl (fun i => i = g3) w13).setCell (p := ⟨g3, z.sector.toNat, none⟩) (.inl rfl) (.string T)
            have hS14 := StrsAt.of_own hst
            have hN14 := StrsAt.of_own (hO14.owns hN13 (by
              intro g0 hg0 hh
              obtain ⟨b, hb0, hb1⟩ := own_block hg0
              injection hb0 with hb0
              subst hb0
              exact hgs.2 (hh.symm.trans hb1.symm)))
            have L14 := L13.only (H := fun i => i = g3) hO14 (by intro i hi; subst hi; exact ⟨.inr (.inr rfl), by omega⟩)
            clear hst hO14 hN13
            go_wp2_with fail
            refine (same_n _ _ _ _ _ _ _ n hN14 hS14 VL10.out VL10.out (by omega)).mono ?_
            rintro e w15 ⟨rfl, hb15⟩
            rw [sameB_iff.2 rfl]
            have L15 := L14.same hb15
            go_wp2
            go_ret
            exact ⟨rfl, L15.below⟩

theorem prefix_walk (w : World) (r : Int) (wr : (Lit.int .u8 r).wf = true) (A : Option Addr) (c : Nat) (l : List Ac) (h : Acts w w.heap.size A l) (B : Option Addr) (e : Nat) (m : List Ac) (hm : Acts w w.heap.size B m) (x : Int) (wx : (Lit.int .u8 x).wf = true) (y : Int) (wy : (Lit.int .u8 y).wf = true) :
    Calls Try.prog 5 #[.int .u8 r, .slice A l.length c, .slice B m.length e, .int .u8 x, .int .u8 y] w fun e w' => e = .returned (.bool true) ∧ Below w.heap.size w w' := by
  obtain ⟨k, rfl, hk⟩ := u8_nat wr
  obtain ⟨x, rfl, hx⟩ := u8_nat wx
  obtain ⟨y, rfl, hy⟩ := u8_nat wy
  cases hok : okB l with
  | false => exact prefix_wno w k A c l h B e m x y hok
  | true =>
    cases hok2 : okB m with
    | false => exact prefix_wno2 w k A c l h B e m hm x y hok hok2
    | true => exact prefix_wyes w k hk A c l h B e m hm x y hx hy hok hok2
end Go.Proofs.Ytahkahmkoibmhaa
