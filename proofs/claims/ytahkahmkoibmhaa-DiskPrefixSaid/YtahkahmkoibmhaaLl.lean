/- The walk of prefix. -/
import Derived.Test.YtahkahmkoibmhaaLk
import Derived.Test.YtahkahmkoibmhaaRa
import Derived.Test.YtahkahmkoibmhaaLj
namespace Go.Proofs.Ytahkahmkoibmhaa
open Go.RowKit

/-- Behind the first k of the operations m: of them dn have been written. -/
structure PrI (E : Dk) (m : List Ac) (k dn : Nat) (D : Dk) : Prop where
  eq : D = E.pend (goods E.n (m.take k))
  len : dn = (goods E.n (m.take k)).length
theorem PrI.zero {E : Dk} (hq : E.q = []) (m : List Ac) : PrI E m 0 0 E := ⟨by
  obtain ⟨n, st, el, q, off, arm⟩ := E
  simp only at hq
  subst hq
  rfl, rfl⟩
theorem PrI.good {E D : Dk} {m : List Ac} {k dn : Nat} {y : Ac} (h : PrI E m k dn D) (ho : E.off = false) (ha : E.arm = none) (hy : m[k]? = some y) (hf : fits E.n y = true) :
    ∃ D', D.write y.sector y.txt = (D', 0) ∧ PrI E m (k + 1) (dn + 1) D' := by
  refine ⟨E.pend (goods E.n (m.take (k + 1))), ?_, rfl, ?_⟩
  · rw [h.eq, Dk.pend_write ho ha, if_pos hf, goods_take hy, if_pos hf]
  · rw [goods_take hy, if_pos hf, h.len]; simp
theorem PrI.bad {E D : Dk} {m : List Ac} {k dn : Nat} {y : Ac} (h : PrI E m k dn D) (ho : E.off = false) (ha : E.arm = none) (hy : m[k]? = some y) (hf : fits E.n y = false) :
    D.write y.sector y.txt = (D, 1) ∧ PrI E m (k + 1) dn D := by
  have hf' : ¬ fits E.n y = true := by rw [hf]; exact Bool.false_ne_true
  refine ⟨?_, ?_, ?_⟩
  · rw [h.eq, Dk.pend_write ho ha, if_neg hf']
  · rw [goods_take hy, if_neg hf', List.append_nil]; exact h.eq
  · rw [goods_take hy, if_neg hf', List.append_nil]; exact h.len
theorem PrI.q {E D : Dk} {m : List Ac} {k dn : Nat} (h : PrI E m k dn D) : D.q.length ≤ m.length := by
  have h1 : D.q = qOf (goods E.n (m.take k)) := by rw [h.eq]; rfl
  have h2 := goods_len E.n (m.take k)
  rw [h1]
  simp [qOf] at h2 ⊢
  omega
theorem PrI.dn_le {E D : Dk} {m : List Ac} {k dn : Nat} (h : PrI E m k dn D) : dn ≤ m.length := by
  have h2 := goods_len E.n (m.take k)
  have h3 := h.len
  simp at h2
  omega
theorem PrI.stop {E D : Dk} {m : List Ac} {k dn x : Nat} (h : PrI E m k dn D) (hx : dn ≤ x) (hk : k = m.length ∨ dn = x) : D = E.pend ((goods E.n m).take x) := by
  rw [h.eq]
  congr 1
  rcases hk with hk | hk
  · have h3 := h.len
    rw [hk, List.take_length] at h3 ⊢
    rw [List.take_of_length_le (by omega)]
  · obtain ⟨r, hr⟩ := goods_pre E.n m k
    rw [hr, ← hk, h.len, List.take_left']
    rfl
theorem PrI.off {E D : Dk} {m : List Ac} {k dn : Nat} (h : PrI E m k dn D) : D.off = E.off := by rw [h.eq]; rfl
theorem PrI.n {E D : Dk} {m : List Ac} {k dn : Nat} (h : PrI E m k dn D) : D.n = E.n := by rw [h.eq]; rfl

theorem ActsAt.wide {w : World} {B B' : Nat} {A : Option Addr} {l : List Ac} (h : ActsAt w B A l) (hB : B ≤ B') : ActsAt w B' A l := fun i a hi => by
  obtain ⟨g, off, hA, hg, hc⟩ := h i a hi
  exact ⟨g, off, hA, Nat.lt_of_lt_of_le hg hB, hc⟩
theorem Acts.wide {w : World} {B B' : Nat} {A : Option Addr} {l : List Ac} (h : Acts w B A l) (hB : B ≤ B') : Acts w B' A l := ⟨h.at_.wide hB, h.len, h.wf⟩

/-- The disk behind the operations, a start and a sync. -/
def dE (n : Nat) (l : List Ac) : Dk := ((Dk.new n).acts l).start.sync.1
theorem dE_is (n : Nat) (l : List Ac) : (dE n l).n = n ∧ (dE n l).q = [] ∧ (dE n l).off = false ∧ (dE n l).arm = none ∧ ((Dk.new n).acts l).start.sync.2 = 0 := by
  unfold dE
  have hna : ((Dk.new n).acts l).n = n := Dk.acts_n l (Dk.new n)
  generalize (Dk.new n).acts l = D at *
  have hsy := Dk.sync_start D
  rw [hsy]
  exact ⟨((Dk.settle_same D.q D.start).1).trans hna, rfl, (Dk.settle_same D.q D.start).2.2.1, (Dk.settle_same D.q D.start).2.2.2, rfl⟩

def Rowed (w : World) (n : Nat) (L : List ByteArray) (e : Ending) (w' : World) : Prop :=
  ∃ A c, e = .returned (.tuple #[.slice A n c, .bool true]) ∧ Below w.heap.size w w' ∧ w'.ownsRow 0 9 1 (.slice A n c) n (L.map Value.string) ∧ (∀ b, A = some b → w.heap.size ≤ b.block)

set_option maxRecDepth 100000 in
set_option maxHeartbeats 4000000 in
theorem prefix_any (w : World) (n : Nat) (hn1 : 1 ≤ n) (hn2 : n ≤ 4000) (A : Option Addr) (c : Nat) (l : List Ac) (h : Acts w w.heap.size A l) (B : Option Addr) (e : Nat) (m : List Ac) (hm : Acts w w.heap.size B m) (x : Nat) (hx : x ≤ 60) (hok : okB l = true) (hok2 : okB m = true) :
    Calls Try.prog 25 #[.int .i64 (n : Int), .slice A l.length c, .slice B m.length e, .int .i64 (x : Int)] w (Rowed w n ((dE n l).pend ((goods n m).take x)).views) := by
  have hl := h.len
  have hlm := hm.len
  have hts := (okB_spec hok).1
  have hl60 := (okB_spec hok).2
  have htm := (okB_spec hok2).1
  have hm60 := (okB_spec hok2).2
  clear hok hok2
  go_enter Try.func25, Try.ntmps25
  go_wp2_with fail
  refine (new_yes _ n hn1 hn2).mono ?_
  rintro e wq ⟨a, rfl, hb4, -, hd⟩
  have Lq : Live w wq a (Dk.new n) (fun _ => False) := Live.of_new (Below.refl _ _) hb4 hd
  clear hb4 hd
  go_wp2_with fail
  go_loopw [11] (fun v wr => ∃ k : Nat, k ≤ l.length ∧ v = .int .i64 (k : Int) ∧ Live w wr a ((Dk.new n).acts (l.take k)) (fun _ => False)) (fun v _ => l.length - (intOf v).toNat)
  case atStart => exact ⟨0, Nat.zero_le _, rfl, Lq⟩
  case round =>
    obtain ⟨k, hk, rfl, hT⟩ := hrel
    by_cases hlt : k < l.length
    · obtain ⟨y, hy⟩ : ∃ a, l[k]? = some a := ⟨_, List.getElem?_eq_getElem hlt⟩
      have hstep := Dk.acts_take (Dk.new n) l k y hy
      have hqa := Dk.acts_q (l.take k) (Dk.new n)
      have hqb : ((Dk.new n).acts (l.take k)).q.length < 4096 := by
        have h1 : (Dk.new n).q.length = 0 := rfl
        have h2 : (l.take k).length ≤ l.length := by simp; omega
        omega
      have hxt' := hts y (List.mem_of_getElem? hy)
      have hxa' := h.wf y (List.mem_of_getElem? hy)
      have HX := Lib.hid hy
      have HST := Lib.hid hstep
      generalize (Dk.new n).acts (l.take k) = D at *
      clear hy hstep hqa
      have hA := ((h.below hT.below).at_).at_ HX.out
      obtain ⟨g, off, hA, hg, c0, c1, c2, c3, c4, c5⟩ := hA
      subst hA
      go_wp2_with fail
      refine (hT.lift fun F hF => do_any hF hqb y hxt' hxa').mono ?_
      rintro e w4 ⟨rfl, T4, K4⟩
      clear c0 c1 c2 c3 c4 c5
      go_wp2
      go_roundw
      case rel => exact ⟨k + 1, by omega, by go_num, by rw [HST.out]; exact T4⟩
      case measure => simp [intOf]; omega
    · obtain rfl : k = l.length := by omega
      rw [List.take_length] at hT
      obtain ⟨e1, e2, e3, e4, e5⟩ := dE_is n l
      have HD := Lib.hid (show ((Dk.new n).acts l).start.sync.1 = dE n l from rfl)
      have H5 := Lib.hid e5
      generalize dE n l = E at *
      have HN5 := Lib.hid e1
      have HQ5 := Lib.hid e2
      have HO5 := Lib.hid e3
      have HA5 := Lib.hid e4
      clear e1 e2 e3 e4 e5 Lq
      go_wp2_with fail
      refine (hT.lift fun F hF => startany hF).mono ?_
      rintro e w5 ⟨rfl, L5, K5⟩
      go_wp2_with fail
      refine (L5.lift fun F hF => sync_any hF).mono ?_
      rintro e w6 ⟨rfl, L6, K6⟩
      rw [H5.out, HD.out] at *
      clear K5 K6 hT L5
      go_wp2_with fail
      go_loopw [12, 13] (fun vd v wr => ∃ (k dn : Nat) (D : Dk), k ≤ m.length ∧ v = .int .i64 (k : Int) ∧ vd = .int .i64 (dn : Int) ∧ dn ≤ x ∧ Live w wr a D (fun _ => False) ∧ PrI E m k dn D) (fun _ v _ => m.length - (intOf v).toNat)
      case atStart => exact ⟨0, 0, E, Nat.zero_le _, rfl, rfl, Nat.zero_le _, L6, PrI.zero HQ5.out m⟩
      case round =>
        clear L6
        obtain ⟨k, dn, D2, hk2, rfl, rfl, hdx, hT, hI⟩ := hrel
        have hql := hI.q
        have hdn := hI.dn_le
        by_cases hlt2 : k < m.length
        · by_cases hdx2 : dn < x
          · obtain ⟨y, hy⟩ : ∃ a, m[k]? = some a := ⟨_, List.getElem?_eq_getElem hlt2⟩
            have hyt := htm y (List.mem_of_getElem? hy)
            have HX := Lib.hid hy
            have hAt := (hm.below hT.below).at_
            obtain ⟨g, off, hB, hg, c0, c1', c2, c3, c4, c5⟩ := hAt.at_ HX.out
            subst hB
            have hq2 : D2.q.length < 4096 := by omega
            clear hy
            go_wp2_with fail
            clear c0 c1' c2 c3 c4 c5
            refine wp_region_hold (fun W => ActsAt W w.heap.size (some ⟨g, off, none⟩) m) [0, 1, 2, 3, 4, 5, 6, 7, 8, 9] [10] [11, 12] (by kernel_rfl) (by kernel_rfl) (fun _ d _ _ _ h => by cases d <;> exact h) hAt ?_
            simp only [pick, List.drop_succ_cons, List.drop_zero, List.head?_cons, Option.toList_some, List.cons_append, List.nil_append, List.append_nil]
            repeat (refine wpHeld_step ?_ rfl ?_ ?_; rotate_left; · (intro W hW; obtain ⟨y0, y1, y2, y3, y4, y5⟩ := ActsAt.six hW HX.out; go_simp; with_reducible rfl))
            refine wpHeld_nil ?_
            simp only [wpEarly]
            go_wp2_with fail
            refine (text_any _ y hyt).mono ?_
            rintro e w9 ⟨rfl, hbt⟩
            go_wp2_with fail
            have hbt' : Below wr.heap.size wr w9 := below_drew hbt
            have hAt9 : ActsAt w9 w.heap.size (some ⟨g, off, none⟩) m := hAt.below (hbt'.mono hT.below.size)
            refine ⟨hAt9, ?_⟩
            have hT9 := hT.same hbt'
            clear hbt hAt hT hAt9 hbt'
            by_cases hc : fits E.n y = true
            · obtain ⟨D3, hw3, hI3⟩ := hI.good HO5.out HA5.out HX.out hc
              have HR := Lib.hid hw3
              clear hw3 hc
              go_wp2_with fail
              refine (hT9.lift fun F hF => write_any hF hq2 y.sector y.txt).mono ?_
              rintro e w10 ⟨rfl, L10, K10⟩
              rw [HR.out] at L10
              rw [HR.out]
              clear hT9 K10
              go_wp2
              go_roundw
              case rel => exact ⟨k + 1, dn + 1, D3, by omega, by go_num, by go_num, by omega, L10, hI3⟩
              case measure => simp [intOf]; omega
            · obtain ⟨hw3, hI3⟩ := hI.bad HO5.out HA5.out HX.out (by simpa using hc)
              have HR := Lib.hid hw3
              clear hw3 hc
              go_wp2_with fail
              refine (hT9.lift fun F hF => write_any hF hq2 y.sector y.txt).mono ?_
              rintro e w10 ⟨rfl, L10, K10⟩
              rw [HR.out] at L10
              rw [HR.out]
              clear hT9 K10
              go_wp2
              go_roundw
              case rel => exact ⟨k + 1, dn, D2, by omega, by go_num, rfl, by omega, L10, hI3⟩
              case measure => simp [intOf]; omega
          · have hst := Lib.hid (hI.stop hdx (.inr (by omega)))
            have HO6 := Lib.hid (hI.off.trans HO5.out)
            have HN6 := Lib.hid (hI.n.trans HN5.out)
            clear hI
            go_wp2_with fail
            refine (hT.look fun F hF => contents_o _ _ _ F hF HO6.out n HN6.out).mono ?_
            rintro e w7 ⟨A1, c1, rfl, hb7, hS1, hA1⟩
            have L7 := hT.same hb7
            have hsz := hT.below.size
            go_wp2
            go_ret2
            exact ⟨A1, c1, rfl, L7.below, by rw [HN5.out] at hst; rw [← hst.out]; exact hS1, fun b hb => Nat.le_trans hsz (hA1 b hb)⟩
        · obtain rfl : k = m.length := by omega
          have hst := Lib.hid (hI.stop hdx (.inl rfl))
          have HO6 := Lib.hid (hI.off.trans HO5.out)
          have HN6 := Lib.hid (hI.n.trans HN5.out)
          clear hI
          go_wp2_with fail
          refine (hT.look fun F hF => contents_o _ _ _ F hF HO6.out n HN6.out).mono ?_
          rintro e w7 ⟨A1, c1, rfl, hb7, hS1, hA1⟩
          have L7 := hT.same hb7
          have hsz := hT.below.size
          go_wp2
          go_ret2
          exact ⟨A1, c1, rfl, L7.below, by rw [HN5.out] at hst; rw [← hst.out]; exact hS1, fun b hb => Nat.le_trans hsz (hA1 b hb)⟩
end Go.Proofs.Ytahkahmkoibmhaa
