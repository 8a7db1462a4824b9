/- The walk of DiskAll. -/
import Derived.Test.YtahkahmkoibmhaaLe
namespace Go.Proofs.Ytahkahmkoibmhaa
open Go.RowKit

structure Acts (w : World) (B : Nat) (A : Option Addr) (l : List Ac) : Prop where
  at_ : ActsAt w B A l
  len : l.length ≤ 9223372036854775807
  wf : ∀ a ∈ l, a.after ≤ 9223372036854775807
theorem Acts.below {w w' : World} {B : Nat} {A : Option Addr} {l : List Ac} (h : Acts w B A l) (hb : Below B w w') : Acts w' B A l := ⟨h.at_.below hb, h.len, h.wf⟩

theorem okB_spec {l : List Ac} (h : okB l = true) : (∀ a ∈ l, a.text.size ≤ 100) ∧ l.length ≤ 60 := by
  unfold okB at h
  rw [Bool.and_eq_true, List.all_eq_true] at h
  exact ⟨fun a ha => by simpa using h.1 a ha, by simpa using h.2⟩

theorem contents_n (w : World) (a : Nat) (d : Dk) (F : Foot) (h : DiskAt w a d F) (ho : d.off = false) (n : Nat) (hn : d.n = n) :
    Calls Try.prog 21 #[.pointer (some ⟨a, 0, none⟩), .int .i64 (n : Int)] w fun e w' =>
      ∃ A c, e = .returned (.tuple #[.slice A n c, .bool true]) ∧ Below w.heap.size w w' ∧ StrsAt w' A d.views ∧ (∀ b, A = some b → w.heap.size ≤ b.block) := by
  subst hn
  refine (contents_any w a d F h ho).mono ?_
  rintro e w' ⟨A, c, h1, h2, h3, h4⟩
  exact ⟨A, c, h1, h2, StrsAt.of_own h3, h4⟩
theorem same_n (w : World) (A B : Option Addr) (l m : List ByteArray) (c e n : Nat) (hA : StrsAt w A l) (hB : StrsAt w B m) (hl : l.length = n) (hm : m.length = n) (hn : n ≤ 4611686018427387904) :
    Calls Try.prog 26 #[.slice A n c, .slice B n e] w fun e w' => e = .returned (.bool (sameB l m)) ∧ Below w.heap.size w w' := by
  have := same_any w A B l m c e hA hB (by omega) (by omega)
  rw [hl, hm] at this
  exact this

/-! ### The plain law -/
theorem Dk.fail_all (d : Dk) (ho : d.off = false) (x y : Int) (hx : (d.q.length : Int) ≤ x) : d.fail x y = { d.settle d.q with q := [], off := true, arm := none } := by
  have hc : clamp x d.q.length = d.q.length := by unfold clamp; omega
  unfold Dk.fail
  rw [ho, hc, List.take_length, List.getElem?_eq_none (Nat.le_refl _)]
  rfl
theorem Dk.fail_off_ (d : Dk) (ho : d.off = true) (x y : Int) : d.fail x y = d := by unfold Dk.fail; rw [ho]; rfl
theorem Dk.sync_plain (d : Dk) (ho : d.off = false) (ha : d.arm = none) : d.sync = ({ d.settle d.q with q := [] }, 0) := by
  unfold Dk.sync Dk.count
  rw [ho, ha]
  rfl

theorem all_law (d : Dk) (hq : d.q.length ≤ 60) (y x : Int) :
    d.start.sync.2 = 0 ∧ sameB ((((d.start.fail 60 y).fail x y).start).start).views (((d.start.sync.1.fail 0 y).start)).views = true := by
  have h1 := Dk.fail_all d.start rfl 60 y (by show (d.q.length : Int) ≤ 60; omega)
  have h2 := Dk.sync_plain d.start rfl rfl
  rw [h1, h2, Dk.fail_off_ _ rfl]
  refine ⟨rfl, ?_⟩
  have h3 := Dk.fail_all { d.start.settle d.start.q with q := [] } (by rw [show ({ d.start.settle d.start.q with q := [] } : Dk).off = (d.start.settle d.start.q).off from rfl, (Dk.settle_same _ _).2.2.1]; rfl) 0 y (Int.le_refl 0)
  rw [h3, sameB_iff]
  rfl

set_option maxRecDepth 100000 in
set_option maxHeartbeats 1000000 in
theorem all_no (w : World) (r : Nat) (A : Option Addr) (c : Nat) (l : List Ac) (h : Acts w w.heap.size A l) (hok : okB l = false) (by_ more : Int) :
    Calls Try.prog 7 #[.int .u8 (r : Int), .slice A l.length c, .int .i64 by_, .int .i64 more] w fun e w' => e = .returned (.bool true) ∧ Below w.heap.size w w' := by
  have hl := h.len
  have HK := Lib.hid hok
  clear hok
  go_enter Try.func7, Try.ntmps7
  go_wp2_with fail
  refine (head_any _).mono ?_
  rintro e w1 ⟨rfl, hb⟩
  go_wp2_with fail
  refine (ok_any w1 w.heap.size A l c (h.below hb).at_ (by omega)).mono ?_
  rintro e w2 ⟨rfl, rfl⟩
  rw [HK.out]
  go_wp2
  go_ret
  exact ⟨rfl, hb⟩

set_option maxRecDepth 100000 in
set_option maxHeartbeats 2000000 in
theorem all_yes (w : World) (r : Nat) (hr : r < 256) (A : Option Addr) (c : Nat) (l : List Ac) (h : Acts w w.heap.size A l) (hok : okB l = true) (by_ more : Int) :
    Calls Try.prog 7 #[.int .u8 (r : Int), .slice A l.length c, .int .i64 by_, .int .i64 more] w fun e w' => e = .returned (.bool true) ∧ Below w.heap.size w w' := by
  have hl := h.len
  have hts := (okB_spec hok).1
  have hl60 := (okB_spec hok).2
  have HK := Lib.hid hok
  clear hok
  obtain ⟨n, hn⟩ : ∃ n, 1 + r % 12 = n := ⟨_, rfl⟩
  have hn1 : 1 ≤ n := by omega
  have hn2 : n ≤ 4000 := by omega
  have HN := Lib.hid hn
  clear hn
  go_enter Try.func7, Try.ntmps7
  go_wp2_with fail
  refine (head_any _).mono ?_
  rintro e w1 ⟨rfl, hb⟩
  go_wp2_with fail
  refine (ok_any w1 w.heap.size A l c (h.below hb).at_ (by omega)).mono ?_
  rintro e w2 ⟨rfl, rfl⟩
  rw [HK.out]
  go_wp2_with fail
  refine (size_any _ r hr).mono ?_
  rintro e w2 ⟨rfl, rfl⟩
  rw [HN.out]
  go_wp2_with fail
  refine (new_yes _ n hn1 hn2).mono ?_
  rintro e w2 ⟨a, rfl, hb2, -, hd2⟩
  have L2 : Live w w2 a (Dk.new n) (fun _ => False) := Live.of_new hb hb2 hd2
  clear hd2 hb2
  go_wp2_with fail
  refine (new_yes _ n hn1 hn2).mono ?_
  rintro e w3 ⟨b, rfl, hb3, -, hd3⟩
  have T3 : Two w w3 a (Dk.new n) b (Dk.new n) := Two.of_new L2 hb3 hd3
  clear hd3 hb3 L2 hb
  go_wp2_with fail
  go_loopw [13] (fun v wr => ∃ k : Nat, k ≤ l.length ∧ v = .int .i64 (k : Int) ∧ Two w wr a ((Dk.new n).acts (l.take k)) b ((Dk.new n).acts (l.take k))) (fun v _ => l.length - (intOf v).toNat)
  case atStart => exact ⟨0, Nat.zero_le _, rfl, T3⟩
  case round =>
    obtain ⟨k, hk, rfl, hT⟩ := hrel
    by_cases hlt : k < l.length
    · obtain ⟨x, hx⟩ : ∃ a, l[k]? = some a := ⟨_, List.getElem?_eq_getElem hlt⟩
      have hstep := Dk.acts_take (Dk.new n) l k x hx
      have hqa := Dk.acts_q (l.take k) (Dk.new n)
      have hqb : ((Dk.new n).acts (l.take k)).q.length < 4096 := by
        have h1 : (Dk.new n).q.length = 0 := rfl
        have h2 : (l.take k).length ≤ l.length := by simp; omega
        omega
      have hxt := hts x (List.mem_of_getElem? hx)
      have hxa := h.wf x (List.mem_of_getElem? hx)
      have HX := Lib.hid hx
      have HST := Lib.hid hstep
      generalize (Dk.new n).acts (l.take k) = D at *
      clear hx hstep hqa
      have hA := ((h.below hT.below).at_).at_ HX.out
      obtain ⟨g, off, hA, hg, c0, c1, c2, c3, c4, c5⟩ := hA
      subst hA
      go_wp2_with fail
      refine (hT.left fun F hF => do_any hF hqb x hxt hxa).mono ?_
      rintro e w4 ⟨rfl, T4⟩
      have hA := ((h.below T4.below).at_).at_ HX.out
      obtain ⟨g', off', hA, hg', c0', c1', c2', c3', c4', c5'⟩ := hA
      injection hA with hA
      injection hA with e1 e2 _
      subst e1 e2
      clear c0 c1 c2 c3 c4 c5
      go_wp2_with fail
      refine (T4.right fun F hF => do_any hF hqb x hxt hxa).mono ?_
      rintro e w5 ⟨rfl, T5⟩
      clear c0' c1' c2' c3' c4' c5'
      go_wp2
      go_roundw
      case rel => exact ⟨k + 1, by omega, by go_num, by rw [HST.out]; exact T5⟩
      case measure => simp [intOf]; omega
    · obtain rfl : k = l.length := by omega
      rw [List.take_length] at hT
      have hqa := Dk.acts_q l (Dk.new n)
      have hna := Dk.acts_n l (Dk.new n)
      have hqb : ((Dk.new n).acts l).q.length ≤ 60 := by
        have h1 : (Dk.new n).q.length = 0 := rfl
        omega
      have hnn : ((Dk.new n).acts l).n = n := hna.trans rfl
      generalize (Dk.new n).acts l = D at *
      have HNN := Lib.hid hnn
      have HLAW := Lib.hid (all_law D hqb by_ more)
      clear hqa hna hnn
      go_wp2_with fail
      refine (hT.left fun F hF => startany hF).mono ?_
      rintro e w4 ⟨rfl, T4⟩
      go_wp2_with fail
      refine (T4.right fun F hF => startany hF).mono ?_
      rintro e w5 ⟨rfl, T5⟩
      go_wp2_with fail
      refine (T5.left fun F hF => fail_any hF 60 by_).mono ?_
      rintro e w6 ⟨rfl, T6⟩
      go_wp2_with fail
      refine (T6.left fun F hF => fail_any hF more by_).mono ?_
      rintro e w7 ⟨rfl, T7⟩
      go_wp2_with fail
      refine (T7.right fun F hF => sync_any hF).mono ?_
      rintro e w8 ⟨rfl, T8⟩
      rw [HLAW.out.1]
      clear hT T4 T5 T6 T7
      go_wp2_with fail
      refine (T8.right fun F hF => fail_any hF 0 by_).mono ?_
      rintro e w9 ⟨rfl, T9⟩
      go_wp2_with fail
      refine (T9.left fun F hF => startany hF).mono ?_
      rintro e w10 ⟨rfl, T10⟩
      go_wp2_with fail
      refine (T10.right fun F hF => startany hF).mono ?_
      rintro e w11 ⟨rfl, T11⟩
      go_wp2_with fail
      refine (T11.left fun F hF => startany hF).mono ?_
      rintro e w12 ⟨rfl, T12⟩
      clear T8 T9 T10 T11
      have n1 : ((((D.start.fail 60 by_).fail more by_).start).start).n = n := by
        show ((D.start.fail 60 by_).fail more by_).n = n
        rw [Dk.fail_n, Dk.fail_n]
        exact HNN.out
      have n2 : (((D.start.sync.1.fail 0 by_).start)).n = n := by
        show (D.start.sync.1.fail 0 by_).n = n
        rw [Dk.fail_n, Dk.sync_n]
        exact HNN.out
      have v1 := (Dk.views_len ((((D.start.fail 60 by_).fail more by_).start).start)).trans n1
      have v2 := (Dk.views_len (((D.start.sync.1.fail 0 by_).start))).trans n2
      have hsame := HLAW.out.2
      have o1 : ((((D.start.fail 60 by_).fail more by_).start).start).off = false := rfl
      have o2 : (((D.start.sync.1.fail 0 by_).start)).off = false := rfl
      generalize ((((D.start.fail 60 by_).fail more by_).start).start) = X at *
      generalize (((D.start.sync.1.fail 0 by_).start)) = Y at *
      have N1 := Lib.hid n1
      have N2 := Lib.hid n2
      have V1 := Lib.hid v1
      have V2 := Lib.hid v2
      have O1 := Lib.hid o1
      have O2 := Lib.hid o2
      have HSM := Lib.hid hsame
      clear n1 n2 v1 v2 o1 o2 hsame
      go_wp2_with fail
      refine (T12.lookl fun F hF => contents_n _ _ _ F hF O1.out n N1.out).mono ?_
      rintro e w13 ⟨A1, c1, rfl, hb13, hS1, -⟩
      have T13 := T12.same hb13
      go_wp2_with fail
      refine (T13.lookr fun F hF => contents_n _ _ _ F hF O2.out n N2.out).mono ?_
      rintro e w14 ⟨A2, c2, rfl, hb14, hS2, -⟩
      have T14 := T13.same hb14
      have hS1' := hS1.below hb14
      clear hS1 hb13 hb14 T12 T13
      go_wp2_with fail
      refine (same_n _ _ _ _ _ _ _ n hS1' hS2 V1.out V2.out (by omega)).mono ?_
      rintro e w15 ⟨rfl, hb15⟩
      rw [HSM.out]
      go_wp2
      go_ret
      exact ⟨rfl, (T14.same hb15).below⟩
end Go.Proofs.Ytahkahmkoibmhaa
