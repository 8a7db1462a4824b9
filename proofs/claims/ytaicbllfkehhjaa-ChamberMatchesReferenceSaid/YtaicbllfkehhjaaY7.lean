/- Part 7 of what the laws of this seat stand on: Hg, Hi, Hk, Hj, Hl, Pz. -/
import Derived.Test.YtaicbllfkehhjaaY6
import Derived.OrdersIn
import Derived.TacticsIn
import Derived.RangeFuncNested
import Derived.RangeFuncBound
import Derived.RangeFuncCalls
import Derived.RangeFuncLeaves
import Derived.Shelf.Abstract
import Derived.Shelf.RegionOpen
import Derived.RangeFuncWrites
import Derived.WalkKit
import Derived.OwnWalkIn
import Derived.TacticsInMore
import Derived.LoopNIn
import Derived.LoopIn
import Derived.Sort.QuietIn
import Derived.Sort.CutIn

/- Again. -/
namespace Go.Proofs.Ytaicbllfkehhjaa
open Go.RowKit

/-! ### keys of the lines -/
set_option maxRecDepth 100000 in
theorem eq_ky (a b c d : Int) (W : World) : (Op.equalIn 10000 76 (.agg #[.int .i64 a, .int .i64 b]) (.agg #[.int .i64 c, .int .i64 d])).run Try.prog W = .ok (decide (a = c ∧ b = d)) W := by
  have hi : ∀ (W : World) (x z : Int), (Op.equalIn 9999 3 (.int .i64 x) (.int .i64 z)).run Try.prog W = .ok (decide (x = z)) W := fun W x z => by
    rw [show (9999 : Nat) = 9998 + 1 from rfl]
    unfold Op.equalIn
    simp [run_underlying Try.underlying3]
    try rfl
  rw [show (10000 : Nat) = 9999 + 1 from rfl]
  unfold Op.equalIn
  simp [run_underlying Try.underlying76, go_sem, List.range', hi, run_underlying Try.underlying3, isAgg]
  by_cases h1 : a = c <;> by_cases h2 : b = d <;> simp [h1, h2]
set_option maxRecDepth 100000 in
theorem check2 (w : World) (em : Bool) (a b : Int) : (Instr.checkKey em 10000 76 (.agg #[.int .i64 a, .int .i64 b])).run Try.prog w = .ok () w := by
  have hi : ∀ (W : World) (x : Int), (Instr.checkKey em 9999 3 (.int .i64 x)).run Try.prog W = .ok () W := fun W x => by
    rw [show (9999 : Nat) = 9998 + 1 from rfl]
    unfold Instr.checkKey
    simp [run_underlying Try.underlying3]
  rw [show (10000 : Nat) = 9999 + 1 from rfl]
  unfold Instr.checkKey
  simp [run_underlying Try.underlying76, go_sem, List.range', hi, run_underlying Try.underlying3, isAgg]
theorem ask2 (w : World) (a b : Int) : ∀ (es : List MapEntry) (i : Nat), (∀ e ∈ es, KyV e.key) →
    ((Instr.findAsking 76 (.agg #[.int .i64 a, .int .i64 b]) es i).run Try.prog w = .ok none w ∧ ∀ e ∈ es, e.key ≠ .agg #[.int .i64 a, .int .i64 b]) ∨ ∃ (j : Nat) (e : MapEntry), (Instr.findAsking 76 (.agg #[.int .i64 a, .int .i64 b]) es i).run Try.prog w = .ok (some (i + j, e.val)) w ∧ es[j]? = some e ∧ e.key = .agg #[.int .i64 a, .int .i64 b]
  | [], i, _ => .inl ⟨rfl, by simp⟩
  | x :: es, i, h => by
    obtain ⟨c, d, ht⟩ := h x List.mem_cons_self
    have heq := eq_ky a b c d w
    unfold Instr.findAsking
    rw [Sem.run_bind]
    have h1 : (Op.equal 76 (.agg #[.int .i64 a, .int .i64 b]) x.key).run Try.prog w = .ok (decide (a = c ∧ b = d)) w := by rw [ht]; exact heq
    rw [h1]
    by_cases hst : a = c ∧ b = d
    · right
      refine ⟨0, x, ?_, rfl, by rw [ht, hst.1, hst.2]⟩
      simp [hst]
    · have hne : x.key ≠ .agg #[.int .i64 a, .int .i64 b] := fun e => hst (by
        rw [ht] at e
        simp at e
        exact ⟨e.1.symm, e.2.symm⟩)
      simp only [hst, decide_false, Result.andThen_ok, Bool.false_eq_true, if_false]
      rcases ask2 w a b es (i + 1) (fun e he => h e (List.mem_cons_of_mem _ he)) with ⟨h2, h3⟩ | ⟨j, e, h2, h3, h4⟩
      · refine .inl ⟨h2, fun e he => ?_⟩
        rcases List.mem_cons.1 he with rfl | he
        · exact hne
        · exact h3 e he
      · exact .inr ⟨j + 1, e, by rw [h2, show i + 1 + j = i + (j + 1) by omega], by simpa using h3, h4⟩
theorem kys2 : Kys Try.prog 76 KyV where
  check w em v hv := by obtain ⟨a, b, rfl⟩ := hv; exact check2 w em a b
  find w x hx es hes := by
    obtain ⟨a, b, rfl⟩ := hx
    have hu := run_underlying Try.underlying76 w
    cases es with
    | nil =>
      refine .inl ⟨?_, by simp⟩
      simp [Instr.findKey, hu, Instr.findNow]
    | cons e es =>
      have h1 : (Instr.findKey 76 (.agg #[.int .i64 a, .int .i64 b]) (e :: es)).run Try.prog w = (Instr.findAsking 76 (.agg #[.int .i64 a, .int .i64 b]) (e :: es) 0).run Try.prog w := by
        simp [Instr.findKey, hu, Instr.findNow, Instr.sameNow]
      rcases ask2 w a b (e :: es) 0 hes with ⟨h2, h3⟩ | ⟨j, e', h2, h3, h4⟩
      · exact .inl ⟨h1.trans h2, h3⟩
      · exact .inr ⟨j, e', by rw [h1, h2, Nat.zero_add], h3, h4⟩
  stays w v hv := by
    obtain ⟨a, b, rfl⟩ := hv
    have : Instr.sameBits 10000 (.agg #[.int .i64 a, .int .i64 b]) (.agg #[.int .i64 a, .int .i64 b]) = true := by
      rw [show (10000 : Nat) = 9999 + 1 from rfl]
      simp [Instr.sameBits]
    simp [Instr.keyThatStays, this]
theorem ChAt.look {w : World} {y : Lay} {V : Nat → Nat → Value} {n : Nat} {C : Ch} (h : ChAt w y V n C) {i k : Nat} (hi : i < n) (hk : k < n) (hne : i ≠ k) :
    (Instr.lookup 65 (.map (some y.mb)) (.agg #[.int .i64 (i : Int), .int .i64 (k : Int)]) false).run Try.prog w = .ok (.pointer (some ⟨y.Q i k, 0, none⟩)) w :=
  h.map.look_some kys2 Try.underlying65 h.key (h.mem i k hi hk hne) false

/-! ### Again -/
/-- What an operation may turn: the chamber's blocks; its new ones are new. -/
def Turn (w w' : World) (y : Lay) (V V' : Nat → Nat → Value) (n : Nat) : Prop := Only (Fo y V n) w w' ∧ ∀ g, Fo y V' n g → Fo y V n g ∨ w.heap.size ≤ g
theorem Turn.refl (w : World) (y : Lay) (V : Nat → Nat → Value) (n : Nat) : Turn w w y V V n := ⟨Only.refl _ _, fun _ h => .inl h⟩
theorem Turn.trans {w w' w'' : World} {y : Lay} {V V' V'' : Nat → Nat → Value} {n : Nat} (h : Turn w w' y V V' n) (k : Turn w' w'' y V' V'' n) : Turn w w'' y V V'' n :=
  ⟨h.1.trans k.1 h.2, fun g hg => (k.2 g hg).elim (h.2 g) fun h' => .inr (Nat.le_trans h.1.size h')⟩
theorem Turn.of_below {w w' : World} {y : Lay} {V : Nat → Nat → Value} {n : Nat} (h : Below w.heap.size w w') : Turn w w' y V V n := ⟨Only.of_below h _, fun _ h => .inl h⟩
theorem Turn.page {w w' : World} {y : Lay} {V : Nat → Nat → Value} {n i : Nat} (hi : i < n) (o : Only (fun g => g = y.M i) w w') : Turn w w' y V V n :=
  ⟨o.mono fun _ e => .inr (.inl ⟨i, hi, e⟩), fun _ h => .inl h⟩
theorem Turn.line {w w' : World} {y : Lay} {V V' : Nat → Nat → Value} {n i k : Nat} (hi : i < n) (hk : k < n) (hne : i ≠ k) (o : Only (fun g => g = y.Q i k ∨ (V i k).ownBlock = some g) w w') (h : ∀ g, Fo y V' n g → Fo y V n g ∨ w.heap.size ≤ g) : Turn w w' y V V' n :=
  ⟨o.mono fun _ e => .inr (.inr ⟨i, k, hi, hk, hne, e⟩), h⟩

/-- A message put on a line. -/
theorem ChAt.put {w : World} {y : Lay} {V : Nat → Nat → Value} {n : Nat} {C : Ch} (h : ChAt w y V n C) {i k : Nat} (hi : i < n) (hk : k < n) (hne : i ≠ k) {B : Nat} {x : Value} {m : List Cl} (hx : OwnCls w B x m) (hS : ∀ g, x.ownBlock = some g → ¬ y.S g) (hl : (C.lines i k).length ≤ 1000000) :
    Calls Try.prog 44 #[.pointer (some ⟨y.Q i k, 0, none⟩), x] w fun e w' => (∃ r, e = .returned r) ∧ ∃ V', ChAt w' y V' n (C.setL i k (C.lines i k ++ [m])) ∧ Turn w w' y V V' n := by
  obtain ⟨hq, vs, hr, hlen, hvs, hsv⟩ := h.ques i k hi hk hne
  obtain ⟨A, cap, hxs, _⟩ := hx.form
  refine (qput_any w (y.Q i k) (V i k) x vs hq hr (by omega) ⟨_, _, _, hxs⟩).mono ?_
  rintro e w' ⟨he, v', k1, k2, k3, k4⟩
  have hW : ∀ g, (g = y.Q i k ∨ (V i k).ownBlock = some g) → Wr w g := fun g e => h.wr g (.inr (.inr ⟨i, k, hi, hk, hne, e⟩))
  have hx0 : OwnCls w 0 x m := ⟨hx.1, hx.2.imp id fun ⟨g, cap, cur, a, b, c⟩ => ⟨g, cap, cur, a, Nat.zero_le _, c⟩⟩
  obtain ⟨r1, r2⟩ := h.line hi hk hne (v' := v') (ms := C.lines i k ++ [m]) k3 ⟨k1, vs ++ [x], k2, by simp [hlen], fun j u mm hu hm => by
    rcases Nat.lt_or_ge j vs.length with h1 | h1
    · rw [List.getElem?_append_left h1] at hu
      rw [List.getElem?_append_left (by omega)] at hm
      exact (hvs j u mm hu hm).only k3 hW
    · rw [List.getElem?_append_right h1] at hu
      rw [List.getElem?_append_right (by omega)] at hm
      have hj : j - vs.length = 0 := by
        rcases Nat.eq_zero_or_pos (j - vs.length) with h2 | h2
        · exact h2
        · rw [List.getElem?_eq_none (by simp; omega)] at hu; cases hu
      have hj' : j - (C.lines i k).length = 0 := by omega
      rw [hj] at hu
      rw [hj'] at hm
      simp at hu hm
      subst hu hm
      exact hx0.only k3 hW, fun u hu => by
    rcases List.mem_append.1 hu with hu | hu
    · exact hsv u hu
    · simp only [List.mem_singleton] at hu
      subst hu
      exact hS⟩ k4
  exact ⟨he, _, r1, Turn.line hi hk hne k3 r2⟩

def againI (n : Nat) (C : Ch) (a b : Int) : Ch × Int := if (0 ≤ a ∧ a < (n : Int)) ∧ 0 ≤ b ∧ b < (n : Int) then againS C a.toNat b.toNat else (C, 1)
theorem send_setL (C : Ch) (a b : Nat) (m : List Cl) : C.send a b m = C.setL a b (C.lines a b ++ [m]) := by
  unfold Ch.send Ch.setL
  congr 1
  funext i k
  split
  · rename_i e
    rw [e.1, e.2]
  · rfl

set_option maxRecDepth 100000 in
set_option maxHeartbeats 4000000 in
theorem again_any (w : World) (y : Lay) (V : Nat → Nat → Value) (n : Nat) (C : Ch) (h : ChAt w y V n C) (hg : Sane n C) (hl : ∀ i k, (C.lines i k).length ≤ 1000000) (a b : Int) :
    Calls Try.prog 27 #[.pointer (some ⟨y.p, 0, none⟩), .int .i64 a, .int .i64 b] w fun e w' => e = .returned (.int .i64 (againI n C a b).2) ∧ ∃ V', ChAt w' y V' n (againI n C a b).1 ∧ Turn w w' y V V' n := by
  have hA := is_any w y.p n y.cap _ _ h.blk a
  have hB := is_any w y.p n y.cap _ _ h.blk b
  have H := Lib.hid h
  by_cases ha : 0 ≤ a ∧ a < (n : Int)
  · rw [decide_eq_true ha] at hA
    have HA := Lib.hid hA
    clear hA
    by_cases hb : 0 ≤ b ∧ b < (n : Int)
    · rw [decide_eq_true hb] at hB
      have HB := Lib.hid hB
      clear hB
      have hE : againI n C a b = againS C a.toNat b.toNat := if_pos ⟨ha, hb⟩
      rw [hE]
      obtain ⟨i, rfl⟩ := Int.eq_ofNat_of_zero_le ha.1
      obtain ⟨k, rfl⟩ := Int.eq_ofNat_of_zero_le hb.1
      rw [Int.toNat_natCast, Int.toNat_natCast]
      have hi : i < n := by omega
      have hk : k < n := by omega
      by_cases hik : i = k
      · subst hik
        have e : againS C i i = (C, 1) := if_pos rfl
        rw [e]
        clear hE e hg hl ha hb h hi hk
        go_enter Try.func27, Try.ntmps27
        go_wp2_with (go_at_call 39; first | (refine HA.out.mono ?_; clear HA; rintro e w1 ⟨rfl, rfl⟩) | (refine HB.out.mono ?_; rintro e w1 ⟨rfl, rfl⟩))
        go_wp2_with fail
        go_ret
        exact ⟨rfl, V, H.out, Turn.refl _ _ _ _⟩
      · have hne : ((i : Int) == (k : Int)) = false := by
          have : ¬ (i : Int) = (k : Int) := by omega
          simpa using this
        have hr : againS C i k = (C.setL i k (C.lines i k ++ [walkS (C.pg i)]), 0) := by
          unfold againS
          rw [if_neg hik, send_setL]
        rw [hr]
        obtain ⟨R, hR⟩ : ∃ R, C.setL i k (C.lines i k ++ [walkS (C.pg i)]) = R := ⟨_, rfl⟩
        rw [hR]
        dsimp only
        have HR := Lib.hid hR
        have HL := Lib.hid hl
        have HI := Lib.hid hi
        have HK := Lib.hid hk
        have HIK := Lib.hid hik
        have HG := Lib.hid hg
        have hi0 : (0 : Int) ≤ (i : Int) := ha.1
        have hi1 : (i : Int) < (n : Int) := ha.2
        have hcap := h.cap
        have hmax := h.max
        clear hE hr hg hl ha hb h hi hk hik hR
        go_enter Try.func27, Try.ntmps27
        go_wp2_with (go_at_call 39; first | (refine HA.out.mono ?_; clear HA; rintro e w1 ⟨rfl, rfl⟩) | (refine HB.out.mono ?_; rintro e w1 ⟨rfl, rfl⟩))
        refine wp_region_hold (fun W => ChAt W y V n C) [0, 1, 2, 3, 4, 5, 6, 7, 8, 9, 10, 11, 12, 13, 14, 15] [16] [17] (by kernel_rfl) (by kernel_rfl) (fun _ d _ _ _ h => by cases d <;> exact h) (H.out.drewN 1) ?_
        simp only [pick, List.drop_succ_cons, List.drop_zero, List.head?_cons, Option.toList_some, List.cons_append, List.nil_append, List.append_nil]
        repeat (refine wpHeld_step ?_ rfl ?_ ?_; rotate_left; · (intro W hW; obtain ⟨c0, c1⟩ := hW.cells; obtain ⟨s0, s1⟩ := hW.seat HI.out; have lk := hW.look HI.out HK.out HIK.out; go_simp; with_reducible rfl))
        refine wpHeld_nil ?_
        simp only [wpEarly]
        go_wp2_with fail
        refine ((H.out.drewN 1).pg_list HG.out HI.out).mono ?_
        rintro e w2 ⟨v, rfl, hv, hb⟩
        have H2 := Lib.hid ((H.out.drewN 1).below hb)
        have HV := Lib.hid hv
        have HB2 := Lib.hid hb
        clear hv hb
        go_wp2_with fail
        refine ⟨H2.out, ?_⟩
        go_wp2_with fail
        refine (H2.out.put HI.out HK.out HIK.out HV.out (fun g hg hs => Nat.lt_irrefl _ (Nat.lt_of_lt_of_le (H.out.slow g hs) (HV.out.lt g hg).1)) (HL.out i k)).mono ?_
        rintro e w3 ⟨⟨r, rfl⟩, V', h3, t3⟩
        rw [HR.out] at h3
        have H3 := Lib.hid h3
        have HT := Lib.hid t3
        clear h3 t3
        go_wp2_with fail
        go_ret
        exact ⟨rfl, V', H3.out, Turn.trans (Turn.of_below (below_drew HB2.out)) HT.out⟩
    · rw [decide_eq_false hb] at hB
      have HB := Lib.hid hB
      rw [show againI n C a b = (C, 1) from if_neg (fun e => hb e.2)]
      clear hB h hg hl ha hb
      go_enter Try.func27, Try.ntmps27
      go_wp2_with (go_at_call 39; first | (refine HA.out.mono ?_; clear HA; rintro e w1 ⟨rfl, rfl⟩) | (refine HB.out.mono ?_; rintro e w1 ⟨rfl, rfl⟩))
      go_ret
      exact ⟨rfl, V, H.out, Turn.refl _ _ _ _⟩
  · rw [decide_eq_false ha] at hA
    have HA := Lib.hid hA
    rw [show againI n C a b = (C, 1) from if_neg (fun e => ha e.1)]
    clear hA hB h hg hl ha
    go_enter Try.func27, Try.ntmps27
    go_wp2_with (go_at_call 39; refine HA.out.mono ?_; rintro e w1 ⟨rfl, rfl⟩)
    go_ret
    exact ⟨rfl, V, H.out, Turn.refl _ _ _ _⟩
end Go.Proofs.Ytaicbllfkehhjaa

/- Deliver. -/
namespace Go.Proofs.Ytaicbllfkehhjaa
open Go.RowKit

theorem exec_load_blk {ev : Operand → Value} {o : Oper} {W : World} {x : Operand} (ho : o.op = .load 56 x) {g : Nat} (hx : ev x = .pointer (some ⟨g, 0, none⟩)) {cs : Array Value} (hs : cs.size = 20) (hb : Blk W g 56 cs) :
    (execOp ev o).run Try.prog W = .ok (.value (.agg cs)) W := by
  have := run_loadVar_row (P := Try.prog) W g 56 56 cs (0, 0) _ hb Try.underlying56 rfl (by rw [hs]; kernel_rfl)
  unfold execOp
  simp only [ho, hx, Instr.loadAt, Instr.sureAddr, Sem.run_bind, Sem.run_pure, Result.andThen_ok, this]
theorem upd_upd (C : Ch) (i : Nat) (L M : List Cl) : (C.upd i L).upd i M = C.upd i M := by
  unfold Ch.upd
  simp [List.set_set]
theorem setL_pg (C : Ch) (i k : Nat) (ms : List (List Cl)) (j : Nat) : (C.setL i k ms).pg j = C.pg j := rfl
theorem upd_self {C : Ch} {i : Nat} (hi : i < C.pages.length) : C.upd i (C.pg i) = C := by
  obtain ⟨P, L⟩ := C
  unfold Ch.upd Ch.pg
  simp only [Ch.mk.injEq, and_true]
  simp only at hi
  rw [List.getD_eq_getElem?_getD, List.getElem?_eq_getElem hi]
  simp
theorem putAll_take {L m : List Cl} {k : Nat} {c : Cl} (h : m[k]? = some c) : putAll L (m.take (k + 1)) = (putS (putAll L (m.take k)) c).1 := by
  unfold putAll
  rw [List.take_add_one, h]
  simp [List.foldl_append]
theorem putAll_len : ∀ (m L : List Cl), (putAll L m).length ≤ L.length + m.length
  | [], L => by simp [putAll]
  | c :: m, L => by
    have := putAll_len m (putS L c).1
    have h2 := putS_len L c
    show (putAll (putS L c).1 m).length ≤ _
    rw [List.length_cons]
    omega
theorem deliver_lost {C : Ch} {a b : Nat} {m : List Cl} {q : List (List Cl)} (hab : a ≠ b) (h : C.lines a b = m :: q) : deliverS C a b true = (C.setL a b q, true) := by
  unfold deliverS
  rw [if_neg hab, h]
  rfl
theorem deliver_put {C : Ch} {a b : Nat} {m : List Cl} {q : List (List Cl)} (hab : a ≠ b) (h : C.lines a b = m :: q) : deliverS C a b false = ((C.setL a b q).upd b (putAll (C.pg b) m), true) := by
  unfold deliverS
  rw [if_neg hab, h]
  rfl
theorem deliver_none {C : Ch} {a b : Nat} (lost : Bool) (h : C.lines a b = []) : deliverS C a b lost = (C, false) := by
  unfold deliverS
  split
  · rfl
  · rw [h]

/-- The oldest message taken. -/
theorem ChAt.take {w : World} {y : Lay} {V : Nat → Nat → Value} {n : Nat} {C : Ch} (h : ChAt w y V n C) {i k : Nat} (hi : i < n) (hk : k < n) (hne : i ≠ k) {m : List Cl} {q : List (List Cl)} (hm : C.lines i k = m :: q) (hl : (C.lines i k).length ≤ 1000000) :
    Calls Try.prog 45 #[.pointer (some ⟨y.Q i k, 0, none⟩)] w fun e w' => ∃ x, e = .returned (.tuple #[x, .bool true]) ∧ OwnCls w' 0 x m ∧ ∃ V', ChAt w' y V' n (C.setL i k q) ∧ Turn w w' y V V' n := by
  obtain ⟨hq, vs, hr, hlen, hvs, hsv⟩ := h.ques i k hi hk hne
  rw [hm] at hlen hvs hl
  cases vs with
  | nil => simp at hlen
  | cons x vs =>
    have hx := hvs 0 x m rfl rfl
    obtain ⟨A, cap, hxs, _⟩ := hx.form
    simp only [List.length_cons] at hlen hl
    refine (qtake_any w (y.Q i k) (V i k) x vs hq hr (by omega) ⟨_, _, _, hxs⟩).mono ?_
    rintro e w' ⟨he, v', k1, k2, k3, k4⟩
    have hW : ∀ g, g = y.Q i k → Wr w g := fun g e => h.wr g (.inr (.inr ⟨i, k, hi, hk, hne, .inl e⟩))
    have k3' : Only (fun g => g = y.Q i k ∨ (V i k).ownBlock = some g) w w' := k3.mono fun _ e => .inl e
    obtain ⟨r1, r2⟩ := h.line hi hk hne (v' := v') (ms := q) k3' ⟨k1, vs, k2, by omega, fun j u mm hu hmm => (hvs (j + 1) u mm hu hmm).only k3 hW, fun u hu => hsv u (List.mem_cons_of_mem _ hu)⟩ (.inl k4)
    exact ⟨x, he, hx.only k3 hW, _, r1, Turn.line hi hk hne k3' r2⟩
theorem ChAt.take_none {w : World} {y : Lay} {V : Nat → Nat → Value} {n : Nat} {C : Ch} (h : ChAt w y V n C) {i k : Nat} (hi : i < n) (hk : k < n) (hne : i ≠ k) (hm : C.lines i k = []) :
    Calls Try.prog 45 #[.pointer (some ⟨y.Q i k, 0, none⟩)] w fun e w' => e = .returned (.tuple #[.slice none 0 0, .bool false]) ∧ w' = w := by
  obtain ⟨hq, vs, hr, hlen, _, _⟩ := h.ques i k hi hk hne
  rw [hm] at hlen
  have : vs = [] := List.eq_nil_of_length_eq_zero hlen
  subst this
  exact qtake_none w _ _ hq hr
/-- A clause put on a page of the chamber. -/
theorem ChAt.pput {w : World} {y : Lay} {V : Nat → Nat → Value} {n : Nat} {C : Ch} (h : ChAt w y V n C) {i : Nat} (hi : i < n) (hp : Pg (C.pg i)) (hl : (C.pg i).length ≤ 1000000) (c : Cl) :
    Calls Try.prog 46 #[.pointer (some ⟨y.P i, 0, none⟩), .agg (clA c)] w fun e w' => e = .returned (.int .i64 (putS (C.pg i) c).2) ∧ ChAt w' y V n (C.upd i (putS (C.pg i) c).1) ∧ Only (fun g => g = y.M i) w w' :=
  (put_any w _ _ _ (h.pgs i hi) hp.uq hl c).mono fun _ _ ⟨h1, h2, h3⟩ => ⟨h1, h.page hi h3 h2, h3⟩

def deliverI (n : Nat) (C : Ch) (a b : Int) (lost : Bool) : Ch × Bool := if (0 ≤ a ∧ a < (n : Int)) ∧ 0 ≤ b ∧ b < (n : Int) then deliverS C a.toNat b.toNat lost else (C, false)

set_option maxRecDepth 100000 in
set_option maxHeartbeats 4000000 in
theorem deliver_any (w : World) (y : Lay) (V : Nat → Nat → Value) (n : Nat) (C : Ch) (h : ChAt w y V n C) (hg : Sane n C) (hl : ∀ i k, (C.lines i k).length ≤ 1000000) (hm : ∀ i k m, m ∈ C.lines i k → m.length ≤ 100000) (a b : Int) (lost : Bool) :
    Calls Try.prog 28 #[.pointer (some ⟨y.p, 0, none⟩), .int .i64 a, .int .i64 b, .bool lost] w fun e w' => e = .returned (.bool (deliverI n C a b lost).2) ∧ ∃ V', ChAt w' y V' n (deliverI n C a b lost).1 ∧ Turn w w' y V V' n := by
  have hA := is_any w y.p n y.cap _ _ h.blk a
  have hB := is_any w y.p n y.cap _ _ h.blk b
  have H := Lib.hid h
  by_cases ha : 0 ≤ a ∧ a < (n : Int)
  · rw [decide_eq_true ha] at hA
    have HA := Lib.hid hA
    clear hA
    by_cases hb : 0 ≤ b ∧ b < (n : Int)
    · rw [decide_eq_true hb] at hB
      have HB := Lib.hid hB
      clear hB
      have hE : deliverI n C a b lost = deliverS C a.toNat b.toNat lost := if_pos ⟨ha, hb⟩
      rw [hE]
      obtain ⟨i, rfl⟩ := Int.eq_ofNat_of_zero_le ha.1
      obtain ⟨k, rfl⟩ := Int.eq_ofNat_of_zero_le hb.1
      rw [Int.toNat_natCast, Int.toNat_natCast]
      have hi : i < n := by omega
      have hk : k < n := by omega
      by_cases hik : i = k
      · subst hik
        have e : deliverS C i i lost = (C, false) := if_pos rfl
        rw [e]
        clear hE e hg hl hm ha hb h hi hk
        go_enter Try.func28, Try.ntmps28
        go_wp2_with (go_at_call 39; first | (refine HA.out.mono ?_; clear HA; rintro e w9 ⟨rfl, h9⟩; have h9 := h9.symm; subst h9) | (refine HB.out.mono ?_; rintro e w9 ⟨rfl, h9⟩; have h9 := h9.symm; subst h9))
        go_wp2_with fail
        go_ret
        exact ⟨rfl, V, H.out, Turn.refl _ _ _ _⟩
      · have hne : ((i : Int) == (k : Int)) = false := by
          have : ¬ (i : Int) = (k : Int) := by omega
          simpa using this
        have hmax := h.max
        have hcap := h.cap
        obtain ⟨c0, c1⟩ := h.cells
        have lk := h.look hi hk hik
        have HI := Lib.hid hi
        have HK := Lib.hid hk
        have HIK := Lib.hid hik
        have HG := Lib.hid hg
        cases hq : C.lines i k with
        | nil =>
          have hT := h.take_none hi hk hik hq
          rw [deliver_none lost hq]
          dsimp only
          have HT := Lib.hid hT
          clear hE hg hl hm ha hb h hi hk hik hq hT
          go_enter Try.func28, Try.ntmps28
          go_wp2_with (first | (go_at_call 45; refine HT.out.mono ?_; rintro e w1 ⟨rfl, rfl⟩) | (go_at_call 39; first | (refine HA.out.mono ?_; clear HA; rintro e w9 ⟨rfl, h9⟩; have h9 := h9.symm; subst h9) | (refine HB.out.mono ?_; rintro e w9 ⟨rfl, h9⟩; have h9 := h9.symm; subst h9)))
          go_wp2_with fail
          go_ret
          exact ⟨rfl, V, H.out, Turn.refl _ _ _ _⟩
        | cons m q =>
          have hT := h.take hi hk hik hq (hl i k)
          have hml := hm i k m (by rw [hq]; exact List.mem_cons_self)
          have HT := Lib.hid hT
          have hP := hg k hk
          have HP := Lib.hid hP
          have HQ := Lib.hid hq
          have hCl := h.len
          have HCL := Lib.hid hCl
          cases lost with
          | true =>
            rw [deliver_lost hik hq]
            obtain ⟨D, hD⟩ : ∃ D, C.setL i k q = D := ⟨_, rfl⟩
            rw [hD] at HT ⊢
            dsimp only
            clear hE hg hl hm ha hb h hi hk hik hq hT hP hCl
            go_enter Try.func28, Try.ntmps28
            go_wp2_with (first | (go_at_call 45; refine HT.out.mono ?_; rintro e w1 ⟨x, rfl, hx, V', h1, t1⟩; obtain ⟨A, xc, rfl, -⟩ := hx.form) | (go_at_call 39; first | (refine HA.out.mono ?_; clear HA; rintro e w9 ⟨rfl, h9⟩; have h9 := h9.symm; subst h9) | (refine HB.out.mono ?_; rintro e w9 ⟨rfl, h9⟩; have h9 := h9.symm; subst h9)))
            go_wp2_with fail
            go_ret
            exact ⟨rfl, V', h1, t1⟩
          | false =>
            rw [deliver_put hik hq]
            obtain ⟨D, hD⟩ : ∃ D, C.setL i k q = D := ⟨_, rfl⟩
            rw [hD] at HT ⊢
            obtain ⟨L, hL⟩ : ∃ L, C.pg k = L := ⟨_, rfl⟩
            rw [hL] at HP ⊢
            obtain ⟨R, hR⟩ : ∃ R, D.upd k (putAll L m) = R := ⟨_, rfl⟩
            rw [hR]
            dsimp only
            have HR := Lib.hid hR
            have HDL := Lib.hid (show D.upd k L = D from by rw [← hL, ← setL_pg C i k q, hD]; exact upd_self (by rw [← hD]; show k < C.pages.length; rw [hCl]; exact hk))
            have HDN := Lib.hid (show k < D.pages.length from by rw [← hD]; show k < C.pages.length; rw [hCl]; exact hk)
            obtain ⟨N, hN⟩ : ∃ N, m.length = N := ⟨_, rfl⟩
            rw [hN] at hml
            have HN := Lib.hid hN
            have hi0 : (0 : Int) ≤ (k : Int) := hb.1
            have hi1 : (k : Int) < (n : Int) := hb.2
            clear hE hg hl hm ha hb h hi hk hik hq hT hP hCl hD hL hR hN
            go_enter Try.func28, Try.ntmps28
            go_wp2_with (first | (go_at_call 45; refine HT.out.mono ?_; rintro e w1 ⟨x, rfl, hx, V', h1, t1⟩; obtain ⟨A, xc, rfl, hcls⟩ := hx.form; rw [HN.out]) | (go_at_call 39; first | (refine HA.out.mono ?_; clear HA; rintro e w9 ⟨rfl, h9⟩; have h9 := h9.symm; subst h9) | (refine HB.out.mono ?_; rintro e w9 ⟨rfl, h9⟩; have h9 := h9.symm; subst h9)))
            have HX := Lib.hid (show OwnCls w1 0 (.slice A N xc) m from HN.out ▸ hx)
            have H1 := Lib.hid h1
            have T1 := Lib.hid t1
            clear hx h1 t1 hcls lk c0 c1 HT HB
            go_loopw [47] (fun i wr => ∃ j : Nat, j ≤ N ∧ i = .int .i64 (j : Int) ∧ Hid (ChAt wr y V' n (D.upd k (putAll L (m.take j)))) ∧ Hid (OwnCls wr 0 (.slice A N xc) m) ∧ Hid (Turn w wr y V V' n)) (fun i _ => N - (intOf i).toNat)
            case atStart => exact ⟨0, Nat.zero_le _, rfl, Lib.hid (by rw [List.take_zero]; show ChAt _ _ _ _ (D.upd k L); rw [HDL.out]; exact H1.out), HX, T1⟩
            case round =>
              obtain ⟨j, hjN, rfl, HR1, HR2, HR3⟩ := hrel
              clear HX H1 T1
              by_cases hlt : j < N
              · obtain ⟨c, hc⟩ : ∃ c, m[j]? = some c := ⟨_, List.getElem?_eq_getElem (by rw [HN.out]; exact hlt)⟩
                obtain ⟨A', c', e, hcls⟩ := HR2.out.form
                injection e with e1 e2 e3
                subst e1
                clear e2 e3 c'
                obtain ⟨g, off, rfl, -, -⟩ := hcls j c hc
                have HC := Lib.hid hc
                have HL := Lib.hid hcls
                have hj0 : (0 : Int) ≤ (j : Int) := by omega
                have hj1 : (j : Int) < (N : Int) := by omega
                clear hc hcls
                go_upto_region 8 with (first | (refine wpList_val rfl rfl (.agg (clA c)) (exec_load_at (x := .tmp 49) rfl rfl HL.out rfl HC.out) ?_) | (refine wpList_store_row rfl 56 (.tmp 12) (.tmp 50) rfl wr.heap.size (clA c) rfl rfl _ (clA zcl) (Blk.new wr 56 (clA zcl)) (by kernel_rfl) rfl (clA_one c) ?_))
                obtain ⟨X, hX⟩ : ∃ X, putAll L (m.take j) = X := ⟨_, rfl⟩
                rw [hX] at HR1
                have hbw := below_setRow (g := wr.heap.size) (clA c) (below_self_alloc wr (.cells #[.int .i64 0, .int .i64 0, .int .i64 0, .int .i64 0, .int .i64 0, .string ⟨#[]⟩, .string ⟨#[]⟩, .string ⟨#[]⟩, .string ⟨#[]⟩, .int .i64 0, .string ⟨#[]⟩, .string ⟨#[]⟩, .string ⟨#[]⟩, .string ⟨#[]⟩, .string ⟨#[]⟩, .bool false, .int .i64 0, .string ⟨#[]⟩, .string ⟨#[]⟩, .bool false] 56)) (Nat.le_refl _)
                have kb : Blk ((wr.alloc (.cells #[.int .i64 0, .int .i64 0, .int .i64 0, .int .i64 0, .int .i64 0, .string ⟨#[]⟩, .string ⟨#[]⟩, .string ⟨#[]⟩, .string ⟨#[]⟩, .int .i64 0, .string ⟨#[]⟩, .string ⟨#[]⟩, .string ⟨#[]⟩, .string ⟨#[]⟩, .string ⟨#[]⟩, .bool false, .int .i64 0, .string ⟨#[]⟩, .string ⟨#[]⟩, .bool false] 56)).setRow wr.heap.size (clA c)) wr.heap.size 56 (clA c) := blk_setRow (Blk.new wr _ #[.int .i64 0, .int .i64 0, .int .i64 0, .int .i64 0, .int .i64 0, .string ⟨#[]⟩, .string ⟨#[]⟩, .string ⟨#[]⟩, .string ⟨#[]⟩, .int .i64 0, .string ⟨#[]⟩, .string ⟨#[]⟩, .string ⟨#[]⟩, .string ⟨#[]⟩, .string ⟨#[]⟩, .bool false, .int .i64 0, .string ⟨#[]⟩, .string ⟨#[]⟩, .bool false])
                have HR4 := Lib.hid (HR1.out.below hbw)
                have HPX := Lib.hid (show Pg X ∧ X.length ≤ 200000 from ⟨hX ▸ putAll_pg _ HP.out.1, by
                  have h1 := putAll_len (m.take j) L
                  have h2 : (m.take j).length ≤ m.length := List.length_take_le' _ _
                  have h3 := HN.out
                  have h4 := HP.out.2
                  rw [hX] at h1
                  omega⟩)
                have HKB := Lib.hid kb
                have HX := Lib.hid hX
                have HBW := Lib.hid hbw
                clear hX hbw kb
                obtain ⟨CX, hCX⟩ : ∃ x, clA c = x := ⟨_, rfl⟩
                have hcz : CX.size = 20 := by rw [← hCX]; rfl
                rw [hCX] at HKB HR4 HBW ⊢
                have HCX := Lib.hid hCX
                have HCZ := Lib.hid hcz
                clear hCX hcz
                generalize (wr.alloc (.cells #[.int .i64 0, .int .i64 0, .int .i64 0, .int .i64 0, .int .i64 0, .string ⟨#[]⟩, .string ⟨#[]⟩, .string ⟨#[]⟩, .string ⟨#[]⟩, .int .i64 0, .string ⟨#[]⟩, .string ⟨#[]⟩, .string ⟨#[]⟩, .string ⟨#[]⟩, .string ⟨#[]⟩, .bool false, .int .i64 0, .string ⟨#[]⟩, .string ⟨#[]⟩, .bool false] 56)).setRow wr.heap.size CX = w3 at *
                refine wp_region_hold (fun W => ChAt W y V' n (D.upd k X) ∧ Blk W wr.heap.size 56 CX) [0, 1, 2, 3, 4, 5, 6, 7, 8] [] [9] (by kernel_rfl) (by kernel_rfl) (fun _ d _ _ _ h => by cases d <;> exact h) (⟨HR4.out.drewN 1, HKB.out.drewN 1⟩) ?_
                simp only [pick, List.drop_succ_cons, List.drop_zero, List.head?_cons, Option.toList_some, List.cons_append, List.nil_append, List.append_nil]
                try simp only [Act.put]
                repeat ((refine wpHeld_step ?_ rfl ?_ ?_; rotate_left; · (intro W hW; obtain ⟨c0, c1⟩ := hW.1.cells; obtain ⟨s0, s1⟩ := hW.1.seat HK.out; first | (refine exec_load_blk (x := .tmp 12) ?_ ?_ HCZ.out hW.2 <;> rfl) | (go_simp; try with_reducible rfl))); simp only [Act.put, List.setIfInBounds_toArray, List.set_cons_succ, List.set_cons_zero])
                refine wpHeld_nil ?_
                simp only [wpEarly]
                go_wp2_with fail
                have hp := (HR4.out.drewN 1).pput HK.out (by rw [pg_upd HDN.out, if_pos rfl]; exact HPX.out.1) (by rw [pg_upd HDN.out, if_pos rfl]; have := HPX.out.2; omega) c
                simp only [pg_upd HDN.out, if_true, upd_upd, HCX.out] at hp
                refine hp.mono ?_
                rintro e w4 ⟨rfl, h4, o4⟩
                have H4 := Lib.hid h4
                have O4 := Lib.hid o4
                clear hp h4 o4
                go_wp2_with fail
                go_roundw
                case rel =>
                  refine ⟨j + 1, by omega, by go_num, Lib.hid ?_, Lib.hid ?_, Lib.hid ?_⟩
                  · rw [putAll_take HC.out, HX.out]
                    exact H4.out
                  · exact (HR2.out.below HBW.out).only O4.out.undrewN fun g e => e ▸ ((HR4.out.drewN 1).pgs k HK.out).wr
                  · exact HR3.out.trans ((Turn.of_below HBW.out).trans (Turn.page HK.out O4.out.undrewN))
                case measure => simp [intOf]; omega
              · obtain rfl : j = N := by omega
                go_wp2_with fail
                go_ret
                refine ⟨rfl, V', ?_, HR3.out⟩
                have := HR1.out
                rwa [← HN.out, List.take_length, HR.out] at this
    · rw [decide_eq_false hb] at hB
      have HB := Lib.hid hB
      rw [show deliverI n C a b lost = (C, false) from if_neg (fun e => hb e.2)]
      clear hB h hg hl hm ha hb
      go_enter Try.func28, Try.ntmps28
      go_wp2_with (go_at_call 39; first | (refine HA.out.mono ?_; clear HA; rintro e w9 ⟨rfl, h9⟩; have h9 := h9.symm; subst h9) | (refine HB.out.mono ?_; rintro e w9 ⟨rfl, h9⟩; have h9 := h9.symm; subst h9))
      go_ret
      exact ⟨rfl, V, H.out, Turn.refl _ _ _ _⟩
  · rw [decide_eq_false ha] at hA
    have HA := Lib.hid hA
    rw [show deliverI n C a b lost = (C, false) from if_neg (fun e => ha e.1)]
    clear hA hB h hg hl hm ha
    go_enter Try.func28, Try.ntmps28
    go_wp2_with (go_at_call 39; refine HA.out.mono ?_; rintro e w1 ⟨rfl, rfl⟩)
    go_ret
    exact ⟨rfl, V, H.out, Turn.refl _ _ _ _⟩
end Go.Proofs.Ytaicbllfkehhjaa

/- Inside the wide fence: a region that draws its order: operations that only read, then a tail that comes up one at a time. Over any program. -/
namespace Go.Proofs.Ytaicbllfkehhjaa
open Go.RowKit

section
variable {P : Program} {n : Nat} {md : Region.Mode} {ops : Array Oper} {Q : Exit → Act → World → Prop}
theorem wpOpIn_of_stOp {w : World} {i : Nat} {a : Act} {K : Act → Prop} {K' : Act → World → Prop} (h : ∀ a, K a → K' a w) (hh : stOp P ops w i K a) : wpOpIn Fence.wide n P ops Q i K' a w := by
  unfold stOp at hh
  unfold wpOpIn
  split
  · rename_i ho; simp only [ho] at hh; exact h _ hh
  · rename_i o ho
    simp only [ho] at hh
    split
    · rename_i hw
      simp only [hw, if_true] at hh
      refine ⟨fun _ _ => trivial, ?_⟩
      have e : (o.semAt Fence.wide.round a.eval).run P w = (execOp a.eval o).run P w := rfl
      rw [e]
      unfold Oper.still at hh
      generalize (execOp a.eval o).run P w = r at *
      cases r with
      | ok x w' =>
        cases x <;> simp only [Oper.stillUpon] at hh <;> simp only [Oper.uponIn]
        case enter f args =>
          obtain ⟨rfl, v, hc, hn⟩ := hh
          exact ⟨fun hd => (by cases hd), (callsIn_wide.2 hc).mono fun e w'' ⟨he, hw⟩ => by subst he; subst hw; exact h _ hn⟩
        all_goals (obtain ⟨rfl, h2⟩ := hh; exact h _ h2)
      | halt x w' => cases x <;> simp only [Oper.stillUpon] at hh
    · rename_i hw; simp only [hw] at hh; exact ⟨fun _ _ => trivial, h _ hh⟩
theorem wpAnyIn_of_G {w : World} {g : Nat} {L : Array Bool → Act → Prop} (hL : ∀ listed a, L listed a → wpAnyIn Fence.wide n P md ops Q g listed a w) :
    ∀ (f : Nat) (listed : Array Bool) (a : Act), wpAnyG P md ops w L f listed a → wpAnyIn Fence.wide n P md ops Q (f + g) listed a w
  | 0, listed, a, h => by rw [Nat.zero_add]; exact hL _ _ h
  | f + 1, listed, a, h => by
    rw [show f + 1 + g = (f + g) + 1 by omega]
    exact ⟨fun h0 => absurd h0 h.1, fun i hi => wpOpIn_of_stOp (fun a' h' => wpAnyIn_of_G hL f _ a' h') (h.2 i hi)⟩
theorem wpAnyIn_tail {l : List Oper} : ∀ (ts : List Nat) (listed : Array Bool) (a : Act) (w : World), tailB md l.toArray ts listed = true → wpListIn Fence.wide n P l.toArray Q (pick l ts) a w →
    wpAnyIn Fence.wide n P md l.toArray Q ts.length listed a w
  | [], _, _, _, hB, h => ⟨by simpa [tailB] using hB, h⟩
  | t :: ts, listed, a, w, hB, h => by
    simp only [tailB, Bool.and_eq_true, decide_eq_true_eq] at hB
    have hr' : t ∈ Region.ready md l.toArray listed := by rw [hB.1]; simp
    obtain ⟨_, o, h0, _⟩ := mem_ready.1 hr'
    have hp : pick l (t :: ts) = o :: pick l ts := by
      have : l[t]? = some o := by simpa using h0
      simp [pick, this]
    rw [hp] at h
    refine ⟨fun h1 => (by rw [hB.1] at h1; cases h1), fun i hi => ?_⟩
    rw [hB.1] at hi
    obtain rfl : i = t := by simpa using hi
    have hw : wpOpIn Fence.wide n P l.toArray Q i (wpListIn Fence.wide n P l.toArray Q (pick l ts)) a w := by unfold wpOpIn; simp only [h0]; exact h
    exact wpOpIn_mono (fun a' w' h' => wpAnyIn_tail ts _ a' w' hB.2 h') hw
def planInB (l : List Oper) (hs ts : List Nat) : Bool :=
  Region.noSelect l.toArray && decide (hs.length + ts.length = l.length) && waitB .any l.toArray ts hs &&
  match headB .any l.toArray hs (Array.replicate l.length false) with
  | none => false
  | some l2 => ((Region.ready .any l.toArray l2).all fun j => ts.contains j) && tailB .any l.toArray ts l2
/-- A REGION THAT DRAWS ITS ORDER: the operations 'hs', which only read, then 'ts', one at a time. -/
theorem wpIn_region_plan {id : Nat} {l : List Oper} {a : Act} {w : World} (hs ts : List Nat) (hm : P.follows .mixedOrders = true) (hB : planInB l hs ts = true)
    (h : wpStill P l.toArray w.drew (fun a' => wpListIn Fence.wide n P l.toArray Q (pick l ts) a' w.drew) (pick l hs) a) : (Code.region id l.toArray true).wpIn Fence.wide n P Q a w := by
  simp only [planInB, Bool.and_eq_true, decide_eq_true_eq] at hB
  obtain ⟨⟨⟨hsel, hlen⟩, hw⟩, hrest⟩ := hB
  cases h2 : headB .any l.toArray hs (Array.replicate l.length false) with
  | none => rw [h2] at hrest; cases hrest
  | some l2 =>
    rw [h2] at hrest
    simp only [Bool.and_eq_true] at hrest
    have hc0 : Closed .any l.toArray (Array.replicate l.length false) := fun j oj _ hl => by rw [getD_replicate_false] at hl; cases hl
    refine wpIn_region_any hm ?_
    have key := wpAnyG_lex (P := P) (w := w.drew) (Lq := fun a' => wpListIn Fence.wide n P l.toArray Q (pick l ts) a' w.drew) hsel hw (fun j hj => by simpa using List.all_eq_true.1 hrest.1 j hj) hs _ a (fun k hk => hk) hc0 h2 h
    have k2 := wpAnyIn_of_G (Q := Q) (n := n) (g := ts.length) (fun listed' a' hL => by
      obtain ⟨rfl, hL⟩ := hL
      exact wpAnyIn_tail ts _ _ _ hrest.2 hL) hs.length _ _ key
    have hsz : l.toArray.size = hs.length + ts.length := by simp; omega
    rw [hlen] at k2
    have hsz2 : l.toArray.size = l.length := by simp
    rw [hsz2]
    exact k2
/-- wpStill behind a wall: nothing unfolds it by itself (a guarded operation at the head would be reckoned out). -/
structure WS (P : Program) (ops : Array Oper) (w : World) (K : Act → Prop) (l : List Oper) (a : Act) : Prop where
  out : wpStill P ops w K l a
theorem ws_nil {w : World} {K : Act → Prop} {a : Act} (h : K a) : WS P ops w K [] a := ⟨h⟩
theorem ws_val {w : World} {K : Act → Prop} {a : Act} {o : Oper} {rest : List Oper} (v : Value) (hg : o.guard = none) (h : (execOp a.eval o).run P w = .ok (.value v) w) (hK : WS P ops w K rest (a.put o.dst v)) : WS P ops w K (o :: rest) a := by
  refine ⟨?_⟩
  unfold wpStill
  rw [if_pos (by simp [Region.wanted, hg])]
  unfold Oper.still
  rw [h, Oper.stillUpon_value]
  exact hK.out
theorem ws_want {w : World} {K : Act → Prop} {a : Act} {o : Oper} {rest : List Oper} (v : Value) (hw : Region.wanted o (yielded ops a.tmps) = true) (h : (execOp a.eval o).run P w = .ok (.value v) w) (hK : WS P ops w K rest (a.put o.dst v)) : WS P ops w K (o :: rest) a := by
  refine ⟨?_⟩
  unfold wpStill
  rw [if_pos hw]
  unfold Oper.still
  rw [h, Oper.stillUpon_value]
  exact hK.out
theorem ws_skip {w : World} {K : Act → Prop} {a : Act} {o : Oper} {rest : List Oper} (hw : Region.wanted o (yielded ops a.tmps) = false) (hK : WS P ops w K rest (a.put o.dst undef)) : WS P ops w K (o :: rest) a := by
  refine ⟨?_⟩
  unfold wpStill
  rw [if_neg (by rw [hw]; decide)]
  exact hK.out
theorem wpIn_region_ws {id : Nat} {l : List Oper} {a : Act} {w : World} (hs ts : List Nat) (hm : P.follows .mixedOrders = true) (hB : planInB l hs ts = true)
    (h : WS P l.toArray w.drew (fun a' => wpListIn Fence.wide n P l.toArray Q (pick l ts) a' w.drew) (pick l hs) a) : (Code.region id l.toArray true).wpIn Fence.wide n P Q a w := wpIn_region_plan hs ts hm hB h.out
end
end Go.Proofs.Ytaicbllfkehhjaa

/- others: the iterator over the lines of a seat. -/
namespace Go.Proofs.Ytaicbllfkehhjaa
open Go.RowKit Go.Shelf
attribute [local go_sem] Oper.semAt_some

/-- What the iterator reads between two rounds. -/
structure Fixd (w : World) (y : Lay) (n bc bi i : Nat) : Prop where
  c : Blk w bc 25 #[.pointer (some ⟨y.p, 0, none⟩)]
  i_ : Blk w bi 3 #[.int .i64 (i : Int)]
  blk : Blk w y.p 68 #[.slice (some ⟨y.sb, 0, none⟩) n y.cap, .map (some y.mb)]
  sts : Blk w y.sb 72 y.cs
  map : MapV w y.mb y.L
/-- What it is promised: those blocks lie as they lay, and the map says what it said. -/
def Kpt (y : Lay) (bc bi : Nat) (A B : World) : Prop := A.heap.size ≤ B.heap.size ∧ (∀ g, (g = bc ∨ g = bi ∨ g = y.p ∨ g = y.sb) → B.heap[g]? = A.heap[g]?) ∧ (MapV A y.mb y.L → MapV B y.mb y.L)
theorem Kpt.refl (y : Lay) (bc bi : Nat) (A : World) : Kpt y bc bi A A := ⟨Nat.le_refl _, fun _ _ => rfl, id⟩
theorem Kpt.trans {y : Lay} {bc bi : Nat} {A B C : World} (h : Kpt y bc bi A B) (k : Kpt y bc bi B C) : Kpt y bc bi A C := ⟨Nat.le_trans h.1 k.1, fun g hg => (k.2.1 g hg).trans (h.2.1 g hg), fun m => k.2.2 (h.2.2 m)⟩
theorem Fixd.kpt {A B : World} {y : Lay} {n bc bi i : Nat} (h : Fixd A y n bc bi i) (k : Kpt y bc bi A B) : Fixd B y n bc bi i where
  c := (k.2.1 bc (.inl rfl)).trans h.c
  i_ := (k.2.1 bi (.inr (.inl rfl))).trans h.i_
  blk := (k.2.1 y.p (.inr (.inr (.inl rfl)))).trans h.blk
  sts := (k.2.1 y.sb (.inr (.inr (.inr rfl)))).trans h.sts
  map := k.2.2 h.map
theorem Fixd.below {A B : World} {y : Lay} {n bc bi i : Nat} (h : Fixd A y n bc bi i) (k : Below A.heap.size A B) : Kpt y bc bi A B := ⟨k.size, fun g hg => k.block g (by
  rcases hg with rfl | rfl | rfl | rfl
  · exact h.c.lt
  · exact h.i_.lt
  · exact h.blk.lt
  · exact h.sts.lt), fun m => m.of_block (k.block _ m.lt)⟩
/-- The other seats, in order; so many of them as are below k. -/
abbrev Oth (n i : Nat) := { k : Nat // k < n ∧ k ≠ i }
def othN (i k : Nat) : List Nat := (List.range k).filter fun j => decide (j ≠ i)
def othL (n i : Nat) : List (Oth n i) := (List.range n).filterMap fun k => if h : k < n ∧ k ≠ i then some ⟨k, h⟩ else none
def upL (n i k : Nat) : List (Oth n i) := (List.range k).filterMap fun j => if h : j < n ∧ j ≠ i then some ⟨j, h⟩ else none
theorem upL_succ_in {n i k : Nat} (h : k < n ∧ k ≠ i) : upL n i (k + 1) = upL n i k ++ [⟨k, h⟩] := by
  unfold upL
  rw [List.range_succ, List.filterMap_append]
  simp [h]
theorem upL_succ_out {n i k : Nat} (h : ¬ (k < n ∧ k ≠ i)) : upL n i (k + 1) = upL n i k := by
  unfold upL
  rw [List.range_succ, List.filterMap_append]
  simp only [List.filterMap_cons, List.filterMap_nil]
  rw [dif_neg h]
  simp
theorem upL_len (n i k : Nat) : (upL n i k).length ≤ k := by
  unfold upL
  have := List.length_filterMap_le (fun j => if h : j < n ∧ j ≠ i then some (⟨j, h⟩ : Oth n i) else none) (List.range k)
  simpa using this
def encQ (y : Lay) (i : Nat) {n : Nat} (x : Oth n i) : Array Value := #[.pointer (some ⟨y.Q i x.1, 0, none⟩)]

set_option maxRecDepth 100000 in
set_option maxHeartbeats 1000000 in
theorem others1_in (m : Nat) (hn : 1 ≤ m) (y : Lay) (n bc bi i : Nat) (hmax : n ≤ 1000) (hcap : n ≤ y.cap) (hst : ∀ k, k < n → y.cs[k * 2]? = some (.pointer (some ⟨y.P k, 0, none⟩)) ∧ y.cs[k * 2 + 1]? = some (.int .i64 (k : Int)))
    (hkey : ∀ p ∈ y.L, KyV p.1) (hmem : ∀ k, k < n → k ≠ i → (.agg (kyA i k), .pointer (some ⟨y.Q i k, 0, none⟩)) ∈ y.L) (l : Nat) (J Jx : List (Oth n i) → World → Prop) (W : World) (hJ : AbidesFrom W.heap.size J)
    (hY : ∀ pre x W1, J pre W1 → pre.length < n → YieldAt Fence.wide (m - 1) Try.prog l (encQ y i x) W1 fun e W' =>
      (e = .returned (.bool true) ∧ J (pre ++ [x]) W' ∧ Kpt y bc bi W1 W') ∨ (e = .returned (.bool false) ∧ Jx (pre ++ [x]) W')) (hW : Fixd W y n bc bi i) (h0 : J [] W) :
    CallsIn Fence.wide m Try.prog 70 #[.func (.yield l) #[] #[], .pointer (some ⟨bc, 0, none⟩), .pointer (some ⟨bi, 0, none⟩)] W fun e W' => (∃ v, e = .returned v) ∧
      ((∃ xs, xs = upL n i n ∧ J xs W') ∨ (∃ pre, True ∧ Jx pre W')) := by
  have hpc : W.cell? ⟨bc, 0, none⟩ = some (.pointer (some ⟨y.p, 0, none⟩)) := hW.c.cell 0
  have hps : W.cell? ⟨y.p, 0, none⟩ = some (.slice (some ⟨y.sb, 0, none⟩) n y.cap) := hW.blk.cell 0
  have HW := Lib.hid hW
  have HY := Lib.hid hY
  have HM := Lib.hid hmem
  have HK := Lib.hid hkey
  have HS := Lib.hid hst
  have HJ := Lib.hid hJ
  clear hW hY hmem hkey hst hJ
  refine callsIn_of_wp Try.func70 rfl trivial ?_ rfl
  simp only [Try.ntmps70, List.size_toArray, List.length_cons, List.length_nil, Nat.reduceAdd, Nat.reduceSub, Array.replicate_succ, Array.replicate_zero, List.push_toArray, List.append_toArray, List.nil_append, List.cons_append]
  gi_wp2
  gi_loopw [11] (fun v wr => ∃ k : Nat, k ≤ n ∧ v = .int .i64 (k : Int) ∧ J (upL n i k) wr ∧ Kpt y bc bi W wr) (fun v _ => n - (intOf v).toNat)
  case atStart => exact ⟨0, Nat.zero_le _, rfl, h0, Kpt.refl _ _ _ _⟩
  case round =>
    obtain ⟨k, hk, rfl, hJs, hnx⟩ := hrel
    have HF := Lib.hid (HW.out.kpt hnx)
    have HNX := Lib.hid hnx
    have HJS := Lib.hid hJs
    clear hnx hJs
    by_cases hlt : k < n
    · have b0 : wr.cell? ⟨bc, 0, none⟩ = some (.pointer (some ⟨y.p, 0, none⟩)) := HF.out.c.cell 0
      have b1 : wr.cell? ⟨bi, 0, none⟩ = some (.int .i64 (i : Int)) := HF.out.i_.cell 0
      have b2 : wr.cell? ⟨y.p, 1, none⟩ = some (.map (some y.mb)) := HF.out.blk.cell 1
      have s0 : wr.cell? ⟨y.sb, k * 2, none⟩ = some (.pointer (some ⟨y.P k, 0, none⟩)) := (HF.out.sts.cell _).trans (HS.out k hlt).1
      have s1 : wr.cell? ⟨y.sb, k * 2 + 1, none⟩ = some (.int .i64 (k : Int)) := (HF.out.sts.cell _).trans (HS.out k hlt).2
      have hk0 : (0 : Int) ≤ (k : Int) := by omega
      have hk1 : (k : Int) < (n : Int) := by omega
      gi_upto_region 3 with fail
      clear b0 b1 b2 s0 s1
      have hb2 := below_self_alloc wr (.cells #[.pointer (some ⟨y.P k, 0, none⟩), .int .i64 (k : Int)] 72)
      have hg2 : wr.grownBy (wr.alloc (.cells #[.pointer (some ⟨y.P k, 0, none⟩), .int .i64 (k : Int)] 72)).drew none := ⟨rfl, rfl, rfl, hb2.size, fun j hj _ => hb2.block j hj⟩
      have hJ2 := HJ.out _ _ _ none HJS.out hg2 (fun r e => by cases e)
      have hF2 := HF.out.kpt (HF.out.below hb2)
      have hK2 := Kpt.trans HNX.out (HF.out.below hb2)
      have n0 : (wr.alloc (.cells #[.pointer (some ⟨y.P k, 0, none⟩), .int .i64 (k : Int)] 72)).cell? ⟨wr.heap.size, 1, none⟩ = some (.int .i64 (k : Int)) := (Blk.new wr 72 _).cell 1
      generalize wr.alloc (.cells #[.pointer (some ⟨y.P k, 0, none⟩), .int .i64 (k : Int)] 72) = W2 at *
      generalize wr.heap.size = q at *
      have b0 : W2.cell? ⟨bc, 0, none⟩ = some (.pointer (some ⟨y.p, 0, none⟩)) := hF2.c.cell 0
      have b1 : W2.cell? ⟨bi, 0, none⟩ = some (.int .i64 (i : Int)) := hF2.i_.cell 0
      have b2 : W2.cell? ⟨y.p, 1, none⟩ = some (.map (some y.mb)) := hF2.blk.cell 1
      have HJ2 := Lib.hid hJ2
      have HF2 := Lib.hid hF2
      have HK2 := Lib.hid hK2
      clear hb2 hg2 hJ2 hF2 hK2 HF HNX HJS
      by_cases hki : k = i
      · subst hki
        refine wpIn_region_ws [0, 1, 2, 3, 4, 5, 6, 7, 8, 9, 10, 11, 12, 13, 14] [15, 16, 17] (by kernel_rfl) (by kernel_rfl) ?_
        simp only [pick, List.drop_succ_cons, List.drop_zero, List.head?_cons, Option.toList_some, List.cons_append, List.nil_append, List.append_nil]
        iterate 5 ((refine ws_val ?_ rfl ?_ ?_; rotate_left; · (go_simp; try with_reducible rfl)); simp only [Act.put, List.setIfInBounds_toArray, List.set_cons_succ, List.set_cons_zero])
        iterate 10 (refine ws_skip (by kernel_rfl) ?_; simp only [Act.put, List.setIfInBounds_toArray, List.set_cons_succ, List.set_cons_zero])
        refine ws_nil ?_
        gi_wp2
        refine ⟨fun _ h => (by cases h), ?_⟩
        gi_wp2
        go_roundw
        case rel => exact ⟨k + 1, by omega, by go_num, by rw [upL_succ_out (fun h => h.2 rfl)]; exact HJ2.out, HK2.out⟩
        case measure => simp [intOf]; omega
      · have e0 : ((k : Int) != (i : Int)) = true := by
          have : (k : Int) ≠ (i : Int) := by omega
          simpa using this
        have lk1 : (Instr.lookup 65 (.map (some y.mb)) (.agg #[.int .i64 (i : Int), .int .i64 (k : Int)]) false).run Try.prog W2.drew = .ok (.pointer (some ⟨y.Q i k, 0, none⟩)) W2.drew :=
          (show MapV W2.drew y.mb y.L from HF2.out.map).look_some kys2 Try.underlying65 HK.out (HM.out k hlt hki) false
        obtain ⟨fn, tmps, assign, body, hy, hR⟩ := HY.out _ ⟨k, hlt, hki⟩ W2.drew HJ2.out (Nat.lt_of_le_of_lt (upL_len n i k) hlt)
        dsimp only [encQ] at hy
        refine wpIn_region_ws [0, 1, 2, 3, 4, 5, 6, 7, 8, 9, 10, 11, 12, 13, 14] [15, 16, 17] (by kernel_rfl) (by kernel_rfl) ?_
        simp only [pick, List.drop_succ_cons, List.drop_zero, List.head?_cons, Option.toList_some, List.cons_append, List.nil_append, List.append_nil]
        iterate 5 ((refine ws_val ?_ rfl ?_ ?_; rotate_left; · (go_simp; try with_reducible rfl)); simp only [Act.put, List.setIfInBounds_toArray, List.set_cons_succ, List.set_cons_zero])
        iterate 10 ((refine ws_want ?_ (by kernel_rfl) ?_ ?_; rotate_left; · (go_simp; try with_reducible rfl)); simp only [Act.put, List.setIfInBounds_toArray, List.set_cons_succ, List.set_cons_zero])
        refine ws_nil ?_
        gi_wp2
        refine hR.mono ?_
        rintro e W3 (⟨rfl, hJ3, hk3⟩ | ⟨rfl, hJx3⟩)
        · have HJ3 := Lib.hid hJ3
          have HK3 := Lib.hid hk3
          clear hJ3 hk3
          gi_wp2
          go_roundw
          case rel => exact ⟨k + 1, by omega, by go_num, by rw [upL_succ_in ⟨hlt, hki⟩]; exact HJ3.out, Kpt.trans (B := W2.drew) HK2.out HK3.out⟩
          case measure => simp [intOf]; omega
        · have HJ3 := Lib.hid hJx3
          clear hJx3
          gi_wp2
          refine bodyPost_ret (results_none rfl _ _ _) rfl ?_
          exact ⟨⟨_, rfl⟩, .inr ⟨_, trivial, HJ3.out⟩⟩
    · obtain rfl : k = n := by omega
      gi_wp2
      go_end0
      exact ⟨⟨_, rfl⟩, .inl ⟨_, rfl, HJS.out⟩⟩
end Go.Proofs.Ytaicbllfkehhjaa

/- tell: a clause sent to all other seats. -/
namespace Go.Proofs.Ytaicbllfkehhjaa
open Go.RowKit Go.Shelf
attribute [local go_sem] Oper.semAt_some

section
variable {P : Program} {m : Nat}
theorem wpListIn_val {ops : Array Oper} {rest : List Oper} {o : Oper} {a : Act} {W : World} {Q : Exit → Act → World → Prop} (hgd : o.guard = none) (v : Value) (W' : World) (h : (execOp a.eval o).run P W = .ok (.value v) W')
    (k : wpListIn Fence.wide m P ops Q rest (a.put o.dst v) W') : wpListIn Fence.wide m P ops Q (o :: rest) a W := by
  unfold wpListIn
  rw [if_pos (by simp [Region.wanted, hgd])]
  refine ⟨fun _ _ => trivial, ?_⟩
  have e : (o.semAt Fence.wide.round a.eval).run P W = (execOp a.eval o).run P W := rfl
  rw [e, h]
  exact k
theorem wpListIn_val_round {l : Nat} {ops : Array Oper} {rest : List Oper} {o : Oper} {a : Act} {W : World} {Q : Exit → Act → World → Prop} (hgd : o.guard = none) (v : Value) (W' : World) (he : o.semAt (Fence.wide.inRound l).round a.eval = execOp a.eval o) (h : (execOp a.eval o).run P W = .ok (.value v) W')
    (k : wpListIn (Fence.wide.inRound l) m P ops Q rest (a.put o.dst v) W') : wpListIn (Fence.wide.inRound l) m P ops Q (o :: rest) a W := by
  unfold wpListIn
  rw [if_pos (by simp [Region.wanted, hgd])]
  refine ⟨fun _ _ => trivial, ?_⟩
  rw [he, h]
  exact k
end
section
variable {w w' : World} {y : Lay} {V V' : Nat → Nat → Value} {n : Nat} {C : Ch}
theorem ChAt.grown (h : ChAt w y V n C) {B : Nat} (hm : y.mb < B) (hM : ∀ i, i < n → y.M i < B) {row : Option Nat} (hg : w.grownBy w' row) (hr : ∀ r, row = some r → B ≤ r ∧ ∃ o : Obj, w.heap[r]? = some o ∧ o.isCells = false) : ChAt w' y V n C := by
  refine h.only (F := fun g => row = some g) (Only.of_grown hg) (fun g hf => ?_) fun g hf => .inl (hr g hf).2
  obtain ⟨h1, o, h2, h3⟩ := hr g hf
  have hc : ∀ {t cs}, ¬ Blk w g t cs := fun {t cs} k => by
    unfold Blk at k
    rw [h2] at k
    injection k with k
    subst k
    cases h3
  rintro (e | ⟨i, hi, e⟩ | ⟨i, k, hi, hk, hne, e | e⟩)
  · omega
  · have := hM i hi
    omega
  · exact hc (e ▸ (h.ques i k hi hk hne).1)
  · obtain ⟨_, vs, k2, _⟩ := h.ques i k hi hk hne
    rcases k2 with ⟨k2, _⟩ | ⟨b, off, cap, cs, k2, k3, _⟩
    · rw [k2] at e; cases e
    · rw [k2] at e
      have : b = g := by simpa [Value.ownBlock] using e
      exact hc (this ▸ k3)
theorem Turn.grown {w0 : World} (h : Turn w0 w y V V' n) {row : Option Nat} (hg : w.grownBy w' row) (hr : ∀ r, row = some r → w0.heap.size ≤ r) : Turn w0 w' y V V' n :=
  ⟨⟨hg.os.trans h.1.os, hg.tape.trans h.1.tape, hg.output.trans h.1.output, Nat.le_trans h.1.size hg.size, fun i hi hn => (hg.block i (Nat.lt_of_lt_of_le hi h.1.size) (fun e => by have := hr i e.symm; omega)).trans (h.1.block i hi hn)⟩, h.2⟩
theorem Turn.keeps (h : ChAt w y V n C) (t : Turn w w' y V V' n) {B : Nat} (hm : y.mb < B) (hM : ∀ i, i < n → y.M i < B) : KeepsFrom B w w' := ⟨t.1.size, fun k o hB hk ho => by
  rw [t.1.block k (Array.getElem?_eq_some_iff.1 hk).1 ?_]
  · exact hk
  · have hc : ∀ {t cs}, ¬ Blk w k t cs := fun {t cs} e => by
      unfold Blk at e
      rw [hk] at e
      injection e with e
      subst e
      cases ho
    rintro (e | ⟨i, hi, e⟩ | ⟨i, k', hi, hk', hne, e | e⟩)
    · omega
    · have := hM i hi
      omega
    · exact hc (e ▸ (h.ques i k' hi hk' hne).1)
    · obtain ⟨_, vs, k2, _⟩ := h.ques i k' hi hk' hne
      rcases k2 with ⟨k2, _⟩ | ⟨b, off, cap, cs, k2, k3, _⟩
      · rw [k2] at e; cases e
      · rw [k2] at e
        have : b = k := by simpa [Value.ownBlock] using e
        exact hc (this ▸ k3)⟩
theorem Turn.blk (h : ChAt w y V n C) (t : Turn w w' y V V' n) {g : Nat} {ty : TypeId} {cs : Array Value} (k : Blk w g ty cs) (h1 : ty ≠ 75) (h2 : ty ≠ 41) : Blk w' g ty cs := t.1.blk k fun hf => (h.wr g hf).not_blk k h1 h2
theorem Turn.kpt (h : ChAt w y V n C) (t : Turn w w' y V V' n) {C' : Ch} (h' : ChAt w' y V' n C') {bc bi : Nat} {v1 v2 : Array Value} (k1 : Blk w bc 25 v1) (k2 : Blk w bi 3 v2) : Kpt y bc bi w w' := by
  have same : ∀ {g ty cs}, Blk w g ty cs → ty ≠ 75 → ty ≠ 41 → w'.heap[g]? = w.heap[g]? := fun {g ty cs} k h1 h2 => by
    have k' := t.blk h k h1 h2
    unfold Blk at k k'
    rw [k, k']
  refine ⟨t.1.size, fun g hg => ?_, fun _ => h'.map⟩
  rcases hg with rfl | rfl | rfl | rfl
  · exact same k1 (by decide) (by decide)
  · exact same k2 (by decide) (by decide)
  · exact same h.blk (by decide) (by decide)
  · exact same h.sts (by decide) (by decide)
end
/-- A message to some. -/
def Ch.tellL (C : Ch) (i : Nat) (x : Cl) (ks : List Nat) : Ch := ks.foldl (fun C k => C.setL i k (C.lines i k ++ [[x]])) C
theorem Ch.tellL_snoc (C : Ch) (i : Nat) (x : Cl) (ks : List Nat) (k : Nat) : C.tellL i x (ks ++ [k]) = (C.tellL i x ks).setL i k ((C.tellL i x ks).lines i k ++ [[x]]) := by
  unfold Ch.tellL
  rw [List.foldl_append]
  rfl
theorem Ch.tellL_pages (i : Nat) (x : Cl) : ∀ (ks : List Nat) (C : Ch), (C.tellL i x ks).pages = C.pages
  | [], _ => rfl
  | k :: ks, C => Ch.tellL_pages i x ks (C.setL i k (C.lines i k ++ [[x]]))
theorem Ch.tellL_lines (i : Nat) (x : Cl) : ∀ (ks : List Nat) (C : Ch), ks.Nodup → ∀ a b, (C.tellL i x ks).lines a b = if a = i ∧ b ∈ ks then C.lines a b ++ [[x]] else C.lines a b
  | [], C, _, a, b => by simp [Ch.tellL]
  | k :: ks, C, hn, a, b => by
    obtain ⟨h1, h2⟩ := List.nodup_cons.1 hn
    have ih := Ch.tellL_lines i x ks (C.setL i k (C.lines i k ++ [[x]])) h2 a b
    rw [show C.tellL i x (k :: ks) = (C.setL i k (C.lines i k ++ [[x]])).tellL i x ks from rfl, ih]
    by_cases ha : a = i
    · subst ha
      by_cases hb : b = k
      · subst hb
        rw [if_neg (fun e => h1 e.2), if_pos ⟨rfl, List.mem_cons_self⟩, setL_same]
      · rw [setL_ne (fun e => hb e.2)]
        by_cases hk : b ∈ ks
        · rw [if_pos ⟨rfl, hk⟩, if_pos ⟨rfl, List.mem_cons_of_mem _ hk⟩]
        · rw [if_neg (fun e => hk e.2), if_neg (fun e => (List.mem_cons.1 e.2).elim hb hk)]
    · rw [if_neg (fun e => ha e.1), if_neg (fun e => ha e.1), setL_ne (fun e => ha e.1)]
theorem Ch.tellL_len (i : Nat) (x : Cl) (a b : Nat) : ∀ (ks : List Nat) (C : Ch), ((C.tellL i x ks).lines a b).length ≤ (C.lines a b).length + ks.length
  | [], _ => Nat.le_refl _
  | k :: ks, C => by
    have ih := Ch.tellL_len i x a b ks (C.setL i k (C.lines i k ++ [[x]]))
    have h1 : ((C.setL i k (C.lines i k ++ [[x]])).lines a b).length ≤ (C.lines a b).length + 1 := by
      by_cases h : a = i ∧ b = k
      · obtain ⟨rfl, rfl⟩ := h
        rw [setL_same]
        simp
      · rw [setL_ne h]
        omega
    rw [show C.tellL i x (k :: ks) = (C.setL i k (C.lines i k ++ [[x]])).tellL i x ks from rfl, List.length_cons]
    omega
theorem upL_map (n i : Nat) : ∀ k, k ≤ n → (upL n i k).map (·.1) = othN i k
  | 0, _ => rfl
  | k + 1, hk => by
    have ih := upL_map n i k (by omega)
    unfold othN at ih ⊢
    rw [List.range_succ, List.filter_append]
    by_cases h : k < n ∧ k ≠ i
    · rw [upL_succ_in h, List.map_append, ih]
      simp [h.2]
    · have : k = i := by omega
      rw [upL_succ_out h, ih]
      simp [this]
theorem tellL_tell {C : Ch} {n i : Nat} (hn : C.pages.length = n) (x : Cl) : C.tellL i x ((upL n i n).map (·.1)) = C.tell i x := by
  have hp := Ch.tellL_pages i x ((upL n i n).map (·.1)) C
  have hl : (C.tellL i x ((upL n i n).map (·.1))).lines = (C.tell i x).lines := by
    funext a b
    rw [upL_map n i n (Nat.le_refl _)]
    rw [Ch.tellL_lines i x (othN i n) C ((List.nodup_range).filter _) a b]
    simp only [Ch.tell, othN, List.mem_filter, List.mem_range, decide_eq_true_eq, hn]
    by_cases h : a = i ∧ b ≠ i ∧ b < n
    · rw [if_pos h, if_pos ⟨h.1, h.2.2, h.2.1⟩]
    · rw [if_neg h, if_neg (fun e => h ⟨e.1, e.2.2, e.2.1⟩)]
  cases hC : C.tellL i x ((upL n i n).map (·.1)) with
  | mk pg ln =>
    rw [hC] at hp hl
    unfold Ch.tell at hl ⊢
    dsimp only at hp hl
    rw [hp, hl]

theorem ChAt.fixd {w : World} {y : Lay} {V : Nat → Nat → Value} {n : Nat} {C : Ch} (h : ChAt w y V n C) {bc bi i : Nat} (hc : Blk w bc 25 #[.pointer (some ⟨y.p, 0, none⟩)]) (hi : Blk w bi 3 #[.int .i64 (i : Int)]) : Fixd w y n bc bi i := ⟨hc, hi, h.blk, h.sts, h.map⟩
theorem others_stops (m : Nat) (hm : 1 ≤ m) (w : World) (y : Lay) (V : Nat → Nat → Value) (n : Nat) (C : Ch) (h : ChAt w y V n C) (bc bi i : Nat) (hi : i < n) (hF : Fixd w y n bc bi i) :
    SeqStopsK Fence.wide m Try.prog 70 #[.pointer (some ⟨bc, 0, none⟩), .pointer (some ⟨bi, 0, none⟩)] (encQ (n := n) y i) (Kpt y bc bi) (fun xs => xs = upL n i n) (fun _ => True) n w :=
  fun l J Jx W hW hJ _ hY h0 => others1_in m hm y n bc bi i h.max h.cap h.st h.key (fun k hk hne => h.mem i k hi hk (Ne.symm hne)) l J Jx W hJ hY (hF.kpt (hF.below hW)) h0

set_option maxRecDepth 100000 in
theorem others_any (w : World) (p : Nat) (i : Int) :
    Calls Try.prog 64 #[.pointer (some ⟨p, 0, none⟩), .int .i64 i] w fun e w' => e = .returned (.func (.func 70) #[] #[.pointer (some ⟨w.heap.size, 0, none⟩), .pointer (some ⟨w.heap.size + 1, 0, none⟩)]) ∧ w' = (w.alloc (.cells #[.pointer (some ⟨p, 0, none⟩)] 25)).alloc (.cells #[.int .i64 i] 3) := by
  go_enter Try.func64, Try.ntmps64
  go_wp2
  go_ret
  exact ⟨rfl, rfl⟩

set_option maxRecDepth 100000 in
set_option maxHeartbeats 4000000 in
/-- A clause sent to all others. -/
theorem tell_any (w : World) (y : Lay) (V : Nat → Nat → Value) (n : Nat) (C : Ch) (h : ChAt w y V n C) (hl : ∀ i k, (C.lines i k).length ≤ 900000) (i : Nat) (hi : i < n) (c : Cl) :
    Calls Try.prog 48 #[.pointer (some ⟨y.p, 0, none⟩), .int .i64 (i : Int), .agg (clA c)] w fun e w' => (∃ r, e = .returned r) ∧ ∃ V', ChAt w' y V' n (C.tell i c) ∧ Turn w w' y V V' n := by
  refine (callsIn_wide (n := 5)).1 ?_
  obtain ⟨CC, hCC⟩ : ∃ CC, clA c = CC := ⟨_, rfl⟩
  rw [hCC]
  have hO := others_any (w.alloc (.cells CC 56)) y.p (i : Int)
  have HO := Lib.hid hO
  have H := Lib.hid h
  have HL := Lib.hid hl
  have HI := Lib.hid hi
  have HC := Lib.hid hCC
  clear hO h hl hi hCC
  refine callsIn_of_wp_marks Try.func48 rfl trivial ?_ rfl
  simp only [Try.ntmps48, List.size_toArray, List.length_cons, List.length_nil, Nat.reduceAdd, Nat.reduceSub, Array.replicate_succ, Array.replicate_zero, List.push_toArray, List.append_toArray, List.nil_append, List.cons_append]
  gi_wp2_with (refine ⟨trivial, ?_⟩; gi_at_call 64; refine (callsIn_wide.2 HO.out).mono ?_; rintro e w' ⟨rfl, rfl⟩)
  obtain ⟨q, hq⟩ : ∃ q, w.heap.size = q := ⟨_, rfl⟩
  have hb0 : Below q w (((w.alloc (.cells CC 56)).alloc (.cells #[.pointer (some ⟨y.p, 0, none⟩)] 25)).alloc (.cells #[.int .i64 (i : Int)] 3)) := by
    subst hq
    exact (((Below.refl _ w).alloc (Nat.le_refl _) _).alloc (by simp) _).alloc (by simp; omega) _
  have kC : Blk (((w.alloc (.cells CC 56)).alloc (.cells #[.pointer (some ⟨y.p, 0, none⟩)] 25)).alloc (.cells #[.int .i64 (i : Int)] 3)) q 56 CC := by
    subst hq
    exact ((Blk.new w _ CC).alloc _).alloc _
  have kP : Blk (((w.alloc (.cells CC 56)).alloc (.cells #[.pointer (some ⟨y.p, 0, none⟩)] 25)).alloc (.cells #[.int .i64 (i : Int)] 3)) (q + 1) 25 #[.pointer (some ⟨y.p, 0, none⟩)] := by
    subst hq
    exact (Blk.new1 w _ _ _).alloc _
  have kI : Blk (((w.alloc (.cells CC 56)).alloc (.cells #[.pointer (some ⟨y.p, 0, none⟩)] 25)).alloc (.cells #[.int .i64 (i : Int)] 3)) (q + 1 + 1) 3 #[.int .i64 (i : Int)] := by
    subst hq
    have := Blk.new ((w.alloc (.cells CC 56)).alloc (.cells #[.pointer (some ⟨y.p, 0, none⟩)] 25)) 3 #[.int .i64 (i : Int)]
    simpa using this
  have hsz : (((w.alloc (.cells CC 56)).alloc (.cells #[.pointer (some ⟨y.p, 0, none⟩)] 25)).alloc (.cells #[.int .i64 (i : Int)] 3)).heap.size = q + 3 := by simp [← hq]
  rw [hq]
  generalize (((w.alloc (.cells CC 56)).alloc (.cells #[.pointer (some ⟨y.p, 0, none⟩)] 25)).alloc (.cells #[.int .i64 (i : Int)] 3)) = W0 at *
  have hH0 : ChAt W0 y V n C := H.out.below (hq ▸ hb0)
  have hbw : Below w.heap.size w W0 := hq ▸ hb0
  have hF := hH0.fixd kP kI
  have hm : y.mb < W0.heap.size := hH0.lt (.inl rfl)
  have hM : ∀ j, j < n → y.M j < W0.heap.size := fun j hj => hH0.lt (.inr (.inl ⟨j, hj, rfl⟩))
  have hmax := H.out.max
  have hlen := H.out.len
  clear HO hq hb0
  refine wpIn_rangeFunc_ownG rfl (by decide) (gf := 70) (lb := #[.pointer (some ⟨q + 1, 0, none⟩), .pointer (some ⟨q + 1 + 1, 0, none⟩)]) rfl trivial (enters_of Try.func70 (by kernel_rfl) rfl)
    (others_stops 4 (by decide) W0 y V n C hH0 (q + 1) (q + 1 + 1) i HI.out hF) (fun h k => Kpt.trans h k) ?hKb (Below.refl _ _) (fun _ => rfl)
    (fun pre W => ∃ V', ChAt W y V' n (C.tellL i c (pre.map (·.1))) ∧ Turn w W y V V' n ∧ Blk W q 56 CC ∧ Blk W (q + 1) 25 #[.pointer (some ⟨y.p, 0, none⟩)] ∧ Blk W (q + 1 + 1) 3 #[.int .i64 (i : Int)])
    (fun _ _ _ => False) ?hI (fun _ _ _ _ _ hs _ _ => hs) ⟨V, hH0, Turn.of_below hbw, kC, kP, kI⟩
    (fun x => { tmps := #[.pointer (some ⟨y.p, 0, none⟩), .int .i64 (i : Int), .agg CC, undef, undef, .pointer (some ⟨q, 0, none⟩), .pointer (some ⟨y.Q i x.1, 0, none⟩), .pointer (some ⟨y.p, 0, none⟩), .int .i64 (i : Int), .func (.func 70) #[] #[.pointer (some ⟨q + 1, 0, none⟩), .pointer (some ⟨q + 1 + 1, 0, none⟩)], .pointer (some ⟨y.Q i x.1, 0, none⟩), undef, undef, undef, undef], defers := [] }) ?assign ?body ?done ?stop
  case hKb =>
    intro W l o o' hl ho hc _
    have hne : ∀ g, g < W0.heap.size → (W.putObj l o').heap[g]? = W.heap[g]? := fun g hg => World.putObj_heap_other (fun e => by omega)
    refine ⟨by simp, fun g hg => ?_, fun m => m.of_block (hne _ hm)⟩
    rcases hg with rfl | rfl | rfl | rfl
    · exact hne _ kP.lt
    · exact hne _ kI.lt
    · exact hne _ hF.blk.lt
    · exact hne _ hF.sts.lt
  case hI =>
    rintro pre A B row ⟨V', h1, h2, h3, h4, h5⟩ hg hr
    have hlt : w.heap.size ≤ W0.heap.size := hbw.size
    have keep : ∀ {g ty cs}, Blk A g ty cs → g < W0.heap.size → Blk B g ty cs := fun {g ty cs} k hlt => (Only.of_grown hg).blk k fun e => by
      have := (hr g e).1
      omega
    exact ⟨V', h1.grown hm hM hg hr, h2.grown hg (fun r e => Nat.le_trans hlt (hr r e).1), keep h3 kC.lt, keep h4 kP.lt, keep h5 kI.lt⟩
  case assign =>
    intro l x W K hK
    dsimp only [encQ]
    gi_wp2
    exact hK
  case body =>
    rintro l pre ⟨k, hk, hki⟩ W ⟨V', h1, h2, h3, h4, h5⟩ hlt
    have hcz : CC.size = 20 := by rw [← HC.out]; rfl
    have hfold := fold_cl c
    rw [HC.out] at hfold
    have hx : OwnCls (W.alloc (.cells CC 56)) 0 (.slice (some ⟨W.heap.size, 0, none⟩) 1 1) [c] := ⟨by rw [cls_len], .inr ⟨W.heap.size, 1, CC, rfl, Nat.zero_le _, World.alloc_heap_new _ _, Nat.le_refl _, by decide, by rw [hcz], by rw [← HC.out]; simp [cls]; rfl⟩⟩
    have hll : ((C.tellL i c (pre.map (·.1))).lines i k).length ≤ 1000000 := by
      have h6 := Ch.tellL_len i c i k (pre.map (·.1)) C
      rw [List.length_map] at h6
      have := HL.out i k
      omega
    have hxS : ∀ g, Value.ownBlock (.slice (some ⟨W.heap.size, 0, none⟩) 1 1) = some g → ¬ y.S g := fun g hg hs => by
      have e : W.heap.size = g := by simpa [Value.ownBlock] using hg
      have := h1.slow g hs
      omega
    have hP := (h1.alloc (.cells CC 56)).put HI.out hk (Ne.symm hki) hx hxS hll
    have HP := Lib.hid hP
    have H1 := Lib.hid h1
    have H2 := Lib.hid h2
    have H3 := Lib.hid h3
    have H4 := Lib.hid h4
    have H5 := Lib.hid h5
    clear hx hP h1 h2 h3 h4 h5 hll
    gi_wp2_with (first | (refine wpListIn_val_round rfl (.agg CC) _ (Oper.semAt_some _ _ _ (by intro c e; cases e)) (exec_load_blk (x := .tmp 5) rfl rfl hcz H3.out) ?_) | (refine ⟨trivial, ?_⟩; gi_at_call 44; refine (CallsIn.inRound l (callsIn_wide.2 HP.out)).mono ?_; rintro e w3 ⟨⟨r, rfl⟩, V2, h6, t6⟩))
    have t6' : Turn W w3 y V' V2 n := (Turn.of_below (below_self_alloc _ _)).trans t6
    refine ⟨t6'.keeps H1.out hm hM, t6'.kpt H1.out h6 H4.out H5.out, V2, ?_, H2.out.trans t6', t6'.blk H1.out H3.out (by decide) (by decide), t6'.blk H1.out H4.out (by decide) (by decide), t6'.blk H1.out H5.out (by decide) (by decide)⟩
    rw [List.map_append, List.map_cons, List.map_nil, Ch.tellL_snoc]
    exact h6
  case done =>
    rintro D xs W hD rfl ⟨V', h1, h2, _⟩ hK
    gi_wp2
    refine ⟨by simp, .inl ⟨_, _, rfl, run_takeDeferred hK, ?_⟩⟩
    have hg := grownBy_putObj' W D (.deferred none)
    have hr : ∀ r, some D = some r → W0.heap.size ≤ r ∧ ∃ o : Obj, W.heap[r]? = some o ∧ o.isCells = false := fun r e => by
      injection e with e
      subst e
      exact ⟨hD, _, hK, rfl⟩
    have h3 := h1.grown hm hM hg hr
    rw [tellL_tell hlen c] at h3
    have h4 := h2.grown hg (fun r e => Nat.le_trans hbw.size (hr r e).1)
    exact ⟨_, results_none rfl _ _ _, ⟨_, rfl⟩, V', h3, h4⟩
  case stop =>
    rintro D c pre W _ _ h _
    exact h.elim
end Go.Proofs.Ytaicbllfkehhjaa

/- A region that draws its order, all of whose operations keep S: those that make memory or call come by any turns; reads that hold as long as S does are taken at once. Over any program. -/
namespace Go.Proofs.Ytaicbllfkehhjaa
open Go.RowKit

section
variable {P : Program} {Q : Exit → Act → World → Prop} {S : World → Prop}
/-- The region, walked as far as 'listed'; what is left keeps S. -/
def AtS (P : Program) (l : List Oper) (Q : Exit → Act → World → Prop) (S : World → Prop) (n : Nat) (listed : Array Bool) (a : Act) (w : World) : Prop :=
  (∀ c (d : Option Tmp) (v : Value) a w, Q (.panic c) (a.put d v) w → Q (.panic c) a w) → Good l listed → wpAnyE P .any l.toArray Q S (fun _ => false) n listed a w
variable {l : List Oper} {listed l2 : Array Bool} {a : Act} {w : World} {n N : Nat}
theorem ats_end (hB : Region.ready .any l.toArray listed = []) (h : Q .normal a w) : AtS P l Q S 0 listed a w := fun _ _ => ⟨hB, h⟩
theorem ats_take (hs : List Nat) (n : Nat) (hN : hs.length + n = N) (hB : (headB .any l.toArray hs listed).isSome = true) (hS : S w) (h : wpHeld P l.toArray S (fun a' => AtS P l Q S n (setAll hs listed) a' w) (pick l hs) a) : AtS P l Q S N listed a w := by
  subst hN
  intro hQ hg
  obtain ⟨l2, hB⟩ := Option.isSome_iff_exists.1 hB
  rw [headB_set _ _ _ hB] at h
  have hg2 : Good l l2 := ⟨hg.sel, headB_closed _ _ _ hg.closed hB, by rw [← headB_set _ _ _ hB, size_setAll]; exact hg.size⟩
  exact wpAnyE_held (P := P) (Q := Q) (md := .any) (w := w) (S := S) (late := fun _ => false) (hs := hs) (g := n) hg.sel hQ (fun _ _ _ h => by cases h) (fun _ _ => rfl) hS
    (fun a' ha' => ha' hQ hg2) hs listed a (fun k hk => hk) hg.closed hB h
theorem ats_step (h0 : Region.ready .any l.toArray listed ≠ []) (h : ∀ i ∈ Region.ready .any l.toArray listed, wpList P l.toArray (Exit.then (fun a' w' => S w' ∧ AtS P l Q S n (listed.setIfInBounds i true) a' w') Q) (pick l [i]) a w) : AtS P l Q S (n + 1) listed a w := fun hQ hg => by
  refine ⟨fun he => absurd he h0, fun i hi => ?_⟩
  obtain ⟨_, o, ho, _⟩ := mem_ready.1 hi
  have hp : pick l [i] = [o] := by
    have : l[i]? = some o := by simpa using ho
    simp [pick, this]
  have h2 := h i hi
  rw [hp] at h2
  exact wpOp_mono (fun a' w' h' => ⟨fun _ => h'.1, h'.2 hQ ⟨hg.sel, hg.closed.set hi, by rw [Array.size_setIfInBounds]; exact hg.size⟩⟩) (wpOp_of_one ho h2)
theorem ats_one (i : Nat) (hr : Region.ready .any l.toArray listed = [i]) (h : wpList P l.toArray (Exit.then (fun a' w' => S w' ∧ AtS P l Q S n (listed.setIfInBounds i true) a' w') Q) (pick l [i]) a w) : AtS P l Q S (n + 1) listed a w :=
  ats_step (by rw [hr]; simp) fun j hj => by rw [hr] at hj; simp at hj; subst hj; exact h
theorem ats_two (i k : Nat) (hr : Region.ready .any l.toArray listed = [i, k])
    (h : wpList P l.toArray (Exit.then (fun a' w' => S w' ∧ AtS P l Q S n (listed.setIfInBounds i true) a' w') Q) (pick l [i]) a w)
    (k' : wpList P l.toArray (Exit.then (fun a' w' => S w' ∧ AtS P l Q S n (listed.setIfInBounds k true) a' w') Q) (pick l [k]) a w) : AtS P l Q S (n + 1) listed a w :=
  ats_step (by rw [hr]; simp) fun j hj => by
    rw [hr] at hj
    simp only [List.mem_cons, List.not_mem_nil, or_false] at hj
    rcases hj with rfl | rfl <;> assumption
theorem wp_region_ats {id : Nat} (S : World → Prop) (hm : P.follows .mixedOrders = true) (hB : Region.noSelect l.toArray = true) (hQ : ∀ c (d : Option Tmp) (v : Value) a w, Q (.panic c) (a.put d v) w → Q (.panic c) a w) (hN : l.length = N)
    (h : AtS P l Q S N (Array.replicate N false) a w.drew) : (Code.region id l.toArray true).wp P Q a w := by
  subst hN
  have hc0 : Closed .any l.toArray (Array.replicate l.length false) := fun j oj _ hl => by rw [getD_replicate_false] at hl; cases hl
  refine wp_region_any hm ?_
  have k := wpAny_of_E _ _ _ _ (h hQ ⟨hB, hc0, by simp⟩)
  have hsz : l.toArray.size = l.length := by simp
  rw [hsz]
  exact k
end
end Go.Proofs.Ytaicbllfkehhjaa
