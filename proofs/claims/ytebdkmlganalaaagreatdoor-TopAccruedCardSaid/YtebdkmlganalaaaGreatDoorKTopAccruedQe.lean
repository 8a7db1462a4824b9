/- The lexer: the iterator over the tokens of a text. -/
import Derived.Test.YtebdkmlganalaaaGreatDoorKTopAccruedGAN
import Derived.RangeFuncNested
import Derived.RangeFuncBound
import Derived.RangeFuncCalls
import Derived.RangeFuncLeaves
import Derived.Shelf.Abstract
import Derived.Shelf.RegionOpen
import Derived.RangeFuncWrites
import Derived.WalkKit
import Derived.OwnWalkIn
import Derived.TacticsInMore
import Derived.LoopNIn
import Derived.LoopIn
import Derived.Sort.QuietIn
import Derived.Sort.CutIn
import Derived.WalkMore
import Derived.Deep.DeepCutAuto
import Derived.Deep.CutBlock
namespace Go.Proofs.YtebdkmlganalaaaGreatDoor
open Go.RowKit Go.Shelf
attribute [local go_sem] Oper.semAt_some

theorem below_self_alloc (w : World) (o : Obj) : Below w.heap.size w (w.alloc o) := (Below.refl _ _).alloc (Nat.le_refl _) _
/-- A token, or an error: kind, text, number, offset, error. -/
abbrev Fd := Int × ByteArray × Int × Int × Int
/-- What a token of a name is. -/
abbrev FdT := {x : Fd // x.2.2.2.2 = 0 → x.1 = 1 → nmB x.2.1.data.toList = true}
def encF (x : FdT) : Array Value := #[.agg #[.int .i64 x.1.1, .string x.1.2.1, .int .i64 x.1.2.2.1, .int .i64 x.1.2.2.2.1, .int .i64 x.1.2.2.2.2]]
def nmTok (l : List UInt8) : Fd := (1, bs l, 0, 0, 0)
/-- What has come of a text that is a name. -/
def Nm (l : List UInt8) (k : Nat) (pre : List FdT) : Prop := nmB l = true → (k = 0 ∧ pre = []) ∨ (k = l.length ∧ pre.map (·.1) = [nmTok l])
def Nms (l : List UInt8) (xs : List FdT) : Prop := nmB l = true → xs.map (·.1) = [nmTok l]
/-- What a round's body keeps: blocks of the iterator's types. -/
def KpT (A B : World) : Prop := A.heap.size ≤ B.heap.size ∧ ∀ g t cs, (t = 9 ∨ t = 184 ∨ t = 186 ∨ t = 166) → Blk A g t cs → Blk B g t cs
theorem KpT.refl (A : World) : KpT A A := ⟨Nat.le_refl _, fun _ _ _ _ h => h⟩
theorem KpT.trans {A B C : World} (h : KpT A B) (k : KpT B C) : KpT A C := ⟨Nat.le_trans h.1 k.1, fun g t cs ht hb => k.2 g t cs ht (h.2 g t cs ht hb)⟩
theorem KpT.of_below {A B : World} (h : Below A.heap.size A B) : KpT A B := ⟨h.size, fun _ _ _ _ hb => hb.below h hb.lt⟩
theorem KpT.tok {A B : World} {bt bc ba : Nat} {s : ByteArray} (h : KpT A B) (t : TokAt A bt bc ba s) : TokAt B bt bc ba s := ⟨h.2 _ _ _ (.inl rfl) t.txt, h.2 _ _ _ (.inr (.inl rfl)) t.cls, h.2 _ _ _ (.inr (.inr (.inl rfl))) t.at_⟩
theorem KpT.put (W : World) (l : Nat) (o o' : Obj) (h : W.heap[l]? = some o) (ho : o.isCells = false) : KpT W (W.putObj l o') := by
  refine ⟨by simp, fun g t cs _ hb => ?_⟩
  have hne : g ≠ l := by
    rintro rfl
    unfold Blk at hb
    rw [h] at hb
    injection hb with hb
    subst hb
    cases ho
  exact (World.putObj_heap_other hne).trans hb
theorem Nm.step {l : List UInt8} {k j : Nat} {pre : List FdT} (h : Nm l k pre) (hk : k < l.length) (h3 : atV l k ≠ 3) : Nm l j pre := fun hn => by
  rcases h hn with ⟨h0, _⟩ | ⟨h1, _⟩
  · subst h0
    exact absurd (nmB_cls.1 hn).1 h3
  · omega
theorem Nm.some_ {l : List UInt8} {k j : Nat} {pre : List FdT} {x : FdT} (h : Nm l k pre) (hk : k < l.length) (h3 : atV l k ≠ 3) : Nm l j (pre ++ [x]) := fun hn => by
  rcases h hn with ⟨h0, _⟩ | ⟨h1, _⟩
  · subst h0
    exact absurd (nmB_cls.1 hn).1 h3
  · omega
theorem Nm.no {l : List UInt8} {k : Nat} {pre : List FdT} (h : Nm l k pre) (hk : k < l.length) (h3 : atV l k ≠ 3) (hn : nmB l = true) : False := by
  rcases h hn with ⟨h0, _⟩ | ⟨h1, _⟩
  · subst h0
    exact h3 (nmB_cls.1 hn).1
  · omega
/-- Where a name begins it ends with the text. -/
theorem Nm.all_ {l : List UInt8} {k j : Nat} {pre : List FdT} (h : Nm l k pre) (hk : k < l.length) (hj : ¬ wdN (atV l j)) (hjl : j ≤ l.length) (hn : nmB l = true) : k = 0 ∧ j = l.length ∧ l.length ≤ 24 ∧ pre = [] := by
  obtain ⟨_, h2, h3⟩ := nmB_cls.1 hn
  rcases h hn with ⟨h0, hp⟩ | ⟨h1, _⟩
  · refine ⟨h0, ?_, h3, hp⟩
    rcases Nat.lt_or_ge j l.length with hlt | hge
    · exact absurd (h2 j hlt) hj
    · omega
  · omega
theorem atoi_few (w : World) (l : List UInt8) (n : Int) (hl : l.length ≤ 18) (h : Lib.atoi l = some n) : Calls Tryz.prog 123 #[.string (bs l)] w fun e w' => e = .returned (.tuple #[.int .i64 n, .nilIface]) ∧ Below w.heap.size w w' :=
  (sh_strconv_Atoi (bs l) n (by rw [bs_size]; exact hl) h w).mono fun _ _ ⟨he, _, hw⟩ => ⟨he, hw ▸ Go.Joins.below_bytesWorld _ _ _ _ (Nat.le_refl _)⟩

set_option maxRecDepth 100000 in
set_option maxHeartbeats 4000000 in
theorem toks_in (m : Nat) (hn : 1 ≤ m) (L : List UInt8) (hlen : L.length ≤ 20000) (bt bc ba : Nat) (l : Nat) (J Jx : List FdT → World → Prop) (W : World) (hJ : AbidesFrom W.heap.size J)
    (hY : ∀ pre x W1, J pre W1 → pre.length < 20001 → YieldAt Fence.wide (m - 1) Tryz.prog l (encF x) W1 fun e W' =>
      (e = .returned (.bool true) ∧ J (pre ++ [x]) W' ∧ KpT W1 W') ∨ (e = .returned (.bool false) ∧ Jx (pre ++ [x]) W')) (hW : TokAt W bt bc ba (bs L)) (h0 : J [] W) :
    CallsIn Fence.wide m Tryz.prog 122 #[.func (.yield l) #[] #[], .pointer (some ⟨bt, 0, none⟩), .pointer (some ⟨ba, 0, none⟩)] W fun e W' => (∃ v, e = .returned v) ∧
      ((∃ xs, Nms L xs ∧ J xs W') ∨ (∃ pre, Nms L pre ∧ Jx pre W')) := by
  have hsz := bs_size L
  have HSZ := Lib.hid hsz
  have HW := Lib.hid hW
  have HY := Lib.hid hY
  have HJ := Lib.hid hJ
  have hc0 : W.cell? ⟨bt, 0, none⟩ = some (.string (bs L)) := hW.txt.cell 0
  clear hW hY hJ hsz
  refine callsIn_of_wp Tryz.func122 rfl trivial ?_ rfl
  simp only [Tryz.ntmps122, List.size_toArray, List.length_cons, List.length_nil, Nat.reduceAdd, Nat.reduceSub, Array.replicate_succ, Array.replicate_zero, List.push_toArray, List.append_toArray, List.nil_append, List.cons_append]
  refine wpIn_wide.2 ?_
  apply wp_scope_straight
  go_wp2
  apply wp_label
  go_wp2
  go_loopw [4] (fun v wr => ∃ (k : Nat) (pre : List FdT), k ≤ L.length ∧ pre.length ≤ k ∧ v = .int .i64 (k : Int) ∧ J pre wr ∧ KpT W wr ∧ Hid (Nm L k pre)) (fun v _ => L.length - (intOf v).toNat)
  case atStart => exact ⟨0, [], Nat.zero_le _, Nat.le_refl _, rfl, h0, KpT.refl _, Lib.hid fun _ => .inl ⟨rfl, rfl⟩⟩
  case round =>
    clear hc0 h0
    obtain ⟨k, pre, hk, hpk, rfl, hJs, hkp, HN⟩ := hrel
    have hT := hkp.tok HW.out
    have b0 : wr.cell? ⟨bt, 0, none⟩ = some (.string (bs L)) := hT.txt.cell 0
    have b1 : wr.cell? ⟨ba, 0, none⟩ = some (.func (.func 121) #[] #[.pointer (some ⟨bt, 0, none⟩), .pointer (some ⟨bc, 0, none⟩)]) := hT.at_.cell 0
    have HKP := Lib.hid hkp
    have HJS := Lib.hid hJs
    have HT := Lib.hid hT
    have hsz := HSZ.out
    clear hkp hJs hT
    by_cases hlt : k < L.length
    · have d0 : decide ((k : Int) < ((bs L).size : Int)) = true := decide_eq_true (by omega)
      have hb2 := below_self_alloc wr (.cells #[.int .i64 0, .string ⟨#[]⟩, .int .i64 0, .int .i64 (k : Int), .int .i64 0] 166)
      have kf := Blk.new wr 166 #[.int .i64 0, .string ⟨#[]⟩, .int .i64 0, .int .i64 (k : Int), .int .i64 0]
      obtain ⟨q, hq⟩ : ∃ q, wr.heap.size = q := ⟨_, rfl⟩
      obtain ⟨W2, hW2⟩ : ∃ W2, wr.alloc (.cells #[.int .i64 0, .string ⟨#[]⟩, .int .i64 0, .int .i64 (k : Int), .int .i64 0] 166) = W2 := ⟨_, rfl⟩
      rw [hq, hW2] at hb2 kf
      have HJUMP : Hid (∀ W3, Below q wr W3 → J pre W3 ∧ KpT W W3) := Lib.hid fun W3 hb => by
        subst hq
        exact ⟨HJ.out _ wr W3 none HJS.out ⟨hb.os, hb.tape, hb.output, hb.size, fun g hg _ => hb.block g hg⟩ (fun r e => by cases e), HKP.out.trans (KpT.of_below hb)⟩
      have HATG : Hid (∀ wx, Below q wr wx → ∀ i, i ≤ L.length → Calls Tryz.prog 121 #[.int .i64 (i : Int), .pointer (some ⟨bt, 0, none⟩), .pointer (some ⟨bc, 0, none⟩)] wx fun e w' => e = .returned (.int .u8 (atV L i : Nat)) ∧ wx = w') := Lib.hid fun wx hb i hi => by
        subst hq
        exact at_any wx (bs L) bt bc ba ((KpT.of_below hb).tok HT.out) i (by rw [hsz]; exact hi)
      have b0' : W2.cell? ⟨bt, 0, none⟩ = some (.string (bs L)) := by
        subst hq
        exact ((KpT.of_below hb2).tok HT.out).txt.cell 0
      have b1' : W2.cell? ⟨ba, 0, none⟩ = some (.func (.func 121) #[] #[.pointer (some ⟨bt, 0, none⟩), .pointer (some ⟨bc, 0, none⟩)]) := by
        subst hq
        exact ((KpT.of_below hb2).tok HT.out).at_.cell 0
      have HB2 := Lib.hid hb2
      have HKF := Lib.hid kf
      have HQ := Lib.hid hq
      have HW2 := Lib.hid hW2
      clear hb2 kf hq hW2
      go_upto_region 4 with fail
      rw [HW2.out, HQ.out]
      clear b0 b1
      go_upto_block 2 with (refine (HATG.out _ HB2.out _ hk).mono ?_; rintro e w2 ⟨rfl, rfl⟩)
      obtain ⟨v, hv⟩ : ∃ v, atV L k = v := ⟨_, rfl⟩
      have hv9 := atV_lt L k
      rw [hv] at hv9 ⊢
      have HV := Lib.hid hv
      clear hv
      go_cut [4] (fun v wx => ∃ (j : Nat) (kd n er : Int), v = .int .i64 (j : Int) ∧ k ≤ j ∧ j ≤ L.length ∧ Blk wx q 166 #[.int .i64 kd, .string ⟨#[]⟩, .int .i64 n, .int .i64 (k : Int), .int .i64 er] ∧ Below q wr wx ∧ Hid ((er = 0 → k < j) ∧ (er = 0 → kd = 1 → nmB ((L.drop k).take (j - k)) = true) ∧ (nmB L = true → j = L.length ∧ kd = 1 ∧ n = 0 ∧ er = 0)))
      case first =>
        have hcase : v = 0 ∨ v = 1 ∨ v = 2 ∨ v = 3 ∨ v = 4 ∨ v = 5 ∨ v = 6 ∨ v = 7 ∨ v = 8 := by omega
        rcases hcase with rfl | rfl | rfl | rfl | rfl | rfl | rfl | rfl | rfl
        · obtain ⟨z0, z1, z2⟩ := HKF.out.all
          go_wp2
          go_meet
          exact ⟨k, 0, 0, 3, rfl, Nat.le_refl _, hk, HKF.out.set_ 4 _, HB2.out.setCell (p := ⟨q, 4, none⟩) (Nat.le_refl q) _, Lib.hid ⟨(fun h => by cases h), (fun h => by cases h), fun h => (HN.out.no hlt (by rw [HV.out]; decide) h).elim⟩⟩
        · clear b0' b1' hv9
          go_wp2
          have hj := HJUMP.out _ HB2.out
          go_roundw
          case rel => exact ⟨k + 1, pre, by omega, by omega, by go_num, hj.1, hj.2, Lib.hid (HN.out.step hlt (by rw [HV.out]; decide))⟩
          case measure => simp [intOf]; omega
        · clear b1' hv9
          go_wp2_with fail
          go_loop [4] (fun i => ∃ j : Nat, k ≤ j ∧ j ≤ L.length ∧ i = .int .i64 (j : Int)) (fun i => L.length - (intOf i).toNat)
          case atStart => exact ⟨k, Nat.le_refl _, hk, rfl⟩
          case round =>
            obtain ⟨j, hkj, hj, rfl⟩ := hrel
            by_cases hjl : j < L.length
            · have d1 : decide ((j : Int) < ((bs L).size : Int)) = true := decide_eq_true (by omega)
              obtain ⟨c, hc⟩ : ∃ c, L[j]? = some c := ⟨_, List.getElem?_eq_getElem hjl⟩
              have hjs : j < (bs L).size := by omega
              have hget : (bs L)[j] = c := by
                obtain ⟨h1, h2⟩ := List.getElem?_eq_some_iff.1 hc
                rw [← h2]
                rfl
              have HC := Lib.hid hc
              clear hc
              have h255 := c.toNat_lt
              by_cases h10 : c.toNat = 10
              · have e10 : ((c.toNat : Int) != 10) = false := by simp; omega
                have hne : j ≠ k := by
                  rintro rfl
                  have h1 := HV.out
                  rw [atV_some HC.out, h10] at h1
                  revert h1
                  decide
                clear h10
                go_wp2
                have hjj := HJUMP.out _ HB2.out
                go_roundw
                case rel => exact ⟨j, pre, hj, by omega, rfl, hjj.1, hjj.2, Lib.hid (HN.out.step hlt (by rw [HV.out]; decide))⟩
                case measure => simp [intOf]; omega
              · have e10 : ((c.toNat : Int) != 10) = true := by simp; omega
                clear h10
                go_wp2
                go_round
                case rel => exact ⟨j + 1, by omega, by omega, by go_num⟩
                case measure => simp [intOf]; omega
            · obtain rfl : j = L.length := by omega
              have d1 : decide ((L.length : Int) < ((bs L).size : Int)) = false := decide_eq_false (by omega)
              go_wp2
              have hjj := HJUMP.out _ HB2.out
              go_roundw
              case rel => exact ⟨L.length, pre, Nat.le_refl _, by omega, rfl, hjj.1, hjj.2, Lib.hid (HN.out.step hlt (by rw [HV.out]; decide))⟩
              case measure => simp [intOf]; omega
        · clear hv9
          go_wp2_with fail
          refine (HATG.out _ HB2.out _ hk).mono ?_
          rintro e w3 ⟨rfl, rfl⟩
          rw [HV.out]
          go_wp2_with fail
          go_loop [4, 7] (fun i c => ∃ j : Nat, k ≤ j ∧ j ≤ L.length ∧ i = .int .i64 (j : Int) ∧ c = .int .u8 ((atV L j : Nat) : Int) ∧ Hid (∀ m, k ≤ m → m < j → wdN (atV L m))) (fun i _ => L.length - (intOf i).toNat)
          case atStart => exact ⟨k, Nat.le_refl _, hk, rfl, by rw [HV.out]; rfl, Lib.hid fun m h1 h2 => by omega⟩
          case round =>
            obtain ⟨j, hkj, hj, rfl, rfl, HWD⟩ := hrel
            by_cases hw : wdN (atV L j)
            · have hjl : j < L.length := by
                rcases Nat.lt_or_ge j L.length with h | h
                · exact h
                · rw [atV_none h] at hw
                  unfold wdN at hw
                  omega
              have ha := HATG.out _ HB2.out (j + 1) (by omega)
              rw [show ((j + 1 : Nat) : Int) = (j : Int) + 1 from rfl] at ha
              have HA := Lib.hid ha
              have hnx : ∀ m, k ≤ m → m < j + 1 → wdN (atV L m) := fun m h1 h2 => by
                rcases Nat.lt_or_ge m j with h | h
                · exact HWD.out m h1 h
                · rw [show m = j by omega]; exact hw
              have HNX := Lib.hid hnx
              obtain ⟨u, hu⟩ : ∃ u, atV L j = u := ⟨_, rfl⟩
              rw [hu] at hw ⊢
              clear ha hnx hu
              rcases hw with rfl | rfl | rfl
              all_goals
                go_wp2_with fail
                refine HA.out.mono ?_
                rintro e w4 ⟨rfl, rfl⟩
                go_wp2
                go_round
                case rel => exact ⟨j + 1, by omega, by omega, by go_num, rfl, HNX⟩
                case measure => simp [intOf]; omega
            · have hne : k < j := by
                rcases Nat.lt_or_ge k j with h | h
                · exact h
                · rw [show j = k by omega, HV.out] at hw
                  exact absurd (.inl rfl) hw
              have hall := fun hn => HN.out.all_ hlt hw hj hn
              have hwn := fun h24 => word_name HV.out HWD.out hj hne h24
              obtain ⟨u, hu⟩ : ∃ u, atV L j = u := ⟨_, rfl⟩
              rw [hu] at hw ⊢
              unfold wdN at hw
              have e3 : ((u : Int) == 3) = false := by simp; omega
              have e4 : ((u : Int) == 4) = false := by simp; omega
              have e5 : ((u : Int) == 5) = false := by simp; omega
              have HALL := Lib.hid hall
              have HWN := Lib.hid hwn
              obtain ⟨z0, z1, z2⟩ := HKF.out.all
              clear hall hwn hu hw b0' b1'
              by_cases h24 : j - k ≤ 24
              · have d24 : decide ((24 : Int) < (j : Int) - (k : Int)) = false := decide_eq_false (by omega)
                go_wp2
                go_meet
                exact ⟨j, 1, 0, 0, rfl, hkj, hj, HKF.out.set_ 0 _, HB2.out.setCell (p := ⟨q, 0, none⟩) (Nat.le_refl q) _, Lib.hid ⟨fun _ => hne, fun _ _ => HWN.out h24, fun hn => ⟨(HALL.out hn).2.1, rfl, rfl, rfl⟩⟩⟩
              · have d24 : decide ((24 : Int) < (j : Int) - (k : Int)) = true := decide_eq_true (by omega)
                go_wp2
                go_meet
                exact ⟨j, 1, 0, 2, rfl, hkj, hj, (HKF.out.set_ 0 _).set_ 4 _, (HB2.out.setCell (p := ⟨q, 0, none⟩) (Nat.le_refl q) _).setCell (p := ⟨q, 4, none⟩) (Nat.le_refl q) _, Lib.hid ⟨(fun h => by cases h), (fun h => by cases h), fun hn => by have := HALL.out hn; omega⟩⟩
        · clear hv9
          go_wp2_with fail
          rw [show ((4 : Nat) : Int) = 4 from rfl]
          go_loop [4] (fun i => ∃ j : Nat, k ≤ j ∧ j ≤ L.length ∧ i = .int .i64 (j : Int) ∧ Hid (∀ m, k ≤ m → m < j → atV L m = 4)) (fun i => L.length - (intOf i).toNat)
          case atStart => exact ⟨k, Nat.le_refl _, hk, rfl, Lib.hid fun m h1 h2 => by omega⟩
          case round =>
            obtain ⟨j, hkj, hj, rfl, HWD⟩ := hrel
            have ha := HATG.out _ HB2.out j hj
            by_cases hw : atV L j = 4
            · have hjl : j < L.length := by
                rcases Nat.lt_or_ge j L.length with h | h
                · exact h
                · rw [atV_none h] at hw
                  cases hw
              have hnx : ∀ m, k ≤ m → m < j + 1 → atV L m = 4 := fun m h1 h2 => by
                rcases Nat.lt_or_ge m j with h | h
                · exact HWD.out m h1 h
                · rw [show m = j by omega]; exact hw
              have HNX := Lib.hid hnx
              rw [hw, show ((4 : Nat) : Int) = 4 from rfl] at ha
              have HA := Lib.hid ha
              clear ha hnx hw
              go_wp2_with fail
              refine HA.out.mono ?_
              rintro e w4 ⟨rfl, rfl⟩
              go_wp2
              go_round
              case rel => exact ⟨j + 1, by omega, by omega, by go_num, HNX⟩
              case measure => simp [intOf]; omega
            · have hne : k < j := by
                rcases Nat.lt_or_ge k j with h | h
                · exact h
                · rw [show j = k by omega, HV.out] at hw
                  exact absurd rfl hw
              have hwn := word_digits HWD.out hj hne
              have hno := fun hn => HN.out.no hlt (by rw [HV.out]; decide) hn
              have ha3 := HATG.out
              obtain ⟨u, hu⟩ : ∃ u, atV L j = u := ⟨_, rfl⟩
              rw [hu] at ha hw
              have e4 : ((u : Int) == 4) = false := by simp; omega
              have HA := Lib.hid ha
              have HU := Lib.hid hu
              have HNO := Lib.hid hno
              have HWN := Lib.hid hwn
              obtain ⟨z0, z1, z2⟩ := HKF.out.all
              clear ha hu hw hno hwn ha3
              go_upto_region 23 with (refine HA.out.mono ?_; rintro e w4 ⟨rfl, rfl⟩)
              have kf3 := HKF.out.set_ 0 (.int .i64 2)
              have hb3 := HB2.out.setCell (p := ⟨q, 0, none⟩) (Nat.le_refl q) (.int .i64 2)
              generalize W2.setCell ⟨q, 0, none⟩ (.int .i64 2) = W3 at *
              have hT3 : TokAt W3 bt bc ba (bs L) := by
                have hQ := HQ.out
                subst hQ
                exact (KpT.of_below hb3).tok HT.out
              have hat3 := HATG.out W3 hb3 j hj
              rw [HU.out] at hat3
              have b03 : W3.cell? ⟨bt, 0, none⟩ = some (.string (bs L)) := hT3.txt.cell 0
              have b13 : W3.cell? ⟨ba, 0, none⟩ = some (.func (.func 121) #[] #[.pointer (some ⟨bt, 0, none⟩), .pointer (some ⟨bc, 0, none⟩)]) := hT3.at_.cell 0
              have HAT3 := Lib.hid hat3
              have HKF3 := Lib.hid kf3
              have HB3 := Lib.hid hb3
              clear hT3 hat3 kf3 hb3 z0 z1 z2 b0' b1' e4
              obtain ⟨z0, z1, z2⟩ := HKF3.out.all
              have hs1 := sl_mid L k j hkj hj
              by_cases h7 : 7 < j - k
              · have d7 : decide ((7 : Int) < (j : Int) - (k : Int)) = true := decide_eq_true (by omega)
                clear hs1
                go_wp2_with (refine HAT3.out.mono ?_; rintro e w4 ⟨rfl, rfl⟩)
                go_meet
                exact ⟨j, 2, 0, 4, rfl, hkj, hj, HKF3.out.set_ 4 _, HB3.out.setCell (p := ⟨q, 4, none⟩) (Nat.le_refl q) _, Lib.hid ⟨(fun h => by cases h), (fun h => by cases h), fun hn => (HNO.out hn).elim⟩⟩
              · have d7 : decide ((7 : Int) < (j : Int) - (k : Int)) = false := decide_eq_false (by omega)
                by_cases h35 : u = 3 ∨ u = 5
                · clear hs1
                  rcases h35 with rfl | rfl
                  all_goals
                    go_wp2_with (refine HAT3.out.mono ?_; rintro e w4 ⟨rfl, rfl⟩)
                    go_meet
                    exact ⟨j, 2, 0, 4, rfl, hkj, hj, HKF3.out.set_ 4 _, HB3.out.setCell (p := ⟨q, 4, none⟩) (Nat.le_refl q) _, Lib.hid ⟨(fun h => by cases h), (fun h => by cases h), fun hn => (HNO.out hn).elim⟩⟩
                · have e3 : ((u : Int) == 3) = false := by simp; omega
                  have e5 : ((u : Int) == 5) = false := by simp; omega
                  obtain ⟨nn, hnn⟩ := HWN.out
                  have hato := atoi_few W3 ((L.drop k).take (j - k)) nn (by rw [List.length_take]; omega) hnn
                  generalize (L.drop k).take (j - k) = sub at *
                  have HATO := Lib.hid hato
                  have hqlt := HKF3.out.lt
                  clear hato hnn h35
                  go_wp2_with (first | (refine HAT3.out.mono ?_; rintro e w4 ⟨rfl, rfl⟩) | (refine HATO.out.mono ?_; rintro e w4 ⟨rfl, b4⟩; have kf4 := HKF3.out.below b4 HKF3.out.lt; have hb4 := HB3.out.trans (b4.mono (by have := HKF3.out.lt; omega)); have HKF4 := Lib.hid kf4; have HB4 := Lib.hid hb4; clear kf4 hb4; obtain ⟨y0, y1, y2⟩ := HKF4.out.all))
                  go_meet
                  exact ⟨j, 2, nn, 0, rfl, hkj, hj, HKF4.out.set_ 2 _, HB4.out.setCell (p := ⟨q, 2, none⟩) (Nat.le_refl q) _, Lib.hid ⟨fun _ => hne, (fun _ h => by cases h), fun hn => (HNO.out hn).elim⟩⟩
        · obtain ⟨z0, z1, z2⟩ := HKF.out.all
          go_wp2
          go_meet
          exact ⟨k, 0, 0, 3, rfl, Nat.le_refl _, hk, HKF.out.set_ 4 _, HB2.out.setCell (p := ⟨q, 4, none⟩) (Nat.le_refl q) _, Lib.hid ⟨(fun h => by cases h), (fun h => by cases h), fun h => (HN.out.no hlt (by rw [HV.out]; decide) h).elim⟩⟩
        · clear hv9
          have hno := fun hn => HN.out.no hlt (by rw [HV.out]; decide) hn
          have HNO := Lib.hid hno
          obtain ⟨z0, z1, z2⟩ := HKF.out.all
          clear hno
          go_upto_region 31 with fail
          have kf3 := HKF.out.set_ 0 (.int .i64 3)
          have hb3 := HB2.out.setCell (p := ⟨q, 0, none⟩) (Nat.le_refl q) (.int .i64 3)
          generalize W2.setCell ⟨q, 0, none⟩ (.int .i64 3) = W3 at *
          have hT3 : TokAt W3 bt bc ba (bs L) := by
            have hQ := HQ.out
            subst hQ
            exact (KpT.of_below hb3).tok HT.out
          have hat3 := HATG.out W3 hb3 k hk
          rw [HV.out] at hat3
          have b03 : W3.cell? ⟨bt, 0, none⟩ = some (.string (bs L)) := hT3.txt.cell 0
          have b13 : W3.cell? ⟨ba, 0, none⟩ = some (.func (.func 121) #[] #[.pointer (some ⟨bt, 0, none⟩), .pointer (some ⟨bc, 0, none⟩)]) := hT3.at_.cell 0
          have HAT3 := Lib.hid hat3
          have HKF3 := Lib.hid kf3
          have HB3 := Lib.hid hb3
          clear hT3 hat3 kf3 hb3 z0 z1 z2 b0' b1'
          obtain ⟨z0, z1, z2⟩ := HKF3.out.all
          go_wp2_with (refine HAT3.out.mono ?_; rintro e w4 ⟨rfl, rfl⟩)
          go_meet
          exact ⟨k + 1, 3, 0, 0, by go_num, by omega, by omega, HKF3.out, HB3.out, Lib.hid ⟨fun _ => by omega, (fun _ h => by cases h), fun hn => (HNO.out hn).elim⟩⟩
        · clear hv9
          have hno := fun hn => HN.out.no hlt (by rw [HV.out]; decide) hn
          have HNO := Lib.hid hno
          obtain ⟨z0, z1, z2⟩ := HKF.out.all
          clear hno
          go_upto_region 31 with fail
          have kf3 := HKF.out.set_ 0 (.int .i64 3)
          have hb3 := HB2.out.setCell (p := ⟨q, 0, none⟩) (Nat.le_refl q) (.int .i64 3)
          generalize W2.setCell ⟨q, 0, none⟩ (.int .i64 3) = W3 at *
          have hT3 : TokAt W3 bt bc ba (bs L) := by
            have hQ := HQ.out
            subst hQ
            exact (KpT.of_below hb3).tok HT.out
          have hat3 := HATG.out W3 hb3 k hk
          rw [HV.out] at hat3
          have b03 : W3.cell? ⟨bt, 0, none⟩ = some (.string (bs L)) := hT3.txt.cell 0
          have b13 : W3.cell? ⟨ba, 0, none⟩ = some (.func (.func 121) #[] #[.pointer (some ⟨bt, 0, none⟩), .pointer (some ⟨bc, 0, none⟩)]) := hT3.at_.cell 0
          have HAT3 := Lib.hid hat3
          have HKF3 := Lib.hid kf3
          have HB3 := Lib.hid hb3
          clear hT3 hat3 kf3 hb3 z0 z1 z2 b0' b1'
          obtain ⟨z0, z1, z2⟩ := HKF3.out.all
          by_cases hk1 : k + 1 < L.length
          · have d1 : decide ((k : Int) + 1 < ((bs L).size : Int)) = true := decide_eq_true (by omega)
            obtain ⟨c, hc⟩ : ∃ c, L[k + 1]? = some c := ⟨_, List.getElem?_eq_getElem hk1⟩
            have hjs : k + 1 < (bs L).size := by omega
            have hget : (bs L)[k + 1] = c := by
              obtain ⟨h1, h2⟩ := List.getElem?_eq_some_iff.1 hc
              rw [← h2]
              rfl
            clear hc
            by_cases h61 : c.toNat = 61
            · have e61 : ((c.toNat : Int) == 61) = true := by simp; omega
              clear h61
              go_wp2_with (refine HAT3.out.mono ?_; rintro e w4 ⟨rfl, rfl⟩)
              go_meet
              exact ⟨k + 2, 3, 0, 0, by go_num, by omega, by omega, HKF3.out, HB3.out, Lib.hid ⟨fun _ => by omega, (fun _ h => by cases h), fun hn => (HNO.out hn).elim⟩⟩
            · have e61 : ((c.toNat : Int) == 61) = false := by simp; omega
              clear h61
              go_wp2_with (refine HAT3.out.mono ?_; rintro e w4 ⟨rfl, rfl⟩)
              go_meet
              exact ⟨k + 1, 3, 0, 0, by go_num, by omega, by omega, HKF3.out, HB3.out, Lib.hid ⟨fun _ => by omega, (fun _ h => by cases h), fun hn => (HNO.out hn).elim⟩⟩
          · have d1 : decide ((k : Int) + 1 < ((bs L).size : Int)) = false := decide_eq_false (by omega)
            go_wp2_with (refine HAT3.out.mono ?_; rintro e w4 ⟨rfl, rfl⟩)
            go_meet
            exact ⟨k + 1, 3, 0, 0, by go_num, by omega, by omega, HKF3.out, HB3.out, Lib.hid ⟨fun _ => by omega, (fun _ h => by cases h), fun hn => (HNO.out hn).elim⟩⟩
        · clear hv9
          have hno := fun hn => HN.out.no hlt (by rw [HV.out]; decide) hn
          have HNO := Lib.hid hno
          obtain ⟨z0, z1, z2⟩ := HKF.out.all
          clear hno
          go_upto_region 31 with fail
          have kf3 := HKF.out.set_ 0 (.int .i64 3)
          have hb3 := HB2.out.setCell (p := ⟨q, 0, none⟩) (Nat.le_refl q) (.int .i64 3)
          generalize W2.setCell ⟨q, 0, none⟩ (.int .i64 3) = W3 at *
          have hT3 : TokAt W3 bt bc ba (bs L) := by
            have hQ := HQ.out
            subst hQ
            exact (KpT.of_below hb3).tok HT.out
          have hat3 := HATG.out W3 hb3 k hk
          rw [HV.out] at hat3
          have b03 : W3.cell? ⟨bt, 0, none⟩ = some (.string (bs L)) := hT3.txt.cell 0
          have b13 : W3.cell? ⟨ba, 0, none⟩ = some (.func (.func 121) #[] #[.pointer (some ⟨bt, 0, none⟩), .pointer (some ⟨bc, 0, none⟩)]) := hT3.at_.cell 0
          have HAT3 := Lib.hid hat3
          have HKF3 := Lib.hid kf3
          have HB3 := Lib.hid hb3
          clear hT3 hat3 kf3 hb3 z0 z1 z2 b0' b1'
          obtain ⟨z0, z1, z2⟩ := HKF3.out.all
          by_cases hk1 : k + 1 < L.length
          · have d1 : decide ((k : Int) + 1 < ((bs L).size : Int)) = true := decide_eq_true (by omega)
            obtain ⟨c, hc⟩ : ∃ c, L[k + 1]? = some c := ⟨_, List.getElem?_eq_getElem hk1⟩
            have hjs : k + 1 < (bs L).size := by omega
            have hget : (bs L)[k + 1] = c := by
              obtain ⟨h1, h2⟩ := List.getElem?_eq_some_iff.1 hc
              rw [← h2]
              rfl
            clear hc
            by_cases h61 : c.toNat = 61
            · have e61 : ((c.toNat : Int) == 61) = true := by simp; omega
              clear h61
              go_wp2_with (refine HAT3.out.mono ?_; rintro e w4 ⟨rfl, rfl⟩)
              go_meet
              exact ⟨k + 2, 3, 0, 0, by go_num, by omega, by omega, HKF3.out, HB3.out, Lib.hid ⟨fun _ => by omega, (fun _ h => by cases h), fun hn => (HNO.out hn).elim⟩⟩
            · have e61 : ((c.toNat : Int) == 61) = false := by simp; omega
              clear h61
              go_wp2_with (refine HAT3.out.mono ?_; rintro e w4 ⟨rfl, rfl⟩)
              go_meet
              exact ⟨k + 1, 3, 0, 3, by go_num, by omega, by omega, HKF3.out.set_ 4 _, HB3.out.setCell (p := ⟨q, 4, none⟩) (Nat.le_refl q) _, Lib.hid ⟨(fun h => by cases h), (fun h => by cases h), fun hn => (HNO.out hn).elim⟩⟩
          · have d1 : decide ((k : Int) + 1 < ((bs L).size : Int)) = false := decide_eq_false (by omega)
            go_wp2_with (refine HAT3.out.mono ?_; rintro e w4 ⟨rfl, rfl⟩)
            go_meet
            exact ⟨k + 1, 3, 0, 3, by go_num, by omega, by omega, HKF3.out.set_ 4 _, HB3.out.setCell (p := ⟨q, 4, none⟩) (Nat.le_refl q) _, Lib.hid ⟨(fun h => by cases h), (fun h => by cases h), fun hn => (HNO.out hn).elim⟩⟩
      case rest =>
        obtain ⟨j, kd, n, er, rfl, hkj, hj, kf3, hb3, HF⟩ := hcut
        clear b0' b1' hv9
        have b03 : wc.cell? ⟨bt, 0, none⟩ = some (.string (bs L)) := by
          have hQ := HQ.out
          subst hQ
          exact ((KpT.of_below hb3).tok HT.out).txt.cell 0
        have hs1 := sl_mid L k j hkj hj
        have HKF3 := Lib.hid kf3
        have HB3 := Lib.hid hb3
        clear kf3 hb3
        obtain ⟨z0, z1, z2⟩ := HKF3.out.all
        go_upto_region 38 with fail
        have kf5 := HKF3.out.set_ 1 (.string (bs ((L.drop k).take (j - k))))
        have hb5 := HB3.out.setCell (p := ⟨q, 1, none⟩) (Nat.le_refl q) (.string (bs ((L.drop k).take (j - k))))
        generalize wc.setCell ⟨q, 1, none⟩ (.string (bs ((L.drop k).take (j - k)))) = W5 at *
        obtain ⟨hJ5, hK5⟩ := HJUMP.out W5 hb5
        have hP : er = 0 → kd = 1 → nmB (bs ((L.drop k).take (j - k))).data.toList = true := HF.out.2.1
        obtain ⟨fn, tmps, assign, body, hy, hR⟩ := HY.out pre ⟨(kd, bs ((L.drop k).take (j - k)), n, (k : Int), er), hP⟩ W5 hJ5 (by omega)
        have hnms : nmB L = true → er = 0 ∧ (pre ++ [(⟨(kd, bs ((L.drop k).take (j - k)), n, (k : Int), er), hP⟩ : FdT)]).map (·.1) = [nmTok L] := fun hn => by
          obtain ⟨h1, h2, h3, h4⟩ := HF.out.2.2 hn
          refine ⟨h4, ?_⟩
          have hk0 : k = 0 ∧ pre = [] := by
            rcases HN.out hn with h | ⟨h, _⟩
            · exact h
            · omega
          obtain ⟨rfl, rfl⟩ := hk0
          subst h1 h2 h3 h4
          simp [nmTok]
        generalize hx : (⟨(kd, bs ((L.drop k).take (j - k)), n, (k : Int), er), hP⟩ : FdT) = x at *
        dsimp only [encF] at hy
        have hxx : x.1 = (kd, bs ((L.drop k).take (j - k)), n, (k : Int), er) := by rw [← hx]
        rw [hxx] at hy
        generalize bs ((L.drop k).take (j - k)) = sub at *
        have HKF5 := Lib.hid kf5
        have HNMS := Lib.hid hnms
        have HK5 := Lib.hid hK5
        clear z0 z1 z2 hs1 b03 kf5 hb5 hnms hK5 hJ5 hx hxx hP
        obtain ⟨z0, z1, z2⟩ := HKF5.out.all
        refine (wpIn_wide (n := m)).1 ?_
        gi_wp2
        refine hR.mono ?_
        rintro e W6 (⟨rfl, hJ6, hk6⟩ | ⟨rfl, hJ6⟩)
        · have kf6 := hk6.2 _ _ _ (.inr (.inr (.inr rfl))) HKF5.out
          have HJ6 := Lib.hid hJ6
          have HK6 := Lib.hid hk6
          clear hJ6 hk6
          obtain ⟨y0, y1, y2⟩ := kf6.all
          by_cases her : er = 0
          · have e0 : (er != 0) = false := by simpa using her
            have HER := Lib.hid her
            clear her
            gi_wp2
            go_wp2
            have hkj2 := HF.out.1 HER.out
            go_roundw
            case rel => exact ⟨j, pre ++ [x], hj, by simp; omega, rfl, HJ6.out, HK5.out.trans HK6.out, Lib.hid fun hn => .inr ⟨(HF.out.2.2 hn).1, (HNMS.out hn).2⟩⟩
            case measure => simp [intOf]; omega
          · have e0 : (er != 0) = true := by simpa using her
            have HER := Lib.hid her
            clear her
            gi_wp2
            go_wp2
            rw [Exit.noGoto_ret]
            exact bodyPost_ret (results_none rfl _ _ _) rfl ⟨⟨_, rfl⟩, .inl ⟨pre ++ [x], fun hn => absurd (HNMS.out hn).1 HER.out, HJ6.out⟩⟩
        · have HJ6 := Lib.hid hJ6
          clear hJ6
          gi_wp2
          go_wp2
          rw [Exit.noGoto_ret]
          exact bodyPost_ret (results_none rfl _ _ _) rfl ⟨⟨_, rfl⟩, .inr ⟨pre ++ [x], fun hn => (HNMS.out hn).2, HJ6.out⟩⟩
    · obtain rfl : k = L.length := by omega
      have d0 : decide ((L.length : Int) < ((bs L).size : Int)) = false := decide_eq_false (by omega)
      go_wp2
      rw [Exit.noGoto_normal]
      go_end0
      refine ⟨⟨_, rfl⟩, .inl ⟨pre, fun hn => ?_, HJS.out⟩⟩
      rcases HN.out hn with ⟨h1, _⟩ | ⟨_, h2⟩
      · have := (nmB_cls.1 hn).1
        rw [atV_none (by omega)] at this
        cases this
      · exact h2
end Go.Proofs.YtebdkmlganalaaaGreatDoor
