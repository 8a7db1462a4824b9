/- What New and Read of package disk do. -/
import Derived.Test.YtfjejfgdnjnflaaGreatDoorDe
namespace Go.Proofs.YtfjejfgdnjnflaaGreatDoor
open Go.RowKit

theorem Tryz.infoByte : (Tryz.prog.info? 5).map (fun i => (i.zero, i.size, i.bytes)) = some (some (.int .u8 0), 1, 1) := by kernel_rfl

theorem bc_zero (n : Nat) : bc (List.replicate n 0) = List.replicate n (Value.int .u8 0) := by simp [bc]

set_option maxRecDepth 100000 in
set_option maxHeartbeats 400000 in
theorem new_no (w : World) (n : Int) (h : n < 1 ∨ 4000 < n) : Calls Tryz.prog 8 #[.int .i64 n] w fun e w' => e = .returned (.pointer none) ∧ w = w' := by
  by_cases h1 : n < 1
  · clear h
    go_enter Tryz.func8, Tryz.ntmps8
    go_wp2
    go_ret
    exact ⟨rfl, rfl⟩
  · have h2 : 4000 < n := by omega
    clear h
    go_enter Tryz.func8, Tryz.ntmps8
    go_wp2
    go_ret
    exact ⟨rfl, rfl⟩

theorem disk_new {w w' : World} {n b1 b2 a : Nat} (h1 : 1 ≤ n) (h2 : n ≤ 4000) (hne : b1 ≠ b2) (k1 : Blk w' b1 5 (Array.replicate (64 * n) (Value.int .u8 0))) (k2 : Blk w' b2 5 (Array.replicate (64 * n) (Value.int .u8 0)))
    (hm : Blk w' a 73 #[.slice (some ⟨b1, 0, none⟩) (64 * n) (64 * n), .slice (some ⟨b2, 0, none⟩) (64 * n) (64 * n), .slice none 0 0, .bool false, .pointer none])
    (hb1 : w.heap.size ≤ b1) (hb2 : w.heap.size ≤ b2) (ha : w.heap.size ≤ a) : DiskAt w' a (Dk.new n) (fun i => w.heap.size ≤ i ∧ i < w'.heap.size) :=
  ⟨b1, b2, .slice none 0 0, none, {
    ok := ⟨h1, h2, by simp [Dk.new], by simp [Dk.new], fun p hp => (by cases hp), fun x hx => (by cases hx)⟩
    main := hm
    st := by show Blk w' b1 _ (bc (List.replicate (64 * n) 0)).toArray; rw [bc_zero]; simpa using k1
    el := by show Blk w' b2 _ (bc (List.replicate (64 * n) 0)).toArray; rw [bc_zero]; simpa using k2
    ne := hne
    q := World.ownsRow_nil _ _ _ _
    qlen := Nat.zero_le _
    arm0 := fun _ => rfl
    arm1 := fun g hg => by cases hg
    fa := ⟨ha, hm.lt⟩
    f1 := ⟨hb1, k1.lt⟩
    f2 := ⟨hb2, k2.lt⟩
    fq := fun g hg => by cases hg
    fg := fun g hg => by cases hg
    fl := fun i hi => hi.2 }⟩

set_option maxRecDepth 100000 in
set_option maxHeartbeats 800000 in
theorem new_yes (w : World) (n : Nat) (h1 : 1 ≤ n) (h2 : n ≤ 4000) : Calls Tryz.prog 8 #[.int .i64 (n : Int)] w fun e w' =>
    ∃ a, e = .returned (.pointer (some ⟨a, 0, none⟩)) ∧ Below w.heap.size w w' ∧ w.heap.size ≤ a ∧ DiskAt w' a (Dk.new n) (fun i => w.heap.size ≤ i ∧ i < w'.heap.size) := by
  have h1' : (1 : Int) ≤ n := by omega
  have h2' : (n : Int) ≤ 4000 := by omega
  have hw1 : IntKind.i64.wrap ((n : Int) * 64) = (n : Int) * 64 := IntWalk.i64_in _ (by omega)
  have mk := run_make_one (P := Tryz.prog) 56 5 (.int .u8 0) 1 (by kernel_rfl) Tryz.infoByte rfl ((n : Int) * 64) (64 * n) (by omega) (by omega) (by omega)
  go_enter Tryz.func8, Tryz.ntmps8
  go_wp2
  go_region
  all_goals go_wp2
  all_goals go_ret
  · refine ⟨_, rfl, ((((Below.refl _ w).alloc (Nat.le_refl _) _).alloc (by simp) _).alloc (by simp; omega) _).drew, by omega, disk_new h1 h2 (b1 := w.heap.size) (b2 := w.heap.size + 1) (by omega) (((Blk.new w _ _).alloc _).alloc _).drew ((Blk.new1 w _ _ _).alloc _).drew (Blk.new2 w _ _ _ _).drew (Nat.le_refl _) (by omega) (by omega)⟩
  · refine ⟨_, rfl, ((((Below.refl _ w).alloc (Nat.le_refl _) _).alloc (by simp) _).alloc (by simp; omega) _).drew, by omega, disk_new h1 h2 (b1 := w.heap.size + 1) (b2 := w.heap.size) (by omega) ((Blk.new1 w _ _ _).alloc _).drew (((Blk.new w _ _).alloc _).alloc _).drew (Blk.new2 w _ _ _ _).drew (by omega) (Nat.le_refl _) (by omega)⟩

theorem lastOf_snoc (q : List (Nat × ByteArray)) (x : Nat × ByteArray) (i : Nat) : lastOf (q ++ [x]) i = if x.1 = i then some x.2 else lastOf q i := by
  unfold lastOf
  rw [List.reverse_append]
  simp only [List.reverse_cons, List.reverse_nil, List.nil_append, List.singleton_append, List.find?_cons]
  by_cases hx : x.1 = i
  · simp [hx]
  · simp only [beq_eq_false_iff_ne.2 hx, if_neg hx]
theorem lastOf_none (q : List (Nat × ByteArray)) (i : Nat) (h : ∀ (j : Nat) (p : Nat × ByteArray), q[j]? = some p → p.1 ≠ i) : lastOf q i = none := by
  unfold lastOf
  rw [Option.map_eq_none_iff, List.find?_eq_none]
  intro x hx
  obtain ⟨j, hj⟩ := List.mem_iff_getElem?.1 (List.mem_reverse.1 hx)
  simpa using h j x hj
theorem lastOf_app (q r : List (Nat × ByteArray)) (i : Nat) (h : ∀ p ∈ r, p.1 ≠ i) : lastOf (q ++ r) i = lastOf q i := by
  unfold lastOf
  rw [List.reverse_append, List.find?_append]
  have : r.reverse.find? (fun p => p.1 == i) = none := by
    rw [List.find?_eq_none]
    intro x hx
    simpa using h x (List.mem_reverse.1 hx)
  rw [this]
  rfl
theorem lastOf_some (q : List (Nat × ByteArray)) (i k : Nat) (t : ByteArray) (hk : q[k]? = some (i, t)) (h : ∀ (j : Nat) (p : Nat × ByteArray), k < j → q[j]? = some p → p.1 ≠ i) : lastOf q i = some t := by
  have hlt : k < q.length := (List.getElem?_eq_some_iff.1 hk).1
  have e : q = q.take (k + 1) ++ q.drop (k + 1) := (List.take_append_drop _ _).symm
  rw [e, lastOf_app _ _ _ (fun p hp => by
    obtain ⟨j, hj⟩ := List.mem_iff_getElem?.1 hp
    rw [List.getElem?_drop] at hj
    exact h _ p (by omega) hj)]
  rw [List.take_succ_eq_append_getElem hlt, lastOf_snoc]
  have : q[k] = (i, t) := by rw [List.getElem?_eq_getElem hlt] at hk; exact Option.some.inj hk
  rw [this]
  simp
section
variable {w : World} {a b1 b2 : Nat} {qv : Value} {ga : Option Nat} {d : Dk} {F : Foot}

set_option maxRecDepth 100000 in
set_option maxHeartbeats 400000 in
theorem read_nil (w : World) (s : Int) :
    Calls Tryz.prog 31 #[.pointer none, .int .i64 s] w fun e w' => e = .returned (.tuple #[.string ⟨#[]⟩, .int .i64 1]) ∧ Below w.heap.size w w' := by
  go_enter Tryz.func31, Tryz.ntmps31
  go_wp2_with fail
  refine (at_nil _ s).mono ?_
  rintro e w1 ⟨rfl, hb⟩
  go_wp2
  go_ret2
  exact ⟨rfl, hb.alloc hb.size _⟩

set_option maxRecDepth 100000 in
set_option maxHeartbeats 400000 in
theorem read_off (h : DiskAt' w a b1 b2 qv ga d F) (ho : d.off = true) (s : Int) :
    Calls Tryz.prog 31 #[.pointer (some ⟨a, 0, none⟩), .int .i64 s] w fun e w' => e = .returned (.tuple #[.string ⟨#[]⟩, .int .i64 25]) ∧ Below w.heap.size w w' := by
  go_enter Tryz.func31, Tryz.ntmps31
  go_wp2_with fail
  refine (at_off h ho s).mono ?_
  rintro e w1 ⟨rfl, hb⟩
  go_wp2
  go_ret2
  exact ⟨rfl, hb.alloc hb.size _⟩

set_option maxRecDepth 100000 in
set_option maxHeartbeats 400000 in
theorem read_no (h : DiskAt' w a b1 b2 qv ga d F) (ho : d.off = false) (s : Int) (hs : d.has s = false) :
    Calls Tryz.prog 31 #[.pointer (some ⟨a, 0, none⟩), .int .i64 s] w fun e w' => e = .returned (.tuple #[.string ⟨#[]⟩, .int .i64 1]) ∧ Below w.heap.size w w' := by
  go_enter Tryz.func31, Tryz.ntmps31
  go_wp2_with fail
  refine (at_no h ho s hs).mono ?_
  rintro e w1 ⟨rfl, hb⟩
  go_wp2
  go_ret2
  exact ⟨rfl, hb.alloc hb.size _⟩

set_option maxRecDepth 100000 in
set_option maxHeartbeats 800000 in
theorem read_yes (h : DiskAt' w a b1 b2 qv ga d F) (ho : d.off = false) (i : Nat) (hi : i < d.n) :
    Calls Tryz.prog 31 #[.pointer (some ⟨a, 0, none⟩), .int .i64 (i : Int)] w fun e w' => e = .returned (.tuple #[.string (d.view i), .int .i64 0]) ∧ Below w.heap.size w w' := by
  have hn := h.ok.n2
  have hst := h.ok.st
  have hql := h.qlen
  obtain ⟨A, c, rfl, hqc⟩ := h.form
  go_enter Tryz.func31, Tryz.ntmps31
  go_wp2_with fail
  refine (at_yes h ho i hi).mono ?_
  rintro e w1 ⟨rfl, hb⟩
  have h1 := h.keep (Only.of_below hb (fun _ => False)) (by simp)
  obtain ⟨c1, f1, l1⟩ := h1.main.all
  have h2 := h1.keep ((Only.refl (fun _ => False) w1).alloc (.cells #[.int .i64 (64 * (i : Int)), .int .i64 (64 * (i : Int) + 64)] 87)) (by simp)
  have hbox := Blk.new w1 87 #[.int .i64 (64 * (i : Int)), .int .i64 (64 * (i : Int) + 64)]
  have hb2 := hb.alloc hb.size (.cells #[.int .i64 (64 * (i : Int)), .int .i64 (64 * (i : Int) + 64)] 87)
  go_wp2_with fail
  go_loopw [8] (fun v wr => ∃ k : Nat, k ≤ d.q.length ∧ v = .int .i64 ((k : Int) - 1) ∧ (∀ (j : Nat) (p : Nat × ByteArray), k ≤ j → d.q[j]? = some p → p.1 ≠ i) ∧ Only (fun _ => False) (w1.alloc (.cells #[.int .i64 (64 * (i : Int)), .int .i64 (64 * (i : Int) + 64)] 87)) wr) (fun v _ => (intOf v + 1).toNat)
  case atStart => exact ⟨d.q.length, Nat.le_refl _, rfl, fun j p hj hp => absurd (List.getElem?_eq_some_iff.1 hp).1 (by omega), Only.refl _ _⟩
  case round =>
    obtain ⟨k, hk, rfl, hall, hO⟩ := hrel
    have hD := h2.keep hO (by simp)
    have hX := hO.blk hbox (by simp)
    have hB : Below w.heap.size w wr := hb2.trans (hO.below (by have := hb2.size; omega) (by simp))
    have HA := Lib.hid hall
    clear hall h1 h2 hb2 hbox c1 f1 l1
    obtain ⟨c1, f1, l1⟩ := hD.main.all
    obtain ⟨x1, x2, x3⟩ := hX.all
    rcases Nat.eq_zero_or_pos k with h0 | h0
    · subst h0
      have sl : ∀ (g : Nat) (W : World), (Instr.slice 56 (.slice (some ⟨g, 0, none⟩) (64 * d.n) (64 * d.n)) (some (.int .i64 (64 * (i : Int)))) (some (.int .i64 (64 * (i : Int) + 64))) none).run Tryz.prog W =
          .ok (.slice (some ⟨g, 64 * i, none⟩) 64 (64 * d.n - 64 * i)) W := fun g W => by
        have := run_slice_in (P := Tryz.prog) 56 5 (by kernel_rfl) (by kernel_rfl) g 0 (64 * d.n) (64 * d.n) (64 * (i : Int)) (64 * (i : Int) + 64) (64 * i) (64 * i + 64) (by omega) (by omega) (by omega) (by omega) (by omega) W
        simpa using this
      have cv := run_string_of_blk (P := Tryz.prog) wr.drew 56 9 5 b1 5 (by kernel_rfl) (by kernel_rfl) (by kernel_rfl) (64 * i) 64 (64 * d.n - 64 * i) d.st hD.st.drew (by omega)
      have em : (((0 : Nat) : Int) - 1) = (-1 : Int) := by omega
      rw [em]
      clear em
      go_wp2
      refine wp_region_tail 8 (by kernel_rfl) (by kernel_rfl) ?_
      simp only [List.take_succ_cons, List.take_zero, List.drop_succ_cons, List.drop_zero]
      repeat still_step
      refine wpStill_nil ?_
      go_wp2
      go_ret2
      refine ⟨?_, hB.drew⟩
      have : d.view i = ⟨((d.st.drop (64 * i)).take 64).toArray⟩ := by
        unfold Dk.view
        rw [lastOf_none d.q i (fun j p hj => HA.out j p (Nat.zero_le _) hj)]
        rfl
      rw [this]
      rfl
    · obtain ⟨m, rfl⟩ : ∃ m, k = m + 1 := ⟨k - 1, by omega⟩
      obtain ⟨p, hp⟩ : ∃ p, d.q[m]? = some p := ⟨_, List.getElem?_eq_getElem (by omega)⟩
      obtain ⟨g, c0, hqv, e1, e2, e3⟩ := hD.qat m p hp
      injection hqv with hA hB1 hB2
      subst hA
      clear hB1 hB2
      have HP := Lib.hid hp
      clear hp
      obtain ⟨s, t⟩ := p
      have em : (((m + 1 : Nat) : Int) - 1) = (m : Int) := by omega
      rw [em]
      clear em
      have m0 : (0 : Int) ≤ (m : Int) := by omega
      have m1 : (m : Int) < (d.q.length : Int) := by omega
      by_cases hs : s = i
      · have t1 : ((64 * (s : Int)) == (64 * (i : Int))) = true := by simp; omega
        have HS := Lib.hid hs
        clear hs
        go_wp2
        refine wp_region_tail 11 (by kernel_rfl) (by kernel_rfl) ?_
        simp only [List.take_succ_cons, List.take_zero, List.drop_succ_cons, List.drop_zero]
        repeat still_step
        refine wpStill_nil ?_
        go_wp2
        go_ret2
        refine ⟨?_, hB.drew⟩
        have : d.view i = t := by
          unfold Dk.view
          rw [lastOf_some d.q i m t (by rw [← HS.out]; exact HP.out) (fun j p hj hp => HA.out j p hj hp)]
          rfl
        rw [this]
        rfl
      · have t1 : ((64 * (s : Int)) == (64 * (i : Int))) = false := by simp; omega
        have HS := Lib.hid hs
        clear hs
        go_wp2
        refine wp_region_tail 11 (by kernel_rfl) (by kernel_rfl) ?_
        simp only [List.take_succ_cons, List.take_zero, List.drop_succ_cons, List.drop_zero]
        repeat still_step
        refine wpStill_nil ?_
        go_wp2
        go_roundw
        case rel =>
          refine ⟨m, by omega, rfl, fun j p hj hp => ?_, hO.drew⟩
          rcases Nat.eq_or_lt_of_le hj with rfl | hj'
          · rw [HP.out] at hp
            injection hp with hp
            rw [← hp]
            exact HS.out
          · exact HA.out j p hj' hp
        case measure => simp [intOf]
end
end Go.Proofs.YtfjejfgdnjnflaaGreatDoor
