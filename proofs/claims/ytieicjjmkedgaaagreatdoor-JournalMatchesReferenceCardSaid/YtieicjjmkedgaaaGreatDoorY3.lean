/- Part 3 of what the laws of this seat stand on: De, Df, Dg, Jl, Je, Bu, Jg, Jm. -/
import Derived.Test.YtieicjjmkedgaaaGreatDoorY2
import Derived.Lib.SmallJoins
import Derived.Lib.AppendIntMem
import Derived.WalkSpells
import Derived.Maps.AppendAt

/- What Sync, Read, Start, Arm, Rot, Stale and New of package disk do to a disk in memory. -/
namespace Go.Proofs.YtieicjjmkedgaaaGreatDoor
open Go.RowKit

theorem Dk.count_err (d : Dk) : d.count.2 = 0 ∨ d.count.2 = 25 := by
  unfold Dk.count
  split
  · exact .inl rfl
  · split
    · exact .inl rfl
    · exact .inr rfl

section
variable {w : World} {a b1 b2 : Nat} {qv : Value} {ga : Option Nat} {d : Dk} {F : Foot}

set_option maxRecDepth 100000 in
set_option maxHeartbeats 400000 in
theorem sync_nil (w : World) : Calls Tryz.prog 75 #[.pointer none] w fun e w' => e = .returned (.int .i64 1) ∧ w = w' := by
  go_enter Tryz.func75, Tryz.ntmps75
  go_wp2
  go_ret
  exact ⟨rfl, rfl⟩

set_option maxRecDepth 100000 in
set_option maxHeartbeats 400000 in
theorem sync_off (h : DiskAt' w a b1 b2 qv ga d F) (ho : d.off = true) : Calls Tryz.prog 75 #[.pointer (some ⟨a, 0, none⟩)] w fun e w' => e = .returned (.int .i64 25) ∧ w = w' := by
  obtain ⟨c0, f0, hlt⟩ := h.main.all
  simp only [ho] at c0
  clear ho
  go_enter Tryz.func75, Tryz.ntmps75
  go_wp2
  go_ret
  exact ⟨rfl, rfl⟩

set_option maxRecDepth 100000 in
set_option maxHeartbeats 400000 in
theorem sync_on (h : DiskAt' w a b1 b2 qv ga d F) (ho : d.off = false) : Calls Tryz.prog 75 #[.pointer (some ⟨a, 0, none⟩)] w fun e w' =>
    e = .returned (.int .i64 d.sync.2) ∧ Only F w w' ∧ DiskAt w' a d.sync.1 F := by
  obtain ⟨c0, f0, hlt⟩ := h.main.all
  simp only [ho] at c0
  have HO := Lib.hid ho
  clear ho
  rcases d.count_err with hc | hc
  · have hs : d.sync = ({ d.count.1.settle d.count.1.q with q := [] }, 0) := by unfold Dk.sync; rw [HO.out]; simp [hc]
    rw [hs]
    have HC := Lib.hid hc
    clear hc hs
    go_enter Tryz.func75, Tryz.ntmps75
    go_wp2_with fail
    refine (count_some h HO.out).mono ?_
    rintro e w1 ⟨rfl, o1, b1', b2', qv', ga', h1⟩
    rw [HC.out]
    obtain ⟨A, c, rfl, hqc⟩ := h1.form
    obtain ⟨c1, f1, l1⟩ := h1.main.all
    clear c0 f0
    go_wp2_with fail
    refine (settle_any h1 A _ c _ c rfl (Nat.le_refl _)).mono ?_
    rintro e w2 ⟨rfl, o2, h2⟩
    obtain ⟨c2, f2, l2⟩ := h2.main.all
    clear c1 f1
    go_wp2
    go_ret
    rw [List.take_length] at h2
    have o3 : Only (fun i => i = a) w2 (w2.setCell ⟨a, 2, none⟩ (.slice none 0 0)) := (Only.refl (fun i => i = a) w2).setCell (p := ⟨a, 2, none⟩) (.inl rfl) _
    refine ⟨rfl, (o1.trans o2 (fun i hi => .inl hi)).trans o3 (fun i hi => .inl (by rw [hi]; exact h.fa)), _, _, _, _, h2.flags o3 _ _ _ _ _ (.inr ⟨rfl, rfl⟩) (.inl ⟨rfl, rfl⟩) (by simpa using h2.main.set_ 2 (.slice none 0 0))⟩
  · have hs : d.sync = d.count := by unfold Dk.sync; rw [HO.out]; simp [hc]
    rw [hs]
    have hb : (d.count.2 != 0) = true := by rw [hc]; rfl
    clear hc hs
    go_enter Tryz.func75, Tryz.ntmps75
    go_wp2_with fail
    refine (count_some h HO.out).mono ?_
    rintro e w1 ⟨rfl, o1, h1⟩
    go_wp2
    go_ret
    exact ⟨rfl, o1, h1⟩

set_option maxRecDepth 100000 in
set_option maxHeartbeats 400000 in
theorem start_any (h : DiskAt' w a b1 b2 qv ga d F) : Calls Tryz.prog 17 #[.pointer (some ⟨a, 0, none⟩)] w fun e w' =>
    e = .returned (.tuple #[]) ∧ Only F w w' ∧ DiskAt w' a d.start F := by
  obtain ⟨c0, f0, hlt⟩ := h.main.all
  go_enter Tryz.func17, Tryz.ntmps17
  go_wp2
  go_end0
  have o3 : Only (fun i => i = a) w ((w.setCell ⟨a, 3, none⟩ (.bool false)).setCell ⟨a, 4, none⟩ (.pointer none)) := ((Only.refl (fun i => i = a) w).setCell (p := ⟨a, 3, none⟩) (.inl rfl) _).setCell (p := ⟨a, 4, none⟩) (.inl rfl) _
  exact ⟨rfl, o3.mono (fun i hi => by rw [hi]; exact h.fa), _, _, _, _, h.flags o3 false _ _ none _ (.inl ⟨rfl, rfl⟩) (.inr ⟨rfl, rfl⟩) (by simpa [armV] using (h.main.set_ 3 (.bool false)).set_ 4 (.pointer none))⟩

set_option maxRecDepth 100000 in
set_option maxHeartbeats 400000 in
theorem start_nil (w : World) : Calls Tryz.prog 17 #[.pointer none] w fun e w' => e = .returned (.tuple #[]) ∧ w = w' := by
  go_enter Tryz.func17, Tryz.ntmps17
  go_wp2
  go_end0
  exact ⟨rfl, rfl⟩

set_option maxRecDepth 100000 in
set_option maxHeartbeats 400000 in
theorem arm_nil (w : World) (x y z : Int) : Calls Tryz.prog 19 #[.pointer none, .int .i64 x, .int .i64 y, .int .i64 z] w fun e w' => e = .returned (.tuple #[]) ∧ w = w' := by
  go_enter Tryz.func19, Tryz.ntmps19
  go_wp2
  refine bodyPost_ret (results_none rfl _ _ _) rfl ?_
  exact ⟨rfl, rfl⟩

set_option maxRecDepth 100000 in
set_option maxHeartbeats 400000 in
theorem arm_off (h : DiskAt' w a b1 b2 qv ga d F) (ho : d.off = true) (x y z : Int) : Calls Tryz.prog 19 #[.pointer (some ⟨a, 0, none⟩), .int .i64 x, .int .i64 y, .int .i64 z] w fun e w' => e = .returned (.tuple #[]) ∧ w = w' := by
  obtain ⟨c0, f0, hlt⟩ := h.main.all
  simp only [ho] at c0
  clear ho
  go_enter Tryz.func19, Tryz.ntmps19
  go_wp2
  refine bodyPost_ret (results_none rfl _ _ _) rfl ?_
  exact ⟨rfl, rfl⟩

set_option maxRecDepth 100000 in
set_option maxHeartbeats 400000 in
theorem arm_no (h : DiskAt' w a b1 b2 qv ga d F) (ho : d.off = false) (x y z : Int) (hx : x < 0) : Calls Tryz.prog 19 #[.pointer (some ⟨a, 0, none⟩), .int .i64 x, .int .i64 y, .int .i64 z] w fun e w' =>
    e = .returned (.tuple #[]) ∧ Only F w w' ∧ DiskAt w' a (d.doArm x y z) F := by
  obtain ⟨c0, f0, hlt⟩ := h.main.all
  simp only [ho] at c0
  have HO := Lib.hid ho
  clear ho
  go_enter Tryz.func19, Tryz.ntmps19
  go_wp2
  go_end0
  have o3 : Only (fun i => i = a) w (w.setCell ⟨a, 4, none⟩ (.pointer none)) := (Only.refl (fun i => i = a) w).setCell (p := ⟨a, 4, none⟩) (.inl rfl) _
  have hd : d.doArm x y z = { d with arm := none } := by unfold Dk.doArm; rw [HO.out]; simp [show ¬ 0 ≤ x by omega]
  rw [hd]
  exact ⟨rfl, o3.mono (fun i hi => by rw [hi]; exact h.fa), _, _, _, _, h.flags o3 _ _ _ none none (.inl ⟨rfl, rfl⟩) (.inr ⟨rfl, rfl⟩) (by simpa [armV] using h.main.set_ 4 (.pointer none))⟩

theorem DiskAt'.armed {x y z : Int} {w' : World} {g : Nat} (h : DiskAt' w a b1 b2 qv ga d F) (hO : Only (fun i => i = a) w w') (hg : Blk w' g 88 #[.int .i64 x, .int .i64 y, .int .i64 z]) (hx : 0 ≤ x) (hx1 : x ≤ 9223372036854775807)
    (hm : Blk w' a 53 #[.slice (some ⟨b1, 0, none⟩) (64 * d.n) (64 * d.n), .slice (some ⟨b2, 0, none⟩) (64 * d.n) (64 * d.n), qv, .bool d.off, .pointer (some ⟨g, 0, none⟩)]) :
    DiskAt' w' a b1 b2 qv (some g) { d with arm := some (x, y, z) } (fun k => F k ∨ k = g) := by
  have n1 := h.main.ne_ h.st (by decide)
  have n2 := h.main.ne_ h.el (by decide)
  exact {
    ok := ⟨h.ok.n1, h.ok.n2, h.ok.st, h.ok.el, h.ok.q, fun u hu => by injection hu with hu; subst hu; exact ⟨hx, hx1⟩⟩
    main := hm
    st := hO.blk h.st n1.symm
    el := hO.blk h.el n2.symm
    ne := h.ne
    q := hO.owns h.q (fun k hk e => own_blk_ne h.q h.main (by decide) (by rw [hk, e]))
    qlen := h.qlen
    arm0 := fun e => by cases e
    arm1 := fun k hk => by injection hk with hk; subst hk; exact ⟨_, rfl, hg⟩
    fa := .inl h.fa
    f1 := .inl h.f1
    f2 := .inl h.f2
    fq := fun k hk => .inl (h.fq k hk)
    fg := fun k hk => .inr (by injection hk with hk; exact hk.symm)
    fl := fun k hk => by
      rcases hk with hk | rfl
      · exact Nat.lt_of_lt_of_le (h.fl k hk) hO.size
      · exact hg.lt }

set_option maxRecDepth 100000 in
set_option maxHeartbeats 400000 in
theorem arm_yes (h : DiskAt' w a b1 b2 qv ga d F) (ho : d.off = false) (x y z : Int) (hx : 0 ≤ x) (hx1 : x ≤ 9223372036854775807) : Calls Tryz.prog 19 #[.pointer (some ⟨a, 0, none⟩), .int .i64 x, .int .i64 y, .int .i64 z] w fun e w' =>
    e = .returned (.tuple #[]) ∧ ∃ F', Only F' w w' ∧ (∀ k, F' k → F k ∨ w.heap.size ≤ k) ∧ DiskAt w' a (d.doArm x y z) F' := by
  obtain ⟨c0, f0, hlt⟩ := h.main.all
  simp only [ho] at c0
  have HO := Lib.hid ho
  clear ho
  go_enter Tryz.func19, Tryz.ntmps19
  go_wp2
  go_end0
  have hd : d.doArm x y z = { d with arm := some (x, y, z) } := by unfold Dk.doArm; rw [HO.out]; simp [hx]
  rw [hd]
  have o3 : Only (fun i => i = a) w (((w.setCell ⟨a, 4, none⟩ (.pointer none)).setCell ⟨a, 4, none⟩ (.pointer (some ⟨w.heap.size, 0, none⟩))).alloc (.cells #[.int .i64 x, .int .i64 y, .int .i64 z] 88)) :=
    (((Only.refl (fun i => i = a) w).setCell (p := ⟨a, 4, none⟩) (.inl rfl) _).setCell (p := ⟨a, 4, none⟩) (.inl rfl) _).alloc _
  have hb := Blk.new ((w.setCell ⟨a, 4, none⟩ (.pointer none)).setCell ⟨a, 4, none⟩ (.pointer (some ⟨w.heap.size, 0, none⟩))) 88 #[.int .i64 x, .int .i64 y, .int .i64 z]
  have hz : ((w.setCell ⟨a, 4, none⟩ (.pointer none)).setCell ⟨a, 4, none⟩ (.pointer (some ⟨w.heap.size, 0, none⟩))).heap.size = w.heap.size := by simp [World.setCell]
  rw [hz] at hb
  refine ⟨rfl, _, o3.mono (fun i hi => .inl (by rw [hi]; exact h.fa)), ?_, _, _, _, _, h.armed o3 hb hx hx1 (by simpa using ((h.main.set_ 4 (.pointer none)).set_ 4 (.pointer (some ⟨w.heap.size, 0, none⟩))).alloc _)⟩
  rintro k (hk | rfl)
  · exact .inl hk
  · exact .inr (Nat.le_refl _)

set_option maxRecDepth 100000 in
set_option maxHeartbeats 400000 in
theorem rot_nil (w : World) (x y z : Int) : Calls Tryz.prog 21 #[.pointer none, .int .i64 x, .int .i64 y, .int .i64 z] w fun e w' => e = .returned (.tuple #[]) ∧ Below w.heap.size w w' := by
  go_enter Tryz.func21, Tryz.ntmps21
  go_wp2_with fail
  refine (place_nil _ x).mono ?_
  rintro e w1 ⟨rfl, hb⟩
  go_wp2
  go_end0
  exact ⟨rfl, hb.alloc hb.size _⟩

set_option maxRecDepth 100000 in
set_option maxHeartbeats 400000 in
theorem rot_no (h : DiskAt' w a b1 b2 qv ga d F) (x y z : Int) (hx : ¬ (d.has x = true ∧ 0 ≤ y ∧ y < 64 ∧ 0 < z ∧ z < 256)) : Calls Tryz.prog 21 #[.pointer (some ⟨a, 0, none⟩), .int .i64 x, .int .i64 y, .int .i64 z] w fun e w' => e = .returned (.tuple #[]) ∧ Below w.heap.size w w' := by
  by_cases hs : d.has x = true
  · have hs' : 0 ≤ x ∧ x < d.n := by simpa [Dk.has] using hs
    obtain ⟨i, rfl⟩ := Int.eq_ofNat_of_zero_le hs'.1
    have hi : i < d.n := by omega
    have hr : y < 0 ∨ (0 ≤ y ∧ 64 ≤ y) ∨ (0 ≤ y ∧ y < 64 ∧ z ≤ 0) ∨ (0 ≤ y ∧ y < 64 ∧ 0 < z ∧ 256 ≤ z) := by
      simp only [hs, true_and] at hx; omega
    clear hx hs hs'
    rcases hr with hr | ⟨r1, r2⟩ | ⟨r1, r2, r3⟩ | ⟨r1, r2, r3, r4⟩
    all_goals
      go_enter Tryz.func21, Tryz.ntmps21
      go_wp2_with fail
      refine (place_yes h i hi).mono ?_
      rintro e w1 ⟨rfl, hb⟩
      go_wp2
      go_end0
      exact ⟨rfl, hb.alloc hb.size _⟩
  · have HS := Lib.hid hs
    clear hx hs
    go_enter Tryz.func21, Tryz.ntmps21
    go_wp2_with fail
    refine (place_no h x (by simpa using HS.out)).mono ?_
    rintro e w1 ⟨rfl, hb⟩
    go_wp2
    go_end0
    exact ⟨rfl, hb.alloc hb.size _⟩

set_option maxRecDepth 100000 in
set_option maxHeartbeats 400000 in
theorem rot_yes (h : DiskAt' w a b1 b2 qv ga d F) (i k m : Nat) (hi : i < d.n) (hk : k < 64) (h0 : 0 < m) (h1 : m < 256) : Calls Tryz.prog 21 #[.pointer (some ⟨a, 0, none⟩), .int .i64 (i : Int), .int .i64 (k : Int), .int .i64 (m : Int)] w fun e w' =>
    e = .returned (.tuple #[]) ∧ Only F w w' ∧ DiskAt w' a (d.rot i k m) F := by
  have hn := h.ok.n2
  have hst := h.ok.st
  have hk' : (k : Int) < 64 := by omega
  have h0' : (0 : Int) < m := by omega
  have h1' : (m : Int) < 256 := by omega
  have hi' : (i : Int) < d.n := by omega
  go_enter Tryz.func21, Tryz.ntmps21
  go_wp2_with fail
  refine (place_yes h i hi).mono ?_
  rintro e w1 ⟨rfl, hb⟩
  have h1 := h.keep (Only.of_below hb (fun _ => False)) (by simp)
  obtain ⟨c1, f1, l1⟩ := h1.main.all
  obtain ⟨c2, f2, l2⟩ := h1.st.all
  obtain ⟨u, hu⟩ : ∃ u : UInt8, d.st[64 * i + k]? = some u := ⟨_, List.getElem?_eq_getElem (by omega)⟩
  have hc : w1.cell? ⟨b1, 64 * i + k, none⟩ = some (.int .u8 (u.toNat : Int)) := by rw [c2]; simp [bc_at, hu]
  clear c2
  have hw1 : IntKind.i64.wrap (64 * (i : Int) + (k : Int)) = 64 * (i : Int) + (k : Int) := IntWalk.i64_in _ (by omega)
  have hw2 : IntKind.u8.wrap (m : Int) = (m : Int) := IntWalk.u8_in _ (by omega)
  have hw3 : (64 * (i : Int) + (k : Int)).toNat = 64 * i + k := by omega
  have hw4 : (0 : Int) ≤ 64 * (i : Int) + (k : Int) := by omega
  have hw5 : 64 * (i : Int) + (k : Int) < 64 * (d.n : Int) := by omega
  go_wp2
  refine wp_region_tail 12 (by kernel_rfl) (by kernel_rfl) ?_
  simp only [List.take_succ_cons, List.take_zero, List.drop_succ_cons, List.drop_zero]
  repeat still_step
  refine wpStill_nil ?_
  go_wp2
  go_end0
  have e1 : 64 * i + k < d.st.length := by omega
  have hx : d.rot i k m = { d with st := d.st.set (64 * i + k) (u ^^^ UInt8.ofNat m) } := by
    have hh : d.has (i : Int) = true := by simp [Dk.has]; omega
    unfold Dk.rot
    rw [if_pos ⟨hh, by omega, hk', h0', h1'⟩]
    have : d.st.getD (64 * i + k) 0 = u := by simp [List.getD, hu]
    simp only [Int.toNat_natCast, this]
  rw [hx]
  have hbit : Value.int .u8 (bits BinOp.xor IntKind.u8 (u.toNat : Int) (m : Int)) = .int .u8 ((u ^^^ UInt8.ofNat m).toNat : Int) := by
    rw [u8_xor_nat u.toNat m u.toNat_lt (by omega)]
    congr 2
    rw [UInt8.toNat_xor, UInt8.toNat_ofNat_of_lt' (by omega)]
  rw [hbit]
  have o3 : Only (fun j => j = b1 ∨ j = b2) w ((w1.setCell ⟨b1, 64 * i + k, none⟩ (.int .u8 ((u ^^^ UInt8.ofNat m).toNat : Int))).alloc (.cells #[.int .i64 (64 * (i : Int)), .int .i64 (64 * (i : Int) + 64)] 80)).drew :=
    (((Only.of_below hb (fun j => j = b1 ∨ j = b2)).setCell (p := ⟨b1, 64 * i + k, none⟩) (.inl (.inl rfl)) _).alloc _).drew
  refine ⟨rfl, o3.mono (by rintro j (rfl | rfl); exact h.f1; exact h.f2), _, _, _, _, h.upd o3 ⟨h.ok.n1, h.ok.n2, (by simpa using h.ok.st), h.ok.el, h.ok.q, h.ok.arm⟩ ?_ ?_ rfl rfl rfl rfl⟩
  · have := ((h1.st.set_ (64 * i + k) (.int .u8 ((u ^^^ UInt8.ofNat m).toNat : Int))).alloc (.cells #[.int .i64 (64 * (i : Int)), .int .i64 (64 * (i : Int) + 64)] 80)).drew
    have e : (bc d.st).toArray.setIfInBounds (64 * i + k) (.int .u8 ((u ^^^ UInt8.ofNat m).toNat : Int)) = (bc (d.st.set (64 * i + k) (u ^^^ UInt8.ofNat m))).toArray := by simp [bc]
    rw [e] at this
    exact this
  · exact ((h1.el.far (p := ⟨b1, 64 * i + k, none⟩) h1.ne.symm _).alloc _).drew

set_option maxRecDepth 100000 in
set_option maxHeartbeats 400000 in
theorem stale_nil (w : World) (x : Int) : Calls Tryz.prog 23 #[.pointer none, .int .i64 x] w fun e w' => e = .returned (.tuple #[]) ∧ Below w.heap.size w w' := by
  go_enter Tryz.func23, Tryz.ntmps23
  go_wp2_with fail
  refine (place_nil _ x).mono ?_
  rintro e w1 ⟨rfl, hb⟩
  go_wp2
  go_end0
  exact ⟨rfl, hb.alloc hb.size _⟩

set_option maxRecDepth 100000 in
set_option maxHeartbeats 400000 in
theorem stale_no (h : DiskAt' w a b1 b2 qv ga d F) (x : Int) (hs : d.has x = false) : Calls Tryz.prog 23 #[.pointer (some ⟨a, 0, none⟩), .int .i64 x] w fun e w' => e = .returned (.tuple #[]) ∧ Below w.heap.size w w' := by
  have HS := Lib.hid hs
  clear hs
  go_enter Tryz.func23, Tryz.ntmps23
  go_wp2_with fail
  refine (place_no h x HS.out).mono ?_
  rintro e w1 ⟨rfl, hb⟩
  go_wp2
  go_end0
  exact ⟨rfl, hb.alloc hb.size _⟩

set_option maxRecDepth 100000 in
set_option maxHeartbeats 400000 in
theorem stale_yes (h : DiskAt' w a b1 b2 qv ga d F) (i : Nat) (hi : i < d.n) : Calls Tryz.prog 23 #[.pointer (some ⟨a, 0, none⟩), .int .i64 (i : Int)] w fun e w' =>
    e = .returned (.tuple #[]) ∧ Only F w w' ∧ DiskAt w' a (d.stale i) F := by
  have hn := h.ok.n2
  have hst := h.ok.st
  have hel := h.ok.el
  have sl : ∀ (g : Nat) (W : World), (Instr.slice 49 (.slice (some ⟨g, 0, none⟩) (64 * d.n) (64 * d.n)) (some (.int .i64 (64 * (i : Int)))) (some (.int .i64 (64 * (i : Int) + 64))) none).run Tryz.prog W =
      .ok (.slice (some ⟨g, 64 * i, none⟩) 64 (64 * d.n - 64 * i)) W := fun g W => by
    have := run_slice_in (P := Tryz.prog) 49 5 (by kernel_rfl) (by kernel_rfl) g 0 (64 * d.n) (64 * d.n) (64 * (i : Int)) (64 * (i : Int) + 64) (64 * i) (64 * i + 64) (by omega) (by omega) (by omega) (by omega) (by omega) W
    simpa using this
  go_enter Tryz.func23, Tryz.ntmps23
  go_wp2_with fail
  refine (place_yes h i hi).mono ?_
  rintro e w1 ⟨rfl, hb⟩
  have h1 := h.keep (Only.of_below hb (fun _ => False)) (by simp)
  obtain ⟨c1, f1, l1⟩ := h1.main.all
  go_wp2
  refine wp_region_tail 18 (by kernel_rfl) (by kernel_rfl) ?_
  simp only [List.take_succ_cons, List.take_zero, List.drop_succ_cons, List.drop_zero]
  repeat still_step
  refine wpStill_nil ?_
  have hsec : ((d.el.drop (64 * i)).take 64).length = 64 := by simp [hel]; omega
  refine wpList_copy_blk rfl (.tmp 21) (.tmp 30) _ _ rfl 5 (by kernel_rfl) (by kernel_rfl) b1 (64 * i) 64 _ ⟨b2, 64 * i, none⟩ 64 _ rfl rfl (bc d.st) _ (h1.st.alloc _).drew (bc ((d.el.drop (64 * i)).take 64)) (by simp [bc_len, hsec]) ?_ (by simp [bc_len, hsec, hst]; omega) (bc_one _) ?_
  · intro j v hj
    rw [← bc_take, ← bc_drop, List.getElem?_take] at hj
    split at hj
    · rw [List.getElem?_drop] at hj
      have := (h1.el.alloc (.cells #[Value.int .i64 (64 * ↑i), Value.int .i64 (64 * ↑i + 64)] 80)).drew.cell (64 * i + j)
      have e : (⟨b2, 64 * i, none⟩ : Addr).add j = ⟨b2, 64 * i + j, none⟩ := by unfold Addr.add; split <;> simp_all
      rw [e, this]
      simpa using hj
    · cases hj
  intro w2 k2 o2 s2
  have O2 := o2
  clear o2
  go_wp2
  go_end0
  have hx : d.stale i = { d with st := splice d.st (64 * i) ((d.el.drop (64 * i)).take 64) } := by
    have hh : d.has (i : Int) = true := by simp [Dk.has]; omega
    unfold Dk.stale
    rw [if_pos hh]
    simp only [Int.toNat_natCast]
  rw [hx]
  rw [bc_splice] at k2
  have o3 : Only (fun j => j = b1 ∨ j = b2) w w2 := ((Only.of_below hb (fun j => j = b1 ∨ j = b2)).alloc _).drew.trans O2 (fun j hj => .inl (.inl hj))
  exact ⟨rfl, o3.mono (by rintro j (rfl | rfl); exact h.f1; exact h.f2), _, _, _, _, h.upd o3 ⟨h.ok.n1, h.ok.n2, (by
    show (splice _ _ _).length = _
    rw [length_splice _ _ _ (by rw [hsec, hst]; omega)]; exact hst), h.ok.el, h.ok.q, h.ok.arm⟩ k2 (O2.blk (h1.el.alloc _).drew h1.ne.symm) rfl rfl rfl rfl⟩
end
end Go.Proofs.YtieicjjmkedgaaaGreatDoor

/- What New and Read of package disk do. -/
namespace Go.Proofs.YtieicjjmkedgaaaGreatDoor
open Go.RowKit

theorem Tryz.infoByte : (Tryz.prog.info? 5).map (fun i => (i.zero, i.size, i.bytes)) = some (some (.int .u8 0), 1, 1) := by kernel_rfl

theorem bc_zero (n : Nat) : bc (List.replicate n 0) = List.replicate n (Value.int .u8 0) := by simp [bc]

set_option maxRecDepth 100000 in
set_option maxHeartbeats 400000 in
theorem new_no (w : World) (n : Int) (h : n < 1 ∨ 4000 < n) : Calls Tryz.prog 6 #[.int .i64 n] w fun e w' => e = .returned (.pointer none) ∧ w = w' := by
  by_cases h1 : n < 1
  · clear h
    go_enter Tryz.func6, Tryz.ntmps6
    go_wp2
    go_ret
    exact ⟨rfl, rfl⟩
  · have h2 : 4000 < n := by omega
    clear h
    go_enter Tryz.func6, Tryz.ntmps6
    go_wp2
    go_ret
    exact ⟨rfl, rfl⟩

theorem disk_new {w w' : World} {n b1 b2 a : Nat} (h1 : 1 ≤ n) (h2 : n ≤ 4000) (hne : b1 ≠ b2) (k1 : Blk w' b1 5 (Array.replicate (64 * n) (Value.int .u8 0))) (k2 : Blk w' b2 5 (Array.replicate (64 * n) (Value.int .u8 0)))
    (hm : Blk w' a 53 #[.slice (some ⟨b1, 0, none⟩) (64 * n) (64 * n), .slice (some ⟨b2, 0, none⟩) (64 * n) (64 * n), .slice none 0 0, .bool false, .pointer none])
    (hb1 : w.heap.size ≤ b1) (hb2 : w.heap.size ≤ b2) (ha : w.heap.size ≤ a) : DiskAt w' a (Dk.new n) (fun i => w.heap.size ≤ i ∧ i < w'.heap.size) :=
  ⟨b1, b2, .slice none 0 0, none, {
    ok := ⟨h1, h2, by simp [Dk.new], by simp [Dk.new], fun p hp => (by cases hp), fun x hx => (by cases hx)⟩
    main := hm
    st := by show Blk w' b1 _ (bc (List.replicate (64 * n) 0)).toArray; rw [bc_zero]; simpa using k1
    el := by show Blk w' b2 _ (bc (List.replicate (64 * n) 0)).toArray; rw [bc_zero]; simpa using k2
    ne := hne
    q := World.ownsRow_nil _ _ _ _
    qlen := Nat.zero_le _
    arm0 := fun _ => rfl
    arm1 := fun g hg => by cases hg
    fa := ⟨ha, hm.lt⟩
    f1 := ⟨hb1, k1.lt⟩
    f2 := ⟨hb2, k2.lt⟩
    fq := fun g hg => by cases hg
    fg := fun g hg => by cases hg
    fl := fun i hi => hi.2 }⟩

set_option maxRecDepth 100000 in
set_option maxHeartbeats 800000 in
theorem new_yes (w : World) (n : Nat) (h1 : 1 ≤ n) (h2 : n ≤ 4000) : Calls Tryz.prog 6 #[.int .i64 (n : Int)] w fun e w' =>
    ∃ a, e = .returned (.pointer (some ⟨a, 0, none⟩)) ∧ Below w.heap.size w w' ∧ w.heap.size ≤ a ∧ DiskAt w' a (Dk.new n) (fun i => w.heap.size ≤ i ∧ i < w'.heap.size) := by
  have h1' : (1 : Int) ≤ n := by omega
  have h2' : (n : Int) ≤ 4000 := by omega
  have hw1 : IntKind.i64.wrap ((n : Int) * 64) = (n : Int) * 64 := IntWalk.i64_in _ (by omega)
  have mk := run_make_one (P := Tryz.prog) 49 5 (.int .u8 0) 1 (by kernel_rfl) Tryz.infoByte rfl ((n : Int) * 64) (64 * n) (by omega) (by omega) (by omega)
  go_enter Tryz.func6, Tryz.ntmps6
  go_wp2
  go_region
  all_goals go_wp2
  all_goals go_ret
  · refine ⟨_, rfl, ((((Below.refl _ w).alloc (Nat.le_refl _) _).alloc (by simp) _).alloc (by simp; omega) _).drew, by omega, disk_new h1 h2 (b1 := w.heap.size) (b2 := w.heap.size + 1) (by omega) (((Blk.new w _ _).alloc _).alloc _).drew ((Blk.new1 w _ _ _).alloc _).drew (Blk.new2 w _ _ _ _).drew (Nat.le_refl _) (by omega) (by omega)⟩
  · refine ⟨_, rfl, ((((Below.refl _ w).alloc (Nat.le_refl _) _).alloc (by simp) _).alloc (by simp; omega) _).drew, by omega, disk_new h1 h2 (b1 := w.heap.size + 1) (b2 := w.heap.size) (by omega) ((Blk.new1 w _ _ _).alloc _).drew (((Blk.new w _ _).alloc _).alloc _).drew (Blk.new2 w _ _ _ _).drew (by omega) (Nat.le_refl _) (by omega)⟩

theorem lastOf_snoc (q : List (Nat × ByteArray)) (x : Nat × ByteArray) (i : Nat) : lastOf (q ++ [x]) i = if x.1 = i then some x.2 else lastOf q i := by
  unfold lastOf
  rw [List.reverse_append]
  simp only [List.reverse_cons, List.reverse_nil, List.nil_append, List.singleton_append, List.find?_cons]
  by_cases hx : x.1 = i
  · simp [hx]
  · simp only [beq_eq_false_iff_ne.2 hx, if_neg hx]
theorem lastOf_none (q : List (Nat × ByteArray)) (i : Nat) (h : ∀ (j : Nat) (p : Nat × ByteArray), q[j]? = some p → p.1 ≠ i) : lastOf q i = none := by
  unfold lastOf
  rw [Option.map_eq_none_iff, List.find?_eq_none]
  intro x hx
  obtain ⟨j, hj⟩ := List.mem_iff_getElem?.1 (List.mem_reverse.1 hx)
  simpa using h j x hj
theorem lastOf_app (q r : List (Nat × ByteArray)) (i : Nat) (h : ∀ p ∈ r, p.1 ≠ i) : lastOf (q ++ r) i = lastOf q i := by
  unfold lastOf
  rw [List.reverse_append, List.find?_append]
  have : r.reverse.find? (fun p => p.1 == i) = none := by
    rw [List.find?_eq_none]
    intro x hx
    simpa using h x (List.mem_reverse.1 hx)
  rw [this]
  rfl
theorem lastOf_some (q : List (Nat × ByteArray)) (i k : Nat) (t : ByteArray) (hk : q[k]? = some (i, t)) (h : ∀ (j : Nat) (p : Nat × ByteArray), k < j → q[j]? = some p → p.1 ≠ i) : lastOf q i = some t := by
  have hlt : k < q.length := (List.getElem?_eq_some_iff.1 hk).1
  have e : q = q.take (k + 1) ++ q.drop (k + 1) := (List.take_append_drop _ _).symm
  rw [e, lastOf_app _ _ _ (fun p hp => by
    obtain ⟨j, hj⟩ := List.mem_iff_getElem?.1 hp
    rw [List.getElem?_drop] at hj
    exact h _ p (by omega) hj)]
  rw [List.take_succ_eq_append_getElem hlt, lastOf_snoc]
  have : q[k] = (i, t) := by rw [List.getElem?_eq_getElem hlt] at hk; exact Option.some.inj hk
  rw [this]
  simp
section
variable {w : World} {a b1 b2 : Nat} {qv : Value} {ga : Option Nat} {d : Dk} {F : Foot}

set_option maxRecDepth 100000 in
set_option maxHeartbeats 400000 in
theorem read_nil (w : World) (s : Int) :
    Calls Tryz.prog 27 #[.pointer none, .int .i64 s] w fun e w' => e = .returned (.tuple #[.string ⟨#[]⟩, .int .i64 1]) ∧ Below w.heap.size w w' := by
  go_enter Tryz.func27, Tryz.ntmps27
  go_wp2_with fail
  refine (at_nil _ s).mono ?_
  rintro e w1 ⟨rfl, hb⟩
  go_wp2
  go_ret2
  exact ⟨rfl, hb.alloc hb.size _⟩

set_option maxRecDepth 100000 in
set_option maxHeartbeats 400000 in
theorem read_off (h : DiskAt' w a b1 b2 qv ga d F) (ho : d.off = true) (s : Int) :
    Calls Tryz.prog 27 #[.pointer (some ⟨a, 0, none⟩), .int .i64 s] w fun e w' => e = .returned (.tuple #[.string ⟨#[]⟩, .int .i64 25]) ∧ Below w.heap.size w w' := by
  go_enter Tryz.func27, Tryz.ntmps27
  go_wp2_with fail
  refine (at_off h ho s).mono ?_
  rintro e w1 ⟨rfl, hb⟩
  go_wp2
  go_ret2
  exact ⟨rfl, hb.alloc hb.size _⟩

set_option maxRecDepth 100000 in
set_option maxHeartbeats 400000 in
theorem read_no (h : DiskAt' w a b1 b2 qv ga d F) (ho : d.off = false) (s : Int) (hs : d.has s = false) :
    Calls Tryz.prog 27 #[.pointer (some ⟨a, 0, none⟩), .int .i64 s] w fun e w' => e = .returned (.tuple #[.string ⟨#[]⟩, .int .i64 1]) ∧ Below w.heap.size w w' := by
  go_enter Tryz.func27, Tryz.ntmps27
  go_wp2_with fail
  refine (at_no h ho s hs).mono ?_
  rintro e w1 ⟨rfl, hb⟩
  go_wp2
  go_ret2
  exact ⟨rfl, hb.alloc hb.size _⟩

set_option maxRecDepth 100000 in
set_option maxHeartbeats 800000 in
theorem read_yes (h : DiskAt' w a b1 b2 qv ga d F) (ho : d.off = false) (i : Nat) (hi : i < d.n) :
    Calls Tryz.prog 27 #[.pointer (some ⟨a, 0, none⟩), .int .i64 (i : Int)] w fun e w' => e = .returned (.tuple #[.string (d.view i), .int .i64 0]) ∧ Below w.heap.size w w' := by
  have hn := h.ok.n2
  have hst := h.ok.st
  have hql := h.qlen
  obtain ⟨A, c, rfl, hqc⟩ := h.form
  go_enter Tryz.func27, Tryz.ntmps27
  go_wp2_with fail
  refine (at_yes h ho i hi).mono ?_
  rintro e w1 ⟨rfl, hb⟩
  have h1 := h.keep (Only.of_below hb (fun _ => False)) (by simp)
  obtain ⟨c1, f1, l1⟩ := h1.main.all
  have h2 := h1.keep ((Only.refl (fun _ => False) w1).alloc (.cells #[.int .i64 (64 * (i : Int)), .int .i64 (64 * (i : Int) + 64)] 80)) (by simp)
  have hbox := Blk.new w1 80 #[.int .i64 (64 * (i : Int)), .int .i64 (64 * (i : Int) + 64)]
  have hb2 := hb.alloc hb.size (.cells #[.int .i64 (64 * (i : Int)), .int .i64 (64 * (i : Int) + 64)] 80)
  go_wp2_with fail
  go_loopw [8] (fun v wr => ∃ k : Nat, k ≤ d.q.length ∧ v = .int .i64 ((k : Int) - 1) ∧ (∀ (j : Nat) (p : Nat × ByteArray), k ≤ j → d.q[j]? = some p → p.1 ≠ i) ∧ Only (fun _ => False) (w1.alloc (.cells #[.int .i64 (64 * (i : Int)), .int .i64 (64 * (i : Int) + 64)] 80)) wr) (fun v _ => (intOf v + 1).toNat)
  case atStart => exact ⟨d.q.length, Nat.le_refl _, rfl, fun j p hj hp => absurd (List.getElem?_eq_some_iff.1 hp).1 (by omega), Only.refl _ _⟩
  case round =>
    obtain ⟨k, hk, rfl, hall, hO⟩ := hrel
    have hD := h2.keep hO (by simp)
    have hX := hO.blk hbox (by simp)
    have hB : Below w.heap.size w wr := hb2.trans (hO.below (by have := hb2.size; omega) (by simp))
    have HA := Lib.hid hall
    clear hall h1 h2 hb2 hbox c1 f1 l1
    obtain ⟨c1, f1, l1⟩ := hD.main.all
    obtain ⟨x1, x2, x3⟩ := hX.all
    rcases Nat.eq_zero_or_pos k with h0 | h0
    · subst h0
      have sl : ∀ (g : Nat) (W : World), (Instr.slice 49 (.slice (some ⟨g, 0, none⟩) (64 * d.n) (64 * d.n)) (some (.int .i64 (64 * (i : Int)))) (some (.int .i64 (64 * (i : Int) + 64))) none).run Tryz.prog W =
          .ok (.slice (some ⟨g, 64 * i, none⟩) 64 (64 * d.n - 64 * i)) W := fun g W => by
        have := run_slice_in (P := Tryz.prog) 49 5 (by kernel_rfl) (by kernel_rfl) g 0 (64 * d.n) (64 * d.n) (64 * (i : Int)) (64 * (i : Int) + 64) (64 * i) (64 * i + 64) (by omega) (by omega) (by omega) (by omega) (by omega) W
        simpa using this
      have cv := run_string_of_blk (P := Tryz.prog) wr.drew 49 9 5 b1 5 (by kernel_rfl) (by kernel_rfl) (by kernel_rfl) (64 * i) 64 (64 * d.n - 64 * i) d.st hD.st.drew (by omega)
      have em : (((0 : Nat) : Int) - 1) = (-1 : Int) := by omega
      rw [em]
      clear em
      go_wp2
      refine wp_region_tail 8 (by kernel_rfl) (by kernel_rfl) ?_
      simp only [List.take_succ_cons, List.take_zero, List.drop_succ_cons, List.drop_zero]
      repeat still_step
      refine wpStill_nil ?_
      go_wp2
      go_ret2
      refine ⟨?_, hB.drew⟩
      have : d.view i = ⟨((d.st.drop (64 * i)).take 64).toArray⟩ := by
        unfold Dk.view
        rw [lastOf_none d.q i (fun j p hj => HA.out j p (Nat.zero_le _) hj)]
        rfl
      rw [this]
      rfl
    · obtain ⟨m, rfl⟩ : ∃ m, k = m + 1 := ⟨k - 1, by omega⟩
      obtain ⟨p, hp⟩ : ∃ p, d.q[m]? = some p := ⟨_, List.getElem?_eq_getElem (by omega)⟩
      obtain ⟨g, c0, hqv, e1, e2, e3⟩ := hD.qat m p hp
      injection hqv with hA hB1 hB2
      subst hA
      clear hB1 hB2
      have HP := Lib.hid hp
      clear hp
      obtain ⟨s, t⟩ := p
      have em : (((m + 1 : Nat) : Int) - 1) = (m : Int) := by omega
      rw [em]
      clear em
      have m0 : (0 : Int) ≤ (m : Int) := by omega
      have m1 : (m : Int) < (d.q.length : Int) := by omega
      by_cases hs : s = i
      · have t1 : ((64 * (s : Int)) == (64 * (i : Int))) = true := by simp; omega
        have HS := Lib.hid hs
        clear hs
        go_wp2
        refine wp_region_tail 11 (by kernel_rfl) (by kernel_rfl) ?_
        simp only [List.take_succ_cons, List.take_zero, List.drop_succ_cons, List.drop_zero]
        repeat still_step
        refine wpStill_nil ?_
        go_wp2
        go_ret2
        refine ⟨?_, hB.drew⟩
        have : d.view i = t := by
          unfold Dk.view
          rw [lastOf_some d.q i m t (by rw [← HS.out]; exact HP.out) (fun j p hj hp => HA.out j p hj hp)]
          rfl
        rw [this]
        rfl
      · have t1 : ((64 * (s : Int)) == (64 * (i : Int))) = false := by simp; omega
        have HS := Lib.hid hs
        clear hs
        go_wp2
        refine wp_region_tail 11 (by kernel_rfl) (by kernel_rfl) ?_
        simp only [List.take_succ_cons, List.take_zero, List.drop_succ_cons, List.drop_zero]
        repeat still_step
        refine wpStill_nil ?_
        go_wp2
        go_roundw
        case rel =>
          refine ⟨m, by omega, rfl, fun j p hj hp => ?_, hO.drew⟩
          rcases Nat.eq_or_lt_of_le hj with rfl | hj'
          · rw [HP.out] at hp
            injection hp with hp
            rw [← hp]
            exact HS.out
          · exact HA.out j p hj' hp
        case measure => simp [intOf]
end
end Go.Proofs.YtieicjjmkedgaaaGreatDoor

/- Each operation of package disk by one contract, in terms of the disk as plain data. -/
namespace Go.Proofs.YtieicjjmkedgaaaGreatDoor
open Go.RowKit

/-- Behind a call that may have turned the disk at a alone it is d'. -/
def Stp (w w' : World) (a : Nat) (d' : Dk) (F : Foot) : Prop := ∃ F', Only F' w w' ∧ (∀ k, F' k → F k ∨ w.heap.size ≤ k) ∧ DiskAt w' a d' F'

theorem Stp.same {w w' : World} {a : Nat} {d : Dk} {F : Foot} (h : DiskAt w a d F) (hb : Below w.heap.size w w') : Stp w w' a d F := by
  obtain ⟨b1, b2, qv, ga, h⟩ := h
  exact ⟨F, Only.of_below hb _, fun k hk => .inl hk, b1, b2, qv, ga, h.keep (Only.of_below hb (fun _ => False)) (by simp)⟩
theorem Stp.of {w w' : World} {a : Nat} {d : Dk} {F : Foot} (hO : Only F w w') (h : DiskAt w' a d F) : Stp w w' a d F := ⟨F, hO, fun _ hk => .inl hk, h⟩

section
variable {w : World} {a : Nat} {d : Dk} {F : Foot}

theorem write_any (h : DiskAt w a d F) (hl : d.q.length < 4096) (s : Int) (t : ByteArray) :
    Calls Tryz.prog 74 #[.pointer (some ⟨a, 0, none⟩), .int .i64 s, .string t] w fun e w' => e = .returned (.int .i64 (d.write s t).2) ∧ Stp w w' a (d.write s t).1 F := by
  obtain ⟨b1, b2, qv, ga, h⟩ := h
  cases ho : d.off with
  | true =>
    have e : d.write s t = (d, 25) := by unfold Dk.write; rw [ho]; rfl
    rw [e]
    exact (write_off h ho s t).mono fun _ _ ⟨h1, h2⟩ => ⟨h1, Stp.same ⟨b1, b2, qv, ga, h⟩ h2⟩
  | false =>
    cases hs : d.has s with
    | false =>
      have e : d.write s t = (d, 1) := by unfold Dk.write; rw [ho, hs]; rfl
      rw [e]
      exact (write_no h ho s hs t).mono fun _ _ ⟨h1, h2⟩ => ⟨h1, Stp.same ⟨b1, b2, qv, ga, h⟩ h2⟩
    | true =>
      have hs' : 0 ≤ s ∧ s < d.n := by simpa [Dk.has] using hs
      obtain ⟨i, rfl⟩ := Int.eq_ofNat_of_zero_le hs'.1
      by_cases ht : t.size = 64
      · have e : d.write (i : Int) t = Dk.count { d with q := d.q ++ [(i, t)] } := by unfold Dk.write; rw [ho, hs]; simp [ht]
        rw [e]
        refine (write_yes h ho i (by omega) t (by simp; omega) hl).mono ?_
        rintro e w1 ⟨rfl, F', o1, f1, h1⟩
        exact ⟨rfl, F', o1, f1, h1⟩
      · have e : d.write (i : Int) t = (d, 1) := by unfold Dk.write; rw [ho, hs]; simp [ht]
        rw [e]
        exact (write_short h ho i (by omega) t (by simp; omega)).mono fun _ _ ⟨h1, h2⟩ => ⟨h1, Stp.same ⟨b1, b2, qv, ga, h⟩ h2⟩

theorem read_any (h : DiskAt w a d F) (s : Int) :
    Calls Tryz.prog 27 #[.pointer (some ⟨a, 0, none⟩), .int .i64 s] w fun e w' => e = .returned (.tuple #[.string (d.read s).1, .int .i64 (d.read s).2]) ∧ Below w.heap.size w w' := by
  obtain ⟨b1, b2, qv, ga, h⟩ := h
  cases ho : d.off with
  | true =>
    have e : d.read s = (ByteArray.empty, 25) := by unfold Dk.read; rw [ho]; rfl
    rw [e]
    exact read_off h ho s
  | false =>
    cases hs : d.has s with
    | false =>
      have e : d.read s = (ByteArray.empty, 1) := by unfold Dk.read; rw [ho, hs]; rfl
      rw [e]
      exact read_no h ho s hs
    | true =>
      have hs' : 0 ≤ s ∧ s < d.n := by simpa [Dk.has] using hs
      obtain ⟨i, rfl⟩ := Int.eq_ofNat_of_zero_le hs'.1
      have e : d.read (i : Int) = (d.view i, 0) := by unfold Dk.read; rw [ho, hs]; simp
      rw [e]
      exact read_yes h ho i (by omega)

theorem sync_any (h : DiskAt w a d F) : Calls Tryz.prog 75 #[.pointer (some ⟨a, 0, none⟩)] w fun e w' => e = .returned (.int .i64 d.sync.2) ∧ Stp w w' a d.sync.1 F := by
  obtain ⟨b1, b2, qv, ga, h⟩ := h
  cases ho : d.off with
  | true =>
    have e : d.sync = (d, 25) := by unfold Dk.sync; rw [ho]; rfl
    rw [e]
    exact (sync_off h ho).mono fun _ _ ⟨h1, h2⟩ => ⟨h1, Stp.same ⟨b1, b2, qv, ga, h⟩ (by rw [← h2]; exact Below.refl _ _)⟩
  | false => exact (sync_on h ho).mono fun _ _ ⟨h1, h2, h3⟩ => ⟨h1, Stp.of h2 h3⟩

theorem startany (h : DiskAt w a d F) : Calls Tryz.prog 17 #[.pointer (some ⟨a, 0, none⟩)] w fun e w' => e = .returned (.tuple #[]) ∧ Stp w w' a d.start F := by
  obtain ⟨b1, b2, qv, ga, h⟩ := h
  exact (start_any h).mono fun _ _ ⟨h1, h2, h3⟩ => ⟨h1, Stp.of h2 h3⟩

set_option maxRecDepth 100000 in
set_option maxHeartbeats 400000 in
theorem fail_off (h : DiskAt w a d F) (ho : d.off = true) (x y : Int) : Calls Tryz.prog 15 #[.pointer (some ⟨a, 0, none⟩), .int .i64 x, .int .i64 y] w fun e w' => e = .returned (.tuple #[]) ∧ w = w' := by
  obtain ⟨b1, b2, qv, ga, h⟩ := h
  obtain ⟨c0, f0, hlt⟩ := h.main.all
  simp only [ho] at c0
  clear ho
  go_enter Tryz.func15, Tryz.ntmps15
  go_wp2
  refine bodyPost_ret (results_none rfl _ _ _) rfl ?_
  exact ⟨rfl, rfl⟩

set_option maxRecDepth 100000 in
set_option maxHeartbeats 400000 in
theorem fail_nil (w : World) (x y : Int) : Calls Tryz.prog 15 #[.pointer none, .int .i64 x, .int .i64 y] w fun e w' => e = .returned (.tuple #[]) ∧ w = w' := by
  go_enter Tryz.func15, Tryz.ntmps15
  go_wp2
  refine bodyPost_ret (results_none rfl _ _ _) rfl ?_
  exact ⟨rfl, rfl⟩

theorem fail_any (h : DiskAt w a d F) (x y : Int) : Calls Tryz.prog 15 #[.pointer (some ⟨a, 0, none⟩), .int .i64 x, .int .i64 y] w fun e w' => e = .returned (.tuple #[]) ∧ Stp w w' a (d.fail x y) F := by
  cases ho : d.off with
  | true =>
    have e : d.fail x y = d := by unfold Dk.fail; rw [ho]; rfl
    rw [e]
    exact (fail_off h ho x y).mono fun _ _ ⟨h1, h2⟩ => ⟨h1, Stp.same h (by rw [← h2]; exact Below.refl _ _)⟩
  | false =>
    obtain ⟨b1, b2, qv, ga, h⟩ := h
    exact (fail_on h ho x y).mono fun _ _ ⟨h1, h2, h3⟩ => ⟨h1, Stp.of h2 ⟨_, _, _, _, h3⟩⟩

theorem arm_any (h : DiskAt w a d F) (x y z : Int) (hx : x ≤ 9223372036854775807) : Calls Tryz.prog 19 #[.pointer (some ⟨a, 0, none⟩), .int .i64 x, .int .i64 y, .int .i64 z] w fun e w' => e = .returned (.tuple #[]) ∧ Stp w w' a (d.doArm x y z) F := by
  obtain ⟨b1, b2, qv, ga, h⟩ := h
  cases ho : d.off with
  | true =>
    have e : d.doArm x y z = d := by unfold Dk.doArm; rw [ho]; rfl
    rw [e]
    exact (arm_off h ho x y z).mono fun _ _ ⟨h1, h2⟩ => ⟨h1, Stp.same ⟨b1, b2, qv, ga, h⟩ (by rw [← h2]; exact Below.refl _ _)⟩
  | false =>
    by_cases h0 : x < 0
    · exact (arm_no h ho x y z h0).mono fun _ _ ⟨h1, h2, h3⟩ => ⟨h1, Stp.of h2 h3⟩
    · exact (arm_yes h ho x y z (by omega) hx).mono fun _ _ ⟨h1, h2⟩ => ⟨h1, h2⟩

theorem rot_any (h : DiskAt w a d F) (x y z : Int) : Calls Tryz.prog 21 #[.pointer (some ⟨a, 0, none⟩), .int .i64 x, .int .i64 y, .int .i64 z] w fun e w' => e = .returned (.tuple #[]) ∧ Stp w w' a (d.rot x y z) F := by
  obtain ⟨b1, b2, qv, ga, h⟩ := h
  by_cases hc : d.has x = true ∧ 0 ≤ y ∧ y < 64 ∧ 0 < z ∧ z < 256
  · obtain ⟨hs, h1, h2, h3, h4⟩ := hc
    have hs' : 0 ≤ x ∧ x < d.n := by simpa [Dk.has] using hs
    obtain ⟨i, rfl⟩ := Int.eq_ofNat_of_zero_le hs'.1
    obtain ⟨k, rfl⟩ := Int.eq_ofNat_of_zero_le h1
    obtain ⟨m, rfl⟩ := Int.eq_ofNat_of_zero_le (Int.le_of_lt h3)
    exact (rot_yes h i k m (by omega) (by omega) (by omega) (by omega)).mono fun _ _ ⟨h1, h2, h3⟩ => ⟨h1, Stp.of h2 h3⟩
  · have e : d.rot x y z = d := by unfold Dk.rot; rw [if_neg hc]
    rw [e]
    exact (rot_no h x y z hc).mono fun _ _ ⟨h1, h2⟩ => ⟨h1, Stp.same ⟨b1, b2, qv, ga, h⟩ h2⟩

theorem stale_any (h : DiskAt w a d F) (x : Int) : Calls Tryz.prog 23 #[.pointer (some ⟨a, 0, none⟩), .int .i64 x] w fun e w' => e = .returned (.tuple #[]) ∧ Stp w w' a (d.stale x) F := by
  obtain ⟨b1, b2, qv, ga, h⟩ := h
  cases hs : d.has x with
  | true =>
    have hs' : 0 ≤ x ∧ x < d.n := by simpa [Dk.has] using hs
    obtain ⟨i, rfl⟩ := Int.eq_ofNat_of_zero_le hs'.1
    exact (stale_yes h i (by omega)).mono fun _ _ ⟨h1, h2, h3⟩ => ⟨h1, Stp.of h2 h3⟩
  | false =>
    have e : d.stale x = d := by unfold Dk.stale; rw [if_neg (by simp [hs])]
    rw [e]
    exact (stale_no h x hs).mono fun _ _ ⟨h1, h2⟩ => ⟨h1, Stp.same ⟨b1, b2, qv, ga, h⟩ h2⟩
end
end Go.Proofs.YtieicjjmkedgaaaGreatDoor

/- What lives beside a disk (XLd's words, for the journal). -/
namespace Go.Proofs.YtieicjjmkedgaaaGreatDoor
open Go.RowKit

theorem DiskAt.ok {w : World} {a : Nat} {d : Dk} {F : Foot} (h : DiskAt w a d F) : d.Ok := by
  obtain ⟨_, _, _, _, h⟩ := h
  exact h.ok
theorem DiskAt.below {w w' : World} {a : Nat} {d : Dk} {F : Foot} (h : DiskAt w a d F) (hb : Below w.heap.size w w') : DiskAt w' a d F := by
  obtain ⟨b1, b2, qv, ga, h⟩ := h
  exact ⟨b1, b2, qv, ga, h.keep (Only.of_below hb (fun _ => False)) (by simp)⟩
theorem DiskAt.only {w w' : World} {a : Nat} {d : Dk} {F G : Foot} (h : DiskAt w a d F) (hb : Only G w w') (hd : ∀ i, F i → ¬ G i) : DiskAt w' a d F := by
  obtain ⟨b1, b2, qv, ga, h⟩ := h
  exact ⟨b1, b2, qv, ga, h.keep hb hd⟩
theorem DiskAt.lt {w : World} {a : Nat} {d : Dk} {F : Foot} (h : DiskAt w a d F) : ∀ i, F i → i < w.heap.size := by
  obtain ⟨b1, b2, qv, ga, h⟩ := h
  exact h.fl

/-- The blocks of G are as they were. -/
structure Keep (G : Foot) (w w' : World) : Prop where
  size : w.heap.size ≤ w'.heap.size
  block : ∀ i, G i → w'.heap[i]? = w.heap[i]?
theorem Keep.mono {G H : Foot} {w w' : World} (h : Keep G w w') (hG : ∀ i, H i → G i) : Keep H w w' := ⟨h.size, fun i hi => h.block i (hG i hi)⟩
theorem Keep.of_below {G : Foot} {w w' : World} (h : Below w.heap.size w w') (hG : ∀ i, G i → i < w.heap.size) : Keep G w w' := ⟨h.size, fun i hi => h.block i (hG i hi)⟩
/-- The disk at a is d; it and the blocks of G lie apart, above the heap of w0, below which nothing has turned. -/
structure Live (w0 w : World) (a : Nat) (d : Dk) (G : Foot) : Prop where
  below : Below w0.heap.size w0 w
  disk : ∃ F, DiskAt w a d F ∧ (∀ i, F i → w0.heap.size ≤ i) ∧ (∀ i, F i → ¬ G i)
  lt : ∀ i, G i → i < w.heap.size

section
variable {w0 w w' : World} {a b : Nat} {d d' e e' : Dk} {F G H : Foot}
theorem Live.ok (h : Live w0 w a d G) : d.Ok := by
  obtain ⟨F, hF, _⟩ := h.disk
  exact hF.ok
theorem Live.same (h : Live w0 w a d G) (hb : Below w.heap.size w w') : Live w0 w' a d G := by
  obtain ⟨F, h1, h2, h3⟩ := h.disk
  exact ⟨h.below.trans (hb.mono h.below.size), ⟨F, h1.below hb, h2, h3⟩, fun i hi => Nat.lt_of_lt_of_le (h.lt i hi) hb.size⟩
/-- A new block is laid beside the disk. -/
theorem Live.more (h : Live w0 w a d G) (hb : Below w.heap.size w w') (hH : ∀ i, H i → G i ∨ (w.heap.size ≤ i ∧ i < w'.heap.size)) : Live w0 w' a d H := by
  obtain ⟨F, h1, h2, h3⟩ := h.disk
  exact ⟨h.below.trans (hb.mono h.below.size), ⟨F, h1.below hb, h2, fun i hi hh => by
    rcases hH i hh with h4 | h4
    · exact h3 i hi h4
    · have := h1.lt i hi; omega⟩, fun i hi => by
    rcases hH i hi with h4 | h4
    · exact Nat.lt_of_lt_of_le (h.lt i h4) hb.size
    · exact h4.2⟩
/-- A store into a block of the law's own. -/
theorem Live.only (h : Live w0 w a d G) (hO : Only H w w') (hH : ∀ i, H i → G i ∧ w0.heap.size ≤ i) : Live w0 w' a d G := by
  obtain ⟨F, h1, h2, h3⟩ := h.disk
  exact ⟨h.below.trans (hO.below h.below.size (fun i hi => (hH i hi).2)), ⟨F, h1.only hO (fun i hi hh => h3 i hi (hH i hh).1), h2, h3⟩, fun i hi => Nat.lt_of_lt_of_le (h.lt i hi) hO.size⟩
theorem Live.stp (h : Live w0 w a d G) (hs : ∀ F, DiskAt w a d F → Stp w w' a d' F) : Live w0 w' a d' G ∧ Keep G w w' := by
  obtain ⟨F, h1, h2, h3⟩ := h.disk
  obtain ⟨F', hO, hF, hD⟩ := hs F h1
  have hge : ∀ i, F' i → w0.heap.size ≤ i := fun i hi => by
    rcases hF i hi with h4 | h4
    · exact h2 i h4
    · have := h.below.size; omega
  have hap : ∀ i, F' i → ¬ G i := fun i hi hg => by
    rcases hF i hi with h4 | h4
    · exact h3 i h4 hg
    · have := h.lt i hg; omega
  exact ⟨⟨h.below.trans (hO.below h.below.size hge), ⟨F', hD, hge, hap⟩, fun i hi => Nat.lt_of_lt_of_le (h.lt i hi) hO.size⟩,
    ⟨hO.size, fun i hi => hO.block i (h.lt i hi) (fun hf => hap i hf hi)⟩⟩
theorem Live.lift {P : Program} {f : FuncId} {args : Array Value} {v : Value} (h : Live w0 w a d G) (hc : ∀ F, DiskAt w a d F → Calls P f args w fun e w' => e = .returned v ∧ Stp w w' a d' F) :
    Calls P f args w fun e w' => e = .returned v ∧ Live w0 w' a d' G ∧ Keep G w w' := by
  obtain ⟨F, h1, h2, h3⟩ := h.disk
  refine (hc F h1).mono ?_
  rintro e w' ⟨he, hs⟩
  refine ⟨he, ?_⟩
  obtain ⟨F', hO, hF, hD⟩ := hs
  have hge : ∀ i, F' i → w0.heap.size ≤ i := fun i hi => by
    rcases hF i hi with h4 | h4
    · exact h2 i h4
    · have := h.below.size; omega
  have hap : ∀ i, F' i → ¬ G i := fun i hi hg => by
    rcases hF i hi with h4 | h4
    · exact h3 i h4 hg
    · have := h.lt i hg; omega
  exact ⟨⟨h.below.trans (hO.below h.below.size hge), ⟨F', hD, hge, hap⟩, fun i hi => Nat.lt_of_lt_of_le (h.lt i hi) hO.size⟩,
    ⟨hO.size, fun i hi => hO.block i (h.lt i hi) (fun hf => hap i hf hi)⟩⟩
theorem Live.look {P : Program} {f : FuncId} {args : Array Value} {R : Ending → World → Prop} (h : Live w0 w a d G) (hc : ∀ F, DiskAt w a d F → Calls P f args w R) : Calls P f args w R := by
  obtain ⟨F, h1, _, _⟩ := h.disk
  exact hc F h1

/-- Two disks. -/
structure Two (w0 w : World) (a : Nat) (d : Dk) (b : Nat) (e : Dk) : Prop where
  below : Below w0.heap.size w0 w
  disks : ∃ F G, DiskAt w a d F ∧ DiskAt w b e G ∧ (∀ i, F i → w0.heap.size ≤ i) ∧ (∀ i, G i → w0.heap.size ≤ i) ∧ (∀ i, F i → ¬ G i)
theorem Two.okl (h : Two w0 w a d b e) : d.Ok := by
  obtain ⟨F, G, h1, _⟩ := h.disks
  exact h1.ok
theorem Two.okr (h : Two w0 w a d b e) : e.Ok := by
  obtain ⟨F, G, _, h1, _⟩ := h.disks
  exact h1.ok
theorem Two.swap (h : Two w0 w a d b e) : Two w0 w b e a d := by
  obtain ⟨F, G, h1, h2, h3, h4, h5⟩ := h.disks
  exact ⟨h.below, G, F, h2, h1, h4, h3, fun i hg hf => h5 i hf hg⟩
theorem Two.same (h : Two w0 w a d b e) (hb : Below w.heap.size w w') : Two w0 w' a d b e := by
  obtain ⟨F, G, h1, h2, h3, h4, h5⟩ := h.disks
  exact ⟨h.below.trans (hb.mono h.below.size), F, G, h1.below hb, h2.below hb, h3, h4, h5⟩
theorem Two.left {P : Program} {f : FuncId} {args : Array Value} {v : Value} (h : Two w0 w a d b e) (hc : ∀ F, DiskAt w a d F → Calls P f args w fun e w' => e = .returned v ∧ Stp w w' a d' F) :
    Calls P f args w fun r w' => r = .returned v ∧ Two w0 w' a d' b e := by
  obtain ⟨F, G, h1, h2, h3, h4, h5⟩ := h.disks
  refine (hc F h1).mono ?_
  rintro r w' ⟨he, F', hO, hF, hD⟩
  refine ⟨he, ?_⟩
  have hge : ∀ i, F' i → w0.heap.size ≤ i := fun i hi => by
    rcases hF i hi with h4 | h4
    · exact h3 i h4
    · have := h.below.size; omega
  have hap : ∀ i, F' i → ¬ G i := fun i hi hg => by
    rcases hF i hi with h6 | h6
    · exact h5 i h6 hg
    · have := h2.lt i hg; omega
  exact ⟨h.below.trans (hO.below h.below.size hge), F', G, hD, h2.only hO (fun i hg hf => hap i hf hg), hge, h4, hap⟩
theorem Two.right {P : Program} {f : FuncId} {args : Array Value} {v : Value} (h : Two w0 w a d b e) (hc : ∀ F, DiskAt w b e F → Calls P f args w fun r w' => r = .returned v ∧ Stp w w' b e' F) :
    Calls P f args w fun r w' => r = .returned v ∧ Two w0 w' a d b e' :=
  (h.swap.left hc).mono fun _ _ ⟨h1, h2⟩ => ⟨h1, h2.swap⟩
theorem Two.lookl {P : Program} {f : FuncId} {args : Array Value} {R : Ending → World → Prop} (h : Two w0 w a d b e) (hc : ∀ F, DiskAt w a d F → Calls P f args w R) : Calls P f args w R := by
  obtain ⟨F, G, h1, _⟩ := h.disks
  exact hc F h1
theorem Two.lookr {P : Program} {f : FuncId} {args : Array Value} {R : Ending → World → Prop} (h : Two w0 w a d b e) (hc : ∀ F, DiskAt w b e F → Calls P f args w R) : Calls P f args w R := by
  obtain ⟨F, G, _, h1, _⟩ := h.disks
  exact hc G h1
theorem Live.of_new {n : Nat} (h0 : Below w0.heap.size w0 w) (hb : Below w.heap.size w w') (hD : DiskAt w' a (Dk.new n) (fun i => w.heap.size ≤ i ∧ i < w'.heap.size)) : Live w0 w' a (Dk.new n) (fun _ => False) :=
  ⟨h0.trans (hb.mono h0.size), ⟨_, hD, fun i hi => by have := h0.size; omega, fun _ _ h => h⟩, fun _ h => h.elim⟩
theorem Two.of_new {n : Nat} (h : Live w0 w a d G) (hb : Below w.heap.size w w') (hD : DiskAt w' b (Dk.new n) (fun i => w.heap.size ≤ i ∧ i < w'.heap.size)) : Two w0 w' a d b (Dk.new n) := by
  obtain ⟨F, h1, h2, h3⟩ := h.disk
  have := h.below.size
  exact ⟨h.below.trans (hb.mono h.below.size), F, _, h1.below hb, hD, h2, fun i hi => by omega, fun i hf hg => by have := h1.lt i hf; omega⟩
end

/-! ### Sizes -/
theorem Dk.count_n (d : Dk) : d.count.1.n = d.n := by
  unfold Dk.count
  split
  · rfl
  · split
    · rfl
    · unfold Dk.fail
      split
      · rfl
      · simp only
        unfold Dk.torn
        split
        · split
          · exact (Dk.settle_same _ d).1
          · exact (Dk.settle_same _ d).1
        · exact (Dk.settle_same _ d).1
theorem Dk.fail_n (d : Dk) (x y : Int) : (d.fail x y).n = d.n := by
  unfold Dk.fail
  split
  · rfl
  · simp only
    unfold Dk.torn
    split
    · split
      · exact (Dk.settle_same _ d).1
      · exact (Dk.settle_same _ d).1
    · exact (Dk.settle_same _ d).1
theorem Dk.fail_q (d : Dk) (x y : Int) : (d.fail x y).q.length ≤ d.q.length := by
  unfold Dk.fail
  split
  · exact Nat.le_refl _
  · exact Nat.zero_le _
theorem Dk.count_q (d : Dk) : d.count.1.q.length ≤ d.q.length := by
  unfold Dk.count
  split
  · exact Nat.le_refl _
  · split
    · exact Nat.le_refl _
    · exact Dk.fail_q _ _ _
theorem Dk.write_n (d : Dk) (s : Int) (t : ByteArray) : (d.write s t).1.n = d.n := by
  unfold Dk.write
  split
  · rfl
  · split
    · rfl
    · split
      · rfl
      · exact Dk.count_n _
theorem Dk.write_q (d : Dk) (s : Int) (t : ByteArray) : (d.write s t).1.q.length ≤ d.q.length + 1 := by
  unfold Dk.write
  split
  · exact Nat.le_succ _
  · split
    · exact Nat.le_succ _
    · split
      · exact Nat.le_succ _
      · refine Nat.le_trans (Dk.count_q _) ?_
        simp
theorem Dk.sync_n (d : Dk) : d.sync.1.n = d.n := by
  unfold Dk.sync
  split
  · rfl
  · split
    · show (d.count.1.settle d.count.1.q).n = d.n
      rw [(Dk.settle_same _ _).1, Dk.count_n]
    · exact Dk.count_n d
theorem Dk.sync_q (d : Dk) : d.sync.1.q.length ≤ d.q.length := by
  unfold Dk.sync
  split
  · exact Nat.le_refl _
  · split
    · exact Nat.zero_le _
    · exact Dk.count_q d
end Go.Proofs.YtieicjjmkedgaaaGreatDoor

/- The journal's texts: digits, seal, zero, head, sector. -/
namespace Go.Proofs.YtieicjjmkedgaaaGreatDoor
open Go.RowKit Go.Shelf

/-- What the library's variables hold. -/
structure Tbs (w : World) : Prop where
  tab : Lib.TabIs Tryz.prog w "internal/strconv.uint64pow10" .u64 Lib.pow10Tab
  max : ∃ m, w.cell? ⟨2, 0, none⟩ = some (.int .i64 m)
  syn : ∃ ev, w.cell? ⟨0, 0, none⟩ = some ev ∧ (ev = .nilIface ∨ ∃ te pe, ev = .iface te pe)
  rng : ∃ ev, w.cell? ⟨1, 0, none⟩ = some ev ∧ (ev = .nilIface ∨ ∃ te pe, ev = .iface te pe)
theorem Tbs.below {w w' : World} (h : Tbs w) (hb : Below w.heap.size w w') : Tbs w' where
  tab := Lib.tabBelow_of_tabIs h.tab w' hb
  max := by obtain ⟨m, hm⟩ := h.max; exact ⟨m, (hb.cell (World.block_lt_of_cell? _ _ hm)).trans hm⟩
  syn := by obtain ⟨m, hm, h2⟩ := h.syn; exact ⟨m, (hb.cell (World.block_lt_of_cell? _ _ hm)).trans hm, h2⟩
  rng := by obtain ⟨m, hm, h2⟩ := h.rng; exact ⟨m, (hb.cell (World.block_lt_of_cell? _ _ hm)).trans hm, h2⟩

theorem itoa_any (w : World) (ht : Tbs w) (n : Nat) (h1 : n ≤ 9223372036854775807) : Calls Tryz.prog 72 #[.int .i64 (n : Int)] w fun e w' => e = .returned (.string (bs (Lib.decDigits n))) ∧ Below w.heap.size w w' :=
  (sh_strconv_Itoa n (by omega) (by omega) w ht.tab).mono fun _ _ ⟨he, k, os, hw⟩ => ⟨by rw [he, itoa_nat]; rfl, hw ▸ Lib.below_grow _ _ (Nat.le_refl _) k os⟩
theorem repeat_one (b : UInt8) (c : Nat) : Lib.repeatL [b] c = List.replicate c b := by
  induction c with
  | zero => rfl
  | succ c ih => rw [List.replicate_succ, ← ih]; rfl
theorem repeat_any (w : World) (b : UInt8) (c : Nat) (hc : c ≤ 1000000) : Calls Tryz.prog 73 #[.string ⟨#[b]⟩, .int .i64 (c : Int)] w fun e w' => e = .returned (.string (bs (List.replicate c b))) ∧ Below w.heap.size w w' :=
  (sh_strings_Repeat ⟨#[b]⟩ c w (by omega) (by show 1 * c ≤ _; omega)).mono fun _ _ ⟨he, hw⟩ => ⟨by rw [he, ← repeat_one]; rfl, hw⟩

theorem sum_bs (a b : List UInt8) (h : a.length + b.length ≤ 9223372036854775807) (W : World) : (Op.stringOp .add (bs a) (bs b)).run Tryz.prog W = .ok (.string (bs (a ++ b))) W := by
  rw [run_string_add_sum (P := Tryz.prog) W (bs a) (bs b) (by rw [bs_size, bs_size]; exact h), bs_append]

set_option maxRecDepth 100000 in
theorem digits_any (w : World) (ht : Tbs w) (n wd : Nat) (hw1 : 1 ≤ wd) (hw : wd ≤ 8) (hn : n < 10 ^ wd) : Calls Tryz.prog 69 #[.int .i64 (n : Int), .int .i64 (wd : Int)] w fun e w' => e = .returned (.string (bs (lastD wd n))) ∧ Below w.heap.size w w' := by
  have hp8 : 10 ^ wd ≤ 10 ^ 8 := Nat.pow_le_pow_right (by decide) hw
  have hp88 : (10 : Nat) ^ 8 = 100000000 := rfl
  obtain ⟨wd, rfl⟩ : ∃ v, wd = v + 1 := ⟨wd - 1, by omega⟩
  obtain ⟨h1, h2⟩ := dec_pad hn
  have hi := fun W h => itoa_any W h n (by omega)
  rw [← h2]
  generalize Lib.decDigits n = D at *
  obtain ⟨c, hc⟩ : ∃ c, wd + 1 - D.length = c := ⟨_, rfl⟩
  rw [hc]
  have hr := fun W => repeat_any W 48 c (by omega)
  have ha := sum_bs (List.replicate c 48) D (by simp; omega)
  have hsz := bs_size D
  have hsub : (((wd + 1 : Nat) : Int) - (D.length : Int)) = (c : Int) := by omega
  have hmax := run_max2 (P := Tryz.prog) 0 (c : Int) (c : Int) (by omega)
  have HI := Lib.hid hi
  have HR := Lib.hid hr
  have hwd : ((wd + 1 : Nat) : Int) = (wd : Int) + 1 := rfl
  rw [hwd] at hsub ⊢
  clear hi hr h2 hn hp8 hp88 hc hwd
  go_enter Tryz.func69, Tryz.ntmps69
  go_wp2_with fail
  refine (HI.out _ ht).mono ?_
  rintro e w1 ⟨rfl, b1⟩
  go_wp2_with fail
  refine (HR.out _).mono ?_
  rintro e w2 ⟨rfl, b2⟩
  go_wp2
  go_ret
  exact ⟨rfl, b1.trans (b2.mono b1.size)⟩
theorem digits8_any (w : World) (ht : Tbs w) (n : Nat) (hn : n < 100000000) : Calls Tryz.prog 69 #[.int .i64 (n : Int), .int .i64 8] w fun e w' => e = .returned (.string (bs (lastD 8 n))) ∧ Below w.heap.size w w' := digits_any w ht n 8 (by decide) (by decide) hn
theorem digits2_any (w : World) (ht : Tbs w) (n : Nat) (hn : n < 100) : Calls Tryz.prog 69 #[.int .i64 (n : Int), .int .i64 2] w fun e w' => e = .returned (.string (bs (lastD 2 n))) ∧ Below w.heap.size w w' := digits_any w ht n 2 (by decide) (by decide) hn

theorem zero_any (w : World) : Calls Tryz.prog 38 #[] w fun e w' => e = .returned (.string (bs zeroL)) ∧ Below w.heap.size w w' := by
  have hr : ∀ W, Calls Tryz.prog 73 #[.string ⟨#[0]⟩, .int .i64 64] W fun e w' => e = .returned (.string (bs (List.replicate 64 0))) ∧ Below W.heap.size W w' := fun W => repeat_any W 0 64 (by omega)
  go_enter Tryz.func38, Tryz.ntmps38
  go_wp2_with fail
  refine (hr _).mono ?_
  rintro e w1 ⟨rfl, b1⟩
  go_wp2
  go_ret
  exact ⟨rfl, b1⟩

theorem splice_pad {n : Nat} {l : List UInt8} (h : l.length ≤ n) : splice (bc (List.replicate n 0)) 0 (bc l) = bc (padL n l) := by
  unfold splice
  rw [padL_short h, List.take_zero, List.nil_append, Nat.zero_add, bc_len]
  unfold bc
  rw [← List.map_drop, ← List.map_append, List.drop_replicate]

set_option maxRecDepth 100000 in
set_option maxHeartbeats 2000000 in
theorem seal_any (w : World) (ht : Tbs w) (place : Nat) (hp : place < 100000000) (c : List UInt8) (hc : c.length ≤ 48) : Calls Tryz.prog 68 #[.int .i64 (place : Int), .string (bs c)] w fun e w' => e = .returned (.string (bs (sealL place c))) ∧ Below w.heap.size w w' := by
  have hs := splice_pad hc
  have hl := padL_len 48 c
  have hz := bs_size c
  obtain ⟨r, hr⟩ : ∃ r, sealL place c = r := ⟨_, rfl⟩
  rw [hr]
  unfold sealL at hr
  generalize padL 48 c = C at *
  have l8 := lastD_len 8 place
  have hd := fun W h => digits8_any W h place hp
  generalize lastD 8 place = D at *
  have hsum := fun W => sum_any W (D ++ C) (by rw [List.length_append]; omega)
  have l16 := sumL_len (D ++ C)
  generalize sumL (D ++ C) = S at *
  have a1 := sum_bs D C (by omega)
  have a2 := sum_bs S C (by omega)
  rw [hr] at a2
  have HD := Lib.hid hd
  have HS := Lib.hid hsum
  have HSP := Lib.hid hs
  have HL := Lib.hid hl
  have HC := Lib.hid hc
  have HT := Lib.hid ht
  have kb : Blk (w.alloc (.cells #[.int .u8 0, .int .u8 0, .int .u8 0, .int .u8 0, .int .u8 0, .int .u8 0, .int .u8 0, .int .u8 0, .int .u8 0, .int .u8 0, .int .u8 0, .int .u8 0, .int .u8 0, .int .u8 0, .int .u8 0, .int .u8 0, .int .u8 0, .int .u8 0, .int .u8 0, .int .u8 0, .int .u8 0, .int .u8 0, .int .u8 0, .int .u8 0, .int .u8 0, .int .u8 0, .int .u8 0, .int .u8 0, .int .u8 0, .int .u8 0, .int .u8 0, .int .u8 0, .int .u8 0, .int .u8 0, .int .u8 0, .int .u8 0, .int .u8 0, .int .u8 0, .int .u8 0, .int .u8 0, .int .u8 0, .int .u8 0, .int .u8 0, .int .u8 0, .int .u8 0, .int .u8 0, .int .u8 0, .int .u8 0] 114)) w.heap.size 114 (bc (List.replicate 48 0)).toArray := Blk.new w 114 _
  have hb := (Below.refl w.heap.size w).alloc (Nat.le_refl _) (.cells #[.int .u8 0, .int .u8 0, .int .u8 0, .int .u8 0, .int .u8 0, .int .u8 0, .int .u8 0, .int .u8 0, .int .u8 0, .int .u8 0, .int .u8 0, .int .u8 0, .int .u8 0, .int .u8 0, .int .u8 0, .int .u8 0, .int .u8 0, .int .u8 0, .int .u8 0, .int .u8 0, .int .u8 0, .int .u8 0, .int .u8 0, .int .u8 0, .int .u8 0, .int .u8 0, .int .u8 0, .int .u8 0, .int .u8 0, .int .u8 0, .int .u8 0, .int .u8 0, .int .u8 0, .int .u8 0, .int .u8 0, .int .u8 0, .int .u8 0, .int .u8 0, .int .u8 0, .int .u8 0, .int .u8 0, .int .u8 0, .int .u8 0, .int .u8 0, .int .u8 0, .int .u8 0, .int .u8 0, .int .u8 0] 114)
  clear hd hsum hs hl l8 l16 hr hc hp ht
  go_enter Tryz.func68, Tryz.ntmps68
  go_wp2_with (refine wpList_copy_str rfl (.tmp 7) (.tmp 8) _ _ rfl 5 (by kernel_rfl) (by kernel_rfl) w.heap.size 0 48 48 (bs c) rfl rfl (bc (List.replicate 48 0)) _ kb (by rw [bs_size]; exact HC.out) (by rw [bs_size, bc_len]; have := HC.out; simp; omega) ?_; intro w2 kb2 O2 s2)
  rw [bs_list, HSP.out] at kb2
  have hb2 : Below w.heap.size w w2 := hb.trans (O2.below hb.size (fun i hi => by rw [hi]; exact Nat.le_refl _))
  have ht2 := HT.out.below hb2
  have cv := run_string_of_blk (P := Tryz.prog) w2 49 9 5 w.heap.size 114 (by kernel_rfl) (by kernel_rfl) (by kernel_rfl) 0 48 48 C kb2 (by have := HL.out; omega)
  rw [show (⟨((C.drop 0).take 48).toArray⟩ : ByteArray) = bs C by rw [List.drop_zero, List.take_of_length_le (by rw [HL.out]; exact Nat.le_refl _)]; rfl] at cv
  have HT2 := Lib.hid ht2
  clear kb hb O2 s2 kb2 ht2 hz
  rw [cv]
  go_wp2_with fail
  refine (HD.out _ HT2.out).mono ?_
  rintro e w3 ⟨rfl, b3⟩
  clear cv
  go_wp2_with fail
  refine (HS.out _).mono ?_
  rintro e w4 ⟨rfl, b4⟩
  go_wp2
  go_ret
  exact ⟨rfl, hb2.trans ((b3.trans (b4.mono b3.size)).mono hb2.size)⟩

theorem head_place_any (w : World) (ht : Tbs w) (place : Nat) (hp : place < 100000000) (n : Nat) (hn : n < 100000000) : Calls Tryz.prog 37 #[.int .i64 (place : Int), .int .i64 (n : Int)] w fun e w' => e = .returned (.string (bs (headL place n))) ∧ Below w.heap.size w w' := by
  have hd := fun W h => digits8_any W h n hn
  have hs := fun W h => seal_any W h place hp (lastD 8 n) (by rw [lastD_len]; decide)
  have hh : sealL place (lastD 8 n) = headL place n := rfl
  rw [hh] at hs
  generalize headL place n = H at *
  generalize lastD 8 n = D at *
  have HD := Lib.hid hd
  have HS := Lib.hid hs
  clear hd hs hh hp hn
  go_enter Tryz.func37, Tryz.ntmps37
  go_wp2_with fail
  refine (HD.out _ ht).mono ?_
  rintro e w1 ⟨rfl, b1⟩
  go_wp2_with fail
  refine (HS.out _ (ht.below b1)).mono ?_
  rintro e w2 ⟨rfl, b2⟩
  go_wp2
  go_ret
  exact ⟨rfl, b1.trans (b2.mono b1.size)⟩

theorem sector_any (w : World) (ht : Tbs w) (place : Nat) (hp : place < 100000000) (p : List UInt8) (hl : p.length ≤ 46) : Calls Tryz.prog 33 #[.int .i64 (place : Int), .string (bs p)] w fun e w' => e = .returned (.string (bs (secL place p))) ∧ Below w.heap.size w w' := by
  have hd := fun W h => digits2_any W h p.length (by omega)
  have l2 := lastD_len 2 p.length
  have hs := fun W h => seal_any W h place hp (lastD 2 p.length ++ p) (by rw [List.length_append, l2]; omega)
  have hh : sealL place (lastD 2 p.length ++ p) = secL place p := rfl
  rw [hh] at hs
  have a1 := sum_bs (lastD 2 p.length) p (by omega)
  have hz := bs_size p
  generalize secL place p = H at *
  generalize lastD 2 p.length = D at *
  have HD := Lib.hid hd
  have HS := Lib.hid hs
  clear hd hs hh hp l2
  go_enter Tryz.func33, Tryz.ntmps33
  go_wp2_with fail
  refine (HD.out _ ht).mono ?_
  rintro e w1 ⟨rfl, b1⟩
  go_wp2_with fail
  refine (HS.out _ (ht.below b1)).mono ?_
  rintro e w2 ⟨rfl, b2⟩
  go_wp2
  go_ret
  exact ⟨rfl, b1.trans (b2.mono b1.size)⟩
end Go.Proofs.YtieicjjmkedgaaaGreatDoor

/- A region that draws its order, over any program: reads that hold as long as S does, first; then operations that come up in any order, behind each of which S holds; then the rest, one at a time. And append of a slice that may be nil. -/
namespace Go.Proofs.YtieicjjmkedgaaaGreatDoor
open Go.RowKit

section
variable {P : Program} {md : Region.Mode} {ops : Array Oper} {Q : Exit → Act → World → Prop}

def setAll (ks : List Nat) (listed : Array Bool) : Array Bool := ks.foldl (fun b k => b.setIfInBounds k true) listed
theorem headB_set {ops : Array Oper} : ∀ (ks : List Nat) (listed l2 : Array Bool), headB md ops ks listed = some l2 → setAll ks listed = l2
  | [], _, _, h => by simp only [headB, Option.some.injEq] at h; exact h
  | k :: ks, listed, l2, h => by
    unfold headB at h
    split at h
    · exact headB_set ks _ _ h
    · cases h
/-- What is not listed is among the late ones. -/
def lateB (n : Nat) (fs : List Nat) (listed : Array Bool) : Bool := (List.range n).all fun j => listed.getD j false || fs.contains j

/-- What may come up in any order, f operations; behind each S holds; then the reads gs, and ts, one at a time. -/
def wpBush (P : Program) (l : List Oper) (S : World → Prop) (Q : Exit → Act → World → Prop) (gs ts : List Nat) : Nat → Array Bool → Act → World → Prop
  | 0, listed, a, w => lateB l.toArray.size (gs ++ ts) listed = true ∧ (headB .any l.toArray gs listed).isSome = true ∧ tailB .any l.toArray ts (setAll gs listed) = true ∧
      wpHeld P l.toArray (fun _ => True) (fun a' => wpList P l.toArray Q (pick l ts) a' w) (pick l gs) a
  | f + 1, listed, a, w => Region.ready .any l.toArray listed ≠ [] ∧ ∀ i ∈ Region.ready .any l.toArray listed,
      wpList P l.toArray (Exit.then (fun a' w' => S w' ∧ wpBush P l S Q gs ts f (listed.setIfInBounds i true) a' w') Q) (pick l [i]) a w

section
variable {l : List Oper} {S : World → Prop} {gs ts : List Nat} {listed : Array Bool} {a : Act} {w : World} {f : Nat}
theorem wpBush_end (hL : lateB l.toArray.size (gs ++ ts) listed = true) (hG : (headB .any l.toArray gs listed).isSome = true) (hB : tailB .any l.toArray ts (setAll gs listed) = true) (h : wpHeld P l.toArray (fun _ => True) (fun a' => wpList P l.toArray Q (pick l ts) a' w) (pick l gs) a) : wpBush P l S Q gs ts 0 listed a w := ⟨hL, hG, hB, h⟩
theorem wpBush_one (i : Nat) (hr : Region.ready .any l.toArray listed = [i])
    (h : wpList P l.toArray (Exit.then (fun a' w' => S w' ∧ wpBush P l S Q gs ts f (listed.setIfInBounds i true) a' w') Q) (pick l [i]) a w) : wpBush P l S Q gs ts (f + 1) listed a w :=
  ⟨by rw [hr]; simp, fun j hj => by rw [hr] at hj; simp at hj; subst hj; exact h⟩
theorem wpBush_two (i k : Nat) (hr : Region.ready .any l.toArray listed = [i, k])
    (h : wpList P l.toArray (Exit.then (fun a' w' => S w' ∧ wpBush P l S Q gs ts f (listed.setIfInBounds i true) a' w') Q) (pick l [i]) a w)
    (h2 : wpList P l.toArray (Exit.then (fun a' w' => S w' ∧ wpBush P l S Q gs ts f (listed.setIfInBounds k true) a' w') Q) (pick l [k]) a w) : wpBush P l S Q gs ts (f + 1) listed a w :=
  ⟨by rw [hr]; simp, fun j hj => by
    rw [hr] at hj
    simp only [List.mem_cons, List.not_mem_nil, or_false] at hj
    rcases hj with rfl | rfl <;> assumption⟩
theorem wpBush_three (i k m : Nat) (hr : Region.ready .any l.toArray listed = [i, k, m])
    (h : wpList P l.toArray (Exit.then (fun a' w' => S w' ∧ wpBush P l S Q gs ts f (listed.setIfInBounds i true) a' w') Q) (pick l [i]) a w)
    (h2 : wpList P l.toArray (Exit.then (fun a' w' => S w' ∧ wpBush P l S Q gs ts f (listed.setIfInBounds k true) a' w') Q) (pick l [k]) a w)
    (h3 : wpList P l.toArray (Exit.then (fun a' w' => S w' ∧ wpBush P l S Q gs ts f (listed.setIfInBounds m true) a' w') Q) (pick l [m]) a w) : wpBush P l S Q gs ts (f + 1) listed a w :=
  ⟨by rw [hr]; simp, fun j hj => by
    rw [hr] at hj
    simp only [List.mem_cons, List.not_mem_nil, or_false] at hj
    rcases hj with rfl | rfl | rfl <;> assumption⟩
end

theorem wpAnyE_any {ops : Array Oper} {S : World → Prop} {late : Nat → Bool} (hS : ∀ w, S w) : ∀ (f : Nat) (listed : Array Bool) (a : Act) (w : World), wpAny P md ops Q f listed a w → wpAnyE P md ops Q S late f listed a w
  | 0, _, _, _, h => h
  | f + 1, _, _, _, h => ⟨h.1, fun i hi => wpOp_mono (fun a' w' h' => ⟨fun _ => hS w', wpAnyE_any hS f _ a' w' h'⟩) (h.2 i hi)⟩

/-- What can still come is late. -/
theorem wpAnyE_late {ops : Array Oper} {S : World → Prop} {late : Nat → Bool} : ∀ (f : Nat) (listed : Array Bool) (a : Act) (w : World), (∀ j, j < ops.size → listed.getD j false = false → late j = true) → wpAny P md ops Q f listed a w → wpAnyE P md ops Q S late f listed a w
  | 0, _, _, _, _, h => h
  | f + 1, listed, _, _, hl, h => by
    refine ⟨h.1, fun i hi => wpOp_mono (fun a' w' h' => ⟨fun hf => ?_, ?_⟩) (h.2 i hi)⟩
    · obtain ⟨hn, o, ho, _⟩ := mem_ready.1 hi
      have hlt : i < ops.size := by
        rcases Nat.lt_or_ge i ops.size with h1 | h1
        · exact h1
        · rw [Array.getElem?_eq_none h1] at ho; cases ho
      rw [hl i hlt (getD_both hn)] at hf
      cases hf
    · refine wpAnyE_late f _ a' w' (fun j hj hjl => hl j hj ?_) h'
      by_cases hij : i = j
      · subst hij
        obtain ⟨hn, _⟩ := mem_ready.1 hi
        exact getD_both hn
      · rw [getD_set_ne false hij] at hjl; exact hjl

theorem wpAnyE_bush {l : List Oper} {S : World → Prop} {gs ts : List Nat} (hsel : Region.noSelect l.toArray = true) (hQ : ∀ c (d : Option Tmp) (v : Value) a w, Q (.panic c) (a.put d v) w → Q (.panic c) a w) :
    ∀ (f : Nat) (listed : Array Bool) (a : Act) (w : World), Closed .any l.toArray listed →
    wpBush P l S Q gs ts f listed a w → wpAnyE P .any l.toArray Q S (fun j => (gs ++ ts).contains j) (f + (gs.length + ts.length)) listed a w
  | 0, listed, a, w, hc, h => by
    rw [Nat.zero_add]
    obtain ⟨hb, h1, h2, h3⟩ := h
    cases h4 : headB .any l.toArray gs listed with
    | none => rw [h4] at h1; cases h1
    | some l2 =>
      have hl2 := headB_set _ _ _ h4
      rw [hl2] at h2
      refine wpAnyE_late _ _ _ _ (fun j hj hjl => ?_) ?_
      · have := List.all_eq_true.1 hb j (by simpa using hj)
        rw [hjl, Bool.false_or] at this
        exact this
      refine wpAny_of_E (S := fun _ => True) (late := fun _ => false) _ _ _ _ ?_
      refine wpAnyE_held (P := P) (Q := Q) (md := .any) (w := w) (S := fun _ => True) (late := fun _ => false) (K := fun a' => wpList P l.toArray Q (pick l ts) a' w) (hs := gs) (g := ts.length) hsel hQ
        (fun j i hi hj => by cases hj) (fun i hi => rfl) trivial
        (fun a' ha' => wpAnyE_any (fun _ => trivial) _ _ _ _ (wpAny_tail ts l2 a' w h2 ha')) gs listed a (fun k hk => hk) hc h4 h3
  | f + 1, listed, a, w, hc, h => by
    rw [show f + 1 + (gs.length + ts.length) = (f + (gs.length + ts.length)) + 1 by omega]
    refine ⟨fun h0 => absurd h0 h.1, fun i hi => ?_⟩
    obtain ⟨_, o, h0, _⟩ := mem_ready.1 hi
    have hp : pick l [i] = [o] := by
      have : l[i]? = some o := by simpa using h0
      simp [pick, this]
    have h2 := h.2 i hi
    rw [hp] at h2
    exact wpOp_mono (fun a' w' h' => ⟨fun _ => h'.1, wpAnyE_bush hsel hQ f _ a' w' (hc.set hi) h'.2⟩) (wpOp_of_one h0 h2)

def bushB (l : List Oper) (hs fs : List Nat) (n : Nat) : Bool :=
  Region.noSelect l.toArray && decide (hs.length + n + fs.length = l.length) && waitB .any l.toArray fs hs && (hs.all fun i => !fs.contains i) && (headB .any l.toArray hs (Array.replicate l.length false)).isSome

/-- The reads of a region, taken first, keep the state closed. -/
theorem headB_closed {l : List Oper} : ∀ (ks : List Nat) (listed l2 : Array Bool), Closed md l.toArray listed → headB md l.toArray ks listed = some l2 → Closed md l.toArray l2
  | [], _, _, hc, h => by simp only [headB, Option.some.injEq] at h; subst h; exact hc
  | k :: ks, listed, l2, hc, h => by
    unfold headB at h
    split at h
    · rename_i hrf
      simp only [Bool.and_eq_true] at hrf
      exact headB_closed ks _ _ (hc.set (by simpa using hrf.1)) h
    · cases h

/-- A REGION THAT DRAWS ITS ORDER: the reads 'hs', whose values hold as long as S does; then n operations in any order, behind each of which S holds; then the reads 'gs' and 'ts', one at a time: these wait for all of 'hs'. -/
theorem wp_region_bush {id : Nat} {l : List Oper} {a : Act} {w : World} (S : World → Prop) (hs : List Nat) (n : Nat) (gs ts : List Nat) (hm : P.follows .mixedOrders = true) (hB : bushB l hs (gs ++ ts) n = true)
    (hQ : ∀ c (d : Option Tmp) (v : Value) a w, Q (.panic c) (a.put d v) w → Q (.panic c) a w) (hS : S w.drew)
    (h : wpHeld P l.toArray S (fun a' => wpBush P l S Q gs ts n (setAll hs (Array.replicate l.length false)) a' w.drew) (pick l hs) a) : (Code.region id l.toArray true).wp P Q a w := by
  simp only [bushB, Bool.and_eq_true, decide_eq_true_eq] at hB
  obtain ⟨⟨⟨⟨hsel, hlen⟩, hw⟩, hnf⟩, hrest⟩ := hB
  cases h2 : headB .any l.toArray hs (Array.replicate l.length false) with
  | none => rw [h2] at hrest; cases hrest
  | some l2 =>
    have hl2 := headB_set _ _ _ h2
    rw [hl2] at h
    have hc0 : Closed .any l.toArray (Array.replicate l.length false) := fun j oj _ hl => by rw [getD_replicate_false] at hl; cases hl
    have hc2 := headB_closed _ _ _ hc0 h2
    refine wp_region_any hm ?_
    have key := wpAnyE_held (P := P) (Q := Q) (md := .any) (w := w.drew) (S := S) (late := fun j => (gs ++ ts).contains j) (hs := hs) (g := n + (gs.length + ts.length)) hsel hQ
      (fun j i hi hj => List.all_eq_true.1 (List.all_eq_true.1 hw j (List.contains_iff_mem.1 hj)) i hi) (fun i hi => by have := List.all_eq_true.1 hnf i hi; cases hc : (gs ++ ts).contains i; rfl; rw [hc] at this; cases this) hS
      (fun a' ha' => wpAnyE_bush hsel hQ n l2 a' w.drew hc2 ha') hs (Array.replicate l.length false) a (fun k hk => hk) hc0 h2 h
    have k3 := wpAny_of_E _ _ _ _ key
    rw [List.length_append] at hlen
    have : l.length = hs.length + (n + (gs.length + ts.length)) := by omega
    rw [← this] at k3
    have hsz : l.toArray.size = l.length := by simp
    rw [hsz]
    exact k3

/-- The library's law, its world written as the walk wants it. -/
theorem wp_region_tailB {id : Nat} {l : List Oper} {a : Act} {w : World} (n : Nat) (hm : P.follows .mixedOrders = true) (hB : Region.lexTailB .any l.toArray n = true)
    (h : wpStill P l.toArray w.drew (fun a' => wpList P l.toArray Q (l.drop n) a' w.drew) (l.take n) a) : (Code.region id l.toArray true).wp P Q a w :=
  wp_region_still_tail n hm hB h

/-- append(v, x...): v the call's own, x a slice that may be nil. -/
theorem wpList_append_any {w : World} {rest : List Oper} {o : Oper} {a : Act} (hgd : o.guard = none) (s x : Operand) (t : TypeId)
    (ho : o.op = .call { callee := .builtin .append, args := #[s, x], argTypes := #[t, t] })
    (base : Nat) (e : TypeId) (i : TypeInfo) (z : Value) (size bytes : Nat) (ht : P.underlying t = some (.slice e)) (hi : P.info? e = some i) (hz : i.zero = some z)
    (hsize : i.size = size) (hby : i.bytes = bytes) (hzs : z.cells.size = size) (hsz : 0 < size)
    (v : Value) (n : Nat) (xs : List Value) (hs : a.eval s = v) (hown : w.ownsRow base e size v n xs)
    (A : Option Addr) (m c : Nat) (news : List Value) (hx : a.eval x = .slice A m c) (hl : news.length = m * size) (hnews : ∀ j u, news[j]? = some u → ∃ ad, A = some ad ∧ w.cell? (ad.add j) = some u) (h1 : ∀ u ∈ news, u.oneCell' = true)
    (h63 : n + m ≤ maxLen) (hbytes : (n + m) * bytes ≤ 140737488355328) (hbase : base ≤ w.heap.size)
    (h : ∀ v' w', w'.ownsRow base e size v' (n + m) (xs ++ news) → w.grownBy w' v.ownBlock → (v'.ownBlock = v.ownBlock ∨ v'.ownBlock = some w.heap.size) → wpList P ops Q rest (a.put o.dst v') w') :
    wpList P ops Q (o :: rest) a w := by
  cases A with
  | some ad =>
    refine wpList_append_own_at w hgd s x t ho base e i z size bytes ht hi hz hsize hby hzs hsz v n xs hs hown ad m c news hx hl (fun j u hj => ?_) h1 h63 hbytes hbase (fun v' w' h2 h3 _ h5 => h v' w' h2 h3 h5)
    obtain ⟨ad', e1, e2⟩ := hnews j u hj
    injection e1 with e1
    rw [e1]
    exact e2
  | none =>
    have hn : news = [] := by
      match news, hnews with
      | [], _ => rfl
      | u :: us, hnews => obtain ⟨_, e1, _⟩ := hnews 0 u rfl; cases e1
    subst hn
    have hm : m = 0 := by
      rcases Nat.eq_zero_or_pos m with h0 | h0
      · exact h0
      · have := Nat.mul_pos h0 hsz
        simp at hl
        omega
    subst hm
    refine wpList_plain hgd fun K hK => ?_
    have hr : (Builtin.append_ #[t, t] o.type #[v, .slice none 0 c]).run P w = .ok v w := by
      rcases hown.2 with ⟨rfl, rfl⟩ | ⟨g, cap, cur, rfl, _, _, hnc, _⟩
      · simp [Builtin.append_, run_underlying ht, sizeOf, typeInfo, hi, Builtin.lenOf, Builtin.firstCells]
      · simp [Builtin.append_, run_underlying ht, sizeOf, typeInfo, hi, Builtin.lenOf, Builtin.firstCells, hnc, storeCells]
    unfold Oper.wp execOp
    simp only [ho, resolve, invoke, builtin, Sem.run_bind, Sem.run_pure, Result.andThen_ok, List.map_toArray, List.map_cons, List.map_nil, hs, hx, hr]
    exact hK _ _ (h v w (by simpa using hown) ⟨rfl, rfl, rfl, Nat.le_refl _, fun _ _ _ => rfl⟩ (.inl rfl))
end
end Go.Proofs.YtieicjjmkedgaaaGreatDoor

/- The journal's texts: split. -/
namespace Go.Proofs.YtieicjjmkedgaaaGreatDoor
open Go.RowKit Go.Shelf

theorem Tryz.infoStr : (Tryz.prog.info? 9).map (fun i => (i.zero, i.size, i.bytes)) = some (some (Value.string ⟨#[]⟩), 1, 16) := by kernel_rfl
def sv (l : List UInt8) : Value := .string (bs l)
theorem sv_one (l : List (List UInt8)) : ∀ u ∈ l.map sv, u.oneCell' = true := by
  intro u hu
  obtain ⟨x, _, rfl⟩ := List.mem_map.1 hu
  rfl
/-- A slice of texts of the call's own. -/
def OwnStrs (w : World) (base : Nat) (v : Value) (l : List (List UInt8)) : Prop := w.ownsRow base 9 1 v l.length (l.map sv)
theorem OwnStrs.nil (w : World) (base : Nat) : OwnStrs w base (.slice none 0 0) [] := World.ownsRow_nil _ _ _ _
theorem OwnStrs.form {w : World} {base : Nat} {v : Value} {l : List (List UInt8)} (h : OwnStrs w base v l) : ∃ A c, v = .slice A l.length c := by
  rcases h.2 with ⟨hv, h0⟩ | ⟨g, cap, cur, hv, _⟩
  · exact ⟨none, 0, by rw [hv, h0]⟩
  · exact ⟨_, _, hv⟩
theorem ne_empty {l : List UInt8} (h : l ≠ []) : (bs l).toList.isEmpty = false ∧ ¬ (bs l).toList = [] := by
  rw [Lib.toList_data]
  show l.isEmpty = false ∧ ¬ l = []
  exact ⟨by cases l with | nil => exact absurd rfl h | cons x l => rfl, h⟩

set_option maxRecDepth 100000 in
set_option maxHeartbeats 4000000 in
theorem split_any (w : World) (t : List UInt8) (ht : t.length ≤ 1000000) : Calls Tryz.prog 54 #[.string (bs t)] w fun e w' => ∃ v, e = .returned v ∧ OwnStrs w' w.heap.size v (piecesL t) ∧ Below w.heap.size w w' := by
  obtain ⟨i0, hi0, hz0, hz1, hz2⟩ := info_parts Tryz.infoStr
  obtain ⟨P, hP⟩ : ∃ P, piecesL t = P := ⟨_, rfl⟩
  rw [hP]
  have hPl : P.length ≤ t.length := by
    rw [← hP]
    have h1 := pieces_flat t
    have h2 := pieces_small t
    generalize piecesL t = Q at *
    rw [← h1]
    clear h1 hP
    induction Q with
    | nil => simp
    | cons x Q ih =>
      have := ih (fun p hp => h2 p (List.mem_cons_of_mem _ hp))
      have := (h2 x List.mem_cons_self).1
      simp only [List.length_cons, List.flatten_cons, List.length_append]
      omega
  have HP := Lib.hid hP
  clear hP
  have hw0 : OwnStrs w w.heap.size (.slice none 0 0) [] := OwnStrs.nil _ _
  go_enter Tryz.func54, Tryz.ntmps54
  go_wp2_with fail
  go_loopw [0, 3] (fun s v wr => ∃ (m : List UInt8) (ps : List (List UInt8)) (A : Option Addr) (c : Nat), s = .string (bs m) ∧ v = .slice A ps.length c ∧ OwnStrs wr w.heap.size (.slice A ps.length c) ps ∧ Hid (ps ++ piecesL m = P) ∧ Below w.heap.size w wr) (fun s _ _ => strSize s)
  case atStart => exact ⟨t, [], none, 0, rfl, rfl, hw0, Lib.hid (by rw [HP.out]; rfl), Below.refl _ _⟩
  case round =>
    clear hw0 HP
    obtain ⟨m, ps, A, c, rfl, rfl, own, HM, hb⟩ := hrel
    have hsz := bs_size m
    by_cases h0 : m = []
    · subst h0
      have hfin : ps = P := by have := HM.out; rw [pieces_nil, List.append_nil] at this; exact this
      subst hfin
      have he : (bs []).toList = [] := by rw [Lib.toList_data]; rfl
      go_wp2
      go_ret
      exact ⟨_, rfl, own, hb⟩
    · obtain ⟨q1, q2⟩ := ne_empty h0
      have hnx : (ps ++ [m.take 46]) ++ piecesL (m.drop 46) = P := by
        rw [← HM.out, pieces_cons h0, List.append_assoc]; rfl
      have hpsl : ps.length + 1 ≤ P.length := by rw [← hnx]; simp
      obtain ⟨k, hk⟩ : ∃ k, min 46 m.length = k := ⟨_, rfl⟩
      have hmin := run_min2 (P := Tryz.prog) 46 (m.length : Int) (k : Int) (by omega)
      have htk : m.take 46 = m.take k := by rw [← hk, List.take_eq_take_min]
      have hdk : m.drop 46 = m.drop k := by
        by_cases h46 : 46 ≤ m.length
        · rw [show k = 46 by omega]
        · rw [List.drop_of_length_le (by omega), List.drop_of_length_le (by omega)]
      have hkp : 1 ≤ k := by have : 0 < m.length := List.length_pos_iff.2 h0; omega
      have hkm : k ≤ m.length := by omega
      have s1 := sl_to m k hkm
      have s2 := sl_from m k hkm
      have hml : (m.drop k).length = m.length - k := List.length_drop
      rw [htk, hdk] at hnx
      have HNX := Lib.hid hnx
      have HML := Lib.hid hml
      have HPL := Lib.hid hpsl
      have kn := Blk.new wr 9 #[sv (m.take k)]
      have hb2 := hb.alloc hb.size (.cells #[sv (m.take k)] 9)
      have own2 : OwnStrs (wr.alloc (.cells #[sv (m.take k)] 9)) w.heap.size (.slice A ps.length c) ps := World.ownsRow.alloc own _
      clear hnx hml hk htk hdk h0 hpsl
      go_wp2_with (at_builtin; refine wpList_append_lies _ rfl _ _ 30 rfl w.heap.size 9 i0 _ 1 16 Tryz.underlying30 hi0 hz0 hz1 hz2 rfl (by omega) (.slice A ps.length c) ps.length (ps.map sv) rfl own2 ⟨wr.heap.size, 0, none⟩ 1 1 [sv (m.take k)] rfl rfl (World.news_of_block kn) (sv_one [m.take k]) (by omega) (by have := HPL.out; unfold maxLen; omega) (by have := HPL.out; omega) (by have := hb.size; simp; omega) (wr.heap.size + 1) (by simp) ?_; intro gz cz Y own9 gr9 l9 z9)
      have hb3 := hb2.grown gr9 hb2.size (fun x hx => (World.ownsRow.lt own2 x hx).1)
      have hl1 : (ps ++ [m.take k]).length = ps.length + 1 := by simp
      have own3 : OwnStrs Y w.heap.size (.slice (some ⟨gz, 0, none⟩) (ps.length + 1) cz) (ps ++ [m.take k]) := by
        unfold OwnStrs
        rw [hl1, List.map_append]
        exact own9
      go_roundw
      case rel => exact ⟨m.drop k, ps ++ [m.take k], some ⟨gz, 0, none⟩, cz, rfl, by rw [hl1], by rw [hl1]; exact own3, HNX, hb3⟩
      case measure =>
        show (bs (m.drop k)).size < (bs m).size
        rw [bs_size, bs_size, HML.out]; omega
end Go.Proofs.YtieicjjmkedgaaaGreatDoor

/- The journal: write. -/
namespace Go.Proofs.YtieicjjmkedgaaaGreatDoor
open Go.RowKit Go.Shelf

/-- The sectors written one after the other, and then synchronized. -/
def Dk.puts (d : Dk) (place : Nat) : List (List UInt8) → Dk × Int
  | [] => d.sync
  | s :: r => if (d.write place (bs s)).2 = 0 then Dk.puts (d.write place (bs s)).1 (place + 1) r else d.write place (bs s)
/-- A slice of texts that lies in the blocks of G. -/
def StrsIn (w : World) (G : Foot) (A : Option Addr) (l : List (List UInt8)) : Prop :=
  ∀ (i : Nat) (s : List UInt8), l[i]? = some s → ∃ g off, A = some ⟨g, off, none⟩ ∧ G g ∧ w.cell? ⟨g, off + i, none⟩ = some (.string (bs s))
theorem StrsIn.keep {w w' : World} {A : Option Addr} {l : List (List UInt8)} {G : Foot} (h : StrsIn w G A l) (hk : Keep G w w') : StrsIn w' G A l := fun i s hi => by
  obtain ⟨g, off, hA, hg, hc⟩ := h i s hi
  exact ⟨g, off, hA, hg, (World.cell?_of_block (a := ⟨g, off + i, none⟩) (hk.block g hg)).trans hc⟩
theorem StrsIn.mono {w : World} {A : Option Addr} {l : List (List UInt8)} {G H : Foot} (h : StrsIn w G A l) (hG : ∀ i, G i → H i) : StrsIn w H A l := fun i s hi => by
  obtain ⟨g, off, hA, hg, hc⟩ := h i s hi
  exact ⟨g, off, hA, hG g hg, hc⟩
theorem Blk.keep {w w' : World} {g : Nat} {t : TypeId} {cs : Array Value} {G : Foot} (h : Blk w g t cs) (hk : Keep G w w') (hg : G g) : Blk w' g t cs := (hk.block g hg).trans h
theorem Keep.trans {G : Foot} {a b c : World} (h : Keep G a b) (k : Keep G b c) : Keep G a c := ⟨Nat.le_trans h.size k.size, fun i hi => (k.block i hi).trans (h.block i hi)⟩
theorem Keep.refl (G : Foot) (w : World) : Keep G w w := ⟨Nat.le_refl _, fun _ _ => rfl⟩

set_option maxRecDepth 100000 in
set_option maxHeartbeats 4000000 in
theorem put_any {w0 w : World} {a : Nat} {d : Dk} {G : Foot} (L : Live w0 w a d G) (j : Nat) (v1 v2 v3 v4 : Value) (hj : Blk w j 58 #[.pointer (some ⟨a, 0, none⟩), v1, v2, v3, v4]) (hG : G j)
    (place : Nat) (hp : place ≤ 1000000) (A : Option Addr) (l : List (List UInt8)) (c : Nat) (hs : StrsIn w G A l) (hq : d.q.length + l.length < 4096) :
    Calls Tryz.prog 39 #[.pointer (some ⟨j, 0, none⟩), .int .i64 (place : Int), .slice A l.length c] w fun e w' =>
      e = .returned (.int .i64 (d.puts place l).2) ∧ Live w0 w' a (d.puts place l).1 G ∧ Keep G w w' := by
  obtain ⟨r, hr⟩ : ∃ r, d.puts place l = r := ⟨_, rfl⟩
  rw [hr]
  have HR := Lib.hid hr
  have hk := Keep.refl G w
  have HJ := Lib.hid hj
  have HS := Lib.hid hs
  have LL := Lib.hid L
  clear hr hj hs L
  go_enter Tryz.func39, Tryz.ntmps39
  go_wp2_with fail
  go_loopw [12] (fun i wr => ∃ (k : Nat) (d' : Dk), k ≤ l.length ∧ i = .int .i64 (k : Int) ∧ Live w0 wr a d' G ∧ Keep G w wr ∧ d'.q.length + (l.length - k) < 4096 ∧ Hid (d'.puts (place + k) (l.drop k) = r)) (fun i _ => l.length - (intOf i).toNat)
  case atStart => exact ⟨0, d, Nat.zero_le _, rfl, LL.out, hk, by omega, HR⟩
  case round =>
    clear hk HR LL
    obtain ⟨k, d', hkl, rfl, L, hk, hq', HR⟩ := hrel
    have hj := HJ.out.keep hk hG
    obtain ⟨x0, x1, x2⟩ := hj.all
    by_cases hlt : k < l.length
    · obtain ⟨s, hss⟩ : ∃ s, l[k]? = some s := ⟨_, List.getElem?_eq_getElem hlt⟩
      obtain ⟨g, off, hA, hg, hc⟩ := HS.out.keep hk k s hss
      subst hA
      have hdr : l.drop k = s :: l.drop (k + 1) := by
        obtain ⟨h1, h2⟩ := List.getElem?_eq_some_iff.1 hss
        rw [List.drop_eq_getElem_cons h1, h2]
      have hi0 : (0 : Int) ≤ (k : Int) := by omega
      have hi1 : (k : Int) < (l.length : Int) := by omega
      obtain ⟨pk, hpk⟩ : ∃ pk, place + k = pk := ⟨_, rfl⟩
      have hsum : ((place : Int) + (k : Int)) = (pk : Int) := by omega
      rw [hpk] at HR
      have hl5 : l.length < 4096 := by omega
      obtain ⟨x, hx⟩ : ∃ x, d'.write (pk : Int) (bs s) = x := ⟨_, rfl⟩
      have hwn := Dk.write_q d' (pk : Int) (bs s)
      have hw := L.lift fun F hF => write_any hF (show d'.q.length < 4096 by omega) (pk : Int) (bs s)
      rw [hx] at hw hwn
      rw [hdr] at HR
      have hrr := HR.out
      unfold Dk.puts at hrr
      rw [hx] at hrr
      have HW := Lib.hid hw
      have HRR := Lib.hid hrr
      have HPK := Lib.hid hpk
      clear hw hss hdr hx HR hrr hpk
      go_wp2_with fail
      refine HW.out.mono ?_
      rintro e w3 ⟨rfl, L3, hk3⟩
      have hk4 := hk.trans hk3
      clear hk hk3 L HW hc x0 x1 x2 hj hsum
      by_cases hz : x.2 = 0
      · rw [if_pos hz] at HRR
        have e1 : (x.2 == 0) = true := by simpa using hz
        have e2 : (x.2 != 0) = false := by simpa using hz
        have HRN := Lib.hid (show x.1.puts (place + (k + 1)) (l.drop (k + 1)) = r by rw [← HRR.out, ← HPK.out]; rfl)
        clear HRR hz
        go_wp2
        go_roundw
        case rel => exact ⟨k + 1, x.1, by omega, by go_num, L3, hk4, by omega, HRN⟩
        case measure => simp [intOf]; omega
      · rw [if_neg hz] at HRR
        have e1 : (x.2 == 0) = false := by simpa using hz
        have e2 : (x.2 != 0) = true := by simpa using hz
        obtain rfl : x = r := HRR.out
        clear HRR hz
        go_wp2
        go_ret
        exact ⟨rfl, L3, hk4⟩
    · obtain rfl : k = l.length := by omega
      have hrr := HR.out
      rw [List.drop_length] at hrr
      have hr2 : d'.sync = r := hrr
      have hsy := L.lift fun F hF => sync_any hF
      rw [hr2] at hsy
      have HSY := Lib.hid hsy
      clear hsy hrr hr2 HR
      go_wp2_with fail
      refine HSY.out.mono ?_
      rintro e w3 ⟨rfl, L3, hk3⟩
      have hk4 := hk.trans hk3
      clear hk hk3 L HSY x0 x1 x2 hj
      go_wp2
      go_ret
      exact ⟨rfl, L3, hk4⟩
end Go.Proofs.YtieicjjmkedgaaaGreatDoor
