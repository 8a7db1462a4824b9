/- What Sync, Read, Start, Arm, Rot, Stale and New of package disk do to a disk in memory. -/
import Derived.Test.YtfjejfgdnjnflaaGreatDoorDd
namespace Go.Proofs.YtfjejfgdnjnflaaGreatDoor
open Go.RowKit

theorem Dk.count_err (d : Dk) : d.count.2 = 0 ∨ d.count.2 = 25 := by
  unfold Dk.count
  split
  · exact .inl rfl
  · split
    · exact .inl rfl
    · exact .inr rfl

section
variable {w : World} {a b1 b2 : Nat} {qv : Value} {ga : Option Nat} {d : Dk} {F : Foot}

set_option maxRecDepth 100000 in
set_option maxHeartbeats 400000 in
theorem sync_nil (w : World) : Calls Tryz.prog 77 #[.pointer none] w fun e w' => e = .returned (.int .i64 1) ∧ w = w' := by
  go_enter Tryz.func77, Tryz.ntmps77
  go_wp2
  go_ret
  exact ⟨rfl, rfl⟩

set_option maxRecDepth 100000 in
set_option maxHeartbeats 400000 in
theorem sync_off (h : DiskAt' w a b1 b2 qv ga d F) (ho : d.off = true) : Calls Tryz.prog 77 #[.pointer (some ⟨a, 0, none⟩)] w fun e w' => e = .returned (.int .i64 25) ∧ w = w' := by
  obtain ⟨c0, f0, hlt⟩ := h.main.all
  simp only [ho] at c0
  clear ho
  go_enter Tryz.func77, Tryz.ntmps77
  go_wp2
  go_ret
  exact ⟨rfl, rfl⟩

set_option maxRecDepth 100000 in
set_option maxHeartbeats 400000 in
theorem sync_on (h : DiskAt' w a b1 b2 qv ga d F) (ho : d.off = false) : Calls Tryz.prog 77 #[.pointer (some ⟨a, 0, none⟩)] w fun e w' =>
    e = .returned (.int .i64 d.sync.2) ∧ Only F w w' ∧ DiskAt w' a d.sync.1 F := by
  obtain ⟨c0, f0, hlt⟩ := h.main.all
  simp only [ho] at c0
  have HO := Lib.hid ho
  clear ho
  rcases d.count_err with hc | hc
  · have hs : d.sync = ({ d.count.1.settle d.count.1.q with q := [] }, 0) := by unfold Dk.sync; rw [HO.out]; simp [hc]
    rw [hs]
    have HC := Lib.hid hc
    clear hc hs
    go_enter Tryz.func77, Tryz.ntmps77
    go_wp2_with fail
    refine (count_some h HO.out).mono ?_
    rintro e w1 ⟨rfl, o1, b1', b2', qv', ga', h1⟩
    rw [HC.out]
    obtain ⟨A, c, rfl, hqc⟩ := h1.form
    obtain ⟨c1, f1, l1⟩ := h1.main.all
    clear c0 f0
    go_wp2_with fail
    refine (settle_any h1 A _ c _ c rfl (Nat.le_refl _)).mono ?_
    rintro e w2 ⟨rfl, o2, h2⟩
    obtain ⟨c2, f2, l2⟩ := h2.main.all
    clear c1 f1
    go_wp2
    go_ret
    rw [List.take_length] at h2
    have o3 : Only (fun i => i = a) w2 (w2.setCell ⟨a, 2, none⟩ (.slice none 0 0)) := (Only.refl (fun i => i = a) w2).setCell (p := ⟨a, 2, none⟩) (.inl rfl) _
    refine ⟨rfl, (o1.trans o2 (fun i hi => .inl hi)).trans o3 (fun i hi => .inl (by rw [hi]; exact h.fa)), _, _, _, _, h2.flags o3 _ _ _ _ _ (.inr ⟨rfl, rfl⟩) (.inl ⟨rfl, rfl⟩) (by simpa using h2.main.set_ 2 (.slice none 0 0))⟩
  · have hs : d.sync = d.count := by unfold Dk.sync; rw [HO.out]; simp [hc]
    rw [hs]
    have hb : (d.count.2 != 0) = true := by rw [hc]; rfl
    clear hc hs
    go_enter Tryz.func77, Tryz.ntmps77
    go_wp2_with fail
    refine (count_some h HO.out).mono ?_
    rintro e w1 ⟨rfl, o1, h1⟩
    go_wp2
    go_ret
    exact ⟨rfl, o1, h1⟩

set_option maxRecDepth 100000 in
set_option maxHeartbeats 400000 in
theorem start_any (h : DiskAt' w a b1 b2 qv ga d F) : Calls Tryz.prog 22 #[.pointer (some ⟨a, 0, none⟩)] w fun e w' =>
    e = .returned (.tuple #[]) ∧ Only F w w' ∧ DiskAt w' a d.start F := by
  obtain ⟨c0, f0, hlt⟩ := h.main.all
  go_enter Tryz.func22, Tryz.ntmps22
  go_wp2
  go_end0
  have o3 : Only (fun i => i = a) w ((w.setCell ⟨a, 3, none⟩ (.bool false)).setCell ⟨a, 4, none⟩ (.pointer none)) := ((Only.refl (fun i => i = a) w).setCell (p := ⟨a, 3, none⟩) (.inl rfl) _).setCell (p := ⟨a, 4, none⟩) (.inl rfl) _
  exact ⟨rfl, o3.mono (fun i hi => by rw [hi]; exact h.fa), _, _, _, _, h.flags o3 false _ _ none _ (.inl ⟨rfl, rfl⟩) (.inr ⟨rfl, rfl⟩) (by simpa [armV] using (h.main.set_ 3 (.bool false)).set_ 4 (.pointer none))⟩

set_option maxRecDepth 100000 in
set_option maxHeartbeats 400000 in
theorem start_nil (w : World) : Calls Tryz.prog 22 #[.pointer none] w fun e w' => e = .returned (.tuple #[]) ∧ w = w' := by
  go_enter Tryz.func22, Tryz.ntmps22
  go_wp2
  go_end0
  exact ⟨rfl, rfl⟩

set_option maxRecDepth 100000 in
set_option maxHeartbeats 400000 in
theorem arm_nil (w : World) (x y z : Int) : Calls Tryz.prog 24 #[.pointer none, .int .i64 x, .int .i64 y, .int .i64 z] w fun e w' => e = .returned (.tuple #[]) ∧ w = w' := by
  go_enter Tryz.func24, Tryz.ntmps24
  go_wp2
  refine bodyPost_ret (results_none rfl _ _ _) rfl ?_
  exact ⟨rfl, rfl⟩

set_option maxRecDepth 100000 in
set_option maxHeartbeats 400000 in
theorem arm_off (h : DiskAt' w a b1 b2 qv ga d F) (ho : d.off = true) (x y z : Int) : Calls Tryz.prog 24 #[.pointer (some ⟨a, 0, none⟩), .int .i64 x, .int .i64 y, .int .i64 z] w fun e w' => e = .returned (.tuple #[]) ∧ w = w' := by
  obtain ⟨c0, f0, hlt⟩ := h.main.all
  simp only [ho] at c0
  clear ho
  go_enter Tryz.func24, Tryz.ntmps24
  go_wp2
  refine bodyPost_ret (results_none rfl _ _ _) rfl ?_
  exact ⟨rfl, rfl⟩

set_option maxRecDepth 100000 in
set_option maxHeartbeats 400000 in
theorem arm_no (h : DiskAt' w a b1 b2 qv ga d F) (ho : d.off = false) (x y z : Int) (hx : x < 0) : Calls Tryz.prog 24 #[.pointer (some ⟨a, 0, none⟩), .int .i64 x, .int .i64 y, .int .i64 z] w fun e w' =>
    e = .returned (.tuple #[]) ∧ Only F w w' ∧ DiskAt w' a (d.doArm x y z) F := by
  obtain ⟨c0, f0, hlt⟩ := h.main.all
  simp only [ho] at c0
  have HO := Lib.hid ho
  clear ho
  go_enter Tryz.func24, Tryz.ntmps24
  go_wp2
  go_end0
  have o3 : Only (fun i => i = a) w (w.setCell ⟨a, 4, none⟩ (.pointer none)) := (Only.refl (fun i => i = a) w).setCell (p := ⟨a, 4, none⟩) (.inl rfl) _
  have hd : d.doArm x y z = { d with arm := none } := by unfold Dk.doArm; rw [HO.out]; simp [show ¬ 0 ≤ x by omega]
  rw [hd]
  exact ⟨rfl, o3.mono (fun i hi => by rw [hi]; exact h.fa), _, _, _, _, h.flags o3 _ _ _ none none (.inl ⟨rfl, rfl⟩) (.inr ⟨rfl, rfl⟩) (by simpa [armV] using h.main.set_ 4 (.pointer none))⟩

theorem DiskAt'.armed {x y z : Int} {w' : World} {g : Nat} (h : DiskAt' w a b1 b2 qv ga d F) (hO : Only (fun i => i = a) w w') (hg : Blk w' g 95 #[.int .i64 x, .int .i64 y, .int .i64 z]) (hx : 0 ≤ x) (hx1 : x ≤ 9223372036854775807)
    (hm : Blk w' a 73 #[.slice (some ⟨b1, 0, none⟩) (64 * d.n) (64 * d.n), .slice (some ⟨b2, 0, none⟩) (64 * d.n) (64 * d.n), qv, .bool d.off, .pointer (some ⟨g, 0, none⟩)]) :
    DiskAt' w' a b1 b2 qv (some g) { d with arm := some (x, y, z) } (fun k => F k ∨ k = g) := by
  have n1 := h.main.ne_ h.st (by decide)
  have n2 := h.main.ne_ h.el (by decide)
  exact {
    ok := ⟨h.ok.n1, h.ok.n2, h.ok.st, h.ok.el, h.ok.q, fun u hu => by injection hu with hu; subst hu; exact ⟨hx, hx1⟩⟩
    main := hm
    st := hO.blk h.st n1.symm
    el := hO.blk h.el n2.symm
    ne := h.ne
    q := hO.owns h.q (fun k hk e => own_blk_ne h.q h.main (by decide) (by rw [hk, e]))
    qlen := h.qlen
    arm0 := fun e => by cases e
    arm1 := fun k hk => by injection hk with hk; subst hk; exact ⟨_, rfl, hg⟩
    fa := .inl h.fa
    f1 := .inl h.f1
    f2 := .inl h.f2
    fq := fun k hk => .inl (h.fq k hk)
    fg := fun k hk => .inr (by injection hk with hk; exact hk.symm)
    fl := fun k hk => by
      rcases hk with hk | rfl
      · exact Nat.lt_of_lt_of_le (h.fl k hk) hO.size
      · exact hg.lt }

set_option maxRecDepth 100000 in
set_option maxHeartbeats 400000 in
theorem arm_yes (h : DiskAt' w a b1 b2 qv ga d F) (ho : d.off = false) (x y z : Int) (hx : 0 ≤ x) (hx1 : x ≤ 9223372036854775807) : Calls Tryz.prog 24 #[.pointer (some ⟨a, 0, none⟩), .int .i64 x, .int .i64 y, .int .i64 z] w fun e w' =>
    e = .returned (.tuple #[]) ∧ ∃ F', Only F' w w' ∧ (∀ k, F' k → F k ∨ w.heap.size ≤ k) ∧ DiskAt w' a (d.doArm x y z) F' := by
  obtain ⟨c0, f0, hlt⟩ := h.main.all
  simp only [ho] at c0
  have HO := Lib.hid ho
  clear ho
  go_enter Tryz.func24, Tryz.ntmps24
  go_wp2
  go_end0
  have hd : d.doArm x y z = { d with arm := some (x, y, z) } := by unfold Dk.doArm; rw [HO.out]; simp [hx]
  rw [hd]
  have o3 : Only (fun i => i = a) w (((w.setCell ⟨a, 4, none⟩ (.pointer none)).setCell ⟨a, 4, none⟩ (.pointer (some ⟨w.heap.size, 0, none⟩))).alloc (.cells #[.int .i64 x, .int .i64 y, .int .i64 z] 95)) :=
    (((Only.refl (fun i => i = a) w).setCell (p := ⟨a, 4, none⟩) (.inl rfl) _).setCell (p := ⟨a, 4, none⟩) (.inl rfl) _).alloc _
  have hb := Blk.new ((w.setCell ⟨a, 4, none⟩ (.pointer none)).setCell ⟨a, 4, none⟩ (.pointer (some ⟨w.heap.size, 0, none⟩))) 95 #[.int .i64 x, .int .i64 y, .int .i64 z]
  have hz : ((w.setCell ⟨a, 4, none⟩ (.pointer none)).setCell ⟨a, 4, none⟩ (.pointer (some ⟨w.heap.size, 0, none⟩))).heap.size = w.heap.size := by simp [World.setCell]
  rw [hz] at hb
  refine ⟨rfl, _, o3.mono (fun i hi => .inl (by rw [hi]; exact h.fa)), ?_, _, _, _, _, h.armed o3 hb hx hx1 (by simpa using ((h.main.set_ 4 (.pointer none)).set_ 4 (.pointer (some ⟨w.heap.size, 0, none⟩))).alloc _)⟩
  rintro k (hk | rfl)
  · exact .inl hk
  · exact .inr (Nat.le_refl _)

set_option maxRecDepth 100000 in
set_option maxHeartbeats 400000 in
theorem rot_nil (w : World) (x y z : Int) : Calls Tryz.prog 26 #[.pointer none, .int .i64 x, .int .i64 y, .int .i64 z] w fun e w' => e = .returned (.tuple #[]) ∧ Below w.heap.size w w' := by
  go_enter Tryz.func26, Tryz.ntmps26
  go_wp2_with fail
  refine (place_nil _ x).mono ?_
  rintro e w1 ⟨rfl, hb⟩
  go_wp2
  go_end0
  exact ⟨rfl, hb.alloc hb.size _⟩

set_option maxRecDepth 100000 in
set_option maxHeartbeats 400000 in
theorem rot_no (h : DiskAt' w a b1 b2 qv ga d F) (x y z : Int) (hx : ¬ (d.has x = true ∧ 0 ≤ y ∧ y < 64 ∧ 0 < z ∧ z < 256)) : Calls Tryz.prog 26 #[.pointer (some ⟨a, 0, none⟩), .int .i64 x, .int .i64 y, .int .i64 z] w fun e w' => e = .returned (.tuple #[]) ∧ Below w.heap.size w w' := by
  by_cases hs : d.has x = true
  · have hs' : 0 ≤ x ∧ x < d.n := by simpa [Dk.has] using hs
    obtain ⟨i, rfl⟩ := Int.eq_ofNat_of_zero_le hs'.1
    have hi : i < d.n := by omega
    have hr : y < 0 ∨ (0 ≤ y ∧ 64 ≤ y) ∨ (0 ≤ y ∧ y < 64 ∧ z ≤ 0) ∨ (0 ≤ y ∧ y < 64 ∧ 0 < z ∧ 256 ≤ z) := by
      simp only [hs, true_and] at hx; omega
    clear hx hs hs'
    rcases hr with hr | ⟨r1, r2⟩ | ⟨r1, r2, r3⟩ | ⟨r1, r2, r3, r4⟩
    all_goals
      go_enter Tryz.func26, Tryz.ntmps26
      go_wp2_with fail
      refine (place_yes h i hi).mono ?_
      rintro e w1 ⟨rfl, hb⟩
      go_wp2
      go_end0
      exact ⟨rfl, hb.alloc hb.size _⟩
  · have HS := Lib.hid hs
    clear hx hs
    go_enter Tryz.func26, Tryz.ntmps26
    go_wp2_with fail
    refine (place_no h x (by simpa using HS.out)).mono ?_
    rintro e w1 ⟨rfl, hb⟩
    go_wp2
    go_end0
    exact ⟨rfl, hb.alloc hb.size _⟩

set_option maxRecDepth 100000 in
set_option maxHeartbeats 400000 in
theorem rot_yes (h : DiskAt' w a b1 b2 qv ga d F) (i k m : Nat) (hi : i < d.n) (hk : k < 64) (h0 : 0 < m) (h1 : m < 256) : Calls Tryz.prog 26 #[.pointer (some ⟨a, 0, none⟩), .int .i64 (i : Int), .int .i64 (k : Int), .int .i64 (m : Int)] w fun e w' =>
    e = .returned (.tuple #[]) ∧ Only F w w' ∧ DiskAt w' a (d.rot i k m) F := by
  have hn := h.ok.n2
  have hst := h.ok.st
  have hk' : (k : Int) < 64 := by omega
  have h0' : (0 : Int) < m := by omega
  have h1' : (m : Int) < 256 := by omega
  have hi' : (i : Int) < d.n := by omega
  go_enter Tryz.func26, Tryz.ntmps26
  go_wp2_with fail
  refine (place_yes h i hi).mono ?_
  rintro e w1 ⟨rfl, hb⟩
  have h1 := h.keep (Only.of_below hb (fun _ => False)) (by simp)
  obtain ⟨c1, f1, l1⟩ := h1.main.all
  obtain ⟨c2, f2, l2⟩ := h1.st.all
  obtain ⟨u, hu⟩ : ∃ u : UInt8, d.st[64 * i + k]? = some u := ⟨_, List.getElem?_eq_getElem (by omega)⟩
  have hc : w1.cell? ⟨b1, 64 * i + k, none⟩ = some (.int .u8 (u.toNat : Int)) := by rw [c2]; simp [bc_at, hu]
  clear c2
  have hw1 : IntKind.i64.wrap (64 * (i : Int) + (k : Int)) = 64 * (i : Int) + (k : Int) := IntWalk.i64_in _ (by omega)
  have hw2 : IntKind.u8.wrap (m : Int) = (m : Int) := IntWalk.u8_in _ (by omega)
  have hw3 : (64 * (i : Int) + (k : Int)).toNat = 64 * i + k := by omega
  have hw4 : (0 : Int) ≤ 64 * (i : Int) + (k : Int) := by omega
  have hw5 : 64 * (i : Int) + (k : Int) < 64 * (d.n : Int) := by omega
  go_wp2
  refine wp_region_tail 12 (by kernel_rfl) (by kernel_rfl) ?_
  simp only [List.take_succ_cons, List.take_zero, List.drop_succ_cons, List.drop_zero]
  repeat still_step
  refine wpStill_nil ?_
  go_wp2
  go_end0
  have e1 : 64 * i + k < d.st.length := by omega
  have hx : d.rot i k m = { d with st := d.st.set (64 * i + k) (u ^^^ UInt8.ofNat m) } := by
    have hh : d.has (i : Int) = true := by simp [Dk.has]; omega
    unfold Dk.rot
    rw [if_pos ⟨hh, by omega, hk', h0', h1'⟩]
    have : d.st.getD (64 * i + k) 0 = u := by simp [List.getD, hu]
    simp only [Int.toNat_natCast, this]
  rw [hx]
  have hbit : Value.int .u8 (bits BinOp.xor IntKind.u8 (u.toNat : Int) (m : Int)) = .int .u8 ((u ^^^ UInt8.ofNat m).toNat : Int) := by
    rw [u8_xor_nat u.toNat m u.toNat_lt (by omega)]
    congr 2
    rw [UInt8.toNat_xor, UInt8.toNat_ofNat_of_lt' (by omega)]
  rw [hbit]
  have o3 : Only (fun j => j = b1 ∨ j = b2) w ((w1.setCell ⟨b1, 64 * i + k, none⟩ (.int .u8 ((u ^^^ UInt8.ofNat m).toNat : Int))).alloc (.cells #[.int .i64 (64 * (i : Int)), .int .i64 (64 * (i : Int) + 64)] 87)).drew :=
    (((Only.of_below hb (fun j => j = b1 ∨ j = b2)).setCell (p := ⟨b1, 64 * i + k, none⟩) (.inl (.inl rfl)) _).alloc _).drew
  refine ⟨rfl, o3.mono (by rintro j (rfl | rfl); exact h.f1; exact h.f2), _, _, _, _, h.upd o3 ⟨h.ok.n1, h.ok.n2, (by simpa using h.ok.st), h.ok.el, h.ok.q, h.ok.arm⟩ ?_ ?_ rfl rfl rfl rfl⟩
  · have := ((h1.st.set_ (64 * i + k) (.int .u8 ((u ^^^ UInt8.ofNat m).toNat : Int))).alloc (.cells #[.int .i64 (64 * (i : Int)), .int .i64 (64 * (i : Int) + 64)] 87)).drew
    have e : (bc d.st).toArray.setIfInBounds (64 * i + k) (.int .u8 ((u ^^^ UInt8.ofNat m).toNat : Int)) = (bc (d.st.set (64 * i + k) (u ^^^ UInt8.ofNat m))).toArray := by simp [bc]
    rw [e] at this
    exact this
  · exact ((h1.el.far (p := ⟨b1, 64 * i + k, none⟩) h1.ne.symm _).alloc _).drew

set_option maxRecDepth 100000 in
set_option maxHeartbeats 400000 in
theorem stale_nil (w : World) (x : Int) : Calls Tryz.prog 28 #[.pointer none, .int .i64 x] w fun e w' => e = .returned (.tuple #[]) ∧ Below w.heap.size w w' := by
  go_enter Tryz.func28, Tryz.ntmps28
  go_wp2_with fail
  refine (place_nil _ x).mono ?_
  rintro e w1 ⟨rfl, hb⟩
  go_wp2
  go_end0
  exact ⟨rfl, hb.alloc hb.size _⟩

set_option maxRecDepth 100000 in
set_option maxHeartbeats 400000 in
theorem stale_no (h : DiskAt' w a b1 b2 qv ga d F) (x : Int) (hs : d.has x = false) : Calls Tryz.prog 28 #[.pointer (some ⟨a, 0, none⟩), .int .i64 x] w fun e w' => e = .returned (.tuple #[]) ∧ Below w.heap.size w w' := by
  have HS := Lib.hid hs
  clear hs
  go_enter Tryz.func28, Tryz.ntmps28
  go_wp2_with fail
  refine (place_no h x HS.out).mono ?_
  rintro e w1 ⟨rfl, hb⟩
  go_wp2
  go_end0
  exact ⟨rfl, hb.alloc hb.size _⟩

set_option maxRecDepth 100000 in
set_option maxHeartbeats 400000 in
theorem stale_yes (h : DiskAt' w a b1 b2 qv ga d F) (i : Nat) (hi : i < d.n) : Calls Tryz.prog 28 #[.pointer (some ⟨a, 0, none⟩), .int .i64 (i : Int)] w fun e w' =>
    e = .returned (.tuple #[]) ∧ Only F w w' ∧ DiskAt w' a (d.stale i) F := by
  have hn := h.ok.n2
  have hst := h.ok.st
  have hel := h.ok.el
  have sl : ∀ (g : Nat) (W : World), (Instr.slice 56 (.slice (some ⟨g, 0, none⟩) (64 * d.n) (64 * d.n)) (some (.int .i64 (64 * (i : Int)))) (some (.int .i64 (64 * (i : Int) + 64))) none).run Tryz.prog W =
      .ok (.slice (some ⟨g, 64 * i, none⟩) 64 (64 * d.n - 64 * i)) W := fun g W => by
    have := run_slice_in (P := Tryz.prog) 56 5 (by kernel_rfl) (by kernel_rfl) g 0 (64 * d.n) (64 * d.n) (64 * (i : Int)) (64 * (i : Int) + 64) (64 * i) (64 * i + 64) (by omega) (by omega) (by omega) (by omega) (by omega) W
    simpa using this
  go_enter Tryz.func28, Tryz.ntmps28
  go_wp2_with fail
  refine (place_yes h i hi).mono ?_
  rintro e w1 ⟨rfl, hb⟩
  have h1 := h.keep (Only.of_below hb (fun _ => False)) (by simp)
  obtain ⟨c1, f1, l1⟩ := h1.main.all
  go_wp2
  refine wp_region_tail 18 (by kernel_rfl) (by kernel_rfl) ?_
  simp only [List.take_succ_cons, List.take_zero, List.drop_succ_cons, List.drop_zero]
  repeat still_step
  refine wpStill_nil ?_
  have hsec : ((d.el.drop (64 * i)).take 64).length = 64 := by simp [hel]; omega
  refine wpList_copy_blk rfl (.tmp 21) (.tmp 30) _ _ rfl 5 (by kernel_rfl) (by kernel_rfl) b1 (64 * i) 64 _ ⟨b2, 64 * i, none⟩ 64 _ rfl rfl (bc d.st) _ (h1.st.alloc _).drew (bc ((d.el.drop (64 * i)).take 64)) (by simp [bc_len, hsec]) ?_ (by simp [bc_len, hsec, hst]; omega) (bc_one _) ?_
  · intro j v hj
    rw [← bc_take, ← bc_drop, List.getElem?_take] at hj
    split at hj
    · rw [List.getElem?_drop] at hj
      have := (h1.el.alloc (.cells #[Value.int .i64 (64 * ↑i), Value.int .i64 (64 * ↑i + 64)] 87)).drew.cell (64 * i + j)
      have e : (⟨b2, 64 * i, none⟩ : Addr).add j = ⟨b2, 64 * i + j, none⟩ := by unfold Addr.add; split <;> simp_all
      rw [e, this]
      simpa using hj
    · cases hj
  intro w2 k2 o2 s2
  have O2 := o2
  clear o2
  go_wp2
  go_end0
  have hx : d.stale i = { d with st := splice d.st (64 * i) ((d.el.drop (64 * i)).take 64) } := by
    have hh : d.has (i : Int) = true := by simp [Dk.has]; omega
    unfold Dk.stale
    rw [if_pos hh]
    simp only [Int.toNat_natCast]
  rw [hx]
  rw [bc_splice] at k2
  have o3 : Only (fun j => j = b1 ∨ j = b2) w w2 := ((Only.of_below hb (fun j => j = b1 ∨ j = b2)).alloc _).drew.trans O2 (fun j hj => .inl (.inl hj))
  exact ⟨rfl, o3.mono (by rintro j (rfl | rfl); exact h.f1; exact h.f2), _, _, _, _, h.upd o3 ⟨h.ok.n1, h.ok.n2, (by
    show (splice _ _ _).length = _
    rw [length_splice _ _ _ (by rw [hsec, hst]; omega)]; exact hst), h.ok.el, h.ok.q, h.ok.arm⟩ k2 (O2.blk (h1.el.alloc _).drew h1.ne.symm) rfl rfl rfl rfl⟩
end
end Go.Proofs.YtfjejfgdnjnflaaGreatDoor
