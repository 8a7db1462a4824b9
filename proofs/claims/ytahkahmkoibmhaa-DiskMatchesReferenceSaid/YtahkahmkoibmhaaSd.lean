/- What count, Sync, Write, Start and Arm of the reference do to its disk. -/
import Derived.Test.YtahkahmkoibmhaaSc
namespace Go.Proofs.Ytahkahmkoibmhaa
open Go.RowKit

section
variable {w w' : World} {m g1 g2 c1 c2 : Nat} {qv : Value} {b : Bool} {x y z : Int} {d d' : Dk} {F G : Foot}

set_option maxHeartbeats 800000 in
theorem rcount_any (h : RefAt' w m g1 g2 c1 c2 qv b x y z d F) (ho : d.off = false) :
    Calls Try.prog 44 #[.pointer (some ⟨m, 0, none⟩)] w fun e w' => e = .returned (.int .i64 d.count.2) ∧ Only F w w' ∧ RefAt w' m d.count.1 F := by
  obtain ⟨k0, f0, hlt⟩ := h.main.all
  simp only [ho] at k0
  have halr := h.alr
  cases ha : d.arm with
  | none =>
    rw [ha] at halr
    have e : d.count = (d, 0) := by unfold Dk.count; rw [ha]
    rw [e]
    obtain rfl : b = false := halr
    clear ha e ho
    go_enter Try.func44, Try.ntmps44
    go_wp2
    go_ret
    exact ⟨rfl, Only.refl _ _, _, _, _, _, _, _, _, _, _, h⟩
  | some t =>
    obtain ⟨a, p, q⟩ := t
    rw [ha] at halr
    obtain ⟨rfl, hx, hy, hz⟩ := halr
    simp only at hx hy hz
    subst hx hy hz
    have hb := h.ok.arm _ ha
    simp only at hb
    obtain ⟨hb0, hb1⟩ := hb
    have HA := Lib.hid ha
    have HO := Lib.hid ho
    by_cases hp : 0 < x
    · have e : d.count = ({ d with arm := some (x - 1, y, z) }, 0) := by unfold Dk.count; rw [ha]; simp [hp]
      rw [e]
      have hb : (x == 0) = false := by rw [beq_eq_false_iff_ne]; omega
      clear ha e ho
      go_enter Try.func44, Try.ntmps44
      go_wp2
      go_ret
      have o3 : Only (fun i => i = m) w (w.setCell ⟨m, 5, none⟩ (.int .i64 (x - 1))) := (Only.refl (fun i => i = m) w).setCell (p := ⟨m, 5, none⟩) (.inl rfl) _
      exact ⟨rfl, o3.mono (fun i hi => by rw [hi]; exact h.fa), _, _, _, _, _, _, _, _, _, h.flags o3 (off' := d.off) (.inl ⟨rfl, rfl⟩) (arm' := some (x - 1, y, z)) ⟨rfl, rfl, rfl, rfl⟩ (fun t ht => by injection ht with ht; subst ht; simp only; omega)
        (by simpa using h.main.set_ 5 (.int .i64 (x - 1)))⟩
    · have e : d.count = (d.fail y z, 25) := by unfold Dk.count; rw [ha]; simp [hp]
      rw [e]
      obtain rfl : x = 0 := by omega
      clear ha e ho
      go_enter Try.func44, Try.ntmps44
      go_wp2
      refine wp_region_tail 9 (by kernel_rfl) (by kernel_rfl) ?_
      simp only [List.take_succ_cons, List.take_zero, List.drop_succ_cons, List.drop_zero]
      repeat still_step
      refine wpStill_nil ?_
      go_wp2_with fail
      refine (rfail_on (h.keep (Only.refl (fun _ => False) w).drew (by simp)) HO.out y z).mono ?_
      rintro e w1 ⟨rfl, o1, h1⟩
      go_wp2
      go_ret
      exact ⟨rfl, o1.undrew, _, _, _, _, _, _, _, _, _, h1⟩

set_option maxHeartbeats 800000 in
theorem rsync_any (h : RefAt' w m g1 g2 c1 c2 qv b x y z d F) : Calls Try.prog 33 #[.pointer (some ⟨m, 0, none⟩)] w fun e w' =>
    e = .returned (.int .i64 d.sync.2) ∧ Only F w w' ∧ RefAt w' m d.sync.1 F := by
  obtain ⟨k0, f0, hlt⟩ := h.main.all
  cases ho : d.off with
  | true =>
    have e : d.sync = (d, 25) := by unfold Dk.sync; rw [ho]; rfl
    rw [e]
    simp only [ho] at k0
    clear ho e
    go_enter Try.func33, Try.ntmps33
    go_wp2
    go_ret
    exact ⟨rfl, Only.refl _ _, _, _, _, _, _, _, _, _, _, h⟩
  | false =>
    simp only [ho] at k0
    have HO := Lib.hid ho
    clear ho
    rcases d.count_err with hc | hc
    · have hs : d.sync = ({ d.count.1.settle d.count.1.q with q := [] }, 0) := by unfold Dk.sync; rw [HO.out]; simp [hc]
      rw [hs]
      have HC := Lib.hid hc
      clear hc hs
      go_enter Try.func33, Try.ntmps33
      go_wp2_with fail
      refine (rcount_any h HO.out).mono ?_
      rintro e w1 ⟨rfl, o1, g1', g2', c1', c2', qv', b', x', y', z', h1⟩
      rw [HC.out]
      obtain ⟨A, c, rfl⟩ := h1.form
      obtain ⟨m0, m1, m2⟩ := h1.main.all
      clear k0 f0
      go_wp2_with fail
      refine (rsettle_any h1 _ (Nat.le_refl _)).mono ?_
      rintro e w2 ⟨rfl, o2, h2⟩
      obtain ⟨n0, n1, n2⟩ := h2.main.all
      clear m0 m1
      go_wp2
      go_ret
      rw [List.take_length] at h2
      have o3 : Only (fun i => i = m) w2 (w2.setCell ⟨m, 2, none⟩ (.slice none 0 0)) := (Only.refl (fun i => i = m) w2).setCell (p := ⟨m, 2, none⟩) (.inl rfl) _
      refine ⟨rfl, (o1.trans o2 (fun i hi => .inl hi)).trans o3 (fun i hi => .inl (by rw [hi]; exact h.fa)), _, _, _, _, _, _, _, _, _, h2.flags o3 (.inr ⟨rfl, rfl⟩) h2.alr h2.ok.arm (by simpa using h2.main.set_ 2 (.slice none 0 0))⟩
    · have hs : d.sync = d.count := by unfold Dk.sync; rw [HO.out]; simp [hc]
      rw [hs]
      have HC := Lib.hid hc
      clear hs hc
      go_enter Try.func33, Try.ntmps33
      go_wp2_with fail
      refine (rcount_any h HO.out).mono ?_
      rintro e w1 ⟨rfl, o1, h1⟩
      rw [HC.out]
      go_wp2
      go_ret
      exact ⟨by rw [HC.out]; rfl, o1, h1⟩

theorem RefAt'.push {w2 : World} {g cap i : Nat} {t : ByteArray} (h : RefAt' w m g1 g2 c1 c2 qv b x y z d F) (hO : Only (fun k => qv.ownBlock = some k) w w2) (hg : qv.ownBlock = some g ∨ w.heap.size ≤ g) (hz : g < w2.heap.size)
    (ho : w2.ownsRow 0 73 2 (.slice (some ⟨g, 0, none⟩) (d.q.length + 1) cap) (d.q.length + 1) (rcells d.q ++ [.int .i64 (i : Int), .string t]))
    (hi : i < d.n) (ht : t.size = 64) (hl : d.q.length < 4096) :
    RefAt' (w2.setCell ⟨m, 2, none⟩ (.slice (some ⟨g, 0, none⟩) (d.q.length + 1) cap)) m g1 g2 c1 c2 (.slice (some ⟨g, 0, none⟩) (d.q.length + 1) cap) b x y z { d with q := d.q ++ [(i, t)] } (fun k => F k ∨ k = g) := by
  have hm : Blk w2 m _ _ := hO.blk h.main (fun e => own_blk_ne h.q h.main (by decide) e)
  have h1 := hO.owns h.st (fun k hk e => by injection hk with hk; subst hk; exact own_own_ne h.st h.q (by decide) e)
  have h2 := hO.owns h.el (fun k hk e => by injection hk with hk; subst hk; exact own_own_ne h.el h.q (by decide) e)
  have hgo : Value.ownBlock (.slice (some ⟨g, 0, none⟩) (d.q.length + 1) cap) = some g := rfl
  have hO3 : Only (fun k => k = m) w2 (w2.setCell ⟨m, 2, none⟩ (.slice (some ⟨g, 0, none⟩) (d.q.length + 1) cap)) := (Only.refl (fun k => k = m) w2).setCell (p := ⟨m, 2, none⟩) (.inl rfl) _
  have hga : g ≠ m := own_ne_blk ho hm (by decide)
  exact {
    ok := ⟨h.ok.n1, h.ok.n2, h.ok.st, h.ok.el, (fun p hp => by
      rcases List.mem_append.1 hp with hp | hp
      · exact h.ok.q p hp
      · simp at hp; subst hp; exact ⟨hi, ht⟩), h.ok.arm⟩
    main := by simpa using hm.set_ 2 (.slice (some ⟨g, 0, none⟩) (d.q.length + 1) cap)
    st := hO3.owns h1 (fun k hk => by injection hk with hk; subst hk; exact own_ne_blk h.st h.main (by decide))
    el := hO3.owns h2 (fun k hk => by injection hk with hk; subst hk; exact own_ne_blk h.el h.main (by decide))
    ne := h.ne
    q := by
      have e1 : (d.q ++ [(i, t)]).length = d.q.length + 1 := by simp
      have e2 : rcells (d.q ++ [(i, t)]) = rcells d.q ++ [.int .i64 (i : Int), .string t] := by simp [rcells]
      simp only [e1, e2]
      exact hO3.owns ho (fun k hk e => hga (by rw [hgo] at hk; injection hk with hk; rw [hk]; exact e))
    qlen := by simp; omega
    alr := h.alr
    fa := .inl h.fa
    f1 := .inl h.f1
    f2 := .inl h.f2
    fq := fun k hk => .inr (by rw [hgo] at hk; injection hk with hk; exact hk.symm)
    fl := fun k hk => by
      rcases hk with hk | rfl
      · exact Nat.lt_of_lt_of_le (h.fl k hk) (Nat.le_trans hO.size hO3.size)
      · exact Nat.lt_of_lt_of_le hz hO3.size }

theorem Try.infoRPending : (Try.prog.info? 73).map (fun i => (i.zero, i.size, i.bytes)) = some (some (.agg #[.int .i64 0, .string ⟨#[]⟩]), 2, 24) := by kernel_rfl

/-- Behind a call that may have turned the disk at m alone it is d'. -/
def RStp (w w' : World) (m : Nat) (d' : Dk) (F : Foot) : Prop := ∃ F', Only F' w w' ∧ (∀ k, F' k → F k ∨ w.heap.size ≤ k) ∧ RefAt w' m d' F'
theorem RStp.of {w w' : World} {a : Nat} {d : Dk} {F : Foot} (hO : Only F w w') (h : RefAt w' a d F) : RStp w w' a d F := ⟨F, hO, fun _ hk => .inl hk, h⟩
theorem RefAt'.ref (h : RefAt' w m g1 g2 c1 c2 qv b x y z d F) : RefAt w m d F := ⟨_, _, _, _, _, _, _, _, _, h⟩

set_option maxHeartbeats 800000 in
theorem rwrite_any (h : RefAt' w m g1 g2 c1 c2 qv b x y z d F) (hl : d.q.length < 4096) (s : Int) (t : ByteArray) :
    Calls Try.prog 32 #[.pointer (some ⟨m, 0, none⟩), .int .i64 s, .string t] w fun e w' => e = .returned (.int .i64 (d.write s t).2) ∧ RStp w w' m (d.write s t).1 F := by
  obtain ⟨k0, f0, hlt⟩ := h.main.all
  have hn := h.ok.n2
  cases ho : d.off with
  | true =>
    have e : d.write s t = (d, 25) := by unfold Dk.write; rw [ho]; rfl
    rw [e]
    simp only [ho] at k0
    clear ho e
    go_enter Try.func32, Try.ntmps32
    go_wp2
    go_ret
    exact ⟨rfl, RStp.of (Only.refl _ _) h.ref⟩
  | false =>
    simp only [ho] at k0
    have HO := Lib.hid ho
    by_cases h0 : s < 0
    · have e : d.write s t = (d, 1) := by unfold Dk.write; rw [ho]; simp [Dk.has, show ¬ 0 ≤ s by omega]
      rw [e]
      clear ho e
      go_enter Try.func32, Try.ntmps32
      go_wp2
      go_ret
      exact ⟨rfl, RStp.of (Only.refl _ _) h.ref⟩
    · by_cases h1 : (d.n : Int) ≤ s
      · have e : d.write s t = (d, 1) := by unfold Dk.write; rw [ho]; simp [Dk.has, show ¬ s < d.n by omega]
        rw [e]
        clear ho e
        go_enter Try.func32, Try.ntmps32
        go_wp2
        go_ret
        exact ⟨rfl, RStp.of (Only.refl _ _) h.ref⟩
      · obtain ⟨i, rfl⟩ := Int.eq_ofNat_of_zero_le (show 0 ≤ s by omega)
        have hi : i < d.n := by omega
        have hh : d.has (i : Int) = true := by simp [Dk.has]; omega
        by_cases ht : t.size = 64
        · have e : d.write (i : Int) t = Dk.count { d with q := d.q ++ [(i, t)] } := by unfold Dk.write; rw [ho, hh]; simp [ht]
          rw [e]
          have htb : ((t.size : Int) != 64) = false := by simp; omega
          have HT := Lib.hid ht
          obtain ⟨i0, hi0, hz0, hz1, hz2⟩ := info_parts Try.infoRPending
          obtain ⟨A, c, rfl⟩ := h.form
          clear ho e ht hh
          have hone : ∀ u ∈ [Value.int .i64 (i : Int), .string t], u.oneCell' = true := by
            intro u hu; simp at hu; rcases hu with rfl | rfl <;> rfl
          have hnew : (w.alloc (.cells #[Value.int .i64 (i : Int), .string t] 73)).heap[w.heap.size]? = some (.cells #[Value.int .i64 (i : Int), .string t] 73 (0, 0)) := Blk.new w _ _
          have hqa : some m ≠ (Value.slice A d.q.length c).ownBlock := fun e => own_blk_ne h.q h.main (by decide) e.symm
          go_enter Try.func32, Try.ntmps32
          go_wp2_with (at_builtin; refine wpList_append_lies _ rfl _ _ 62 rfl 0 73 i0 _ 2 24 Try.underlying62 hi0 hz0 hz1 hz2 rfl (by omega) (.slice A d.q.length c) d.q.length _ rfl (h.q.alloc _) ⟨w.heap.size, 0, none⟩ 1 1 [Value.int .i64 (i : Int), .string t] rfl rfl (World.news_of_block hnew) hone (by omega) (by unfold maxLen; omega) (by omega) (by omega) (w.heap.size + 1) (by simp) ?_; intro g cap w2 o2 g2' l2 z2; obtain ⟨n0, n1, n2⟩ := (Blk.grown (h.main.alloc _) g2' hqa).all; clear k0 f0)
          have hO2 : Only (fun k => (Value.slice A d.q.length c).ownBlock = some k) w w2 := ((Only.refl (fun k => (Value.slice A d.q.length c).ownBlock = some k) w).alloc _).trans (Only.of_grown g2') (fun k e => .inl e)
          have hl2 : (Value.slice A d.q.length c).ownBlock = some g ∨ w.heap.size ≤ g := l2.imp id (fun e => by omega)
          have h3 := h.push (i := i) (t := t) hO2 hl2 z2 o2 hi HT.out hl
          have o3 : Only (fun k => F k ∨ k = g) w _ := (hO2.mono (G := fun k => F k ∨ k = g) (fun k hk => .inl (h.fq k hk))).setCell (p := ⟨m, 2, none⟩) (.inl (.inl h.fa)) (.slice (some ⟨g, 0, none⟩) (d.q.length + 1) cap)
          refine (rcount_any h3 HO.out).mono ?_
          rintro e w4 ⟨rfl, o4, h4⟩
          go_wp2
          go_ret
          refine ⟨rfl, _, o3.trans o4 (fun k hk => .inl hk), ?_, h4⟩
          rintro k (hk | rfl)
          · exact .inl hk
          · rcases hl2 with l2 | l2
            · exact .inl (h.fq k l2)
            · exact .inr l2
        · have e : d.write (i : Int) t = (d, 1) := by unfold Dk.write; rw [ho, hh]; simp [ht]
          rw [e]
          have htb : ((t.size : Int) != 64) = true := by simp; omega
          clear ho e ht hh
          go_enter Try.func32, Try.ntmps32
          go_wp2
          go_ret
          exact ⟨rfl, RStp.of (Only.refl _ _) h.ref⟩

set_option maxHeartbeats 800000 in
theorem rstart_any (h : RefAt' w m g1 g2 c1 c2 qv b x y z d F) : Calls Try.prog 35 #[.pointer (some ⟨m, 0, none⟩)] w fun e w' =>
    e = .returned (.tuple #[]) ∧ Only F w w' ∧ RefAt w' m d.start F := by
  obtain ⟨k0, f0, hlt⟩ := h.main.all
  go_enter Try.func35, Try.ntmps35
  go_wp2
  go_end0
  have o3 : Only (fun i => i = m) w ((w.setCell ⟨m, 3, none⟩ (.bool true)).setCell ⟨m, 4, none⟩ (.bool false)) := ((Only.refl (fun i => i = m) w).setCell (p := ⟨m, 3, none⟩) (.inl rfl) _).setCell (p := ⟨m, 4, none⟩) (.inl rfl) _
  exact ⟨rfl, o3.mono (fun i hi => by rw [hi]; exact h.fa), _, _, _, _, _, _, _, _, _, h.flags o3 (.inl ⟨rfl, rfl⟩) (off' := false) (arm' := none) (b' := false) rfl (fun t ht => by cases ht) (by simpa using (h.main.set_ 3 (.bool true)).set_ 4 (.bool false))⟩

set_option maxHeartbeats 800000 in
theorem rarm_any (h : RefAt' w m g1 g2 c1 c2 qv b x y z d F) (p q r : Int) (hp1 : p ≤ 9223372036854775807) : Calls Try.prog 36 #[.pointer (some ⟨m, 0, none⟩), .int .i64 p, .int .i64 q, .int .i64 r] w fun e w' =>
    e = .returned (.tuple #[]) ∧ Only F w w' ∧ RefAt w' m (d.doArm p q r) F := by
  obtain ⟨k0, f0, hlt⟩ := h.main.all
  cases ho : d.off with
  | true =>
    have e : d.doArm p q r = d := by unfold Dk.doArm; rw [ho]; rfl
    rw [e]
    simp only [ho] at k0
    clear ho e
    go_enter Try.func36, Try.ntmps36
    go_wp2
    refine bodyPost_ret (results_none rfl _ _ _) rfl ?_
    exact ⟨rfl, Only.refl _ _, h.ref⟩
  | false =>
    simp only [ho] at k0
    have HO := Lib.hid ho
    have hd : d.doArm p q r = { d with arm := if 0 ≤ p then some (p, q, r) else none } := by unfold Dk.doArm; rw [ho]; rfl
    rw [hd]
    clear ho hd
    have o3 : ∀ v : Value, Only (fun i => i = m) w ((((w.setCell ⟨m, 4, none⟩ v).setCell ⟨m, 5, none⟩ (.int .i64 p)).setCell ⟨m, 6, none⟩ (.int .i64 q)).setCell ⟨m, 7, none⟩ (.int .i64 r)) := fun v => ((((Only.refl (fun i => i = m) w).setCell (p := ⟨m, 4, none⟩) (.inl rfl) _).setCell (p := ⟨m, 5, none⟩) (.inl rfl) _).setCell (p := ⟨m, 6, none⟩) (.inl rfl) _).setCell (p := ⟨m, 7, none⟩) (.inl rfl) _
    by_cases hp : 0 ≤ p
    · rw [if_pos hp]
      go_enter Try.func36, Try.ntmps36
      go_wp2
      go_end0
      exact ⟨rfl, (o3 _).mono (fun i hi => by rw [hi]; exact h.fa), _, _, _, _, _, _, _, _, _, h.flags (o3 _) (off' := d.off) (.inl ⟨rfl, rfl⟩) (arm' := some (p, q, r)) ⟨rfl, rfl, rfl, rfl⟩ (fun t ht => by injection ht with ht; subst ht; exact ⟨hp, hp1⟩)
        (by simpa using (((h.main.set_ 4 (.bool true)).set_ 5 (.int .i64 p)).set_ 6 (.int .i64 q)).set_ 7 (.int .i64 r))⟩
    · rw [if_neg hp]
      go_enter Try.func36, Try.ntmps36
      go_wp2
      go_end0
      exact ⟨rfl, (o3 _).mono (fun i hi => by rw [hi]; exact h.fa), _, _, _, _, _, _, _, _, _, h.flags (o3 _) (off' := d.off) (.inl ⟨rfl, rfl⟩) (arm' := none) (b' := false) rfl (fun t ht => by cases ht)
        (by simpa using (((h.main.set_ 4 (.bool false)).set_ 5 (.int .i64 p)).set_ 6 (.int .i64 q)).set_ 7 (.int .i64 r))⟩
end
end Go.Proofs.Ytahkahmkoibmhaa
