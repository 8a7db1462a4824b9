/- Part 10 of what the laws of this seat stand on: Sd, Se, Sf, Sg, Nj, Nk. -/
import Derived.Test.YtieicjjmkedgaaaGreatDoorY9

/- What count, Sync, Write, Start and Arm of the reference do to its disk. -/
namespace Go.Proofs.YtieicjjmkedgaaaGreatDoor
open Go.RowKit

section
variable {w w' : World} {m g1 g2 c1 c2 : Nat} {qv : Value} {b : Bool} {x y z : Int} {d d' : Dk} {F G : Foot}

set_option maxRecDepth 100000 in
set_option maxHeartbeats 800000 in
theorem rcount_any (h : RefAt' w m g1 g2 c1 c2 qv b x y z d F) (ho : d.off = false) :
    Calls Tryz.prog 101 #[.pointer (some ⟨m, 0, none⟩)] w fun e w' => e = .returned (.int .i64 d.count.2) ∧ Only F w w' ∧ RefAt w' m d.count.1 F := by
  obtain ⟨k0, f0, hlt⟩ := h.main.all
  simp only [ho] at k0
  have halr := h.alr
  cases ha : d.arm with
  | none =>
    rw [ha] at halr
    have e : d.count = (d, 0) := by unfold Dk.count; rw [ha]
    rw [e]
    obtain rfl : b = false := halr
    clear ha e ho
    go_enter Tryz.func101, Tryz.ntmps101
    go_wp2
    go_ret
    exact ⟨rfl, Only.refl _ _, _, _, _, _, _, _, _, _, _, h⟩
  | some t =>
    obtain ⟨a, p, q⟩ := t
    rw [ha] at halr
    obtain ⟨rfl, hx, hy, hz⟩ := halr
    simp only at hx hy hz
    subst hx hy hz
    have hb := h.ok.arm _ ha
    simp only at hb
    obtain ⟨hb0, hb1⟩ := hb
    have HA := Lib.hid ha
    have HO := Lib.hid ho
    by_cases hp : 0 < x
    · have e : d.count = ({ d with arm := some (x - 1, y, z) }, 0) := by unfold Dk.count; rw [ha]; simp [hp]
      rw [e]
      have hb : (x == 0) = false := by rw [beq_eq_false_iff_ne]; omega
      clear ha e ho
      go_enter Tryz.func101, Tryz.ntmps101
      go_wp2
      go_ret
      have o3 : Only (fun i => i = m) w (w.setCell ⟨m, 5, none⟩ (.int .i64 (x - 1))) := (Only.refl (fun i => i = m) w).setCell (p := ⟨m, 5, none⟩) (.inl rfl) _
      exact ⟨rfl, o3.mono (fun i hi => by rw [hi]; exact h.fa), _, _, _, _, _, _, _, _, _, h.flags o3 (off' := d.off) (.inl ⟨rfl, rfl⟩) (arm' := some (x - 1, y, z)) ⟨rfl, rfl, rfl, rfl⟩ (fun t ht => by injection ht with ht; subst ht; simp only; omega)
        (by simpa using h.main.set_ 5 (.int .i64 (x - 1)))⟩
    · have e : d.count = (d.fail y z, 25) := by unfold Dk.count; rw [ha]; simp [hp]
      rw [e]
      obtain rfl : x = 0 := by omega
      clear ha e ho
      go_enter Tryz.func101, Tryz.ntmps101
      go_wp2
      refine wp_region_tail 9 (by kernel_rfl) (by kernel_rfl) ?_
      simp only [List.take_succ_cons, List.take_zero, List.drop_succ_cons, List.drop_zero]
      repeat still_step
      refine wpStill_nil ?_
      go_wp2_with fail
      refine (rfail_on (h.keep (Only.refl (fun _ => False) w).drew (by simp)) HO.out y z).mono ?_
      rintro e w1 ⟨rfl, o1, h1⟩
      go_wp2
      go_ret
      exact ⟨rfl, o1.undrew, _, _, _, _, _, _, _, _, _, h1⟩

set_option maxRecDepth 100000 in
set_option maxHeartbeats 800000 in
theorem rsync_any (h : RefAt' w m g1 g2 c1 c2 qv b x y z d F) : Calls Tryz.prog 82 #[.pointer (some ⟨m, 0, none⟩)] w fun e w' =>
    e = .returned (.int .i64 d.sync.2) ∧ Only F w w' ∧ RefAt w' m d.sync.1 F := by
  obtain ⟨k0, f0, hlt⟩ := h.main.all
  cases ho : d.off with
  | true =>
    have e : d.sync = (d, 25) := by unfold Dk.sync; rw [ho]; rfl
    rw [e]
    simp only [ho] at k0
    clear ho e
    go_enter Tryz.func82, Tryz.ntmps82
    go_wp2
    go_ret
    exact ⟨rfl, Only.refl _ _, _, _, _, _, _, _, _, _, _, h⟩
  | false =>
    simp only [ho] at k0
    have HO := Lib.hid ho
    clear ho
    rcases d.count_err with hc | hc
    · have hs : d.sync = ({ d.count.1.settle d.count.1.q with q := [] }, 0) := by unfold Dk.sync; rw [HO.out]; simp [hc]
      rw [hs]
      have HC := Lib.hid hc
      clear hc hs
      go_enter Tryz.func82, Tryz.ntmps82
      go_wp2_with fail
      refine (rcount_any h HO.out).mono ?_
      rintro e w1 ⟨rfl, o1, g1', g2', c1', c2', qv', b', x', y', z', h1⟩
      rw [HC.out]
      obtain ⟨A, c, rfl⟩ := h1.form
      obtain ⟨m0, m1, m2⟩ := h1.main.all
      clear k0 f0
      go_wp2_with fail
      refine (rsettle_any h1 _ (Nat.le_refl _)).mono ?_
      rintro e w2 ⟨rfl, o2, h2⟩
      obtain ⟨n0, n1, n2⟩ := h2.main.all
      clear m0 m1
      go_wp2
      go_ret
      rw [List.take_length] at h2
      have o3 : Only (fun i => i = m) w2 (w2.setCell ⟨m, 2, none⟩ (.slice none 0 0)) := (Only.refl (fun i => i = m) w2).setCell (p := ⟨m, 2, none⟩) (.inl rfl) _
      refine ⟨rfl, (o1.trans o2 (fun i hi => .inl hi)).trans o3 (fun i hi => .inl (by rw [hi]; exact h.fa)), _, _, _, _, _, _, _, _, _, h2.flags o3 (.inr ⟨rfl, rfl⟩) h2.alr h2.ok.arm (by simpa using h2.main.set_ 2 (.slice none 0 0))⟩
    · have hs : d.sync = d.count := by unfold Dk.sync; rw [HO.out]; simp [hc]
      rw [hs]
      have HC := Lib.hid hc
      clear hs hc
      go_enter Tryz.func82, Tryz.ntmps82
      go_wp2_with fail
      refine (rcount_any h HO.out).mono ?_
      rintro e w1 ⟨rfl, o1, h1⟩
      rw [HC.out]
      go_wp2
      go_ret
      exact ⟨by rw [HC.out]; rfl, o1, h1⟩

theorem RefAt'.push {w2 : World} {g cap i : Nat} {t : ByteArray} (h : RefAt' w m g1 g2 c1 c2 qv b x y z d F) (hO : Only (fun k => qv.ownBlock = some k) w w2) (hg : qv.ownBlock = some g ∨ w.heap.size ≤ g) (hz : g < w2.heap.size)
    (ho : w2.ownsRow 0 85 2 (.slice (some ⟨g, 0, none⟩) (d.q.length + 1) cap) (d.q.length + 1) (rcells d.q ++ [.int .i64 (i : Int), .string t]))
    (hi : i < d.n) (ht : t.size = 64) (hl : d.q.length < 4096) :
    RefAt' (w2.setCell ⟨m, 2, none⟩ (.slice (some ⟨g, 0, none⟩) (d.q.length + 1) cap)) m g1 g2 c1 c2 (.slice (some ⟨g, 0, none⟩) (d.q.length + 1) cap) b x y z { d with q := d.q ++ [(i, t)] } (fun k => F k ∨ k = g) := by
  have hm : Blk w2 m _ _ := hO.blk h.main (fun e => own_blk_ne h.q h.main (by decide) e)
  have h1 := hO.owns h.st (fun k hk e => by injection hk with hk; subst hk; exact own_own_ne h.st h.q (by decide) e)
  have h2 := hO.owns h.el (fun k hk e => by injection hk with hk; subst hk; exact own_own_ne h.el h.q (by decide) e)
  have hgo : Value.ownBlock (.slice (some ⟨g, 0, none⟩) (d.q.length + 1) cap) = some g := rfl
  have hO3 : Only (fun k => k = m) w2 (w2.setCell ⟨m, 2, none⟩ (.slice (some ⟨g, 0, none⟩) (d.q.length + 1) cap)) := (Only.refl (fun k => k = m) w2).setCell (p := ⟨m, 2, none⟩) (.inl rfl) _
  have hga : g ≠ m := own_ne_blk ho hm (by decide)
  exact {
    ok := ⟨h.ok.n1, h.ok.n2, h.ok.st, h.ok.el, (fun p hp => by
      rcases List.mem_append.1 hp with hp | hp
      · exact h.ok.q p hp
      · simp at hp; subst hp; exact ⟨hi, ht⟩), h.ok.arm⟩
    main := by simpa using hm.set_ 2 (.slice (some ⟨g, 0, none⟩) (d.q.length + 1) cap)
    st := hO3.owns h1 (fun k hk => by injection hk with hk; subst hk; exact own_ne_blk h.st h.main (by decide))
    el := hO3.owns h2 (fun k hk => by injection hk with hk; subst hk; exact own_ne_blk h.el h.main (by decide))
    ne := h.ne
    q := by
      have e1 : (d.q ++ [(i, t)]).length = d.q.length + 1 := by simp
      have e2 : rcells (d.q ++ [(i, t)]) = rcells d.q ++ [.int .i64 (i : Int), .string t] := by simp [rcells]
      simp only [e1, e2]
      exact hO3.owns ho (fun k hk e => hga (by rw [hgo] at hk; injection hk with hk; rw [hk]; exact e))
    qlen := by simp; omega
    alr := h.alr
    fa := .inl h.fa
    f1 := .inl h.f1
    f2 := .inl h.f2
    fq := fun k hk => .inr (by rw [hgo] at hk; injection hk with hk; exact hk.symm)
    fl := fun k hk => by
      rcases hk with hk | rfl
      · exact Nat.lt_of_lt_of_le (h.fl k hk) (Nat.le_trans hO.size hO3.size)
      · exact Nat.lt_of_lt_of_le hz hO3.size }

theorem Tryz.infoRPending : (Tryz.prog.info? 85).map (fun i => (i.zero, i.size, i.bytes)) = some (some (.agg #[.int .i64 0, .string ⟨#[]⟩]), 2, 24) := by kernel_rfl

/-- Behind a call that may have turned the disk at m alone it is d'. -/
def RStp (w w' : World) (m : Nat) (d' : Dk) (F : Foot) : Prop := ∃ F', Only F' w w' ∧ (∀ k, F' k → F k ∨ w.heap.size ≤ k) ∧ RefAt w' m d' F'
theorem RStp.of {w w' : World} {a : Nat} {d : Dk} {F : Foot} (hO : Only F w w') (h : RefAt w' a d F) : RStp w w' a d F := ⟨F, hO, fun _ hk => .inl hk, h⟩
theorem RefAt'.ref (h : RefAt' w m g1 g2 c1 c2 qv b x y z d F) : RefAt w m d F := ⟨_, _, _, _, _, _, _, _, _, h⟩

set_option maxRecDepth 100000 in
set_option maxHeartbeats 800000 in
theorem rwrite_any (h : RefAt' w m g1 g2 c1 c2 qv b x y z d F) (hl : d.q.length < 4096) (s : Int) (t : ByteArray) :
    Calls Tryz.prog 81 #[.pointer (some ⟨m, 0, none⟩), .int .i64 s, .string t] w fun e w' => e = .returned (.int .i64 (d.write s t).2) ∧ RStp w w' m (d.write s t).1 F := by
  obtain ⟨k0, f0, hlt⟩ := h.main.all
  have hn := h.ok.n2
  cases ho : d.off with
  | true =>
    have e : d.write s t = (d, 25) := by unfold Dk.write; rw [ho]; rfl
    rw [e]
    simp only [ho] at k0
    clear ho e
    go_enter Tryz.func81, Tryz.ntmps81
    go_wp2
    go_ret
    exact ⟨rfl, RStp.of (Only.refl _ _) h.ref⟩
  | false =>
    simp only [ho] at k0
    have HO := Lib.hid ho
    by_cases h0 : s < 0
    · have e : d.write s t = (d, 1) := by unfold Dk.write; rw [ho]; simp [Dk.has, show ¬ 0 ≤ s by omega]
      rw [e]
      clear ho e
      go_enter Tryz.func81, Tryz.ntmps81
      go_wp2
      go_ret
      exact ⟨rfl, RStp.of (Only.refl _ _) h.ref⟩
    · by_cases h1 : (d.n : Int) ≤ s
      · have e : d.write s t = (d, 1) := by unfold Dk.write; rw [ho]; simp [Dk.has, show ¬ s < d.n by omega]
        rw [e]
        clear ho e
        go_enter Tryz.func81, Tryz.ntmps81
        go_wp2
        go_ret
        exact ⟨rfl, RStp.of (Only.refl _ _) h.ref⟩
      · obtain ⟨i, rfl⟩ := Int.eq_ofNat_of_zero_le (show 0 ≤ s by omega)
        have hi : i < d.n := by omega
        have hh : d.has (i : Int) = true := by simp [Dk.has]; omega
        by_cases ht : t.size = 64
        · have e : d.write (i : Int) t = Dk.count { d with q := d.q ++ [(i, t)] } := by unfold Dk.write; rw [ho, hh]; simp [ht]
          rw [e]
          have htb : ((t.size : Int) != 64) = false := by simp; omega
          have HT := Lib.hid ht
          obtain ⟨i0, hi0, hz0, hz1, hz2⟩ := info_parts Tryz.infoRPending
          obtain ⟨A, c, rfl⟩ := h.form
          clear ho e ht hh
          have hone : ∀ u ∈ [Value.int .i64 (i : Int), .string t], u.oneCell' = true := by
            intro u hu; simp at hu; rcases hu with rfl | rfl <;> rfl
          have hnew : (w.alloc (.cells #[Value.int .i64 (i : Int), .string t] 85)).heap[w.heap.size]? = some (.cells #[Value.int .i64 (i : Int), .string t] 85 (0, 0)) := Blk.new w _ _
          have hqa : some m ≠ (Value.slice A d.q.length c).ownBlock := fun e => own_blk_ne h.q h.main (by decide) e.symm
          go_enter Tryz.func81, Tryz.ntmps81
          go_wp2_with (at_builtin; refine wpList_append_lies _ rfl _ _ 54 rfl 0 85 i0 _ 2 24 Tryz.underlying54 hi0 hz0 hz1 hz2 rfl (by omega) (.slice A d.q.length c) d.q.length _ rfl (h.q.alloc _) ⟨w.heap.size, 0, none⟩ 1 1 [Value.int .i64 (i : Int), .string t] rfl rfl (World.news_of_block hnew) hone (by omega) (by unfold maxLen; omega) (by omega) (by omega) (w.heap.size + 1) (by simp) ?_; intro g cap w2 o2 g2' l2 z2; obtain ⟨n0, n1, n2⟩ := (Blk.grown (h.main.alloc _) g2' hqa).all; clear k0 f0)
          have hO2 : Only (fun k => (Value.slice A d.q.length c).ownBlock = some k) w w2 := ((Only.refl (fun k => (Value.slice A d.q.length c).ownBlock = some k) w).alloc _).trans (Only.of_grown g2') (fun k e => .inl e)
          have hl2 : (Value.slice A d.q.length c).ownBlock = some g ∨ w.heap.size ≤ g := l2.imp id (fun e => by omega)
          have h3 := h.push (i := i) (t := t) hO2 hl2 z2 o2 hi HT.out hl
          have o3 : Only (fun k => F k ∨ k = g) w _ := (hO2.mono (G := fun k => F k ∨ k = g) (fun k hk => .inl (h.fq k hk))).setCell (p := ⟨m, 2, none⟩) (.inl (.inl h.fa)) (.slice (some ⟨g, 0, none⟩) (d.q.length + 1) cap)
          refine (rcount_any h3 HO.out).mono ?_
          rintro e w4 ⟨rfl, o4, h4⟩
          go_wp2
          go_ret
          refine ⟨rfl, _, o3.trans o4 (fun k hk => .inl hk), ?_, h4⟩
          rintro k (hk | rfl)
          · exact .inl hk
          · rcases hl2 with l2 | l2
            · exact .inl (h.fq k l2)
            · exact .inr l2
        · have e : d.write (i : Int) t = (d, 1) := by unfold Dk.write; rw [ho, hh]; simp [ht]
          rw [e]
          have htb : ((t.size : Int) != 64) = true := by simp; omega
          clear ho e ht hh
          go_enter Tryz.func81, Tryz.ntmps81
          go_wp2
          go_ret
          exact ⟨rfl, RStp.of (Only.refl _ _) h.ref⟩

set_option maxRecDepth 100000 in
set_option maxHeartbeats 800000 in
theorem rstart_any (h : RefAt' w m g1 g2 c1 c2 qv b x y z d F) : Calls Tryz.prog 18 #[.pointer (some ⟨m, 0, none⟩)] w fun e w' =>
    e = .returned (.tuple #[]) ∧ Only F w w' ∧ RefAt w' m d.start F := by
  obtain ⟨k0, f0, hlt⟩ := h.main.all
  go_enter Tryz.func18, Tryz.ntmps18
  go_wp2
  go_end0
  have o3 : Only (fun i => i = m) w ((w.setCell ⟨m, 3, none⟩ (.bool true)).setCell ⟨m, 4, none⟩ (.bool false)) := ((Only.refl (fun i => i = m) w).setCell (p := ⟨m, 3, none⟩) (.inl rfl) _).setCell (p := ⟨m, 4, none⟩) (.inl rfl) _
  exact ⟨rfl, o3.mono (fun i hi => by rw [hi]; exact h.fa), _, _, _, _, _, _, _, _, _, h.flags o3 (.inl ⟨rfl, rfl⟩) (off' := false) (arm' := none) (b' := false) rfl (fun t ht => by cases ht) (by simpa using (h.main.set_ 3 (.bool true)).set_ 4 (.bool false))⟩

set_option maxRecDepth 100000 in
set_option maxHeartbeats 800000 in
theorem rarm_any (h : RefAt' w m g1 g2 c1 c2 qv b x y z d F) (p q r : Int) (hp1 : p ≤ 9223372036854775807) : Calls Tryz.prog 20 #[.pointer (some ⟨m, 0, none⟩), .int .i64 p, .int .i64 q, .int .i64 r] w fun e w' =>
    e = .returned (.tuple #[]) ∧ Only F w w' ∧ RefAt w' m (d.doArm p q r) F := by
  obtain ⟨k0, f0, hlt⟩ := h.main.all
  cases ho : d.off with
  | true =>
    have e : d.doArm p q r = d := by unfold Dk.doArm; rw [ho]; rfl
    rw [e]
    simp only [ho] at k0
    clear ho e
    go_enter Tryz.func20, Tryz.ntmps20
    go_wp2
    refine bodyPost_ret (results_none rfl _ _ _) rfl ?_
    exact ⟨rfl, Only.refl _ _, h.ref⟩
  | false =>
    simp only [ho] at k0
    have HO := Lib.hid ho
    have hd : d.doArm p q r = { d with arm := if 0 ≤ p then some (p, q, r) else none } := by unfold Dk.doArm; rw [ho]; rfl
    rw [hd]
    clear ho hd
    have o3 : ∀ v : Value, Only (fun i => i = m) w ((((w.setCell ⟨m, 4, none⟩ v).setCell ⟨m, 5, none⟩ (.int .i64 p)).setCell ⟨m, 6, none⟩ (.int .i64 q)).setCell ⟨m, 7, none⟩ (.int .i64 r)) := fun v => ((((Only.refl (fun i => i = m) w).setCell (p := ⟨m, 4, none⟩) (.inl rfl) _).setCell (p := ⟨m, 5, none⟩) (.inl rfl) _).setCell (p := ⟨m, 6, none⟩) (.inl rfl) _).setCell (p := ⟨m, 7, none⟩) (.inl rfl) _
    by_cases hp : 0 ≤ p
    · rw [if_pos hp]
      go_enter Tryz.func20, Tryz.ntmps20
      go_wp2
      go_end0
      exact ⟨rfl, (o3 _).mono (fun i hi => by rw [hi]; exact h.fa), _, _, _, _, _, _, _, _, _, h.flags (o3 _) (off' := d.off) (.inl ⟨rfl, rfl⟩) (arm' := some (p, q, r)) ⟨rfl, rfl, rfl, rfl⟩ (fun t ht => by injection ht with ht; subst ht; exact ⟨hp, hp1⟩)
        (by simpa using (((h.main.set_ 4 (.bool true)).set_ 5 (.int .i64 p)).set_ 6 (.int .i64 q)).set_ 7 (.int .i64 r))⟩
    · rw [if_neg hp]
      go_enter Tryz.func20, Tryz.ntmps20
      go_wp2
      go_end0
      exact ⟨rfl, (o3 _).mono (fun i hi => by rw [hi]; exact h.fa), _, _, _, _, _, _, _, _, _, h.flags (o3 _) (off' := d.off) (.inl ⟨rfl, rfl⟩) (arm' := none) (b' := false) rfl (fun t ht => by cases ht)
        (by simpa using (((h.main.set_ 4 (.bool false)).set_ 5 (.int .i64 p)).set_ 6 (.int .i64 q)).set_ 7 (.int .i64 r))⟩
end
end Go.Proofs.YtieicjjmkedgaaaGreatDoor

/- What Read, Stale, Rot and New of the reference do. -/
namespace Go.Proofs.YtieicjjmkedgaaaGreatDoor
open Go.RowKit

section
variable {w w' : World} {m g1 g2 c1 c2 : Nat} {qv : Value} {b : Bool} {x y z : Int} {d d' : Dk} {F G : Foot}

theorem lastOf_take {q : List (Nat × ByteArray)} {k : Nat} {p : Nat × ByteArray} (h : q[k]? = some p) (i : Nat) : lastOf (q.take (k + 1)) i = if p.1 = i then some p.2 else lastOf (q.take k) i := by
  obtain ⟨hk, rfl⟩ := List.getElem?_eq_some_iff.1 h
  rw [List.take_succ_eq_append_getElem hk, lastOf_snoc]

set_option maxRecDepth 100000 in
set_option maxHeartbeats 800000 in
theorem rread_any (h : RefAt' w m g1 g2 c1 c2 qv b x y z d F) (s : Int) :
    Calls Tryz.prog 28 #[.pointer (some ⟨m, 0, none⟩), .int .i64 s] w fun e w' => e = .returned (.tuple #[.string (d.read s).1, .int .i64 (d.read s).2]) ∧ w = w' := by
  obtain ⟨k0, f0, hlt⟩ := h.main.all
  have hn := h.ok.n2
  cases ho : d.off with
  | true =>
    have e : d.read s = (ByteArray.empty, 25) := by unfold Dk.read; rw [ho]; rfl
    rw [e]
    simp only [ho] at k0
    clear ho e
    go_enter Tryz.func28, Tryz.ntmps28
    go_wp2
    go_ret2
    exact ⟨rfl, rfl⟩
  | false =>
    simp only [ho] at k0
    have HO := Lib.hid ho
    by_cases h0 : s < 0
    · have e : d.read s = (ByteArray.empty, 1) := by unfold Dk.read; rw [ho]; simp [Dk.has, show ¬ 0 ≤ s by omega]
      rw [e]
      clear ho e
      go_enter Tryz.func28, Tryz.ntmps28
      go_wp2
      go_ret2
      exact ⟨rfl, rfl⟩
    · by_cases h1 : (d.n : Int) ≤ s
      · have e : d.read s = (ByteArray.empty, 1) := by unfold Dk.read; rw [ho]; simp [Dk.has, show ¬ s < d.n by omega]
        rw [e]
        clear ho e
        go_enter Tryz.func28, Tryz.ntmps28
        go_wp2
        go_ret2
        exact ⟨rfl, rfl⟩
      · obtain ⟨i, rfl⟩ := Int.eq_ofNat_of_zero_le (show 0 ≤ s by omega)
        have hi : i < d.n := by omega
        have hh : d.has (i : Int) = true := by simp [Dk.has]; omega
        have e : d.read (i : Int) = ((lastOf d.q i).getD (d.secB i), 0) := by unfold Dk.read; rw [ho, hh]; simp; rfl
        rw [e]
        have hql := h.qlen
        have s1 := h.st.cellAt i (by omega)
        rw [str_at (Dk.stS_at d hi)] at s1
        obtain ⟨A, c, hqv⟩ := h.form
        have hRq := h.q
        rw [hqv] at k0 hRq
        clear ho e hh hqv
        generalize d.secB i = sb at *
        have hiI : (i : Int) < d.n := by omega
        go_enter Tryz.func28, Tryz.ntmps28
        go_wp2_with fail
        go_loop [6, 7] (fun v u => ∃ k : Nat, k ≤ d.q.length ∧ u = .int .i64 (k : Int) ∧ v = .string ((lastOf (d.q.take k) i).getD sb)) (fun _ u => d.q.length - (intOf u).toNat)
        case atStart => exact ⟨0, Nat.zero_le _, rfl, rfl⟩
        case round =>
          obtain ⟨k, hk, rfl, rfl⟩ := hrel
          by_cases hlt2 : k < d.q.length
          · obtain ⟨p, hp⟩ : ∃ p, d.q[k]? = some p := ⟨_, List.getElem?_eq_getElem hlt2⟩
            obtain ⟨r1, r2⟩ := rcells_at d.q hp
            have hla := lastOf_take hp i
            obtain ⟨g, hA⟩ : ∃ g, A = some ⟨g, 0, none⟩ := by
              rcases hRq.2 with ⟨h0, _⟩ | ⟨g, cap, cur, hv, _⟩
              · injection h0 with _ h0 _; omega
              · injection hv with hv; exact ⟨g, hv⟩
            subst hA
            have a1 := hRq.cellAt (k * 2) (by omega)
            have a2 := hRq.cellAt (k * 2 + 1) (by omega)
            rw [r1] at a1
            rw [r2] at a2
            obtain ⟨u, t⟩ := p
            simp only at a1 a2 hla
            have HLA := Lib.hid hla
            generalize lastOf (d.q.take k) i = L at *
            clear r1 r2 hla hp
            by_cases hu : u = i
            · have hub : ((u : Int) == (i : Int)) = true := by simp [hu]
              have HU := Lib.hid hu
              clear hu
              go_wp2
              go_round
              case rel => exact ⟨k + 1, by omega, by go_num, by rw [HLA.out, if_pos HU.out]; rfl⟩
              case measure => simp [intOf]; omega
            · have hub : ((u : Int) == (i : Int)) = false := by rw [beq_eq_false_iff_ne]; omega
              have HU := Lib.hid hu
              clear hu
              go_wp2
              go_round
              case rel => exact ⟨k + 1, by omega, by go_num, by rw [HLA.out, if_neg HU.out]⟩
              case measure => simp [intOf]; omega
          · obtain rfl : k = d.q.length := by omega
            go_wp2
            go_ret2
            exact ⟨rfl, rfl⟩

set_option maxRecDepth 100000 in
set_option maxHeartbeats 800000 in
theorem rstale_any (h : RefAt' w m g1 g2 c1 c2 qv b x y z d F) (s : Int) : Calls Tryz.prog 24 #[.pointer (some ⟨m, 0, none⟩), .int .i64 s] w fun e w' =>
    e = .returned (.tuple #[]) ∧ Only F w w' ∧ RefAt w' m (d.stale s) F := by
  obtain ⟨k0, f0, hlt⟩ := h.main.all
  have hn := h.ok.n2
  by_cases h0 : s < 0
  · have e : d.stale s = d := by unfold Dk.stale; rw [if_neg]; simp [Dk.has]; omega
    rw [e]
    go_enter Tryz.func24, Tryz.ntmps24
    go_wp2
    go_end0
    exact ⟨rfl, Only.refl _ _, h.ref⟩
  · by_cases h1 : (d.n : Int) ≤ s
    · have e : d.stale s = d := by unfold Dk.stale; rw [if_neg]; simp [Dk.has]; omega
      rw [e]
      go_enter Tryz.func24, Tryz.ntmps24
      go_wp2
      go_end0
      exact ⟨rfl, Only.refl _ _, h.ref⟩
    · obtain ⟨i, rfl⟩ := Int.eq_ofNat_of_zero_le (show 0 ≤ s by omega)
      have hi : i < d.n := by omega
      have hsec := Dk.stale_sectors h.ok hi
      have hsm := Dk.stale_same d (i : Int)
      have s1 := h.st.cellAt i (by omega)
      rw [str_at (Dk.stS_at d hi)] at s1
      have s2 := h.el.cellAt i (by omega)
      rw [str_at (Dk.elS_at d hi)] at s2
      have z1 := h.st.frozenAt i
      have hne := h.ne
      have hg1m := own_ne_blk h.st h.main (by decide)
      have HSEC := Lib.hid hsec
      have r1 := (h.st.stored i (.string (d.elB i))).1
      have hok' : (d.stale (i : Int)).Ok := by
        have hl : ((d.el.drop (64 * i)).take 64).length = 64 := by rw [List.length_take, List.length_drop, h.ok.el]; omega
        unfold Dk.stale
        split
        · exact ⟨h.ok.n1, h.ok.n2, by
            show (splice _ _ _).length = 64 * d.n
            rw [length_splice _ _ _ (by rw [h.ok.st]; simp [h.ok.el]; omega)]; exact h.ok.st, h.ok.el, h.ok.q, h.ok.arm⟩
        · exact h.ok
      have harm : (d.stale (i : Int)).arm = d.arm := by unfold Dk.stale; split <;> rfl
      generalize d.secB i = sb at *
      generalize d.elB i = eb at *
      have hiI : (i : Int) < d.n := by omega
      have HSM := Lib.hid hsm
      have HARM := Lib.hid harm
      clear hsec hsm harm
      go_enter Tryz.func24, Tryz.ntmps24
      go_wp2
      refine wp_region_tail 12 (by kernel_rfl) (by kernel_rfl) ?_
      simp only [List.take_succ_cons, List.take_zero, List.drop_succ_cons, List.drop_zero]
      repeat still_step
      refine wpStill_nil ?_
      go_wp2
      go_end0
      have O1 : Only (fun k => k = g1) w (w.setCell ⟨g1, i, none⟩ (.string eb)) := (Only.refl (fun k => k = g1) w).setCell (p := ⟨g1, i, none⟩) (.inl rfl) _
      have r2 := O1.owns h.el (fun g hg e => by injection hg with hg; exact hne (e.symm.trans hg.symm))
      have e1 : Only (fun k => k = g1 ∨ k = g2) w ((w.setCell ⟨g1, i, none⟩ (.string eb)).drew) := (O1.mono (fun k hk => .inl hk)).drew
      refine ⟨rfl, e1.mono (by rintro k (rfl | rfl); exact h.f1; exact h.f2), _, _, _, _, _, _, _, _, _, h.upd e1 hok' ?_ ?_ HSM.out.1 HSM.out.2.1 HSM.out.2.2.1 HARM.out⟩
      · rw [HSEC.out.1, List.map_set]
        exact r1.drew
      · rw [HSEC.out.2]
        exact r2.drew

def zeros (k : Nat) : ByteArray := ⟨(List.replicate k 0).toArray⟩
theorem zero_succ (k : Nat) : zeros k ++ ⟨#[0]⟩ = zeros (k + 1) := by
  apply ba_ext
  simp [zeros, ByteArray.data_append, List.replicate_succ']
theorem zeros_size (k : Nat) : (zeros k).size = k := by simp [zeros, ByteArray.size]

set_option maxRecDepth 100000 in
set_option maxHeartbeats 800000 in
theorem rzero (w : World) : Calls Tryz.prog 30 #[.int .i64 64] w fun e w' => e = .returned (.string zero64) ∧ w = w' := by
  go_enter Tryz.func30, Tryz.ntmps30
  go_wp2_with fail
  go_loop [3, 4] (fun v u => ∃ k : Nat, k ≤ 64 ∧ u = .int .i64 (k : Int) ∧ v = .string (zeros k)) (fun _ u => 64 - (intOf u).toNat)
  case atStart => exact ⟨0, Nat.zero_le _, rfl, rfl⟩
  case round =>
    obtain ⟨k, hk, rfl, rfl⟩ := hrel
    by_cases hlt : k < 64
    · have had : ∀ W : World, (Op.stringOp .add (zeros k) ⟨#[0]⟩).run Tryz.prog W = .ok (.string (zeros (k + 1))) W := fun W => by
        rw [run_string_add_sum W _ _ (by rw [zeros_size]; simp [ByteArray.size]; omega), zero_succ]
      have hkI : (k : Int) < 64 := by omega
      go_wp2
      go_round
      case rel => exact ⟨k + 1, by omega, by go_num, rfl⟩
      case measure => simp [intOf]; omega
    · obtain rfl : k = 64 := by omega
      go_wp2
      go_ret
      exact ⟨rfl, rfl⟩
end
end Go.Proofs.YtieicjjmkedgaaaGreatDoor

/- What Rot and New of the reference do. -/
namespace Go.Proofs.YtieicjjmkedgaaaGreatDoor
open Go.RowKit

section
variable {w w' : World} {m g1 g2 c1 c2 : Nat} {qv : Value} {b : Bool} {x y z : Int} {d d' : Dk} {F G : Foot}

theorem Dk.rot_none {d : Dk} {s k m : Int} (h : s < 0 ∨ (d.n : Int) ≤ s ∨ k < 0 ∨ 64 ≤ k ∨ m < 1 ∨ 255 < m) : d.rot s k m = d := by
  rw [Dk.rot_eq, if_neg]
  intro hh
  have := rotB_spec.1 hh
  omega

set_option maxRecDepth 100000 in
set_option maxHeartbeats 800000 in
theorem rrot_no (h : RefAt' w m g1 g2 c1 c2 qv b x y z d F) (p q r : Int) (hn : p < 0 ∨ (d.n : Int) ≤ p ∨ q < 0 ∨ 64 ≤ q ∨ r < 1 ∨ 255 < r) : Calls Tryz.prog 22 #[.pointer (some ⟨m, 0, none⟩), .int .i64 p, .int .i64 q, .int .i64 r] w fun e w' =>
    e = .returned (.tuple #[]) ∧ w = w' := by
  obtain ⟨k0, f0, hlt⟩ := h.main.all
  by_cases h0 : p < 0
  · clear hn
    go_enter Tryz.func22, Tryz.ntmps22
    go_wp2
    refine bodyPost_ret (results_none rfl _ _ _) rfl ⟨rfl, rfl⟩
  · by_cases h1 : (d.n : Int) ≤ p
    · clear hn
      go_enter Tryz.func22, Tryz.ntmps22
      go_wp2
      refine bodyPost_ret (results_none rfl _ _ _) rfl ⟨rfl, rfl⟩
    · by_cases h2 : q < 0
      · clear hn
        go_enter Tryz.func22, Tryz.ntmps22
        go_wp2
        refine bodyPost_ret (results_none rfl _ _ _) rfl ⟨rfl, rfl⟩
      · by_cases h3 : 64 ≤ q
        · clear hn
          go_enter Tryz.func22, Tryz.ntmps22
          go_wp2
          refine bodyPost_ret (results_none rfl _ _ _) rfl ⟨rfl, rfl⟩
        · by_cases h4 : r < 1
          · clear hn
            go_enter Tryz.func22, Tryz.ntmps22
            go_wp2
            refine bodyPost_ret (results_none rfl _ _ _) rfl ⟨rfl, rfl⟩
          · have h5 : 255 < r := by omega
            clear hn
            go_enter Tryz.func22, Tryz.ntmps22
            go_wp2
            refine bodyPost_ret (results_none rfl _ _ _) rfl ⟨rfl, rfl⟩

set_option maxRecDepth 100000 in
set_option maxHeartbeats 1600000 in
theorem rrot_yes (h : RefAt' w m g1 g2 c1 c2 qv b x y z d F) (i k r : Nat) (hi : i < d.n) (hk : k < 64) (hr1 : 1 ≤ r) (hr2 : r ≤ 255) : Calls Tryz.prog 22 #[.pointer (some ⟨m, 0, none⟩), .int .i64 (i : Int), .int .i64 (k : Int), .int .i64 (r : Int)] w fun e w' =>
    e = .returned (.tuple #[]) ∧ Only F w w' ∧ RefAt w' m (d.rot i k r) F := by
  obtain ⟨k0, f0, hlt⟩ := h.main.all
  have hn := h.ok.n2
  have hsz := Dk.secB_size h.ok hi
  obtain ⟨bt, hbt⟩ : ∃ bt, (d.secB i).data[k]? = some bt := ⟨_, Array.getElem?_eq_getElem (by have : (d.secB i).data.size = 64 := hsz; omega)⟩
  have hsec := Dk.rot_sectors h.ok hi hk hr1 hr2 bt hbt
  have hsm := Dk.rot_same d (i : Int) (k : Int) (r : Int)
  have harm : (d.rot (i : Int) k r).arm = d.arm := by rw [Dk.rot_eq]; split <;> rfl
  have hok' : (d.rot (i : Int) k r).Ok := by
    rw [Dk.rot_eq]
    split
    · exact ⟨h.ok.n1, h.ok.n2, by simpa using h.ok.st, h.ok.el, h.ok.q, h.ok.arm⟩
    · exact h.ok
  have s1 := h.st.cellAt i (by omega)
  rw [str_at (Dk.stS_at d hi)] at s1
  have z1 := h.st.frozenAt i
  have hne := h.ne
  have hg1m := own_ne_blk h.st h.main (by decide)
  have hg1l := h.fl _ h.f1
  have hix : ∀ W : World, (Instr.index 9 (.string (d.secB i)) (.int .i64 (k : Int))).run Tryz.prog W = .ok (.int .u8 (bt.toNat : Int)) W := fun W => by
    rw [run_index_string W 9 (d.secB i) .i64 (k : Int) (by kernel_rfl), dif_pos (by omega)]
    congr 4
    have : (d.secB i).data[k]? = some ((d.secB i)[k]'(by omega)) := by rw [Array.getElem?_eq_getElem]; rfl
    rw [hbt] at this
    exact (Option.some.inj this).symm
  have hxr := u8_xor_nat bt.toNat r bt.toNat_lt (by omega)
  have hbv : ((bt.toNat ^^^ r : Nat) : Int) = ((bt ^^^ UInt8.ofNat r).toNat : Int) := by
    rw [UInt8.toNat_xor, UInt8.toNat_ofNat_of_lt' (by show r < 256; omega)]
  rw [hbv] at hxr
  have hw2 : IntKind.u8.wrap (r : Int) = (r : Int) := IntWalk.u8_in _ (by omega)
  have hw1 : IntKind.i64.wrap ((k : Int) + 1) = ((k + 1 : Nat) : Int) := by rw [IntWalk.i64_in _ (by omega)]; rfl
  generalize bt ^^^ UInt8.ofNat r = cv at *
  have hsl1 : ∀ W : World, (Instr.slice 9 (.string (d.secB i)) none (some (.int .i64 (k : Int))) none).run Tryz.prog W = .ok (.string ((d.secB i).extract 0 k)) W := fun W => by
    have := run_slice_string_h (P := Tryz.prog) W 9 (d.secB i) (by kernel_rfl) .i64 (k : Int) (by omega) (by omega)
    simpa using this
  have hsl2 : ∀ W : World, (Instr.slice 9 (.string (d.secB i)) (some (.int .i64 ((k : Int) + 1))) none none).run Tryz.prog W = .ok (.string ((d.secB i).extract (k + 1) (d.secB i).size)) W := fun W => by
    have := run_slice_string_l (P := Tryz.prog) W 9 (d.secB i) (by kernel_rfl) .i64 ((k : Int) + 1) (by omega) (by omega)
    have e : ((k : Int) + 1).toNat = k + 1 := by omega
    rw [e] at this
    exact this
  have hs1 : ((d.secB i).extract 0 k).size = k := by rw [ext_size _ _ _ (by omega)]; omega
  have hs2 : ((d.secB i).extract (k + 1) (d.secB i).size).size = 64 - (k + 1) := by rw [ext_size _ _ _ (Nat.le_refl _), hsz]
  generalize d.secB i = sb at *
  generalize hE1 : sb.extract 0 k = T1 at *
  generalize hE2 : sb.extract (k + 1) sb.size = T2 at *
  have hs3 : (T1 ++ ⟨#[cv]⟩ : ByteArray).size = k + 1 := by rw [ByteArray.size_append, hs1]; rfl
  have had1 : ∀ W : World, (Op.stringOp .add T1 ⟨#[cv]⟩).run Tryz.prog W = .ok (.string (T1 ++ ⟨#[cv]⟩)) W := fun W => run_string_add_sum W _ _ (by rw [hs1]; show k + 1 ≤ _; omega)
  have had2 : ∀ W : World, (Op.stringOp .add (T1 ++ ⟨#[cv]⟩) T2).run Tryz.prog W = .ok (.string (T1 ++ ⟨#[cv]⟩ ++ T2)) W := fun W => run_string_add_sum W _ _ (by omega)
  have HSEC := Lib.hid hsec
  have HSM := Lib.hid hsm
  have HARM := Lib.hid harm
  have hiI : (i : Int) < d.n := by omega
  have hkI : (k : Int) < 64 := by omega
  have hrI : (1 : Int) ≤ r := by omega
  have hrI2 : (r : Int) ≤ 255 := by omega
  have hbn := Blk.new w 5 #[.int .u8 (cv.toNat : Int)]
  have hcv := run_string_of_blk (P := Tryz.prog) (w.alloc (.cells #[.int .u8 (cv.toNat : Int)] 5)).drew 49 9 5 w.heap.size 5 (by kernel_rfl) (by kernel_rfl) (by kernel_rfl) 0 1 1 [cv] hbn.drew (by simp)
  have hcvs : (⟨((List.drop 0 [cv]).take 1).toArray⟩ : ByteArray) = ⟨#[cv]⟩ := rfl
  rw [hcvs] at hcv
  have r1 := (h.st.stored i (.string (T1 ++ ⟨#[cv]⟩ ++ T2))).1
  clear hsec hsm harm hbt hbv hsz hs1 hs2 hs3 hE1 hE2 hbn hcvs
  go_enter Tryz.func22, Tryz.ntmps22
  go_wp2
  refine wp_region_tail 16 (by kernel_rfl) (by kernel_rfl) ?_
  simp only [List.take_succ_cons, List.take_zero, List.drop_succ_cons, List.drop_zero]
  repeat still_step
  refine wpStill_nil ?_
  go_wp2
  go_end0
  have O1 : Only (fun k => k = g1) w (w.setCell ⟨g1, i, none⟩ (.string (T1 ++ ⟨#[cv]⟩ ++ T2))) := (Only.refl (fun k => k = g1) w).setCell (p := ⟨g1, i, none⟩) (.inl rfl) _
  have r2 := O1.owns h.el (fun g hg e => by injection hg with hg; exact hne (e.symm.trans hg.symm))
  have e1 : Only (fun k => k = g1 ∨ k = g2) w (((w.setCell ⟨g1, i, none⟩ (.string (T1 ++ ⟨#[cv]⟩ ++ T2))).alloc (.cells #[.int .u8 (cv.toNat : Int)] 5)).drew) := ((O1.mono (fun k hk => .inl hk)).alloc _).drew
  refine ⟨rfl, e1.mono (by rintro k (rfl | rfl); exact h.f1; exact h.f2), _, _, _, _, _, _, _, _, _, h.upd e1 hok' ?_ ?_ HSM.out.1 HSM.out.2.1 HSM.out.2.2.1 HARM.out⟩
  · rw [HSEC.out.1, List.map_set]
    exact (r1.alloc _).drew
  · rw [HSEC.out.2]
    exact (r2.alloc _).drew

theorem rrot_any (h : RefAt' w m g1 g2 c1 c2 qv b x y z d F) (p q r : Int) : Calls Tryz.prog 22 #[.pointer (some ⟨m, 0, none⟩), .int .i64 p, .int .i64 q, .int .i64 r] w fun e w' =>
    e = .returned (.tuple #[]) ∧ Only F w w' ∧ RefAt w' m (d.rot p q r) F := by
  by_cases hc : p < 0 ∨ (d.n : Int) ≤ p ∨ q < 0 ∨ 64 ≤ q ∨ r < 1 ∨ 255 < r
  · rw [Dk.rot_none hc]
    refine (rrot_no h p q r hc).mono ?_
    rintro e w1 ⟨rfl, rfl⟩
    exact ⟨rfl, Only.refl _ _, h.ref⟩
  · obtain ⟨i, rfl⟩ := Int.eq_ofNat_of_zero_le (show 0 ≤ p by omega)
    obtain ⟨k, rfl⟩ := Int.eq_ofNat_of_zero_le (show 0 ≤ q by omega)
    obtain ⟨v, rfl⟩ := Int.eq_ofNat_of_zero_le (show 0 ≤ r by omega)
    exact rrot_yes h i k v (by omega) (by omega) (by omega) (by omega)

theorem Tryz.infoRStr : (Tryz.prog.info? 9).map (fun i => (i.zero, i.size, i.bytes)) = some (some (.string ⟨#[]⟩), 1, 16) := by kernel_rfl

/-- While New runs. -/
structure NewI (w wr : World) (k1 k2 : Nat) (A1 A2 : Option Addr) (c1 c2 : Nat) : Prop where
  below : Below w.heap.size w wr
  main : Blk wr w.heap.size 56 #[.slice A1 k1 c1, .slice A2 k2 c2, .slice none 0 0, .bool true, .bool false, .int .i64 0, .int .i64 0, .int .i64 0]
  o1 : wr.ownsRow 0 9 1 (.slice A1 k1 c1) k1 (List.replicate k1 (.string zero64))
  o2 : wr.ownsRow 0 9 1 (.slice A2 k2 c2) k2 (List.replicate k2 (.string zero64))
  s1 : ∀ b, A1 = some b → w.heap.size < b.block
  s2 : ∀ b, A2 = some b → w.heap.size < b.block
  ne : ∀ b b', A1 = some b → A2 = some b' → b.block ≠ b'.block

theorem NewI.apart1 {w wr : World} {k1 k2 c1 c2 : Nat} {A1 A2 : Option Addr} (h : NewI w wr k1 k2 A1 A2 c1 c2) : some w.heap.size ≠ (Value.slice A1 k1 c1).ownBlock := fun e => by
  obtain ⟨b, hb1, hb2⟩ := own_block e.symm
  have := h.s1 b hb1
  omega
theorem NewI.apart2 {w wr : World} {k1 k2 c1 c2 : Nat} {A1 A2 : Option Addr} (h : NewI w wr k1 k2 A1 A2 c1 c2) : some w.heap.size ≠ (Value.slice A2 k2 c2).ownBlock := fun e => by
  obtain ⟨b, hb1, hb2⟩ := own_block e.symm
  have := h.s2 b hb1
  omega
theorem own_in {w : World} {A : Option Addr} {e : TypeId} {size n c g : Nat} {xs : List Value} (h : w.ownsRow 0 e size (.slice A n c) n xs) (hg : (Value.slice A n c).ownBlock = some g) : g < w.heap.size := by
  rcases h.2 with ⟨h0, _⟩ | ⟨k, cap, cur, hv, _, hh, _⟩
  · rw [h0] at hg; cases hg
  · rw [hv] at hg
    injection hg with hg
    subst hg
    exact Blk.lt (w := w) (g := k) (t := e) (cs := cur) hh
theorem repl_snoc (k : Nat) (v : Value) : List.replicate k v ++ [v] = List.replicate (k + 1) v := by rw [List.replicate_succ']

theorem NewI.step1 {w wr w2 : World} {k1 k2 c1 c2 g cap : Nat} {A1 A2 : Option Addr} {o : Obj} (h : NewI w wr k1 k2 A1 A2 c1 c2) (hg : (wr.alloc o).grownBy w2 (Value.slice A1 k1 c1).ownBlock)
    (ho : w2.ownsRow 0 9 1 (.slice (some ⟨g, 0, none⟩) (k1 + 1) cap) (k1 + 1) (List.replicate k1 (.string zero64) ++ [.string zero64])) (hl : (Value.slice A1 k1 c1).ownBlock = some g ∨ wr.heap.size ≤ g) :
    NewI w (w2.setCell ⟨w.heap.size, 0, none⟩ (.slice (some ⟨g, 0, none⟩) (k1 + 1) cap)) (k1 + 1) k2 (some ⟨g, 0, none⟩) A2 cap c2 := by
  have hm := Blk.grown (h.main.alloc o) hg h.apart1
  have hsz := h.below.size
  have hml := h.main.lt
  have hrow : ∀ k, (Value.slice A1 k1 c1).ownBlock = some k → w.heap.size ≤ k := fun k hk => by
    obtain ⟨b, hb1, hb2⟩ := own_block hk
    have := h.s1 b hb1
    omega
  have hgw : w.heap.size < g := by
    rcases hl with hl | hl
    · obtain ⟨b, hb1, hb2⟩ := own_block hl
      have := h.s1 b hb1
      omega
    · omega
  have hO1 : Only (fun k => (Value.slice A1 k1 c1).ownBlock = some k) wr w2 := ((Only.refl (fun k => (Value.slice A1 k1 c1).ownBlock = some k) wr).alloc o).trans (Only.of_grown hg) (fun k e => .inl e)
  have hO2 : Only (fun k => k = w.heap.size) w2 (w2.setCell ⟨w.heap.size, 0, none⟩ (.slice (some ⟨g, 0, none⟩) (k1 + 1) cap)) := (Only.refl (fun k => k = w.heap.size) w2).setCell (p := ⟨w.heap.size, 0, none⟩) (.inl rfl) _
  refine ⟨((h.below.alloc hsz o).grown hg (by simp; omega) hrow).setCell (Nat.le_refl _) _, by simpa using hm.set_ 0 (.slice (some ⟨g, 0, none⟩) (k1 + 1) cap), ?_, ?_, ?_, h.s2, ?_⟩
  · rw [← repl_snoc]
    exact hO2.owns ho (fun k hk e => by injection hk with hk; have hk' : g = k := hk; omega)
  · refine hO2.owns (hO1.owns h.o2 (fun k hk e => ?_)) (fun k hk e => ?_)
    · obtain ⟨b, hb1, hb2⟩ := own_block hk
      obtain ⟨b', hb1', hb2'⟩ := own_block e
      exact h.ne b' b hb1' hb1 (hb2'.trans hb2.symm)
    · obtain ⟨b, hb1, hb2⟩ := own_block hk
      have := h.s2 b hb1
      omega
  · intro b hb
    injection hb with hb
    subst hb
    exact hgw
  · intro b b' hb hb'
    injection hb with hb
    subst hb
    rcases hl with hl | hl
    · obtain ⟨b2, hb1, hb2⟩ := own_block hl
      intro e
      exact h.ne b2 b' hb1 hb' (hb2.trans e)
    · intro e
      have : b'.block < wr.heap.size := own_in h.o2 (by rw [hb']; rfl)
      have e' : g = b'.block := e
      omega
theorem NewI.step2 {w wr w2 : World} {k1 k2 c1 c2 g cap : Nat} {A1 A2 : Option Addr} {o : Obj} (h : NewI w wr k1 k2 A1 A2 c1 c2) (hg : (wr.alloc o).grownBy w2 (Value.slice A2 k2 c2).ownBlock)
    (ho : w2.ownsRow 0 9 1 (.slice (some ⟨g, 0, none⟩) (k2 + 1) cap) (k2 + 1) (List.replicate k2 (.string zero64) ++ [.string zero64])) (hl : (Value.slice A2 k2 c2).ownBlock = some g ∨ wr.heap.size ≤ g) :
    NewI w (w2.setCell ⟨w.heap.size, 1, none⟩ (.slice (some ⟨g, 0, none⟩) (k2 + 1) cap)) k1 (k2 + 1) A1 (some ⟨g, 0, none⟩) c1 cap := by
  have hm := Blk.grown (h.main.alloc o) hg h.apart2
  have hsz := h.below.size
  have hml := h.main.lt
  have hrow : ∀ k, (Value.slice A2 k2 c2).ownBlock = some k → w.heap.size ≤ k := fun k hk => by
    obtain ⟨b, hb1, hb2⟩ := own_block hk
    have := h.s2 b hb1
    omega
  have hgw : w.heap.size < g := by
    rcases hl with hl | hl
    · obtain ⟨b, hb1, hb2⟩ := own_block hl
      have := h.s2 b hb1
      omega
    · omega
  have hO1 : Only (fun k => (Value.slice A2 k2 c2).ownBlock = some k) wr w2 := ((Only.refl (fun k => (Value.slice A2 k2 c2).ownBlock = some k) wr).alloc o).trans (Only.of_grown hg) (fun k e => .inl e)
  have hO2 : Only (fun k => k = w.heap.size) w2 (w2.setCell ⟨w.heap.size, 1, none⟩ (.slice (some ⟨g, 0, none⟩) (k2 + 1) cap)) := (Only.refl (fun k => k = w.heap.size) w2).setCell (p := ⟨w.heap.size, 1, none⟩) (.inl rfl) _
  refine ⟨((h.below.alloc hsz o).grown hg (by simp; omega) hrow).setCell (Nat.le_refl _) _, by simpa using hm.set_ 1 (.slice (some ⟨g, 0, none⟩) (k2 + 1) cap), ?_, ?_, h.s1, ?_, ?_⟩
  · refine hO2.owns (hO1.owns h.o1 (fun k hk e => ?_)) (fun k hk e => ?_)
    · obtain ⟨b, hb1, hb2⟩ := own_block hk
      obtain ⟨b', hb1', hb2'⟩ := own_block e
      exact h.ne b b' hb1 hb1' (hb2.trans hb2'.symm)
    · obtain ⟨b, hb1, hb2⟩ := own_block hk
      have := h.s1 b hb1
      omega
  · rw [← repl_snoc]
    exact hO2.owns ho (fun k hk e => by injection hk with hk; have hk' : g = k := hk; omega)
  · intro b hb
    injection hb with hb
    subst hb
    exact hgw
  · intro b b' hb hb'
    injection hb' with hb'
    subst hb'
    rcases hl with hl | hl
    · obtain ⟨b2, hb1, hb2⟩ := own_block hl
      intro e
      exact h.ne b b2 hb hb1 (e.trans hb2.symm)
    · intro e
      have : b.block < wr.heap.size := own_in h.o1 (by rw [hb]; rfl)
      have e' : b.block = g := e
      omega
theorem NewI.done {w wr : World} {n c1 c2 : Nat} {A1 A2 : Option Addr} (h : NewI w wr n n A1 A2 c1 c2) (h1 : 1 ≤ n) (h2 : n ≤ 4000) : RefAt wr w.heap.size (Dk.new n) (fun i => w.heap.size ≤ i ∧ i < wr.heap.size) := by
  obtain ⟨g1, rfl, l1⟩ := own_some h.o1 (by omega)
  obtain ⟨g2, rfl, l2⟩ := own_some h.o2 (by omega)
  have hml := h.main.lt
  obtain ⟨e1, e2⟩ := Dk.new_sectors n
  have hr : ∀ k, (List.replicate k zero64).map Value.string = List.replicate k (.string zero64) := fun k => by simp
  refine ⟨g1, g2, c1, c2, .slice none 0 0, false, 0, 0, 0, ?_⟩
  exact {
    ok := ⟨h1, h2, by simp [Dk.new], by simp [Dk.new], (fun p hp => by cases hp), (fun x hx => by cases hx)⟩
    main := h.main
    st := by rw [e1, hr]; exact h.o1
    el := by rw [e2, hr]; exact h.o2
    ne := h.ne _ _ rfl rfl
    q := World.ownsRow_nil _ _ _ _
    qlen := Nat.zero_le _
    alr := rfl
    fa := ⟨Nat.le_refl _, hml⟩
    f1 := ⟨Nat.le_of_lt (h.s1 _ rfl), l1⟩
    f2 := ⟨Nat.le_of_lt (h.s2 _ rfl), l2⟩
    fq := fun g hg => by cases hg
    fl := fun i hi => hi.2 }

set_option maxRecDepth 100000 in
set_option maxHeartbeats 1600000 in
theorem rnew_yes (w : World) (n : Nat) (h1 : 1 ≤ n) (h2 : n ≤ 4000) : Calls Tryz.prog 7 #[.int .i64 (n : Int)] w fun e w' =>
    ∃ a, e = .returned (.pointer (some ⟨a, 0, none⟩)) ∧ Below w.heap.size w w' ∧ RefAt w' a (Dk.new n) (fun i => w.heap.size ≤ i ∧ i < w'.heap.size) := by
  obtain ⟨i0, hi0, hz0, hz1, hz2⟩ := info_parts Tryz.infoRStr
  have h1' : (1 : Int) ≤ n := by omega
  have h2' : (n : Int) ≤ 4000 := by omega
  go_enter Tryz.func7, Tryz.ntmps7
  go_wp2_with fail
  refine (rzero _).mono ?_
  rintro e w1 ⟨rfl, rfl⟩
  go_wp2_with fail
  have hI0 : NewI w (w.alloc (.cells #[.slice none 0 0, .slice none 0 0, .slice none 0 0, .bool true, .bool false, .int .i64 0, .int .i64 0, .int .i64 0] 56)) 0 0 none none 0 0 :=
    ⟨(Below.refl _ _).alloc (Nat.le_refl _) _, Blk.new w _ _, World.ownsRow_nil _ _ _ _, World.ownsRow_nil _ _ _ _, (fun b hb => by cases hb), (fun b hb => by cases hb), (fun b b' hb => by cases hb)⟩
  go_loopw [5] (fun v wr => ∃ (k : Nat) (A1 A2 : Option Addr) (c1 c2 : Nat), k ≤ n ∧ v = .int .i64 (k : Int) ∧ NewI w wr k k A1 A2 c1 c2) (fun v _ => n - (intOf v).toNat)
  case atStart => exact ⟨0, none, none, 0, 0, Nat.zero_le _, rfl, hI0⟩
  case round =>
    clear hI0
    obtain ⟨k, A1, A2, c1, c2, hk, rfl, hI⟩ := hrel
    obtain ⟨k0, f0, hlt⟩ := hI.main.all
    by_cases hlt2 : k < n
    · have hone : ∀ u ∈ [Value.string zero64], u.oneCell' = true := by intro u hu; simp at hu; subst hu; rfl
      have hnew : (wr.alloc (.cells #[Value.string zero64] 9)).heap[wr.heap.size]? = some (.cells #[Value.string zero64] 9 (0, 0)) := Blk.new wr _ _
      go_wp2_with (first
        | (at_builtin; refine wpList_append_lies _ rfl _ _ 30 rfl 0 9 i0 _ 1 16 Tryz.underlying30 hi0 hz0 hz1 hz2 rfl (by omega) (.slice A1 k c1) k _ rfl (hI.o1.alloc _) ⟨wr.heap.size, 0, none⟩ 1 1 [Value.string zero64] rfl rfl (World.news_of_block hnew) hone (by omega) (by unfold maxLen; omega) (by omega) (by omega) (wr.heap.size + 1) (by simp) ?_; intro g cap w2 o2 g2 l2 z2; have hJ := hI.step1 g2 o2 (l2.imp id (fun e => by omega)); obtain ⟨n0, n1, n2⟩ := (Blk.grown (hI.main.alloc _) g2 hI.apart1).all; clear k0 f0)
        | (at_builtin; have hnew2 := Blk.new (w2.setCell ⟨w.heap.size, 0, none⟩ (.slice (some ⟨g, 0, none⟩) (k + 1) cap)) 9 #[Value.string zero64]; refine wpList_append_lies _ rfl _ _ 30 rfl 0 9 i0 _ 1 16 Tryz.underlying30 hi0 hz0 hz1 hz2 rfl (by omega) (.slice A2 k c2) k _ rfl (hJ.o2.alloc _) ⟨w2.heap.size, 0, none⟩ 1 1 [Value.string zero64] rfl rfl (World.news_of_block (by simpa [World.setCell, Blk] using hnew2)) hone (by omega) (by unfold maxLen; omega) (by omega) (by omega) (w2.heap.size + 1) (by simp [World.setCell]) ?_; intro g' cap' w4 o4 g4 l4 z4; have hL := hJ.step2 g4 o4 (l4.imp id (fun e => by simp [World.setCell]; omega)); obtain ⟨p0, p1, p2⟩ := (Blk.grown (hJ.main.alloc _) g4 hJ.apart2).all; clear n0 n1))
      go_roundw
      case rel => exact ⟨k + 1, _, _, _, _, by omega, by go_num, hL⟩
      case measure => simp [intOf]; omega
    · obtain rfl : n = k := by omega
      go_wp2
      go_ret
      exact ⟨w.heap.size, rfl, hI.below, hI.done h1 h2⟩
end
end Go.Proofs.YtieicjjmkedgaaaGreatDoor

/- One contract a method of the reference's disk; want; a disk beside a disk of the reference. -/
namespace Go.Proofs.YtieicjjmkedgaaaGreatDoor
open Go.RowKit

theorem RefAt.keep {w w' : World} {m : Nat} {d : Dk} {F G : Foot} (h : RefAt w m d F) (hO : Only G w w') (hd : ∀ i, F i → ¬ G i) : RefAt w' m d F := by
  obtain ⟨g1, g2, c1, c2, qv, b, x, y, z, h⟩ := h
  exact (h.keep hO hd).ref
theorem RefAt.below {w w' : World} {m : Nat} {d : Dk} {F : Foot} (h : RefAt w m d F) (hb : Below w.heap.size w w') : RefAt w' m d F := h.keep (Only.of_below hb (fun _ => False)) (by simp)
theorem RefAt.lt {w : World} {m : Nat} {d : Dk} {F : Foot} (h : RefAt w m d F) : ∀ i, F i → i < w.heap.size := by
  obtain ⟨g1, g2, c1, c2, qv, b, x, y, z, h⟩ := h
  exact h.fl
theorem RefAt.ok {w : World} {m : Nat} {d : Dk} {F : Foot} (h : RefAt w m d F) : d.Ok := by
  obtain ⟨g1, g2, c1, c2, qv, b, x, y, z, h⟩ := h
  exact h.ok
theorem RStp.same {w w' : World} {a : Nat} {d : Dk} {F : Foot} (h : RefAt w a d F) (hb : Below w.heap.size w w') : RStp w w' a d F := ⟨F, Only.of_below hb _, fun _ hk => .inl hk, h.below hb⟩

section
variable {w : World} {m : Nat} {d : Dk} {F : Foot}
set_option maxRecDepth 100000 in
set_option maxHeartbeats 800000 in
theorem rfail_off (h : RefAt w m d F) (ho : d.off = true) (x y : Int) : Calls Tryz.prog 16 #[.pointer (some ⟨m, 0, none⟩), .int .i64 x, .int .i64 y] w fun e w' => e = .returned (.tuple #[]) ∧ w = w' := by
  obtain ⟨g1, g2, c1, c2, qv, b, x, y, z, h⟩ := h
  obtain ⟨c0, f0, hlt⟩ := h.main.all
  simp only [ho] at c0
  clear ho
  go_enter Tryz.func16, Tryz.ntmps16
  go_wp2
  refine bodyPost_ret (results_none rfl _ _ _) rfl ?_
  exact ⟨rfl, rfl⟩
theorem rfailA (h : RefAt w m d F) (x y : Int) : Calls Tryz.prog 16 #[.pointer (some ⟨m, 0, none⟩), .int .i64 x, .int .i64 y] w fun e w' => e = .returned (.tuple #[]) ∧ RStp w w' m (d.fail x y) F := by
  cases ho : d.off with
  | true =>
    have e : d.fail x y = d := by unfold Dk.fail; rw [ho]; rfl
    rw [e]
    exact (rfail_off h ho x y).mono fun _ _ ⟨h1, h2⟩ => ⟨h1, RStp.same h (by rw [← h2]; exact Below.refl _ _)⟩
  | false =>
    obtain ⟨g1, g2, c1, c2, qv, b, p, q, r, h⟩ := h
    exact (rfail_on h ho x y).mono fun _ _ ⟨h1, h2, h3⟩ => ⟨h1, RStp.of h2 h3.ref⟩
theorem rwriteA (h : RefAt w m d F) (hl : d.q.length < 4096) (s : Int) (t : ByteArray) : Calls Tryz.prog 81 #[.pointer (some ⟨m, 0, none⟩), .int .i64 s, .string t] w fun e w' => e = .returned (.int .i64 (d.write s t).2) ∧ RStp w w' m (d.write s t).1 F := by
  obtain ⟨g1, g2, c1, c2, qv, b, p, q, r, h⟩ := h
  exact rwrite_any h hl s t
theorem rreadA (h : RefAt w m d F) (s : Int) : Calls Tryz.prog 28 #[.pointer (some ⟨m, 0, none⟩), .int .i64 s] w fun e w' => e = .returned (.tuple #[.string (d.read s).1, .int .i64 (d.read s).2]) ∧ Below w.heap.size w w' := by
  obtain ⟨g1, g2, c1, c2, qv, b, p, q, r, h⟩ := h
  exact (rread_any h s).mono fun _ _ ⟨h1, h2⟩ => ⟨h1, by rw [← h2]; exact Below.refl _ _⟩
theorem rsyncA (h : RefAt w m d F) : Calls Tryz.prog 82 #[.pointer (some ⟨m, 0, none⟩)] w fun e w' => e = .returned (.int .i64 d.sync.2) ∧ RStp w w' m d.sync.1 F := by
  obtain ⟨g1, g2, c1, c2, qv, b, p, q, r, h⟩ := h
  exact (rsync_any h).mono fun _ _ ⟨h1, h2, h3⟩ => ⟨h1, RStp.of h2 h3⟩
theorem rstartA (h : RefAt w m d F) : Calls Tryz.prog 18 #[.pointer (some ⟨m, 0, none⟩)] w fun e w' => e = .returned (.tuple #[]) ∧ RStp w w' m d.start F := by
  obtain ⟨g1, g2, c1, c2, qv, b, p, q, r, h⟩ := h
  exact (rstart_any h).mono fun _ _ ⟨h1, h2, h3⟩ => ⟨h1, RStp.of h2 h3⟩
theorem rarmA (h : RefAt w m d F) (x y z : Int) (hx : x ≤ 9223372036854775807) : Calls Tryz.prog 20 #[.pointer (some ⟨m, 0, none⟩), .int .i64 x, .int .i64 y, .int .i64 z] w fun e w' => e = .returned (.tuple #[]) ∧ RStp w w' m (d.doArm x y z) F := by
  obtain ⟨g1, g2, c1, c2, qv, b, p, q, r, h⟩ := h
  exact (rarm_any h x y z hx).mono fun _ _ ⟨h1, h2, h3⟩ => ⟨h1, RStp.of h2 h3⟩
theorem rrotA (h : RefAt w m d F) (x y z : Int) : Calls Tryz.prog 22 #[.pointer (some ⟨m, 0, none⟩), .int .i64 x, .int .i64 y, .int .i64 z] w fun e w' => e = .returned (.tuple #[]) ∧ RStp w w' m (d.rot x y z) F := by
  obtain ⟨g1, g2, c1, c2, qv, b, p, q, r, h⟩ := h
  exact (rrot_any h x y z).mono fun _ _ ⟨h1, h2, h3⟩ => ⟨h1, RStp.of h2 h3⟩
theorem rstaleA (h : RefAt w m d F) (x : Int) : Calls Tryz.prog 24 #[.pointer (some ⟨m, 0, none⟩), .int .i64 x] w fun e w' => e = .returned (.tuple #[]) ∧ RStp w w' m (d.stale x) F := by
  obtain ⟨g1, g2, c1, c2, qv, b, p, q, r, h⟩ := h
  exact (rstale_any h x).mono fun _ _ ⟨h1, h2, h3⟩ => ⟨h1, RStp.of h2 h3⟩
end

theorem RStp.box {w w' : World} {a : Nat} {d' : Dk} {F : Foot} {o : Obj} (h : RStp (w.alloc o) w' a d' F) : RStp w w' a d' F := by
  obtain ⟨F', hO, hF, hD⟩ := h
  have hO' : Only F' w w' := ((Only.refl F' w).alloc o).trans hO (fun i hi => .inl hi)
  exact ⟨F', hO', fun k hk => by rcases hF k hk with h1 | h1; exact .inl h1; right; simp at h1; omega, hD⟩
theorem RStp.after {w w1 w' : World} {a : Nat} {d' : Dk} {F : Foot} (hb : Below w.heap.size w w1) (h : RStp w1 w' a d' F) : RStp w w' a d' F := by
  obtain ⟨F', hO, hF, hD⟩ := h
  have hs := hb.size
  exact ⟨F', (Only.of_below hb F').trans hO (fun i hi => .inl hi), fun k hk => by rcases hF k hk with h1 | h1; exact .inl h1; right; omega, hD⟩

/-- A disk beside a disk of the reference. -/
structure Mix (w0 w : World) (a : Nat) (d : Dk) (b : Nat) (e : Dk) : Prop where
  below : Below w0.heap.size w0 w
  disks : ∃ F G, DiskAt w a d F ∧ RefAt w b e G ∧ (∀ i, F i → w0.heap.size ≤ i) ∧ (∀ i, G i → w0.heap.size ≤ i) ∧ (∀ i, F i → ¬ G i)
theorem RefAt.only {w w' : World} {m : Nat} {d : Dk} {F G : Foot} (h : RefAt w m d F) (hO : Only G w w') (hd : ∀ i, F i → ¬ G i) : RefAt w' m d F := h.keep hO hd
section
variable {w0 w w' : World} {a b : Nat} {d d' e e' : Dk} {F G H : Foot}
theorem Mix.same (h : Mix w0 w a d b e) (hb : Below w.heap.size w w') : Mix w0 w' a d b e := by
  obtain ⟨F, G, h1, h2, h3, h4, h5⟩ := h.disks
  exact ⟨h.below.trans (hb.mono h.below.size), F, G, h1.below hb, h2.below hb, h3, h4, h5⟩
theorem Mix.left {P : Program} {f : FuncId} {args : Array Value} {v : Value} (h : Mix w0 w a d b e) (hc : ∀ F, DiskAt w a d F → Calls P f args w fun e w' => e = .returned v ∧ Stp w w' a d' F) :
    Calls P f args w fun r w' => r = .returned v ∧ Mix w0 w' a d' b e := by
  obtain ⟨F, G, h1, h2, h3, h4, h5⟩ := h.disks
  refine (hc F h1).mono ?_
  rintro r w' ⟨he, F', hO, hF, hD⟩
  refine ⟨he, ?_⟩
  have hge : ∀ i, F' i → w0.heap.size ≤ i := fun i hi => by
    rcases hF i hi with h4 | h4
    · exact h3 i h4
    · have := h.below.size; omega
  have hap : ∀ i, F' i → ¬ G i := fun i hi hg => by
    rcases hF i hi with h6 | h6
    · exact h5 i h6 hg
    · have := h2.lt i hg; omega
  exact ⟨h.below.trans (hO.below h.below.size hge), F', G, hD, h2.only hO (fun i hg hf => hap i hf hg), hge, h4, hap⟩
theorem Mix.right {P : Program} {f : FuncId} {args : Array Value} {v : Value} (h : Mix w0 w a d b e) (hc : ∀ F, RefAt w b e F → Calls P f args w fun r w' => r = .returned v ∧ RStp w w' b e' F) :
    Calls P f args w fun r w' => r = .returned v ∧ Mix w0 w' a d b e' := by
  obtain ⟨F, G, h1, h2, h3, h4, h5⟩ := h.disks
  refine (hc G h2).mono ?_
  rintro r w' ⟨he, G', hO, hG, hD⟩
  refine ⟨he, ?_⟩
  have hge : ∀ i, G' i → w0.heap.size ≤ i := fun i hi => by
    rcases hG i hi with h6 | h6
    · exact h4 i h6
    · have := h.below.size; omega
  have hap : ∀ i, F i → ¬ G' i := fun i hf hg => by
    rcases hG i hg with h6 | h6
    · exact h5 i hf h6
    · have := h1.lt i hf; omega
  exact ⟨h.below.trans (hO.below h.below.size hge), F, G', h1.only hO (fun i hf hg => hap i hf hg), hD, h3, hge, hap⟩
theorem Mix.lookl {P : Program} {f : FuncId} {args : Array Value} {R : Ending → World → Prop} (h : Mix w0 w a d b e) (hc : ∀ F, DiskAt w a d F → Calls P f args w R) : Calls P f args w R := by
  obtain ⟨F, G, h1, _⟩ := h.disks
  exact hc F h1
theorem Mix.lookr {P : Program} {f : FuncId} {args : Array Value} {R : Ending → World → Prop} (h : Mix w0 w a d b e) (hc : ∀ F, RefAt w b e F → Calls P f args w R) : Calls P f args w R := by
  obtain ⟨F, G, _, h1, _⟩ := h.disks
  exact hc G h1
theorem Mix.of_new {n : Nat} (h : Live w0 w a d G) (hb : Below w.heap.size w w') (hD : RefAt w' b (Dk.new n) (fun i => w.heap.size ≤ i ∧ i < w'.heap.size)) : Mix w0 w' a d b (Dk.new n) := by
  obtain ⟨F, h1, h2, h3⟩ := h.disk
  have := h.below.size
  exact ⟨h.below.trans (hb.mono h.below.size), F, _, h1.below hb, hD, h2, fun i hi => by omega, fun i hf hg => by have := h1.lt i hf; omega⟩
end
end Go.Proofs.YtieicjjmkedgaaaGreatDoor

/- The reference's journal: write. -/
namespace Go.Proofs.YtieicjjmkedgaaaGreatDoor
open Go.RowKit Go.Shelf

/-- What an operation on the reference's disk leaves. -/
def RPost (w w' : World) (b : Nat) (e' : Dk) (G : Foot) : Prop := ∃ G' : Foot, Only G w w' ∧ (∀ i, G' i → G i ∨ w.heap.size ≤ i) ∧ RefAt w' b e' G'
theorem RStp.post {w w' : World} {b : Nat} {e' : Dk} {G : Foot} (h : RStp w w' b e' G) : RPost w w' b e' G := by
  obtain ⟨F', hO, hF, hD⟩ := h
  exact ⟨F', ⟨hO.os, hO.tape, hO.output, hO.size, fun i hi hn => hO.block i hi fun hf => (hF i hf).elim hn fun e => by omega⟩, hF, hD⟩
theorem RPost.trans {w w1 w2 : World} {b : Nat} {e2 : Dk} {G G1 : Foot} (hO : Only G w w1) (hG : ∀ i, G1 i → G i ∨ w.heap.size ≤ i) (h : RPost w1 w2 b e2 G1) : RPost w w2 b e2 G := by
  obtain ⟨G2, h1, h2, h3⟩ := h
  exact ⟨G2, hO.trans h1 hG, fun i hi => (h2 i hi).elim (hG i) fun e => .inr (Nat.le_trans hO.size e), h3⟩
/-- Numbers that follow each other, in a slice. -/
def RunAt (w : World) (A : Option Addr) (p n : Nat) (G : Foot) : Prop := ∀ i, i < n → ∃ g off, A = some ⟨g, off, none⟩ ∧ w.cell? ⟨g, off + i, none⟩ = some (.int .i64 ((p + i : Nat) : Int)) ∧ ¬ G g ∧ g < w.heap.size
def TxtAt (w : World) (A : Option Addr) (l : List (List UInt8)) (G : Foot) : Prop := ∀ i s, l[i]? = some s → ∃ g off, A = some ⟨g, off, none⟩ ∧ w.cell? ⟨g, off + i, none⟩ = some (.string (bs s)) ∧ ¬ G g ∧ g < w.heap.size
theorem RefAt.vlt {w : World} {b : Nat} {d : Dk} {G : Foot} (h : RefAt w b d G) : ∀ i, G i → i < w.heap.size := h.lt
theorem Only.cell_of {G : Foot} {w w' : World} (h : Only G w w') {g off : Nat} (hg : ¬ G g) (hl : g < w.heap.size) : w'.cell? ⟨g, off, none⟩ = w.cell? ⟨g, off, none⟩ := by
  have e : w'.heap[g]? = w.heap[g]? := h.block g hl hg
  unfold World.cell?
  simp only [e]
theorem RunAt.keep {w w' : World} {A : Option Addr} {p n : Nat} {G G' : Foot} (h : RunAt w A p n G) (o : Only G w w') (hG : ∀ i, G' i → G i ∨ w.heap.size ≤ i) : RunAt w' A p n G' := fun i hi => by
  obtain ⟨g, off, h1, h2, h3, h4⟩ := h i hi
  exact ⟨g, off, h1, (o.cell_of h3 h4).trans h2, fun hf => (hG g hf).elim h3 fun e => by omega, Nat.lt_of_lt_of_le h4 o.size⟩
theorem TxtAt.keep {w w' : World} {A : Option Addr} {l : List (List UInt8)} {G G' : Foot} (h : TxtAt w A l G) (o : Only G w w') (hG : ∀ i, G' i → G i ∨ w.heap.size ≤ i) : TxtAt w' A l G' := fun i s hi => by
  obtain ⟨g, off, h1, h2, h3, h4⟩ := h i s hi
  exact ⟨g, off, h1, (o.cell_of h3 h4).trans h2, fun hf => (hG g hf).elim h3 fun e => by omega, Nat.lt_of_lt_of_le h4 o.size⟩

set_option maxRecDepth 100000 in
set_option maxHeartbeats 4000000 in
theorem rjwrite_any (w : World) {b k : Nat} {e : Dk} {G : Foot} (h : RefAt w b e G) {v1 v2 v3 v4 : Value} (hk : Blk w k 75 #[.pointer (some ⟨b, 0, none⟩), v1, v2, v3, v4]) (hGk : ¬ G k) (p : Nat) (l : List (List UInt8)) (A1 A2 : Option Addr) (c1 c2 : Nat)
    (h1 : RunAt w A1 p l.length G) (h2 : TxtAt w A2 l G) (hp : p + l.length ≤ 1000000) (hq : e.q.length + l.length < 4096) :
    Calls Tryz.prog 46 #[.pointer (some ⟨k, 0, none⟩), .slice A1 l.length c1, .slice A2 l.length c2] w fun r w' => r = .returned (.int .i64 (e.puts p l).2) ∧ RPost w w' b (e.puts p l).1 G := by
  obtain ⟨R, hR⟩ : ∃ R, e.puts p l = R := ⟨_, rfl⟩
  rw [hR]
  have HR := Lib.hid hR
  have HN := Lib.hid (show ∀ i, G i → i < w.heap.size from h.lt)
  obtain ⟨N, hNN⟩ : ∃ N, l.length = N := ⟨_, rfl⟩
  rw [hNN] at h1 hp hq ⊢
  have HNN := Lib.hid hNN
  have HQ := Lib.hid hq
  have H0 := Lib.hid h
  have HK := Lib.hid hk
  have HG := Lib.hid hGk
  have H1 := Lib.hid h1
  have H2 := Lib.hid h2
  clear hR h hk hGk h1 h2 hNN hq
  go_enter Tryz.func46, Tryz.ntmps46
  go_wp2_with fail
  go_loopw [7] (fun v wr => ∃ j : Nat, j ≤ N ∧ v = .int .i64 (j : Int) ∧ ∃ e1 G1, Hid (RefAt wr b e1 G1) ∧ Hid (Only G w wr) ∧ Hid (∀ i, G1 i → G i ∨ w.heap.size ≤ i) ∧ Hid (e1.q.length + (N - j) < 4096) ∧ Hid (e1.puts (p + j) (l.drop j) = R)) (fun v _ => N - (intOf v).toNat)
  case atStart => exact ⟨0, Nat.zero_le _, rfl, e, G, H0, Lib.hid (Only.refl _ _), Lib.hid fun i hi => .inl hi, Lib.hid (by have := HQ.out; omega), HR⟩
  case round =>
    obtain ⟨j, hj, rfl, e1, G1, R1, O1, F1, Q1, P1⟩ := hrel
    clear H0 HR
    have K1 := Lib.hid (O1.out.blk HK.out HG.out)
    have G1k := Lib.hid (show ¬ G1 k from fun hf => (F1.out k hf).elim HG.out fun e => by have := HK.out.lt; omega)
    have A1r := Lib.hid (H1.out.keep O1.out F1.out)
    have A2r := Lib.hid (H2.out.keep O1.out F1.out)
    have k0 : wr.cell? ⟨k, 0, none⟩ = some (.pointer (some ⟨b, 0, none⟩)) := K1.out.cell 0
    by_cases hjN : j < N
    · obtain ⟨s, hs⟩ : ∃ s, l[j]? = some s := ⟨_, List.getElem?_eq_getElem (by rw [HNN.out]; exact hjN)⟩
      obtain ⟨ga, oa, rfl, ca, na, la⟩ := A1r.out j hjN
      obtain ⟨gb, ob, rfl, cb, nb, lb⟩ := A2r.out j s hs
      have hjI : (j : Int) < (N : Int) := by omega
      have hjI2 : (N : Int) ≤ 1000000 := by omega
      have HJ := Lib.hid hjN
      have CA := Lib.hid ca
      have CB := Lib.hid cb
      have hdr : l.drop j = s :: l.drop (j + 1) := by
        rw [List.drop_eq_getElem_cons (by rw [HNN.out]; exact hjN)]
        congr 1
        exact (List.getElem?_eq_some_iff.1 hs).2
      have HW := Lib.hid (rwriteA (R1.out.below (show Below wr.heap.size wr wr.drew from ⟨rfl, rfl, rfl, Nat.le_refl _, fun _ _ => rfl⟩)) (by have := Q1.out; omega) ((p + j : Nat) : Int) (bs s))
      have hP := P1.out
      rw [hdr] at hP
      have HP := Lib.hid hP
      clear hs ca cb na nb la lb hjN hdr hP
      go_upto_region 4 with fail
      refine wp_region_hold (fun W => Blk W k 75 #[.pointer (some ⟨b, 0, none⟩), v1, v2, v3, v4] ∧ W.cell? ⟨ga, oa + j, none⟩ = some (.int .i64 ((p + j : Nat) : Int)) ∧ W.cell? ⟨gb, ob + j, none⟩ = some (.string (bs s))) [0, 1, 2, 3, 4, 5, 6, 7, 8, 9, 10, 11] [] [12, 13] (by kernel_rfl) (by kernel_rfl) (fun _ d _ _ _ h => by cases d <;> exact h) (⟨K1.out.drewN 1, CA.out, CB.out⟩) ?_
      simp only [pick, List.drop_succ_cons, List.drop_zero, List.head?_cons, Option.toList_some, List.cons_append, List.nil_append, List.append_nil]
      try simp only [Act.put]
      repeat ((refine wpHeld_step ?_ rfl ?_ ?_; rotate_left; · (intro W hW; have q0 : W.cell? ⟨k, 0, none⟩ = some (.pointer (some ⟨b, 0, none⟩)) := hW.1.cell 0; have q1 := hW.2.1; have q2 := hW.2.2; (go_simp; try with_reducible rfl))); simp only [Act.put, List.setIfInBounds_toArray, List.set_cons_succ, List.set_cons_zero])
      refine wpHeld_nil ?_
      simp only [wpEarly]
      go_wp2_with fail
      refine HW.out.mono ?_
      rintro r w5 ⟨rfl, hst⟩
      obtain ⟨G2, o2, f2, r2⟩ := RStp.post (RStp.after (show Below wr.heap.size wr wr.drew from ⟨rfl, rfl, rfl, Nat.le_refl _, fun _ _ => rfl⟩) hst)
      have hq2 := Dk.write_q e1 ((p + j : Nat) : Int) (bs s)
      have hP := HP.out
      rw [Dk.puts] at hP
      obtain ⟨W, hW⟩ : ∃ W, e1.write ((p + j : Nat) : Int) (bs s) = W := ⟨_, rfl⟩
      rw [hW] at hP r2 hq2 ⊢
      have O2 := Lib.hid (O1.out.trans o2 F1.out)
      have F2 := Lib.hid (show ∀ i, G2 i → G i ∨ w.heap.size ≤ i from fun i hi => (f2 i hi).elim (F1.out i) fun e => .inr (Nat.le_trans O1.out.size e))
      have R2 := Lib.hid r2
      have Q2 := Lib.hid (show W.1.q.length + (N - (j + 1)) < 4096 from by have := Q1.out; have := HJ.out; omega)
      clear hW hst o2 f2 r2 hq2 HW HP
      by_cases h0 : W.2 = 0
      · rw [if_pos h0] at hP
        have P2 := Lib.hid (show W.1.puts (p + (j + 1)) (l.drop (j + 1)) = R from hP)
        rw [h0]
        clear hP h0
        go_wp2_with fail
        exact ⟨⟨j + 1, HJ.out, by go_num, W.1, G2, R2, O2, F2, Q2, P2⟩, by have := HJ.out; simp [intOf]; omega⟩
      · rw [if_neg h0] at hP
        subst hP
        have hne : (W.2 != 0) = true := by simpa using h0
        clear h0
        go_wp2_with fail
        go_ret
        exact ⟨rfl, G2, O2.out, F2.out, R2.out⟩
    · have hjN2 : j = N := by omega
      have hP := P1.out
      rw [hjN2, ← HNN.out, List.drop_length, Dk.puts] at hP
      have hjI : ¬ (j : Int) < (N : Int) := by omega
      have HW := Lib.hid (rsyncA R1.out)
      rw [hP] at HW
      clear hP hjN2 hjN
      go_wp2_with (go_at_call 82; refine HW.out.mono ?_; rintro r w5 ⟨rfl, hst⟩)
      go_ret
      exact ⟨rfl, RPost.trans O1.out F1.out (RStp.post hst)⟩
end Go.Proofs.YtieicjjmkedgaaaGreatDoor

/- The reference's journal: Append. -/
namespace Go.Proofs.YtieicjjmkedgaaaGreatDoor
open Go.RowKit Go.Shelf

/-- The reference's journal k on its disk b, within the blocks of H. -/
structure RSes (w : World) (base b k : Nat) (e : Dk) (y : Jn) (H : Foot) : Prop where
  body : ∃ G lv, RefAt w b e G ∧ (∀ i, G i → H i) ∧ Blk w k 75 #[.pointer (some ⟨b, 0, none⟩), .int .i64 (y.n : Int), .int .i64 (y.cnt : Int), lv, .bool y.broken] ∧ H k ∧ ¬ G k ∧ OwnStrs w base lv y.rs ∧ ∀ g, lv.ownBlock = some g → H g ∧ ¬ G g
  low : ∀ i, H i → base ≤ i ∧ i < w.heap.size
/-- What Append holds while it builds its three lists. -/
structure Bl (w wr : World) (v5 pv zv fv : Value) (l z f : List (List UInt8)) (ps : List Value) (np : Nat) : Prop where
  below : Below w.heap.size w wr
  o5 : OwnStrs wr w.heap.size v5 l
  op : wr.ownsRow w.heap.size 3 1 pv np ps
  oz : OwnStrs wr w.heap.size zv z
  of : OwnStrs wr w.heap.size fv f
  zf : ∀ g, zv.ownBlock = some g → fv.ownBlock ≠ some g
  z5 : ∀ g, zv.ownBlock = some g → v5.ownBlock ≠ some g
  f5 : ∀ g, fv.ownBlock = some g → v5.ownBlock ≠ some g
section
variable {w wr Y : World} {v5 pv zv fv : Value} {l z f : List (List UInt8)} {ps : List Value} {np : Nat}
theorem row_in {w : World} {base : Nat} {e : TypeId} {size n : Nat} {v : Value} {xs : List Value} (h : w.ownsRow base e size v n xs) {g : Nat} (hg : v.ownBlock = some g) : ∃ cs, Blk w g e cs := by
  rcases h.2 with ⟨rfl, _⟩ | ⟨g', cap, cur, rfl, _, hh, _⟩
  · cases hg
  · have : g' = g := by simpa [Value.ownBlock] using hg
    subst this
    exact ⟨cur, hh⟩
theorem blk_kind {w : World} {g : Nat} {t t' : TypeId} {cs cs' : Array Value} (h : Blk w g t cs) (h' : Blk w g t' cs') : t = t' := by
  unfold Blk at h h'
  rw [h] at h'
  injection h' with h'
  injection h' with _ h'
theorem Bl.same (h : Bl w wr v5 pv zv fv l z f ps np) (hb : Below wr.heap.size wr Y) : Bl w Y v5 pv zv fv l z f ps np :=
  have hk : ∀ b, b < wr.heap.size → Y.heap[b]? = wr.heap[b]? := fun b hb1 => hb.block b hb1
  have ho : ∀ {v : Value} {q : List (List UInt8)}, OwnStrs wr w.heap.size v q → OwnStrs Y w.heap.size v q := fun {_ _} ho => ho.keepb fun b hb1 => hk b (World.ownsRow.lt ho b hb1).2
  ⟨h.below.trans (hb.mono h.below.size), ho h.o5, (Only.of_below hb fun _ => False).owns h.op fun _ _ => id, ho h.oz, ho h.of, h.zf, h.z5, h.f5⟩
theorem Bl.pushP (h : Bl w wr v5 pv zv fv l z f ps np) {pv' : Value} {ps' : List Value} {np' : Nat} (ow : Y.ownsRow w.heap.size 3 1 pv' np' ps') (hg : wr.grownBy Y pv.ownBlock) : Bl w Y v5 pv' zv fv l z f ps' np' := by
  have ho : ∀ {v : Value} {q : List (List UInt8)}, OwnStrs wr w.heap.size v q → OwnStrs Y w.heap.size v q := fun {_ _} ho => ho.keepb fun b hb1 => hg.block b (World.ownsRow.lt ho b hb1).2 fun e => by
    obtain ⟨cs, k1⟩ := row_in h.op e.symm
    obtain ⟨cs', k2⟩ := ho.row hb1
    exact absurd (blk_kind k1 k2) (by decide)
  exact ⟨h.below.grown hg h.below.size fun k e => (World.ownsRow.lt h.op k e).1, ho h.o5, ow, ho h.oz, ho h.of, h.zf, h.z5, h.f5⟩
theorem Bl.pushZ (h : Bl w wr v5 pv zv fv l z f ps np) {zv' : Value} {z' : List (List UInt8)} (ow : OwnStrs Y w.heap.size zv' z') (hg : wr.grownBy Y zv.ownBlock) (hl : ∀ g, zv'.ownBlock = some g → zv.ownBlock = some g ∨ wr.heap.size ≤ g) : Bl w Y v5 pv zv' fv l z' f ps np := by
  have ho : ∀ {v : Value} {q : List (List UInt8)}, OwnStrs wr w.heap.size v q → (∀ g, zv.ownBlock = some g → v.ownBlock ≠ some g) → OwnStrs Y w.heap.size v q := fun {_ _} ho hn => ho.keepb fun b hb1 => hg.block b (World.ownsRow.lt ho b hb1).2 fun e => hn b e.symm hb1
  refine ⟨h.below.grown hg h.below.size fun k e => (World.ownsRow.lt h.oz k e).1, ho h.o5 h.z5, ?_, ow, ho h.of h.zf, fun g hg' e => ?_, fun g hg' e => ?_, h.f5⟩
  · refine (Only.of_grown hg).owns h.op fun g hg' e => ?_
    obtain ⟨cs, k1⟩ := row_in h.op hg'
    obtain ⟨cs', k2⟩ := h.oz.row e
    exact absurd (blk_kind k1 k2) (by decide)
  · rcases hl g hg' with e1 | e1
    · exact h.zf g e1 e
    · have := (World.ownsRow.lt h.of g e).2
      omega
  · rcases hl g hg' with e1 | e1
    · exact h.z5 g e1 e
    · have := (World.ownsRow.lt h.o5 g e).2
      omega
theorem Bl.swap (h : Bl w wr v5 pv zv fv l z f ps np) : Bl w wr v5 pv fv zv l f z ps np := ⟨h.below, h.o5, h.op, h.of, h.oz, fun g e1 e2 => h.zf g e2 e1, h.f5, h.z5⟩
theorem Bl.pushF (h : Bl w wr v5 pv zv fv l z f ps np) {fv' : Value} {f' : List (List UInt8)} (ow : OwnStrs Y w.heap.size fv' f') (hg : wr.grownBy Y fv.ownBlock) (hl : ∀ g, fv'.ownBlock = some g → fv.ownBlock = some g ∨ wr.heap.size ≤ g) : Bl w Y v5 pv zv fv' l z f' ps np := (h.swap.pushZ ow hg hl).swap
end
theorem Tryz.infoInt46 : (Tryz.prog.info? 3).map (fun i => (i.zero, i.size, i.bytes)) = some (some (.int .i64 0), 1, 8) := by kernel_rfl
def runV (p n : Nat) : List Value := (List.range n).map fun i => .int .i64 ((p + i : Nat) : Int)
theorem runV_succ (p n : Nat) : runV p (n + 1) = runV p n ++ [.int .i64 ((p + n : Nat) : Int)] := by
  unfold runV
  rw [List.range_succ, List.map_append]
  rfl
theorem rroom_any (w : World) {base b k : Nat} {e : Dk} {y : Jn} {H : Foot} (h : RSes w base b k e y H) (hn : y.n ≤ 1000000) (hc : y.cnt ≤ 1000000) :
    Calls Tryz.prog 14 #[.pointer (some ⟨k, 0, none⟩)] w fun r w' => r = .returned (.int .i64 ((y.n : Int) - 2 - y.cnt)) ∧ ∃ q, w' = w.drewN q := by
  obtain ⟨G, lv, _, _, hb, _⟩ := h.body
  obtain ⟨x0, x1, x2⟩ := hb.all
  obtain ⟨n, cnt, rs, br⟩ := y
  simp only at *
  go_enter Tryz.func14, Tryz.ntmps14
  go_wp2_with fail
  go_quiet (fail)
  go_wp2
  go_ret
  exact ⟨rfl, _, rfl⟩
end Go.Proofs.YtieicjjmkedgaaaGreatDoor
