/- What count, Write and Sync of package disk do to a disk in memory. -/
import Derived.Test.YtfjejfgdnjnflaaGreatDoorDc
import Derived.Deep.RegionLaw
import Derived.Deep.RegionHeld3
namespace Go.Proofs.YtfjejfgdnjnflaaGreatDoor
open Go.RowKit

/-- Block a holds a disk; F are its blocks. -/
def DiskAt (w : World) (a : Nat) (d : Dk) (F : Foot) : Prop := ∃ b1 b2 qv ga, DiskAt' w a b1 b2 qv ga d F

section
variable {w : World} {a b1 b2 : Nat} {qv : Value} {ga : Option Nat} {d : Dk} {F : Foot}

set_option maxRecDepth 100000 in
set_option maxHeartbeats 400000 in
theorem count_none (h : DiskAt' w a b1 b2 qv none d F) :
    Calls Tryz.prog 99 #[.pointer (some ⟨a, 0, none⟩)] w fun e w' => e = .returned (.int .i64 0) ∧ w = w' := by
  obtain ⟨c0, f0, hlt⟩ := h.main.all
  simp only [armV] at c0
  go_enter Tryz.func99, Tryz.ntmps99
  go_wp2
  go_ret
  exact ⟨rfl, rfl⟩

theorem DiskAt'.tick {g : Nat} {x wr by_ : Int} (h : DiskAt' w a b1 b2 qv (some g) d F) (ha : d.arm = some (x, wr, by_)) (hx : 0 < x) :
    DiskAt' (w.setCell ⟨g, 0, none⟩ (.int .i64 (x - 1))) a b1 b2 qv (some g) { d with arm := some (x - 1, wr, by_) } F := by
  obtain ⟨y, hy, hg⟩ := h.arm1 g rfl
  rw [ha] at hy
  injection hy with hy
  subst hy
  have hO : Only (fun i => i = g) w (w.setCell ⟨g, 0, none⟩ (.int .i64 (x - 1))) := (Only.refl (fun i => i = g) w).setCell (p := ⟨g, 0, none⟩) (.inl rfl) _
  exact {
    ok := ⟨h.ok.n1, h.ok.n2, h.ok.st, h.ok.el, h.ok.q, fun z hz => by
      have := h.ok.arm _ ha
      injection hz with hz
      subst hz
      simp only at this ⊢
      omega⟩
    main := hO.blk h.main (h.main.ne_ hg (by decide))
    st := hO.blk h.st (h.st.ne_ hg (by decide))
    el := hO.blk h.el (h.el.ne_ hg (by decide))
    ne := h.ne
    q := hO.owns h.q fun k hk e => own_blk_ne h.q hg (by decide) (by rw [hk, e])
    qlen := h.qlen
    arm0 := fun e => by cases e
    arm1 := fun k hk => by
      injection hk with hk
      subst hk
      exact ⟨_, rfl, by simpa using hg.set_ 0 (.int .i64 (x - 1))⟩
    fa := h.fa
    f1 := h.f1
    f2 := h.f2
    fq := h.fq
    fg := h.fg
    fl := fun i hi => Nat.lt_of_lt_of_le (h.fl i hi) hO.size }

set_option maxRecDepth 100000 in
set_option maxHeartbeats 400000 in
theorem count_some (h : DiskAt' w a b1 b2 qv ga d F) (ho : d.off = false) :
    Calls Tryz.prog 99 #[.pointer (some ⟨a, 0, none⟩)] w fun e w' => e = .returned (.int .i64 d.count.2) ∧ Only F w w' ∧ DiskAt w' a d.count.1 F := by
  cases ga with
  | none =>
    have ha := h.arm0 rfl
    have e : d.count = (d, 0) := by unfold Dk.count; rw [ha]
    rw [e]
    refine (count_none h).mono ?_
    rintro e w1 ⟨rfl, rfl⟩
    exact ⟨rfl, Only.refl _ _, _, _, _, _, h⟩
  | some g =>
    obtain ⟨⟨x, wr, by_⟩, ha, hg⟩ := h.arm1 g rfl
    have hx := h.ok.arm _ ha
    have ha' := Lib.hid ha
    simp only at hx
    obtain ⟨hx0, hx1⟩ := hx
    obtain ⟨c0, f0, hlt⟩ := h.main.all
    obtain ⟨c1, f1, hlg⟩ := hg.all
    simp only [armV] at c0
    simp only at c1
    by_cases hp : 0 < x
    · have e : d.count = ({ d with arm := some (x - 1, wr, by_) }, 0) := by unfold Dk.count; rw [ha]; simp [hp]
      rw [e]
      clear ha e
      go_enter Tryz.func99, Tryz.ntmps99
      go_wp2
      go_ret
      refine ⟨rfl, (Only.refl _ _).setCell (.inl (h.fg g rfl)) _, b1, b2, qv, some g, ?_⟩
      rw [← ho]
      exact h.tick ha'.out hp
    · have e : d.count = (d.fail wr by_, 25) := by unfold Dk.count; rw [ha]; simp [hp]
      rw [e]
      clear ha e
      obtain rfl : x = 0 := by omega
      go_enter Tryz.func99, Tryz.ntmps99
      go_wp2
      refine wp_region_tail 15 (by kernel_rfl) (by kernel_rfl) ?_
      simp only [List.take_succ_cons, List.take_zero, List.drop_succ_cons, List.drop_zero]
      repeat still_step
      refine wpStill_nil ?_
      go_wp2_with fail
      refine (fail_on (h.keep (Only.refl (fun _ => False) w).drew (by simp)) ho wr by_).mono ?_
      rintro e w1 ⟨rfl, o1, h1⟩
      go_wp2
      go_ret
      exact ⟨rfl, o1.undrew, _, _, _, _, h1⟩

set_option maxRecDepth 100000 in
set_option maxHeartbeats 400000 in
theorem write_off (h : DiskAt' w a b1 b2 qv ga d F) (ho : d.off = true) (s : Int) (t : ByteArray) :
    Calls Tryz.prog 76 #[.pointer (some ⟨a, 0, none⟩), .int .i64 s, .string t] w fun e w' => e = .returned (.int .i64 25) ∧ Below w.heap.size w w' := by
  go_enter Tryz.func76, Tryz.ntmps76
  go_wp2_with fail
  refine (at_off h ho s).mono ?_
  rintro e w1 ⟨rfl, hb⟩
  go_wp2
  go_ret
  exact ⟨rfl, hb.alloc hb.size _⟩

set_option maxRecDepth 100000 in
set_option maxHeartbeats 400000 in
theorem write_no (h : DiskAt' w a b1 b2 qv ga d F) (ho : d.off = false) (s : Int) (hs : d.has s = false) (t : ByteArray) :
    Calls Tryz.prog 76 #[.pointer (some ⟨a, 0, none⟩), .int .i64 s, .string t] w fun e w' => e = .returned (.int .i64 1) ∧ Below w.heap.size w w' := by
  go_enter Tryz.func76, Tryz.ntmps76
  go_wp2_with fail
  refine (at_no h ho s hs).mono ?_
  rintro e w1 ⟨rfl, hb⟩
  go_wp2
  go_ret
  exact ⟨rfl, hb.alloc hb.size _⟩

set_option maxRecDepth 100000 in
set_option maxHeartbeats 400000 in
theorem write_nil (w : World) (s : Int) (t : ByteArray) :
    Calls Tryz.prog 76 #[.pointer none, .int .i64 s, .string t] w fun e w' => e = .returned (.int .i64 1) ∧ Below w.heap.size w w' := by
  go_enter Tryz.func76, Tryz.ntmps76
  go_wp2_with fail
  refine (at_nil _ s).mono ?_
  rintro e w1 ⟨rfl, hb⟩
  go_wp2
  go_ret
  exact ⟨rfl, hb.alloc hb.size _⟩

set_option maxRecDepth 100000 in
set_option maxHeartbeats 400000 in
theorem write_short (h : DiskAt' w a b1 b2 qv ga d F) (ho : d.off = false) (i : Nat) (hi : i < d.n) (t : ByteArray) (ht : ((t.size : Int) != 64) = true) :
    Calls Tryz.prog 76 #[.pointer (some ⟨a, 0, none⟩), .int .i64 (i : Int), .string t] w fun e w' => e = .returned (.int .i64 1) ∧ Below w.heap.size w w' := by
  go_enter Tryz.func76, Tryz.ntmps76
  go_wp2_with fail
  refine (at_yes h ho i hi).mono ?_
  rintro e w1 ⟨rfl, hb⟩
  go_wp2
  go_ret
  exact ⟨rfl, hb.alloc hb.size _⟩

theorem DiskAt'.push {w2 : World} {g cap i : Nat} {t : ByteArray} (h : DiskAt' w a b1 b2 qv ga d F) (hO : Only (fun k => qv.ownBlock = some k) w w2) (hg : qv.ownBlock = some g ∨ w.heap.size ≤ g) (hz : g < w2.heap.size)
    (ho : w2.ownsRow 0 89 3 (.slice (some ⟨g, 0, none⟩) (d.q.length + 1) cap) (d.q.length + 1) (qcells d.q ++ [.int .i64 (64 * (i : Int)), .int .i64 (64 * (i : Int) + 64), .string t]))
    (hi : i < d.n) (ht : t.size = 64) (hl : d.q.length < 4096) :
    DiskAt' (w2.setCell ⟨a, 2, none⟩ (.slice (some ⟨g, 0, none⟩) (d.q.length + 1) cap)) a b1 b2 (.slice (some ⟨g, 0, none⟩) (d.q.length + 1) cap) ga { d with q := d.q ++ [(i, t)] } (fun k => F k ∨ k = g) := by
  have hm : Blk w2 a _ _ := hO.blk h.main (fun e => own_blk_ne h.q h.main (by decide) e)
  have h1 : Blk w2 b1 _ _ := hO.blk h.st (fun e => own_blk_ne h.q h.st (by decide) e)
  have h2 : Blk w2 b2 _ _ := hO.blk h.el (fun e => own_blk_ne h.q h.el (by decide) e)
  have n1 := h.main.ne_ h.st (by decide)
  have n2 := h.main.ne_ h.el (by decide)
  have hgo : Value.ownBlock (.slice (some ⟨g, 0, none⟩) (d.q.length + 1) cap) = some g := rfl
  have hO3 : Only (fun k => k = a) w2 (w2.setCell ⟨a, 2, none⟩ (.slice (some ⟨g, 0, none⟩) (d.q.length + 1) cap)) := (Only.refl (fun k => k = a) w2).setCell (p := ⟨a, 2, none⟩) (.inl rfl) _
  have hga : g ≠ a := fun e => own_blk_ne ho hm (by decide) (by rw [hgo, e])
  exact {
    ok := ⟨h.ok.n1, h.ok.n2, h.ok.st, h.ok.el, (fun p hp => by
      rcases List.mem_append.1 hp with hp | hp
      · exact h.ok.q p hp
      · simp at hp; subst hp; exact ⟨hi, ht⟩), h.ok.arm⟩
    main := by simpa using hm.set_ 2 (.slice (some ⟨g, 0, none⟩) (d.q.length + 1) cap)
    st := hO3.blk h1 n1.symm
    el := hO3.blk h2 n2.symm
    ne := h.ne
    q := by
      have e1 : (d.q ++ [(i, t)]).length = d.q.length + 1 := by simp
      have e2 : qcells (d.q ++ [(i, t)]) = qcells d.q ++ [.int .i64 (64 * (i : Int)), .int .i64 (64 * (i : Int) + 64), .string t] := by simp [qcells]
      simp only [e1, e2]
      exact hO3.owns ho (fun k hk e => hga (by rw [hgo] at hk; injection hk with hk; rw [hk]; exact e))
    qlen := by simp; omega
    arm0 := h.arm0
    arm1 := fun k hk => by
      obtain ⟨x, hx, hb⟩ := h.arm1 k hk
      have hb2 : Blk w2 k _ _ := hO.blk hb (fun e => own_blk_ne h.q hb (by decide) e)
      exact ⟨x, hx, hO3.blk hb2 (hb2.ne_ hm (by decide))⟩
    fa := .inl h.fa
    f1 := .inl h.f1
    f2 := .inl h.f2
    fq := fun k hk => .inr (by rw [hgo] at hk; injection hk with hk; exact hk.symm)
    fg := fun k hk => .inl (h.fg k hk)
    fl := fun k hk => by
      rcases hk with hk | rfl
      · exact Nat.lt_of_lt_of_le (h.fl k hk) (Nat.le_trans hO.size hO3.size)
      · exact Nat.lt_of_lt_of_le hz hO3.size }

theorem Tryz.infoPending : (Tryz.prog.info? 89).map (fun i => (i.zero, i.size, i.bytes)) = some (some (.agg #[.int .i64 0, .int .i64 0, .string ⟨#[]⟩]), 3, 32) := by kernel_rfl

set_option maxRecDepth 100000 in
set_option maxHeartbeats 800000 in
theorem write_yes (h : DiskAt' w a b1 b2 qv ga d F) (ho : d.off = false) (i : Nat) (hi : i < d.n) (t : ByteArray) (ht : ((t.size : Int) != 64) = false) (hl : d.q.length < 4096) :
    Calls Tryz.prog 76 #[.pointer (some ⟨a, 0, none⟩), .int .i64 (i : Int), .string t] w fun e w' =>
      e = .returned (.int .i64 (Dk.count { d with q := d.q ++ [(i, t)] }).2) ∧ ∃ F', Only F' w w' ∧ (∀ k, F' k → F k ∨ w.heap.size ≤ k) ∧ DiskAt w' a (Dk.count { d with q := d.q ++ [(i, t)] }).1 F' := by
  obtain ⟨i0, hi0, hz0, hz1, hz2⟩ := info_parts Tryz.infoPending
  have HO := Lib.hid ho
  clear ho
  go_enter Tryz.func76, Tryz.ntmps76
  go_wp2_with fail
  refine (at_yes h HO.out i hi).mono ?_
  rintro e w1 ⟨rfl, hb⟩
  have h1 := h.keep (Only.of_below hb (fun _ => False)) (by simp)
  obtain ⟨c1, f1, l1⟩ := h1.main.all
  have hown := h1.q
  go_wp2
  have hone : ∀ u ∈ [Value.int .i64 (64 * (i : Int)), .int .i64 (64 * (i : Int) + 64), .string t], u.oneCell' = true := by
    intro u hu; simp at hu; rcases hu with rfl | rfl | rfl <;> rfl
  have hnew : ∀ o : Obj, (((w1.alloc o).alloc (.cells #[Value.int .i64 (64 * (i : Int)), .int .i64 (64 * (i : Int) + 64), .string t] 89)).drew).heap[w1.heap.size + 1]? = some (.cells #[Value.int .i64 (64 * (i : Int)), .int .i64 (64 * (i : Int) + 64), .string t] 89 (0, 0)) := fun o => by
    have := Blk.new (w1.alloc o) 89 #[Value.int .i64 (64 * (i : Int)), .int .i64 (64 * (i : Int) + 64), .string t]
    have e : (w1.alloc o).heap.size = w1.heap.size + 1 := by simp
    rw [e] at this
    exact this
  have hqa : some a ≠ qv.ownBlock := fun e => own_blk_ne h1.q h1.main (by decide) e.symm
  go_region_law ((refine step_append_lies _ ?_ (.tmp 25) (.tmp 29) 70 ?_ 0 89 i0 _ 3 32 Tryz.underlying70 hi0 hz0 hz1 hz2 ?_ ?_ qv d.q.length (qcells d.q) ?_ ?_ ⟨w1.heap.size + 1, 0, none⟩ 1 1 [Value.int .i64 (64 * (i : Int)), .int .i64 (64 * (i : Int) + 64), .string t] ?_ ?_ ?_ hone ?_ ?_ ?_ ?_ (w1.heap.size + 2) ?_ ?_; rfl; rfl; rfl; omega; rfl; exact ((hown.alloc _).alloc _).drew; rfl; rfl; exact World.news_of_block (hnew _); omega; (unfold maxLen; omega); omega; omega; simp; intro g cap w2 o2 g2 l2 z2; obtain ⟨c2, f2, l2'⟩ := (Blk.grown (((h1.main.alloc _).alloc _).drew) g2 hqa).all))
  all_goals clear c1 f1
  all_goals go_wp2_with fail
  all_goals
    have hO2 : Only (fun k => qv.ownBlock = some k) w1 w2 := (((Only.refl (fun k => qv.ownBlock = some k) w1).alloc _).alloc _).drew.trans (Only.of_grown g2) (fun k e => .inl e)
    have h3 := h1.push (i := i) (t := t) hO2 (l2.imp id (fun e => by omega)) z2 o2 hi (by have := ht; simp at this; omega) hl
    refine (count_some h3 HO.out).mono ?_
    rintro e w4 ⟨rfl, o4, h4⟩
    go_wp2
    go_ret
    refine ⟨rfl, _, ?_, ?_, h4⟩
    · have s1 := hb.size
      have o3 : Only (fun k => F k ∨ k = g) w1 _ := (hO2.mono (G := fun k => F k ∨ k = g) (fun k hk => .inl (h.fq k hk))).setCell (p := ⟨a, 2, none⟩) (.inl (.inl h.fa)) (.slice (some ⟨g, 0, none⟩) (d.q.length + 1) cap)
      exact (Only.of_below hb _).trans (o3.trans o4 (fun k hk => .inl hk)) (fun k hk => .inl hk)
    · intro k hk
      have s1 := hb.size
      rcases hk with hk | rfl
      · exact .inl hk
      · rcases l2 with l2 | l2
        · exact .inl (h.fq k l2)
        · right; omega
end
end Go.Proofs.YtfjejfgdnjnflaaGreatDoor
