/- The disk in memory; what the functions place, at and set of package disk do to it. -/
import Derived.Test.YtfjejfgdnjnflaaGreatDoorProg
import Derived.Test.YtfjejfgdnjnflaaGreatDoorDk
import Derived.StillTailTactics
namespace Go.Proofs.YtfjejfgdnjnflaaGreatDoor
open Go.RowKit

/-- The cells of the queue. -/
def qcells (q : List (Nat × ByteArray)) : List Value := q.flatMap fun p => [.int .i64 ((64 * p.1 : Nat) : Int), .int .i64 ((64 * p.1 + 64 : Nat) : Int), .string p.2]
def armV : Option Nat → Value
  | none => .pointer none
  | some g => .pointer (some ⟨g, 0, none⟩)

/-- Block a holds a disk; all its blocks are those of F. -/
structure DiskAt' (w : World) (a b1 b2 : Nat) (qv : Value) (ga : Option Nat) (d : Dk) (F : Foot) : Prop where
  ok : d.Ok
  main : Blk w a 73 #[.slice (some ⟨b1, 0, none⟩) (64 * d.n) (64 * d.n), .slice (some ⟨b2, 0, none⟩) (64 * d.n) (64 * d.n), qv, .bool d.off, armV ga]
  st : Blk w b1 5 (bc d.st).toArray
  el : Blk w b2 5 (bc d.el).toArray
  ne : b1 ≠ b2
  q : w.ownsRow 0 89 3 qv d.q.length (qcells d.q)
  qlen : d.q.length ≤ 4096
  arm0 : ga = none → d.arm = none
  arm1 : ∀ g, ga = some g → ∃ x, d.arm = some x ∧ Blk w g 95 #[.int .i64 x.1, .int .i64 x.2.1, .int .i64 x.2.2]
  fa : F a
  f1 : F b1
  f2 : F b2
  fq : ∀ g, qv.ownBlock = some g → F g
  fg : ∀ g, ga = some g → F g
  fl : ∀ i, F i → i < w.heap.size

theorem DiskAt'.upd {w w' : World} {a b1 b2 : Nat} {qv : Value} {ga : Option Nat} {d d' : Dk} {F : Foot} (h : DiskAt' w a b1 b2 qv ga d F) (hO : Only (fun i => i = b1 ∨ i = b2) w w') (hok : d'.Ok)
    (h1 : Blk w' b1 5 (bc d'.st).toArray) (h2 : Blk w' b2 5 (bc d'.el).toArray) (hn : d'.n = d.n) (hq : d'.q = d.q) (hf : d'.off = d.off) (ha : d'.arm = d.arm) : DiskAt' w' a b1 b2 qv ga d' F := by
  have n1 := h.main.ne_ h.st (by decide)
  have n2 := h.main.ne_ h.el (by decide)
  exact {
    ok := hok
    main := by rw [hn, hf]; exact hO.blk h.main (by rintro (e | e); exact n1 e; exact n2 e)
    st := h1, el := h2, ne := h.ne
    q := by
      rw [hq]
      exact hO.owns h.q (fun g hg => by
        rintro (rfl | rfl)
        · exact own_blk_ne h.q h.st (by decide) hg
        · exact own_blk_ne h.q h.el (by decide) hg)
    qlen := by rw [hq]; exact h.qlen
    arm0 := by rw [ha]; exact h.arm0
    arm1 := fun g hg => by
      obtain ⟨x, hx, hb⟩ := h.arm1 g hg
      refine ⟨x, by rw [ha]; exact hx, hO.blk hb ?_⟩
      rintro (e | e)
      · exact hb.ne_ h.st (by decide) e
      · exact hb.ne_ h.el (by decide) e
    fa := h.fa, f1 := h.f1, f2 := h.f2, fq := h.fq, fg := h.fg
    fl := fun i hi => Nat.lt_of_lt_of_le (h.fl i hi) hO.size }

theorem el_take (d : Dk) (i : Nat) : ((bc d.st).drop (64 * i)).take 64 = bc (d.sec i) := by rw [bc_drop, bc_take]; rfl

set_option maxRecDepth 100000 in
set_option maxHeartbeats 400000 in
theorem set_any {w : World} {a b1 b2 : Nat} {qv : Value} {ga : Option Nat} {d : Dk} {F : Foot} (h : DiskAt' w a b1 b2 qv ga d F) (i : Nat) (t : ByteArray) (hi : i < d.n) (ht : t.size ≤ 64) :
    Calls Tryz.prog 62 #[.pointer (some ⟨a, 0, none⟩), .agg #[.int .i64 (64 * (i : Int)), .int .i64 (64 * (i : Int) + 64)], .string t] w fun e w' =>
      e = .returned (.tuple #[]) ∧ Only F w w' ∧ DiskAt' w' a b1 b2 qv ga (d.set_ i t.data.toList) F := by
  have hn := h.ok.n2
  have c0 := h.main.cell 0
  have c1 := h.main.cell 1
  simp at c0 c1
  have hlt := h.main.lt
  have sl : ∀ (g : Nat) (W : World), (Instr.slice 56 (.slice (some ⟨g, 0, none⟩) (64 * d.n) (64 * d.n)) (some (.int .i64 (64 * (i : Int)))) (some (.int .i64 (64 * (i : Int) + 64))) none).run Tryz.prog W =
      .ok (.slice (some ⟨g, 64 * i, none⟩) 64 (64 * d.n - 64 * i)) W := fun g W => by
    have := run_slice_in (P := Tryz.prog) 56 5 (by kernel_rfl) (by kernel_rfl) g 0 (64 * d.n) (64 * d.n) (64 * (i : Int)) (64 * (i : Int) + 64) (64 * i) (64 * i + 64) (by omega) (by omega) (by omega) (by omega) (by omega) W
    simpa using this
  go_enter Tryz.func62, Tryz.ntmps62
  go_wp2
  refine wp_region_tail 18 (by kernel_rfl) (by kernel_rfl) ?_
  simp only [List.take_succ_cons, List.take_zero, List.drop_succ_cons, List.drop_zero]
  repeat still_step
  refine wpStill_nil ?_
  have hst := h.ok.st
  have hel := h.ok.el
  have hsec : (d.sec i).length = 64 := by simp [Dk.sec, hst]; omega
  have l1 := h.st.lt
  have l2 := h.el.lt
  refine wpList_copy_blk rfl (.tmp 14) (.tmp 23) _ _ rfl 5 (by kernel_rfl) (by kernel_rfl) b2 (64 * i) 64 _ ⟨b1, 64 * i, none⟩ 64 _ rfl rfl (bc d.el) _ (h.el.alloc _) (bc (d.sec i)) (by simp [bc_len, hsec]) ?_ (by simp [bc_len, hsec, hel]; omega) (bc_one _) ?_
  · intro j v hj
    rw [← el_take, List.getElem?_take] at hj
    split at hj
    · rw [List.getElem?_drop] at hj
      have := (h.st.alloc (.cells #[Value.int IntKind.i64 (64 * ↑i), Value.int IntKind.i64 (64 * ↑i + 64)] 87)).drew.cell (64 * i + j)
      have e : (⟨b1, 64 * i, none⟩ : Addr).add j = ⟨b1, 64 * i + j, none⟩ := by unfold Addr.add; split <;> simp_all
      rw [e, this]
      simpa using hj
    · cases hj
  intro w1 k1 o1 s1
  have m1 : Blk w1 a _ _ := o1.blk (h.main.alloc _).drew (h.main.ne_ h.el (by decide))
  have x1 : Blk w1 w.heap.size _ _ := o1.blk (Blk.new w _ _).drew (by omega)
  have t1 : Blk w1 b1 _ _ := o1.blk (h.st.alloc _).drew h.ne
  have c0' := m1.cell 0
  have y0 := x1.cell 0
  have y1 := x1.cell 1
  simp at c0' y0 y1
  have O1 := o1
  clear o1 c0 c1
  go_wp2
  refine wp_region_tail 10 (by kernel_rfl) (by kernel_rfl) ?_
  simp only [List.take_succ_cons, List.take_zero, List.drop_succ_cons, List.drop_zero]
  repeat still_step
  refine wpStill_nil ?_
  refine wpList_copy_str rfl (.tmp 33) (.tmp 34) _ _ rfl 5 (by kernel_rfl) (by kernel_rfl) b1 (64 * i) 64 _ t rfl rfl (bc d.st) _ t1.drew ht (by simp [bc_len, hst]; omega) ?_
  intro w2 k2 o2 s2
  have O2 := o2
  clear o2
  go_wp2
  go_end0
  have e1 : Only (fun i => i = b1 ∨ i = b2) w w2 :=
    (((Only.refl (fun i => i = b1 ∨ i = b2) w).alloc _).drew.trans O1 (fun i e => .inl (.inr e))).trans O2.undrew (fun i e => .inl (.inl e))
  rw [bc_splice] at k1 k2
  exact ⟨rfl, e1.mono (by rintro i (rfl | rfl); exact h.f1; exact h.f2), h.upd e1 (Dk.set_ok h.ok hi (by simpa using ht)) k2 (O2.blk k1.drew h.ne.symm) rfl rfl rfl rfl⟩

theorem DiskAt'.keep {w w' : World} {a b1 b2 : Nat} {qv : Value} {ga : Option Nat} {d : Dk} {F G : Foot} (h : DiskAt' w a b1 b2 qv ga d F) (hO : Only G w w') (hd : ∀ i, F i → ¬ G i) : DiskAt' w' a b1 b2 qv ga d F where
  ok := h.ok
  main := hO.blk h.main (hd _ h.fa)
  st := hO.blk h.st (hd _ h.f1)
  el := hO.blk h.el (hd _ h.f2)
  ne := h.ne
  q := hO.owns h.q fun g hg => hd _ (h.fq g hg)
  qlen := h.qlen
  arm0 := h.arm0
  arm1 := fun g hg => by
    obtain ⟨x, hx, hb⟩ := h.arm1 g hg
    exact ⟨x, hx, hO.blk hb (hd _ (h.fg g hg))⟩
  fa := h.fa
  f1 := h.f1
  f2 := h.f2
  fq := h.fq
  fg := h.fg
  fl := fun i hi => Nat.lt_of_lt_of_le (h.fl i hi) hO.size

section
variable {w : World} {a b1 b2 : Nat} {qv : Value} {ga : Option Nat} {d : Dk} {F : Foot}
set_option maxRecDepth 100000 in
set_option maxHeartbeats 400000 in
theorem place_yes (h : DiskAt' w a b1 b2 qv ga d F) (i : Nat) (hi : i < d.n) :
    Calls Tryz.prog 65 #[.pointer (some ⟨a, 0, none⟩), .int .i64 (i : Int)] w fun e w' =>
      e = .returned (.tuple #[.agg #[.int .i64 (64 * (i : Int)), .int .i64 (64 * (i : Int) + 64)], .bool true]) ∧ Below w.heap.size w w' := by
  have hn := h.ok.n2
  have c0 := h.main.cell 0
  simp at c0
  have hlt := h.main.lt
  go_enter Tryz.func65, Tryz.ntmps65
  go_wp2
  refine bodyPost_ret (v := .tuple #[.agg #[.int .i64 (64 * (i : Int)), .int .i64 (64 * (i : Int) + 64)], .bool true]) (by simp [results, Tryz.results65, go_sem]; omega) rfl ⟨rfl, ?_⟩
  exact (Below.refl _ _).alloc (Nat.le_refl _) _

set_option maxRecDepth 100000 in
set_option maxHeartbeats 400000 in
theorem place_no (h : DiskAt' w a b1 b2 qv ga d F) (s : Int) (hs : d.has s = false) :
    Calls Tryz.prog 65 #[.pointer (some ⟨a, 0, none⟩), .int .i64 s] w fun e w' =>
      e = .returned (.tuple #[.agg #[.int .i64 0, .int .i64 0], .bool false]) ∧ Below w.heap.size w w' := by
  have hn := h.ok.n2
  have c0 := h.main.cell 0
  simp at c0
  have hlt := h.main.lt
  by_cases h0 : s < 0
  · clear hs
    go_enter Tryz.func65, Tryz.ntmps65
    go_wp2
    refine bodyPost_ret (v := .tuple #[.agg #[.int .i64 0, .int .i64 0], .bool false]) (by simp [results, Tryz.results65, go_sem]) rfl ⟨rfl, ?_⟩
    exact (Below.refl _ _).alloc (Nat.le_refl _) _
  · have h1 : (d.n : Int) ≤ s := by simp [Dk.has] at hs; omega
    clear hs
    go_enter Tryz.func65, Tryz.ntmps65
    go_wp2
    refine bodyPost_ret (v := .tuple #[.agg #[.int .i64 0, .int .i64 0], .bool false]) (by simp [results, Tryz.results65, go_sem]) rfl ⟨rfl, ?_⟩
    exact (Below.refl _ _).alloc (Nat.le_refl _) _

set_option maxRecDepth 100000 in
set_option maxHeartbeats 400000 in
theorem place_nil (w : World) (s : Int) :
    Calls Tryz.prog 65 #[.pointer none, .int .i64 s] w fun e w' =>
      e = .returned (.tuple #[.agg #[.int .i64 0, .int .i64 0], .bool false]) ∧ Below w.heap.size w w' := by
  go_enter Tryz.func65, Tryz.ntmps65
  go_wp2
  refine bodyPost_ret (v := .tuple #[.agg #[.int .i64 0, .int .i64 0], .bool false]) (by simp [results, Tryz.results65, go_sem]) rfl ⟨rfl, ?_⟩
  exact (Below.refl _ _).alloc (Nat.le_refl _) _

set_option maxRecDepth 100000 in
set_option maxHeartbeats 400000 in
theorem at_yes (h : DiskAt' w a b1 b2 qv ga d F) (ho : d.off = false) (i : Nat) (hi : i < d.n) :
    Calls Tryz.prog 67 #[.pointer (some ⟨a, 0, none⟩), .int .i64 (i : Int)] w fun e w' =>
      e = .returned (.tuple #[.agg #[.int .i64 (64 * (i : Int)), .int .i64 (64 * (i : Int) + 64)], .int .i64 0]) ∧ Below w.heap.size w w' := by
  have c3 := h.main.cell 3
  simp [ho] at c3
  have hlt := h.main.lt
  have HO := Lib.hid ho
  clear ho
  go_enter Tryz.func67, Tryz.ntmps67
  go_wp2_with fail
  refine (place_yes (h.keep (((Only.refl (fun _ => False) w).alloc _)) (by simp)) i hi).mono ?_
  rintro e w1 ⟨rfl, hb⟩
  obtain ⟨y, f, l⟩ := ((Blk.new w 87 #[.int .i64 0, .int .i64 0]).below hb (by simp)).all
  go_wp2
  refine bodyPost_ret (v := .tuple #[.agg #[.int .i64 (64 * (i : Int)), .int .i64 (64 * (i : Int) + 64)], .int .i64 0]) (by simp [results, Tryz.results67, go_sem, y, l]) rfl ⟨rfl, ?_⟩
  exact (((below_alloc hb).setCell (Nat.le_refl _) _).setCell (Nat.le_refl _) _).alloc (by simp; omega) _

set_option maxRecDepth 100000 in
set_option maxHeartbeats 400000 in
theorem at_no (h : DiskAt' w a b1 b2 qv ga d F) (ho : d.off = false) (s : Int) (hs : d.has s = false) :
    Calls Tryz.prog 67 #[.pointer (some ⟨a, 0, none⟩), .int .i64 s] w fun e w' =>
      e = .returned (.tuple #[.agg #[.int .i64 0, .int .i64 0], .int .i64 1]) ∧ Below w.heap.size w w' := by
  have c3 := h.main.cell 3
  simp [ho] at c3
  have hlt := h.main.lt
  have HO := Lib.hid ho
  have HS := Lib.hid hs
  clear ho hs
  go_enter Tryz.func67, Tryz.ntmps67
  go_wp2_with fail
  refine (place_no (h.keep (((Only.refl (fun _ => False) w).alloc _)) (by simp)) s HS.out).mono ?_
  rintro e w1 ⟨rfl, hb⟩
  obtain ⟨y, f, l⟩ := ((Blk.new w 87 #[.int .i64 0, .int .i64 0]).below hb (by simp)).all
  go_wp2
  refine bodyPost_ret (v := .tuple #[.agg #[.int .i64 0, .int .i64 0], .int .i64 1]) (by simp [results, Tryz.results67, go_sem, y, l]) rfl ⟨rfl, ?_⟩
  exact (((below_alloc hb).setCell (Nat.le_refl _) _).setCell (Nat.le_refl _) _).alloc (by simp; omega) _

set_option maxRecDepth 100000 in
set_option maxHeartbeats 400000 in
theorem at_off (h : DiskAt' w a b1 b2 qv ga d F) (ho : d.off = true) (s : Int) :
    Calls Tryz.prog 67 #[.pointer (some ⟨a, 0, none⟩), .int .i64 s] w fun e w' =>
      e = .returned (.tuple #[.agg #[.int .i64 0, .int .i64 0], .int .i64 25]) ∧ Below w.heap.size w w' := by
  have c3 := h.main.cell 3
  simp [ho] at c3
  have hlt := h.main.lt
  clear ho
  go_enter Tryz.func67, Tryz.ntmps67
  go_wp2
  refine bodyPost_ret (v := .tuple #[.agg #[.int .i64 0, .int .i64 0], .int .i64 25]) (by simp [results, Tryz.results67, go_sem]) rfl ⟨rfl, ?_⟩
  exact (Below.refl _ _).alloc (Nat.le_refl _) _

set_option maxRecDepth 100000 in
set_option maxHeartbeats 400000 in
theorem at_nil (w : World) (s : Int) :
    Calls Tryz.prog 67 #[.pointer none, .int .i64 s] w fun e w' =>
      e = .returned (.tuple #[.agg #[.int .i64 0, .int .i64 0], .int .i64 1]) ∧ Below w.heap.size w w' := by
  go_enter Tryz.func67, Tryz.ntmps67
  go_wp2_with fail
  refine (place_nil _ s).mono ?_
  rintro e w1 ⟨rfl, hb⟩
  obtain ⟨y, f, l⟩ := ((Blk.new w 87 #[.int .i64 0, .int .i64 0]).below hb (by simp)).all
  go_wp2
  refine bodyPost_ret (v := .tuple #[.agg #[.int .i64 0, .int .i64 0], .int .i64 1]) (by simp [results, Tryz.results67, go_sem, y, l]) rfl ⟨rfl, ?_⟩
  exact (((below_alloc hb).setCell (Nat.le_refl _) _).setCell (Nat.le_refl _) _).alloc (by simp; omega) _
end
end Go.Proofs.YtfjejfgdnjnflaaGreatDoor
