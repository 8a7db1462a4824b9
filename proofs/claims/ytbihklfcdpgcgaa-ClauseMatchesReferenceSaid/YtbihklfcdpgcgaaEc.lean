/- Clauses as values; properStamp, proper, merge. -/
import Derived.Test.YtbihklfcdpgcgaaEb
import Derived.Test.YtbihklfcdpgcgaaPlan
import Derived.Test.YtbihklfcdpgcgaaProg
import Derived.Lib.Strings
import Derived.StillTailTactics
import Derived.Deep.WholeRow
namespace Go.Proofs.Ytbihklfcdpgcgaa
open Go.RowKit

def stA (s : St2) : Array Value := #[.int .i64 s.1, .int .i64 s.2]
def ptA (p : Pt) : Array Value := #[.int .i64 p.1, .string p.2.1, .string p.2.2.1, .string p.2.2.2.1, .string p.2.2.2.2.1, .int .i64 p.2.2.2.2.2.1.1, .string p.2.2.2.2.2.1.2.1, .string p.2.2.2.2.2.1.2.2.1, .string p.2.2.2.2.2.1.2.2.2.1, .string p.2.2.2.2.2.1.2.2.2.2.1, .string p.2.2.2.2.2.1.2.2.2.2.2.1, .bool p.2.2.2.2.2.1.2.2.2.2.2.2, .int .i64 p.2.2.2.2.2.2.1, .string p.2.2.2.2.2.2.2.1, .string p.2.2.2.2.2.2.2.2]
def clA (c : Cl) : Array Value := #[.int .i64 c.id.1, .int .i64 c.id.2, .int .i64 c.after.1, .int .i64 c.after.2, .int .i64 c.pt.1, .string c.pt.2.1, .string c.pt.2.2.1, .string c.pt.2.2.2.1, .string c.pt.2.2.2.2.1, .int .i64 c.pt.2.2.2.2.2.1.1, .string c.pt.2.2.2.2.2.1.2.1, .string c.pt.2.2.2.2.2.1.2.2.1, .string c.pt.2.2.2.2.2.1.2.2.2.1, .string c.pt.2.2.2.2.2.1.2.2.2.2.1, .string c.pt.2.2.2.2.2.1.2.2.2.2.2.1, .bool c.pt.2.2.2.2.2.1.2.2.2.2.2.2, .int .i64 c.pt.2.2.2.2.2.2.1, .string c.pt.2.2.2.2.2.2.2.1, .string c.pt.2.2.2.2.2.2.2.2, .bool c.gone]

theorem beq_bytes (a b : ByteArray) : (a.toList == b.toList) = decide (a = b) := by
  rw [Bool.eq_iff_iff]
  simp only [beq_iff_eq, decide_eq_true_eq]
  exact ⟨fun h => by
    rw [Lib.toList_data, Lib.toList_data] at h
    exact ByteArray.ext (Array.toList_inj.1 h), fun h => by rw [h]⟩
theorem if_ok {p : Prop} [Decidable p] {q : Bool} {W : World} : (if p then (Result.ok q W : Result Bool) else Result.ok false W) = Result.ok (decide p && q) W := by
  by_cases h : p <;> simp [h]
set_option maxRecDepth 100000 in
set_option maxHeartbeats 4000000 in
theorem eq_st (a b : St2) (W : World) : (Op.equalIn 10000 29 (.agg (stA a)) (.agg (stA b))).run Try.prog W = .ok (decide (a = b)) W := by
  simp [stA, go_sem]
  simp only [if_ok]
  congr 1
  rw [Bool.eq_iff_iff]
  simp [Prod.ext_iff]
theorem bytes_inj {a b : ByteArray} : a.toList = b.toList ↔ a = b := by
  have := beq_bytes a b
  constructor
  · intro h; rw [h] at this; simpa using this.symm
  · intro h; rw [h]
theorem cl_iff {a b : Cl} : a = b ↔ a.id = b.id ∧ a.after = b.after ∧ a.pt = b.pt ∧ a.gone = b.gone := ⟨fun h => h ▸ ⟨rfl, rfl, rfl, rfl⟩, fun h => Cl.ext' h.1 h.2.1 h.2.2.1 h.2.2.2⟩
set_option maxRecDepth 100000 in
set_option maxHeartbeats 4000000 in
theorem eq_cl (a b : Cl) (W : World) : (Op.equalIn 10000 35 (.agg (clA a)) (.agg (clA b))).run Try.prog W = .ok (decide (a = b)) W := by
  simp [clA, go_sem]
  simp only [if_ok]
  congr 1
  rw [Bool.eq_iff_iff]
  simp [cl_iff, Prod.ext_iff, bytes_inj, and_assoc]
set_option maxRecDepth 100000 in
set_option maxHeartbeats 4000000 in
theorem eq_pt (a b : Pt) (W : World) : (Op.equalIn 10000 33 (.agg (ptA a)) (.agg (ptA b))).run Try.prog W = .ok (decide (a = b)) W := by
  simp [ptA, go_sem]
  simp only [if_ok]
  congr 1
  rw [Bool.eq_iff_iff]
  simp [Prod.ext_iff, bytes_inj, and_assoc]

set_option maxRecDepth 100000 in
set_option maxHeartbeats 4000000 in
theorem properT_any (w : World) (s : St2) : Calls Try.prog 42 #[.agg (stA s)] w fun e w' => e = .returned (.bool (properT s)) ∧ Below w.heap.size w w' := by
  obtain ⟨x, y⟩ := s
  obtain ⟨R, hR⟩ : ∃ r, properT (x, y) = r := ⟨_, rfl⟩
  rw [hR]
  unfold properT at hR
  simp only at hR
  have HR := Lib.hid hR
  clear hR
  have hb := (Below.refl w.heap.size w).alloc (Nat.le_refl _) (.cells (stA (x, y)) 29)
  have kb := Blk.new w 29 (stA (x, y))
  have c0 : (w.alloc (.cells (stA (x, y)) 29)).cell? ⟨w.heap.size, 0, none⟩ = some (.int .i64 x) := kb.cell 0
  have c1 : (w.alloc (.cells (stA (x, y)) 29)).cell? ⟨w.heap.size, 1, none⟩ = some (.int .i64 y) := kb.cell 1
  clear kb
  generalize hA : stA (x, y) = A at *
  have e1 : (x ≥ 0) = (0 ≤ x) := rfl
  by_cases h1 : 0 ≤ x
  · by_cases h2 : x < 200
    · by_cases h3 : 1 ≤ y
      · by_cases h4 : y ≤ 1000000
        · have := HR.out
          simp [h1, h2, h3, h4] at this
          subst this
          clear HR
          go_enter Try.func42, Try.ntmps42
          go_wp2
          go_ret
          exact ⟨rfl, hb⟩
        · have := HR.out
          simp [h1, h2, h3, h4] at this
          subst this
          clear HR
          go_enter Try.func42, Try.ntmps42
          go_wp2
          go_ret
          exact ⟨rfl, hb⟩
      · have := HR.out
        simp [h1, h2, h3] at this
        subst this
        clear HR
        go_enter Try.func42, Try.ntmps42
        go_wp2
        go_ret
        exact ⟨rfl, hb⟩
    · have := HR.out
      simp [h1, h2] at this
      subst this
      clear HR
      go_enter Try.func42, Try.ntmps42
      go_wp2
      go_ret
      exact ⟨rfl, hb⟩
  · have := HR.out
    simp [h1] at this
    subst this
    clear HR
    go_enter Try.func42, Try.ntmps42
    go_wp2
    go_ret
    exact ⟨rfl, hb⟩
/-- A block that holds a clause, cell by cell. -/
theorem cl_cells {w : World} {g : Nat} {c : Cl} (h : Blk w g 35 (clA c)) :
    w.cell? ⟨g, 0, none⟩ = some (.int .i64 c.id.1) ∧ w.cell? ⟨g, 1, none⟩ = some (.int .i64 c.id.2) ∧ w.cell? ⟨g, 2, none⟩ = some (.int .i64 c.after.1) ∧ w.cell? ⟨g, 3, none⟩ = some (.int .i64 c.after.2) ∧ w.cell? ⟨g, 19, none⟩ = some (.bool c.gone) :=
  ⟨h.cell 0, h.cell 1, h.cell 2, h.cell 3, h.cell 19⟩
set_option maxRecDepth 100000 in
set_option maxHeartbeats 8000000 in
theorem proper_any (w : World) (c : Cl) : Calls Try.prog 32 #[.agg (clA c)] w fun e w' => e = .returned (.bool (properC c)) ∧ Below w.heap.size w w' := by
  have hb := (Below.refl w.heap.size w).alloc (Nat.le_refl _) (.cells (clA c) 35)
  have kb := Blk.new w 35 (clA c)
  have hez : ∀ W : World, (Op.equalIn 10000 29 (.agg #[.int .i64 c.after.1, .int .i64 c.after.2]) (.agg #[.int .i64 0, .int .i64 0])).run Try.prog W = .ok (decide (c.after = z2)) W := eq_st c.after z2
  have hpa : ∀ W : World, Calls Try.prog 42 #[.agg #[.int .i64 c.after.1, .int .i64 c.after.2]] W fun e w' => e = .returned (.bool (properT c.after)) ∧ Below W.heap.size W w' := fun W => properT_any W c.after
  have hpi : ∀ W : World, Calls Try.prog 42 #[.agg #[.int .i64 c.id.1, .int .i64 c.id.2]] W fun e w' => e = .returned (.bool (properT c.id)) ∧ Below W.heap.size W w' := fun W => properT_any W c.id
  unfold properC
  obtain ⟨b1, h1⟩ : ∃ b, decide (c.after = z2) = b := ⟨_, rfl⟩
  obtain ⟨b2, h2⟩ : ∃ b, properT c.after = b := ⟨_, rfl⟩
  obtain ⟨b3, h3⟩ : ∃ b, decide (c.after.2 < c.id.2) = b := ⟨_, rfl⟩
  obtain ⟨b4, h4⟩ : ∃ b, properT c.id = b := ⟨_, rfl⟩
  rw [h1] at hez
  rw [h2] at hpa
  rw [h4] at hpi
  rw [h1, h2, h3, h4]
  obtain ⟨k0, k1, k2, k3, -⟩ := cl_cells kb
  have KB := Lib.hid kb
  have PA := Lib.hid hpa
  have PI := Lib.hid hpi
  obtain ⟨CC, hCC⟩ : ∃ x, clA c = x := ⟨_, rfl⟩
  rw [hCC] at KB hb k0 k1 k2 k3 ⊢
  have HCC := Lib.hid hCC
  clear h1 h2 h4 kb hpa hpi hCC
  cases b1 with
  | true =>
    go_enter Try.func32, Try.ntmps32
    go_wp2_with fail
    refine (PI.out _).mono ?_
    rintro e w1 ⟨rfl, q1⟩
    have hb1 := hb.trans (q1.mono hb.size)
    clear PI PA q1 hb KB k0 k1 k2 k3
    cases b4 <;> (go_wp2; go_ret; exact ⟨rfl, hb1⟩)
  | false =>
    go_enter Try.func32, Try.ntmps32
    go_wp2_with fail
    refine (PA.out _).mono ?_
    rintro e w1 ⟨rfl, q1⟩
    have hb1 := hb.trans (q1.mono hb.size)
    obtain ⟨m0, m1, m2, m3, -⟩ := cl_cells (c := c) (by rw [HCC.out]; exact KB.out.below q1 KB.out.lt)
    clear PA q1 hb KB k0 k1 k2 k3
    cases b2 with
    | false =>
      go_wp2_with fail
      refine (PI.out _).mono ?_
      rintro e w2 ⟨rfl, q2⟩
      have hb2 := hb1.trans (q2.mono hb1.size)
      clear PI q2 hb1 m0 m1 m2 m3
      cases b4 <;> (go_wp2; go_ret; exact ⟨rfl, hb2⟩)
    | true =>
      cases b3 with
      | true =>
        go_wp2_with fail
        refine (PI.out _).mono ?_
        rintro e w2 ⟨rfl, q2⟩
        have hb2 := hb1.trans (q2.mono hb1.size)
        clear PI q2 hb1 m0 m1 m2 m3
        cases b4 <;> (go_wp2; go_ret; exact ⟨rfl, hb2⟩)
      | false =>
        go_wp2_with fail
        refine (PI.out _).mono ?_
        rintro e w2 ⟨rfl, q2⟩
        have hb2 := hb1.trans (q2.mono hb1.size)
        clear PI q2 hb1 m0 m1 m2 m3
        cases b4 <;> (go_wp2; go_ret; exact ⟨rfl, hb2⟩)

theorem clA_size (c : Cl) : (clA c).size = 20 := rfl
theorem clA_one (c : Cl) : (clA c).all (·.oneCell') = true := by simp [clA, Value.oneCell']
/-- A clause laid whole into a variable of its own; one read whole. -/
theorem put_cl (W : World) (c : Cl) : (storeCells ⟨W.heap.size, 0, none⟩ (clA c).toList).run Try.prog (W.alloc (.cells #[.int .i64 0, .int .i64 0, .int .i64 0, .int .i64 0, .int .i64 0, .string ⟨#[]⟩, .string ⟨#[]⟩, .string ⟨#[]⟩, .string ⟨#[]⟩, .int .i64 0, .string ⟨#[]⟩, .string ⟨#[]⟩, .string ⟨#[]⟩, .string ⟨#[]⟩, .string ⟨#[]⟩, .bool false, .int .i64 0, .string ⟨#[]⟩, .string ⟨#[]⟩, .bool false] 35)) = .ok () (W.alloc (.cells (clA c) 35)) :=
  run_storeCells_new W _ _ (clA c) (by kernel_rfl) rfl (clA_one c)
theorem blk_load {W : World} {g n : Nat} {t : TypeId} {CC : Array Value} (h : Blk W g t CC) (hn : CC.size = n) : (loadCellsFrom ⟨g, 0, none⟩ 0 n #[]).run Try.prog W = .ok CC W := by
  subst hn
  have := run_loadCells_list (P := Try.prog) W ⟨g, 0, none⟩ CC.toList (fun j v hv => by
    have hadd : (⟨g, 0, none⟩ : Addr).add j = ⟨g, j, none⟩ := by unfold Addr.add; split <;> simp_all
    rw [hadd, h.cell]
    simpa using hv)
  simpa [loadCells] using this
end Go.Proofs.Ytbihklfcdpgcgaa
