/- A matter in memory; what formed asks of a right, of a move, of a limit. -/
import Derived.Test.YtgfahifdmacmhaaGreatDoorQl
namespace Go.Proofs.YtgfahifdmacmhaaGreatDoor
open Go.RowKit Go.Shelf

/-- Where a matter has its lists. -/
structure MtX where
  a1 : Option Addr
  c1 : Nat
  a2 : Option Addr
  c2 : Nat
  a3 : Option Addr
  c3 : Nat
  a4 : Option Addr
  c4 : Nat
  lv : List LmV
def mtC (m : Mt) (x : MtX) : Array Value := #[.string m.id, .int .i64 m.o, .slice x.a1 m.cs.length x.c1, .string m.pr, .int .i64 m.st, .slice x.a2 m.mv.length x.c2, .slice x.a3 m.rs.length x.c3, .slice x.a4 m.ls.length x.c4]
structure MtAt (w : World) (B : Nat) (m : Mt) (x : MtX) : Prop where
  cs : IntsAt w B x.a1 m.cs
  mv : IntsAt w B x.a2 m.mv
  rs : RtsAt w B x.a3 m.rs
  ls : LmsAt w B x.a4 x.lv
  lv : x.lv.map (·.1) = m.ls
  id : m.id.size ≤ 9223372036854775807
  pr : m.pr.size ≤ 9223372036854775807
  rn : ∀ r ∈ m.rs, r.1.size ≤ 9223372036854775807
theorem MtAt.below {w w' : World} {B : Nat} {m : Mt} {x : MtX} (h : MtAt w B m x) (hb : Below B w w') : MtAt w' B m x := ⟨h.cs.below hb, h.mv.below hb, h.rs.below hb, h.ls.below hb, h.lv, h.id, h.pr, h.rn⟩
theorem MtAt.wide {w : World} {B B' : Nat} {m : Mt} {x : MtX} (h : MtAt w B m x) (hB : B ≤ B') : MtAt w B' m x := ⟨h.cs.wide hB, h.mv.wide hB, h.rs.wide hB, h.ls.wide hB, h.lv, h.id, h.pr, h.rn⟩
/-- Lists of a moderate length. -/
def Sml (m : Mt) : Prop := m.cs.length ≤ 1000000 ∧ m.mv.length ≤ 1000000 ∧ m.rs.length ≤ 1000000 ∧ m.ls.length ≤ 1000000
theorem MtAt.len {w : World} {B : Nat} {m : Mt} {x : MtX} (h : MtAt w B m x) : x.lv.length = m.ls.length := by
  have := congrArg List.length h.lv
  simpa using this

set_option maxRecDepth 100000 in
theorem rgood_any (w : World) (bm : Nat) (o : Int) (h1 : w.cell? ⟨bm, 1, none⟩ = some (.int .i64 o)) (r : Rt) (hs : r.1.size ≤ 9223372036854775807) (hlt : bm < w.heap.size) :
    Calls Tryz.prog 75 #[.agg #[.string r.1, .int .i64 r.2], .pointer (some ⟨bm, 0, none⟩)] w fun e w' => e = .returned (.bool (rtB o r)) ∧ Below w.heap.size w w' := by
  have hb := below_self_alloc w (.cells #[.string r.1, .int .i64 r.2] 41)
  have kx := Blk.new w 41 #[.string r.1, .int .i64 r.2]
  have h1' : (w.alloc (.cells #[.string r.1, .int .i64 r.2] 41)).cell? ⟨bm, 1, none⟩ = some (.int .i64 o) := (hb.cell (p := ⟨bm, 1, none⟩) hlt).trans h1
  have hnm := fun W => mname_any W r.1 hs
  obtain ⟨q, hq⟩ : ∃ q, rtB o r = q := ⟨_, rfl⟩
  rw [hq]
  unfold rtB at hq
  have HQ := Lib.hid hq
  obtain ⟨n, d⟩ := r
  simp only at *
  cases hn : nameB n with
  | false =>
    have hnm' := hnm (w.alloc (.cells #[.string n, .int .i64 d] 41))
    rw [hn] at hnm'
    have HN := Lib.hid hnm'
    have hqq : q = false := by rw [← HQ.out, hn]; rfl
    subst hqq
    clear hnm hnm' hn hq HQ
    go_enter Tryz.func75, Tryz.ntmps75
    go_wp2_with fail
    refine HN.out.mono ?_
    rintro e w1 ⟨rfl, b1⟩
    have hb2 := hb.trans (b1.mono hb.size)
    clear b1 kx h1'
    go_wp2
    go_ret
    exact ⟨rfl, hb2⟩
  | true =>
    have hnm' := hnm (w.alloc (.cells #[.string n, .int .i64 d] 41))
    rw [hn] at hnm'
    have HN := Lib.hid hnm'
    have hqq : (decide (o ≤ d) && isB d) = q := by rw [← HQ.out, hn]; rfl
    have HQQ := Lib.hid hqq
    clear hnm hnm' hn hq HQ hqq
    by_cases hod : o ≤ d
    · cases hd : isB d with
      | false =>
        have hqq : q = false := by rw [← HQQ.out, decide_eq_true hod, hd]; rfl
        have hi := fun W => mis_any W d
        rw [hd] at hi
        have HI := Lib.hid hi
        subst hqq
        clear hi hd HQQ
        go_enter Tryz.func75, Tryz.ntmps75
        go_wp2_with fail
        refine HN.out.mono ?_
        rintro e w1 ⟨rfl, b1⟩
        have hb2 := hb.trans (b1.mono hb.size)
        obtain ⟨t0, t1, t2⟩ := (kx.below b1 kx.lt).all
        have h2 : w1.cell? ⟨bm, 1, none⟩ = some (.int .i64 o) := (b1.cell (p := ⟨bm, 1, none⟩) (Nat.lt_of_lt_of_le hlt hb.size)).trans h1'
        clear b1 kx h1'
        go_wp2_with fail
        refine (HI.out _).mono ?_
        rintro e w2 ⟨rfl, rfl⟩
        go_wp2
        go_ret
        exact ⟨rfl, hb2⟩
      | true =>
        have hqq : q = true := by rw [← HQQ.out, decide_eq_true hod, hd]; rfl
        have hi := fun W => mis_any W d
        rw [hd] at hi
        have HI := Lib.hid hi
        subst hqq
        clear hi hd HQQ
        go_enter Tryz.func75, Tryz.ntmps75
        go_wp2_with fail
        refine HN.out.mono ?_
        rintro e w1 ⟨rfl, b1⟩
        have hb2 := hb.trans (b1.mono hb.size)
        obtain ⟨t0, t1, t2⟩ := (kx.below b1 kx.lt).all
        have h2 : w1.cell? ⟨bm, 1, none⟩ = some (.int .i64 o) := (b1.cell (p := ⟨bm, 1, none⟩) (Nat.lt_of_lt_of_le hlt hb.size)).trans h1'
        clear b1 kx h1'
        go_wp2_with fail
        refine (HI.out _).mono ?_
        rintro e w2 ⟨rfl, rfl⟩
        go_wp2
        go_ret
        exact ⟨rfl, hb2⟩
    · have hqq : q = false := by rw [← HQQ.out, decide_eq_false hod]; rfl
      have dod : decide (o ≤ d) = false := decide_eq_false hod
      have hdo : d < o := by omega
      subst hqq
      clear HQQ hod
      go_enter Tryz.func75, Tryz.ntmps75
      go_wp2_with fail
      refine HN.out.mono ?_
      rintro e w1 ⟨rfl, b1⟩
      have hb2 := hb.trans (b1.mono hb.size)
      obtain ⟨t0, t1, t2⟩ := (kx.below b1 kx.lt).all
      have h2 : w1.cell? ⟨bm, 1, none⟩ = some (.int .i64 o) := (b1.cell (p := ⟨bm, 1, none⟩) (Nat.lt_of_lt_of_le hlt hb.size)).trans h1'
      clear b1 kx h1'
      go_wp2
      go_ret
      exact ⟨rfl, hb2⟩

set_option maxRecDepth 100000 in
theorem mgood_any (w : World) (bn n : Nat) (h1 : w.cell? ⟨bn, 0, none⟩ = some (.int .i64 (n : Int))) (m : I2) (hlt : bn < w.heap.size) :
    Calls Tryz.prog 64 #[.agg #[.int .i64 m.1, .int .i64 m.2], .pointer (some ⟨bn, 0, none⟩)] w fun e w' => e = .returned (.bool (mvB n m)) ∧ Below w.heap.size w w' := by
  have hb := below_self_alloc w (.cells #[.int .i64 m.1, .int .i64 m.2] 101)
  have h1' : (w.alloc (.cells #[.int .i64 m.1, .int .i64 m.2] 101)).cell? ⟨bn, 0, none⟩ = some (.int .i64 (n : Int)) := (hb.cell (p := ⟨bn, 0, none⟩) hlt).trans h1
  obtain ⟨a, b⟩ := m
  simp only at *
  obtain ⟨q, hq⟩ : ∃ q, mvB n (a, b) = q := ⟨_, rfl⟩
  rw [hq]
  unfold mvB at hq
  simp only at hq
  have hmin := run_min2 (P := Tryz.prog) a b (min a b) rfl
  have hmax := run_max2 (P := Tryz.prog) a b (max a b) rfl
  generalize min a b = lo at *
  generalize max a b = hi at *
  by_cases h2 : a ≠ b
  · have e2 : (a != b) = true := by simpa using h2
    by_cases h3 : 0 ≤ lo
    · by_cases h4 : hi < (n : Int)
      · obtain rfl : true = q := by rw [← hq]; exact (decide_eq_true ⟨h2, h3, h4⟩).symm
        clear hq h2
        go_enter Tryz.func64, Tryz.ntmps64
        go_wp2
        go_ret
        exact ⟨rfl, hb⟩
      · obtain rfl : false = q := by rw [← hq]; exact (decide_eq_false (fun h => h4 h.2.2)).symm
        have d4 : decide (hi < (n : Int)) = false := decide_eq_false h4
        clear hq h2
        go_enter Tryz.func64, Tryz.ntmps64
        go_wp2
        go_ret
        exact ⟨rfl, hb⟩
    · obtain rfl : false = q := by rw [← hq]; exact (decide_eq_false (fun h => h3 h.2.1)).symm
      have d3 : decide (0 ≤ lo) = false := decide_eq_false h3
      clear hq h2
      go_enter Tryz.func64, Tryz.ntmps64
      go_wp2
      go_ret
      exact ⟨rfl, hb⟩
  · obtain rfl : false = q := by rw [← hq]; exact (decide_eq_false (fun h => h2 h.1)).symm
    have e2 : (a != b) = false := by simpa using h2
    clear hq h2
    go_enter Tryz.func64, Tryz.ntmps64
    go_wp2
    go_ret
    exact ⟨rfl, hb⟩

set_option maxRecDepth 100000 in
set_option maxHeartbeats 2000000 in
theorem lgood_any (w : World) (B : Nat) (L : LmV) (h : LmAt w B L.2.1 L.1) (hB : B ≤ w.heap.size) :
    Calls Tryz.prog 78 #[.agg #[.string L.1.id, .int .i64 L.1.n, .int .i64 L.1.u, .int .i64 L.1.f, .slice L.2.1 L.1.S.length L.2.2]] w fun e w' => e = .returned (.bool (prB L.1)) ∧ Below w.heap.size w w' := by
  obtain ⟨M, A, c⟩ := L
  simp only at *
  have hb := below_self_alloc w (.cells #[.string M.id, .int .i64 M.n, .int .i64 M.u, .int .i64 M.f, .slice A M.S.length c] 65)
  have kx := Blk.new w 65 #[.string M.id, .int .i64 M.n, .int .i64 M.u, .int .i64 M.f, .slice A M.S.length c]
  have hp : Calls Tryz.prog 94 #[.agg #[.string M.id, .int .i64 M.n, .int .i64 M.u, .int .i64 M.f, .slice A M.S.length c], .agg #[.int .i64 0, .int .i64 0]] (w.alloc (.cells #[.string M.id, .int .i64 M.n, .int .i64 M.u, .int .i64 M.f, .slice A M.S.length c] 65)) _ :=
    pause_any _ M (0, 0) B A c (h.below (hb.mono hB)) (Nat.le_trans hB hb.size)
  obtain ⟨q, hq⟩ : ∃ q, prB M = q := ⟨_, rfl⟩
  have hpe : (pauseS M (0, 0)).2 = if q = true then (if M.S.length = 60 then 2 else 0) else 1 := by
    unfold pauseS
    rw [hq, show psB (0, 0) = true from rfl, Bool.and_true]
    split
    · split <;> rfl
    · rfl
  rw [hq]
  obtain ⟨R, hR⟩ : ∃ R, pauseS M (0, 0) = R := ⟨_, rfl⟩
  rw [hR] at hp hpe
  obtain ⟨R1, R2⟩ := R
  simp only at hpe
  have HP := Lib.hid hp
  have HPE := Lib.hid hpe
  clear hp hpe hR hq h
  obtain ⟨t0, t1, t2⟩ := kx.all
  go_enter Tryz.func78, Tryz.ntmps78
  go_wp2_with fail
  refine HP.out.mono ?_
  rintro e w1 ⟨A', c', rfl, hst, b1⟩
  have hb2 := hb.trans (b1.mono hb.size)
  have hb3 := hb2.alloc hb2.size (.cells (R1.cells A' c') 65)
  clear b1 hst kx t0 t1 t2 hb
  unfold Lm.cells at hb3 ⊢
  have hfin : (R2 != 1) = q := by
    rw [HPE.out]
    cases q with
    | true => rw [if_pos rfl]; split <;> rfl
    | false => rfl
  go_wp2
  go_ret
  exact ⟨rfl, hb3⟩
end Go.Proofs.YtgfahifdmacmhaaGreatDoor
