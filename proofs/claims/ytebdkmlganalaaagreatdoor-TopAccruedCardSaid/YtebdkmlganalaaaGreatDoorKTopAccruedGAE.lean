/- Add of package calendar. Date and Add, whole. -/
import Derived.Test.YtebdkmlganalaaaGreatDoorKTopAccruedGAD
import Derived.Deep.DeepCutAuto
import Derived.Deep.CutBlock
namespace Go.Proofs.YtebdkmlganalaaaGreatDoor
open Go.RowKit

def nthS (l : List Int) : Nat → Int → Int
  | 0, x => x
  | k + 1, x => if isB (nthS l k x) = true then fromS l (nthS l k x + 1) else nthS l k x
/-- The end of a term before the step to an open day. -/
def stepS (l : List Int) (day n u y m d : Int) : Int × Int :=
  if u = 1 then (day + n, 0) else if u = 2 then (day + 7 * n, 0) else if u = 3 then monS y m d n else if u = 4 then monS y m d (12 * n) else (nthS l n.toNat day, 0)
def endS (l : List Int) (p : Int × Int) : Int × Int :=
  if p.2 = 0 ∧ isB p.1 = true then (if isB (fromS l p.1) = true then (fromS l p.1, 0) else (0, 10)) else (0, 10)

theorem isB_no {n : Int} (h : n < 0 ∨ 1000000 < n) : isB n = false := by simp [isB]; omega

set_option maxRecDepth 100000 in
set_option maxHeartbeats 1000000 in
theorem add_bad (w : World) (day n u : Int) (A : Option Addr) (k c : Nat) (h : isB day = false ∨ u < 1 ∨ 5 < u ∨ n < 0 ∨ 1000000 < n) :
    Calls Tryz.prog 39 #[.int .i64 day, .agg #[.int .i64 n, .int .i64 u], .slice A k c] w fun e w' => e = .returned (.tuple #[.int .i64 0, .int .i64 1]) ∧ Below w.heap.size w w' := by
  have hb2 : Below w.heap.size w ((w.alloc (.cells #[.int .i64 day] 3)).alloc (.cells #[.int .i64 n, .int .i64 u] 63)) := ((Below.refl _ _).alloc (Nat.le_refl _) _).alloc (by simp) _
  cases hd : isB day with
  | false =>
    have HD := Lib.hid hd
    clear h hd
    go_enter Tryz.func39, Tryz.ntmps39
    go_wp2_with fail
    refine (is_any _ day).mono ?_
    rintro e w1 ⟨rfl, rfl⟩
    rw [HD.out]
    go_wp2
    go_ret2
    exact ⟨rfl, hb2⟩
  | true =>
    have HD := Lib.hid hd
    by_cases h1 : u < 1
    · clear h hd
      go_enter Tryz.func39, Tryz.ntmps39
      go_wp2_with fail
      refine (is_any _ day).mono ?_
      rintro e w1 ⟨rfl, rfl⟩
      rw [HD.out]
      go_wp2
      go_ret2
      exact ⟨rfl, hb2⟩
    · by_cases h2 : 5 < u
      · clear h hd
        go_enter Tryz.func39, Tryz.ntmps39
        go_wp2_with fail
        refine (is_any _ day).mono ?_
        rintro e w1 ⟨rfl, rfl⟩
        rw [HD.out]
        go_wp2
        go_ret2
        exact ⟨rfl, hb2⟩
      · by_cases h3 : n < 0
        · clear h hd
          go_enter Tryz.func39, Tryz.ntmps39
          go_wp2_with fail
          refine (is_any _ day).mono ?_
          rintro e w1 ⟨rfl, rfl⟩
          rw [HD.out]
          go_wp2
          go_ret2
          exact ⟨rfl, hb2⟩
        · have h4 : 1000000 < n := by rcases h with h | h | h | h | h; rw [h] at hd; cases hd; all_goals omega
          clear h hd
          go_enter Tryz.func39, Tryz.ntmps39
          go_wp2_with fail
          refine (is_any _ day).mono ?_
          rintro e w1 ⟨rfl, rfl⟩
          rw [HD.out]
          go_wp2
          go_ret2
          exact ⟨rfl, hb2⟩

set_option maxRecDepth 100000 in
set_option maxHeartbeats 1000000 in
theorem add_many (w : World) (day n u : Int) (A : Option Addr) (k c : Nat) (h0 : isB day = true) (h1 : 1 ≤ u) (h2 : u ≤ 5) (h3 : 0 ≤ n) (h4 : n ≤ 1000000) (hk : 1000 < k) :
    Calls Tryz.prog 39 #[.int .i64 day, .agg #[.int .i64 n, .int .i64 u], .slice A k c] w fun e w' => e = .returned (.tuple #[.int .i64 0, .int .i64 2]) ∧ Below w.heap.size w w' := by
  have hb2 : Below w.heap.size w ((w.alloc (.cells #[.int .i64 day] 3)).alloc (.cells #[.int .i64 n, .int .i64 u] 63)) := ((Below.refl _ _).alloc (Nat.le_refl _) _).alloc (by simp) _
  have HD := Lib.hid h0
  clear h0
  go_enter Tryz.func39, Tryz.ntmps39
  go_wp2_with fail
  refine (is_any _ day).mono ?_
  rintro e w1 ⟨rfl, rfl⟩
  rw [HD.out]
  go_wp2
  go_ret2
  exact ⟨rfl, hb2⟩

set_option maxHeartbeats 400000 in
theorem later_any (w : World) (y m d n : Int) (hv : Vd y m d) (hn : num y m d ≤ 1000000) (hn0 : 0 ≤ n) (hn1 : n ≤ 12000000) (p3 p9 p10 : Nat) (hc : w.cell? ⟨p3, 0, none⟩ = some (.int .i64 (num y m d))) (v9 v10 : Value)
    (h9 : Blk w p9 3 #[v9]) (h10 : Blk w p10 48 #[v10]) :
    Calls Tryz.prog 80 #[.int .i64 n, .pointer (some ⟨p3, 0, none⟩), .pointer (some ⟨p9, 0, none⟩), .pointer (some ⟨p10, 0, none⟩)] w fun e w' => e = .returned (.tuple #[]) ∧
      ∃ w1, Below w.heap.size w w1 ∧ w' = (w1.setCell ⟨p9, 0, none⟩ (.int .i64 (monS y m d n).1)).setCell ⟨p10, 0, none⟩ (.int .i64 (monS y m d n).2) := by
  have hne := h9.ne_ h10 (by decide)
  go_enter Tryz.func80, Tryz.ntmps80
  go_wp2_with fail
  refine (mon_any _ y m d n hv hn hn0 hn1).mono ?_
  rintro e w1 ⟨rfl, hb⟩
  obtain ⟨a0, a1, a2⟩ := (h9.below hb h9.lt).all
  obtain ⟨b0, b1, b2⟩ := (h10.below hb h10.lt).all
  go_wp2
  go_end0
  exact ⟨rfl, w1, hb, rfl⟩

theorem ClMap.lt {w : World} {b n : Nat} {l : List Int} (h : ClMap w b n l) : b < w.heap.size := World.ownsMap.lt h

theorem ClMap.only {w w' : World} {b n : Nat} {l : List Int} {F : Foot} (h : ClMap w b n l) (hO : Only F w w') (hF : ¬ F b) : ClMap w' b n l := by
  have hlt := h.lt
  obtain ⟨es, clock, h1, G, hs, hD⟩ := h
  exact ⟨es, clock, (hO.block b hlt hF).trans h1, G, hs, hD⟩
theorem nthS_stop (l : List Int) (x : Int) {k : Nat} (h : isB (nthS l k x) = false) : ∀ j, k ≤ j → nthS l j x = nthS l k x := by
  intro j
  induction j with
  | zero =>
    intro hj
    obtain rfl : k = 0 := by omega
    rfl
  | succ j ih =>
    intro hj
    by_cases hk : k = j + 1
    · rw [hk]
    · have := ih (by omega)
      show (if isB (nthS l j x) = true then fromS l (nthS l j x + 1) else nthS l j x) = _
      rw [this, if_neg (by rw [h]; simp)]
/-- What holds behind the step. -/
def AddI (w wx : World) (bM k b9 b10 : Nat) (l : List Int) (p : Int × Int) : Prop := Blk wx b9 3 #[.int .i64 p.1] ∧ Blk wx b10 48 #[.int .i64 p.2] ∧ ClMap wx bM k l ∧ Below w.heap.size w wx

set_option maxRecDepth 100000 in
set_option maxHeartbeats 4000000 in
theorem add_yes (w : World) (B : Nat) (A : Option Addr) (l : List Int) (c : Nat) (hA : IntsAt w B A l) (hB : B ≤ w.heap.size) (hl : l.length ≤ 1000) (hw : ∀ x ∈ l, wf64 x) (y m d n u : Int) (hv : Vd y m d) (hn : num y m d ≤ 1000000)
    (h1 : 1 ≤ u) (h2 : u ≤ 5) (h3 : 0 ≤ n) (h4 : n ≤ 1000000) :
    Calls Tryz.prog 39 #[.int .i64 (num y m d), .agg #[.int .i64 n, .int .i64 u], .slice A l.length c] w fun e w' =>
      e = .returned (.tuple #[.int .i64 (endS l (stepS l (num y m d) n u y m d)).1, .int .i64 (endS l (stepS l (num y m d) n u y m d)).2]) ∧ Below w.heap.size w w' := by
  have hnum := num_in hv
  have hb0 := beg_mono hv.1
  rw [beg_0] at hb0
  have hI : isB (num y m d) = true := (isB_iff _).2 ⟨by omega, hn⟩
  have hn0 : 0 ≤ num y m d := by omega
  have HD := Lib.hid hI
  have hbb : Below w.heap.size w ((w.alloc (.cells #[.int .i64 (num y m d)] 3)).alloc (.cells #[.int .i64 n, .int .i64 u] 63)) := ((Below.refl _ _).alloc (Nat.le_refl _) _).alloc (by simp) _
  have hA2 := hA.below (hbb.mono hB)
  clear hI hnum hb0
  go_enter Tryz.func39, Tryz.ntmps39
  go_wp2_with fail
  refine (is_any _ _).mono ?_
  rintro e w1 ⟨rfl, rfl⟩
  rw [HD.out]
  go_wp2_with fail
  refine (closed_any _ B A l c hA2 (by simp; omega) (by omega) hw).mono ?_
  rintro e w1 ⟨rfl, hm, hb⟩
  have hd1 : Blk w1 w.heap.size 3 #[.int .i64 (num y m d)] := ((Blk.new w 3 #[.int .i64 (num y m d)]).alloc _).below hb (by simp; omega)
  have ht1 : Blk w1 (w.heap.size + 1) 63 #[.int .i64 n, .int .i64 u] := (Blk.new1 w _ 63 #[.int .i64 n, .int .i64 u]).below hb (by simp)
  have hbw : Below w.heap.size w w1 := hbb.trans (hb.mono (by simp; omega))
  have hbs : w.heap.size + 2 < w1.heap.size := by
    have := ClMap.lt hm
    simpa using this
  have hm' : ClMap w1 (w.heap.size + 1 + 1) l.length l := by simpa using hm
  clear hbb hA2 hA hb hm
  have hlD : w.heap.size < w1.heap.size := hd1.lt
  have hlT : w.heap.size + 1 < w1.heap.size := ht1.lt
  have hlM : w.heap.size + 1 + 1 < w1.heap.size := hm'.lt
  clear hbs
  obtain ⟨d0, -, -⟩ := hd1.all
  obtain ⟨t0, -, -⟩ := ht1.all
  have h9 := (Blk.new w1 3 #[.int .i64 (num y m d)]).alloc (.cells #[.int .i64 0] 48)
  have h10 := Blk.new1 w1 (.cells #[.int .i64 (num y m d)] 3) 48 #[.int .i64 0]
  have hdX := (hd1.alloc (.cells #[.int .i64 (num y m d)] 3)).alloc (.cells #[.int .i64 0] 48)
  have htX := (ht1.alloc (.cells #[.int .i64 (num y m d)] 3)).alloc (.cells #[.int .i64 0] 48)
  have hwX := (hbw.alloc hbw.size (.cells #[.int .i64 (num y m d)] 3)).alloc (by have := hbw.size; simp; omega) (.cells #[.int .i64 0] 48)
  have hmX : ClMap ((w1.alloc (.cells #[.int .i64 (num y m d)] 3)).alloc (.cells #[.int .i64 0] 48)) (w.heap.size + 1 + 1) l.length l := hm'.below (((Below.refl w1.heap.size w1).alloc (Nat.le_refl _) _).alloc (by simp) _) hlM
  go_upto_block 1 with fail
  generalize (w1.alloc (.cells #[.int .i64 (num y m d)] 3)).alloc (.cells #[.int .i64 0] 48) = w2 at *
  have hs2 : w.heap.size ≤ w1.heap.size := hbw.size
  clear hbw hm' hd1 ht1 d0 t0
  generalize w.heap.size + 1 + 1 = bM at *
  generalize w.heap.size + 1 = bT at *
  have hlM9 : bM ≠ w1.heap.size := by omega
  have hlM10 : bM ≠ w1.heap.size + 1 := by omega
  generalize w1.heap.size = b9 at *
  generalize hb10 : b9 + 1 = b10 at *
  have hne : b9 ≠ b10 := by omega
  have hb10w : w.heap.size ≤ b10 := by omega
  clear hb10
  obtain ⟨d0, -, d2⟩ := hdX.all
  obtain ⟨t0, -, t2⟩ := htX.all
  obtain ⟨e0, e1, e2⟩ := h9.all
  obtain ⟨f0, f1, f2⟩ := h10.all
  have hb9w : w.heap.size ≤ b9 := by omega
  go_cut [12] (fun v wx => AddI w wx bM l.length b9 b10 l (stepS l (num y m d) n u y m d))
  case first =>
    have O9 : ∀ v, Only (fun i => i = b9) w2 (w2.setCell ⟨b9, 0, none⟩ v) := fun v => (Only.refl (fun i => i = b9) w2).setCell (p := ⟨b9, 0, none⟩) (.inl rfl) v
    by_cases u1 : u = 1
    · subst u1
      go_wp2
      go_meet
      refine ⟨?_, ?_, ?_, ?_⟩
      · simpa [stepS] using h9.set_ 0 (.int .i64 (num y m d + n))
      · exact h10.far (p := ⟨b9, 0, none⟩) hne.symm _
      · exact hmX.only (O9 _) hlM9
      · exact hwX.setCell (p := ⟨b9, 0, none⟩) hb9w _
    · by_cases u2' : u = 2
      · subst u2'
        go_wp2
        go_meet
        refine ⟨?_, ?_, ?_, ?_⟩
        · simpa [stepS] using h9.set_ 0 (.int .i64 (num y m d + 7 * n))
        · exact h10.far (p := ⟨b9, 0, none⟩) hne.symm _
        · exact hmX.only (O9 _) hlM9
        · exact hwX.setCell (p := ⟨b9, 0, none⟩) hb9w _
      · have hmon : ∀ (q : Int) (w3 : World), Below w2.heap.size w2 w3 → AddI w ((w3.setCell ⟨b9, 0, none⟩ (.int .i64 (monS y m d q).1)).setCell ⟨b10, 0, none⟩ (.int .i64 (monS y m d q).2)) bM l.length b9 b10 l (monS y m d q) := fun q w3 hb3 => by
          have hO : Only (fun i => i = b9 ∨ i = b10) w3 ((w3.setCell ⟨b9, 0, none⟩ (.int .i64 (monS y m d q).1)).setCell ⟨b10, 0, none⟩ (.int .i64 (monS y m d q).2)) := ((Only.refl (fun i => i = b9 ∨ i = b10) w3).setCell (p := ⟨b9, 0, none⟩) (.inl (.inl rfl)) _).setCell (p := ⟨b10, 0, none⟩) (.inl (.inr rfl)) _
          refine ⟨?_, ?_, ?_, ?_⟩
          · have := ((h9.below hb3 e2).set_ 0 (.int .i64 (monS y m d q).1)).far (p := ⟨b10, 0, none⟩) hne (.int .i64 (monS y m d q).2)
            simpa using this
          · have := ((h10.below hb3 f2).far (p := ⟨b9, 0, none⟩) hne.symm (.int .i64 (monS y m d q).1)).set_ 0 (.int .i64 (monS y m d q).2)
            simpa using this
          · exact (hmX.below hb3 hmX.lt).only hO (by rintro (e | e); exact hlM9 e; exact hlM10 e)
          · exact ((hwX.trans (hb3.mono hwX.size)).setCell (p := ⟨b9, 0, none⟩) hb9w _).setCell (p := ⟨b10, 0, none⟩) hb10w _
        have HM := Lib.hid hmon
        clear hmon
        by_cases u3 : u = 3
        · subst u3
          go_wp2_with fail
          refine (later_any w2 y m d n hv hn h3 (by omega) _ _ _ (d0 0) _ _ h9 h10).mono ?_
          rintro e wz ⟨rfl, w3, hb3, rfl⟩
          have HZ := Lib.hid (HM.out n w3 hb3)
          generalize (w3.setCell ⟨b9, 0, none⟩ (.int .i64 (monS y m d n).1)).setCell ⟨b10, 0, none⟩ (.int .i64 (monS y m d n).2) = wz at *
          go_wp2
          go_meet
          simpa [stepS] using HZ.out
        · by_cases u4 : u = 4
          · subst u4
            go_wp2_with fail
            refine (later_any w2 y m d (12 * n) hv hn (by omega) (by omega) _ _ _ (d0 0) _ _ h9 h10).mono ?_
            rintro e wz ⟨rfl, w3, hb3, rfl⟩
            have HZ := Lib.hid (HM.out (12 * n) w3 hb3)
            generalize (w3.setCell ⟨b9, 0, none⟩ (.int .i64 (monS y m d (12 * n)).1)).setCell ⟨b10, 0, none⟩ (.int .i64 (monS y m d (12 * n)).2) = wz at *
            go_wp2
            go_meet
            simpa [stepS] using HZ.out
          · have u5 : u = 5 := by omega
            obtain ⟨N, rfl⟩ := Int.eq_ofNat_of_zero_le h3
            have hS := Lib.hid (show stepS l (num y m d) (N : Int) u y m d = (nthS l N (num y m d), 0) by unfold stepS; rw [if_neg u1, if_neg u2', if_neg u3, if_neg u4]; rfl)
            have ub1 : (u == 1) = false := by simpa using u1
            have ub2 : (u == 2) = false := by simpa using u2'
            have ub3 : (u == 3) = false := by simpa using u3
            have ub4 : (u == 4) = false := by simpa using u4
            have ub5 : (u == 5) = true := by simpa using u5
            clear u5
            clear HM u1 u2' u3 u4 e0 e1 e2 f0 f1 f2
            go_wp2_with fail
            go_loopw [12] (fun v wr => ∃ k : Nat, k ≤ N ∧ v = .int .i64 (k : Int) ∧ Blk wr b9 3 #[.int .i64 (nthS l k (num y m d))] ∧ Blk wr b10 48 #[.int .i64 0] ∧ Blk wr bT 63 #[.int .i64 (N : Int), .int .i64 u] ∧ ClMap wr bM l.length l ∧ Below w.heap.size w wr) (fun v _ => N - (intOf v).toNat)
            case atStart => exact ⟨0, Nat.zero_le _, rfl, h9, h10, htX, hmX, hwX⟩
            case round =>
              clear h9 h10 htX hmX hwX d0 t0 d2 t2 hdX O9
              obtain ⟨k, hk, rfl, h9, h10, htX, hmX, hwX⟩ := hrel
              obtain ⟨t0, -, t2⟩ := htX.all
              obtain ⟨e0, e1, e2⟩ := h9.all
              by_cases hlt : k < N
              · have hsucc := Lib.hid (show nthS l (k + 1) (num y m d) = if isB (nthS l k (num y m d)) = true then fromS l (nthS l k (num y m d) + 1) else nthS l k (num y m d) from rfl)
                have hstop := Lib.hid (fun h : isB (nthS l k (num y m d)) = false => nthS_stop l (num y m d) h N (by omega))
                generalize nthS l k (num y m d) = x at *
                cases hi : isB x with
                | true =>
                  have hxb := (isB_iff x).1 hi
                  have HI := Lib.hid hi
                  clear hi
                  go_wp2_with fail
                  refine (is_any _ x).mono ?_
                  rintro e wy ⟨rfl, rfl⟩
                  rw [HI.out]
                  go_wp2_with fail
                  refine (from_any _ _ _ l hmX (x + 1)).mono ?_
                  rintro e wy ⟨rfl, rfl⟩
                  have O9 := (Only.refl (fun i => i = b9) wr).setCell (p := ⟨b9, 0, none⟩) (.inl rfl) (.int .i64 (fromS l (x + 1)))
                  have h9' : Blk (wr.setCell ⟨b9, 0, none⟩ (.int .i64 (fromS l (x + 1)))) b9 3 #[.int .i64 (fromS l (x + 1))] := by simpa using h9.set_ 0 (.int .i64 (fromS l (x + 1)))
                  have h10' := h10.far (p := ⟨b9, 0, none⟩) hne.symm (.int .i64 (fromS l (x + 1)))
                  have htX' := htX.far (p := ⟨b9, 0, none⟩) (by show bT ≠ b9; omega) (.int .i64 (fromS l (x + 1)))
                  have hmX' := hmX.only O9 hlM9
                  have hwX' := hwX.setCell (p := ⟨b9, 0, none⟩) hb9w (.int .i64 (fromS l (x + 1)))
                  clear h9 h10 htX hmX hwX t0
                  go_wp2
                  go_roundw
                  case rel => exact ⟨k + 1, by omega, by go_num, by rw [hsucc.out, if_pos HI.out]; exact h9', h10', htX', hmX', hwX'⟩
                  case measure => simp [intOf]; omega
                | false =>
                  have HN := Lib.hid (hstop.out hi)
                  have HI := Lib.hid hi
                  clear hi
                  go_wp2_with fail
                  refine (is_any _ x).mono ?_
                  rintro e wy ⟨rfl, rfl⟩
                  rw [HI.out]
                  go_wp2
                  go_meet
                  exact ⟨by rw [hS.out, HN.out]; exact h9, by rw [hS.out]; exact h10, hmX, hwX⟩
              · obtain rfl : N = k := by omega
                go_wp2
                go_meet
                exact ⟨by rw [hS.out]; exact h9, by rw [hS.out]; exact h10, hmX, hwX⟩
  case rest =>
    obtain ⟨h9', h10', hmX', hwX'⟩ := hcut
    clear h9 h10 htX hmX hwX d0 d2 t0 t2 e0 e1 e2 f0 f1 f2 hdX hw hv
    obtain ⟨p, hp⟩ : ∃ p, stepS l (num y m d) n u y m d = p := ⟨_, rfl⟩
    rw [hp] at h9' h10'
    have HP := Lib.hid hp
    clear hp
    obtain ⟨e1, er⟩ := p
    simp only at h9' h10'
    obtain ⟨a0, a1, a2⟩ := h9'.all
    obtain ⟨b0, b1, b2⟩ := h10'.all
    by_cases her : er = 0
    · subst her
      cases hi : isB e1 with
      | false =>
        have HI := Lib.hid hi
        have HE := Lib.hid (show endS l (e1, 0) = (0, 10) by unfold endS; rw [if_neg]; rintro ⟨-, c⟩; simp only at c; rw [hi] at c; cases c)
        clear hi
        go_wp2_with fail
        refine (is_any _ e1).mono ?_
        rintro e wy ⟨rfl, rfl⟩
        rw [HI.out]
        go_wp2
        go_ret2
        exact ⟨by rw [HP.out, HE.out]; rfl, hwX'⟩
      | true =>
        have HI := Lib.hid hi
        have hE : endS l (e1, 0) = if isB (fromS l e1) = true then (fromS l e1, 0) else (0, 10) := by unfold endS; rw [if_pos ⟨rfl, hi⟩]
        have HE := Lib.hid hE
        clear hi hE
        have hwY := hwX'.setCell (p := ⟨b9, 0, none⟩) hb9w (.int .i64 (fromS l e1))
        go_wp2_with fail
        refine (is_any _ e1).mono ?_
        rintro e wy ⟨rfl, rfl⟩
        rw [HI.out]
        go_wp2_with fail
        refine (from_any _ _ _ l hmX' e1).mono ?_
        rintro e wy ⟨rfl, rfl⟩
        cases hi : isB (fromS l e1) with
        | false =>
          have HI2 := Lib.hid hi
          have HE2 := Lib.hid (show endS l (e1, 0) = (0, 10) by rw [HE.out, hi]; rfl)
          clear hi
          generalize fromS l e1 = f at *
          go_wp2_with fail
          refine (is_any _ f).mono ?_
          rintro e wy ⟨rfl, rfl⟩
          rw [HI2.out]
          go_wp2
          go_ret2
          exact ⟨by rw [HP.out, HE2.out]; rfl, hwY⟩
        | true =>
          have HI2 := Lib.hid hi
          have HE2 := Lib.hid (show endS l (e1, 0) = (fromS l e1, 0) by rw [HE.out, hi]; rfl)
          clear hi
          generalize fromS l e1 = f at *
          go_wp2_with fail
          refine (is_any _ f).mono ?_
          rintro e wy ⟨rfl, rfl⟩
          rw [HI2.out]
          go_wp2
          go_ret2
          exact ⟨by rw [HP.out, HE2.out]; rfl, hwY⟩
    · have hb : (er != 0) = true := by simpa using her
      have HE := Lib.hid (show endS l (e1, er) = (0, 10) by unfold endS; rw [if_neg]; rintro ⟨c, -⟩; exact her c)
      clear her
      go_wp2
      go_ret2
      exact ⟨by rw [HP.out, HE.out]; rfl, hwX'⟩
end Go.Proofs.YtebdkmlganalaaaGreatDoor

namespace Go.Proofs.YtebdkmlganalaaaGreatDoor
open Go.RowKit

/-- The date of a day. -/
noncomputable def ymd (n : Int) : Int × Int × Int := by
  classical
  exact if h : ∃ p : Int × Int × Int, Vd p.1 p.2.1 p.2.2 ∧ num p.1 p.2.1 p.2.2 = n then h.choose else (0, 0, 0)
theorem ymd_num {y m d : Int} (h : Vd y m d) : ymd (num y m d) = (y, m, d) := by
  have hx : ∃ p : Int × Int × Int, Vd p.1 p.2.1 p.2.2 ∧ num p.1 p.2.1 p.2.2 = num y m d := ⟨(y, m, d), h, rfl⟩
  unfold ymd
  rw [dif_pos hx]
  obtain ⟨a, b⟩ := hx.choose_spec
  obtain ⟨c1, c2, c3⟩ := num_inj a h b
  exact Prod.ext c1 (Prod.ext c2 c3)
theorem ymd_of {n : Int} (h : isB n = true) : Vd (ymd n).1 (ymd n).2.1 (ymd n).2.2 ∧ num (ymd n).1 (ymd n).2.1 (ymd n).2.2 = n := by
  obtain ⟨h0, h1⟩ := (isB_iff n).1 h
  obtain ⟨y, m, d, hv, he, -⟩ := date_of h0 h1
  rw [← he, ymd_num hv]
  exact ⟨hv, rfl⟩

/-- What Date returns. -/
noncomputable def dateS (n : Int) : Int × Int × Int × Int := if isB n = true then ((ymd n).1, (ymd n).2.1, (ymd n).2.2, 0) else (0, 0, 0, 10)
theorem dateS_no {n : Int} (h : isB n = false) : dateS n = (0, 0, 0, 10) := by unfold dateS; rw [h]; rfl
theorem dateS_yes {n : Int} (h : isB n = true) : dateS n = ((ymd n).1, (ymd n).2.1, (ymd n).2.2, 0) := by unfold dateS; rw [h]; rfl
theorem date_any (w : World) (n : Int) : Calls Tryz.prog 108 #[.int .i64 n] w fun e w' => e = .returned (.tuple #[.int .i64 (dateS n).1, .int .i64 (dateS n).2.1, .int .i64 (dateS n).2.2.1, .int .i64 (dateS n).2.2.2]) ∧ Below w.heap.size w w' := by
  cases h : isB n with
  | false =>
    rw [dateS_no h]
    exact (date_no w n h).mono fun _ _ ⟨he, hw⟩ => ⟨he, hw ▸ Below.refl _ _⟩
  | true =>
    rw [dateS_yes h]
    obtain ⟨hv, he⟩ := ymd_of h
    have h1 := ((isB_iff n).1 h).2
    have := date_yes w _ _ _ hv (by rw [he]; exact h1)
    rw [he] at this
    exact this

/-- What Add returns. -/
noncomputable def addS (l : List Int) (day n u : Int) : Int × Int :=
  if isB day = false ∨ u < 1 ∨ 5 < u ∨ n < 0 ∨ 1000000 < n then (0, 1) else if 1000 < l.length then (0, 2) else endS l (stepS l day n u (ymd day).1 (ymd day).2.1 (ymd day).2.2)
theorem add_any (w : World) (B : Nat) (A : Option Addr) (l : List Int) (c : Nat) (hA : IntsAt w B A l) (hB : B ≤ w.heap.size) (hw : ∀ x ∈ l, wf64 x) (day n u : Int) :
    Calls Tryz.prog 39 #[.int .i64 day, .agg #[.int .i64 n, .int .i64 u], .slice A l.length c] w fun e w' =>
      e = .returned (.tuple #[.int .i64 (addS l day n u).1, .int .i64 (addS l day n u).2]) ∧ Below w.heap.size w w' := by
  unfold addS
  split
  · rename_i h
    exact add_bad w day n u A _ c h
  · rename_i h
    have hd : isB day = true := by
      cases hh : isB day
      · exact absurd (.inl hh) h
      · rfl
    split
    · rename_i h2
      exact add_many w day n u A _ c hd (by omega) (by omega) (by omega) (by omega) h2
    · rename_i h2
      obtain ⟨hv, he⟩ := ymd_of hd
      have h1 := ((isB_iff day).1 hd).2
      have := add_yes w B A l c hA hB (by omega) hw _ _ _ n u hv (by rw [he]; exact h1) (by omega) (by omega) (by omega) (by omega)
      rw [he] at this
      exact this

theorem IntsAt.nil (w : World) (B : Nat) : IntsAt w B none [] := fun i v hi => by simp at hi

theorem fromS_here {l : List Int} {x : Int} (h : opB l x = true) : fromS l x = x := by rw [fromS_eq, if_neg (by rw [h]; simp)]
theorem fromS_on {l : List Int} {x : Int} (h : isB x = true) (h2 : opB l x = false) : fromS l x = fromS l (x + 1) := by rw [fromS_eq, if_pos ⟨h, h2⟩]

theorem Below.then {a b c : World} (h : Below a.heap.size a b) (k : Below b.heap.size b c) : Below a.heap.size a c := h.trans (k.mono h.size)
end Go.Proofs.YtebdkmlganalaaaGreatDoor
