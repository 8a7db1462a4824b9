/- The reference's Text and Parse. -/
import Derived.Test.YtfblngdmeliabaaDoorPr
namespace Go.Proofs.YtfblngdmeliabaaDoor
open Go.RowKit Go.Shelf

theorem rDate_no (w : World) (n : Int) (h : isB n = false) : Calls Tryd.prog 22 #[.int .i64 n] w fun e w' => e = .returned (.tuple #[.int .i64 0, .int .i64 0, .int .i64 0, .int .i64 10]) ∧ w = w' := by
  have hi := fun W => rIs_any W n
  rw [h] at hi
  have HI := Lib.hid hi
  clear hi h
  go_enter Tryd.func22, Tryd.ntmps22
  go_wp2_with fail
  refine (HI.out _).mono ?_
  rintro e w1 ⟨rfl, rfl⟩
  go_wp2
  refine bodyPost_ret (v := .tuple #[.int .i64 0, .int .i64 0, .int .i64 0, .int .i64 10]) (by simp [results, Tryd.results22, go_sem]) rfl ⟨rfl, rfl⟩
theorem rDate_any (w : World) (n : Int) : Calls Tryd.prog 22 #[.int .i64 n] w fun e w' => e = .returned (.tuple #[.int .i64 (dateS n).1, .int .i64 (dateS n).2.1, .int .i64 (dateS n).2.2.1, .int .i64 (dateS n).2.2.2]) ∧ Below w.heap.size w w' := by
  cases h : isB n with
  | false => rw [dateS_no h]; exact (rDate_no w n h).mono fun _ _ ⟨he, hw⟩ => ⟨he, hw ▸ Below.refl _ _⟩
  | true =>
    obtain ⟨hv, he⟩ := ymd_of h
    have h1 := ((isB_iff n).1 h).2
    have := rDate_yes w _ _ _ hv (by rw [he]; exact h1)
    rw [dateS_yes h]
    rw [he] at this
    exact this

theorem digS_text {y m d : Int} (h1 : 1000 ≤ y) (h2 : y ≤ 9999) (hm : 0 ≤ m) (hm2 : m < 100) (hd : 0 ≤ d) (hd2 : d < 100) :
    digS 4 y.toNat ++ ⟨#[45]⟩ ++ digS 2 m.toNat ++ ⟨#[45]⟩ ++ digS 2 d.toNat = textB y m d := by
  apply ByteArray.ext
  apply Array.ext'
  rw [textB_list h1 h2 hm hd]
  simp only [ByteArray.data_append, Array.toList_append]
  show lastD 4 y.toNat ++ [45] ++ lastD 2 m.toNat ++ [45] ++ lastD 2 d.toNat = _
  simp only [lastD_front, lastD, textL]
  have e1 : y.toNat / 10 ^ 3 % 10 = y.toNat / 1000 := by omega
  have e2 : m.toNat / 10 ^ 1 % 10 = m.toNat / 10 := by omega
  have e3 : d.toNat / 10 ^ 1 % 10 = d.toNat / 10 := by omega
  simp [e1, e2, e3]
  exact ⟨congrArg c8 (by omega), congrArg c8 (by omega)⟩

set_option maxRecDepth 100000 in
theorem rText_any (w : World) (n : Int) : Calls Tryd.prog 27 #[.int .i64 n] w fun e w' => e = .returned (.string (textS n)) ∧ Below w.heap.size w w' := by
  cases h : isB n with
  | false =>
    rw [textS_bad h]
    have hd := fun W => rDate_no W n h
    have HD := Lib.hid hd
    clear hd h
    go_enter Tryd.func27, Tryd.ntmps27
    go_wp2_with fail
    refine (HD.out _).mono ?_
    rintro e w1 ⟨rfl, rfl⟩
    go_wp2
    go_ret
    exact ⟨rfl, Below.refl _ _⟩
  | true =>
    obtain ⟨hv, he⟩ := ymd_of h
    have h1 := ((isB_iff n).1 h).2
    have hd := fun W => rDate_yes W _ _ _ hv (by rw [he]; exact h1)
    rw [he] at hd
    have et : textS n = textB (ymd n).1 (ymd n).2.1 (ymd n).2.2 := by unfold textS; rw [h]; rfl
    generalize (ymd n).1 = y at *
    generalize (ymd n).2.1 = m at *
    generalize (ymd n).2.2 = d at *
    obtain ⟨y1, y2, m1, m2, d1, d2⟩ := hv
    have hmb := (ml_bd y m).2
    have hs := digS_text (y := y) (m := m) (d := d) (by omega) y2 (by omega) (by omega) (by omega) (by omega)
    rw [et, ← hs]
    have cy := fun W => digits_any W y.toNat 4 (by omega) (by omega)
    have cm := fun W => digits_any W m.toNat 2 (by omega) (by omega)
    have cd := fun W => digits_any W d.toNat 2 (by omega) (by omega)
    rw [Int.toNat_of_nonneg (by omega)] at cy cm cd
    have s1 := digS_size 4 y.toNat
    have s2 := digS_size 2 m.toNat
    have s3 := digS_size 2 d.toNat
    generalize digS 4 y.toNat = S1 at *
    generalize digS 2 m.toNat = S2 at *
    generalize digS 2 d.toNat = S3 at *
    have e1 : (S1 ++ ⟨#[45]⟩ : ByteArray).size = 5 := by rw [ByteArray.size_append, s1]; rfl
    have e2 : (S1 ++ ⟨#[45]⟩ ++ S2 : ByteArray).size = 7 := by rw [ByteArray.size_append, e1, s2]
    have e3 : (S1 ++ ⟨#[45]⟩ ++ S2 ++ ⟨#[45]⟩ : ByteArray).size = 8 := by rw [ByteArray.size_append, e2]; rfl
    have a1 : ∀ W : World, (Op.stringOp .add S1 ⟨#[45]⟩).run Tryd.prog W = .ok (.string (S1 ++ ⟨#[45]⟩)) W := fun W => run_string_add_sum W _ _ (by rw [s1]; decide)
    have a2 : ∀ W : World, (Op.stringOp .add (S1 ++ ⟨#[45]⟩) S2).run Tryd.prog W = .ok (.string (S1 ++ ⟨#[45]⟩ ++ S2)) W := fun W => run_string_add_sum W _ _ (by rw [e1, s2]; decide)
    have a3 : ∀ W : World, (Op.stringOp .add (S1 ++ ⟨#[45]⟩ ++ S2) ⟨#[45]⟩).run Tryd.prog W = .ok (.string (S1 ++ ⟨#[45]⟩ ++ S2 ++ ⟨#[45]⟩)) W := fun W => run_string_add_sum W _ _ (by rw [e2]; decide)
    have a4 : ∀ W : World, (Op.stringOp .add (S1 ++ ⟨#[45]⟩ ++ S2 ++ ⟨#[45]⟩) S3).run Tryd.prog W = .ok (.string (S1 ++ ⟨#[45]⟩ ++ S2 ++ ⟨#[45]⟩ ++ S3)) W := fun W => run_string_add_sum W _ _ (by rw [e3, s3]; decide)
    have HD := Lib.hid hd
    have CY := Lib.hid cy
    have CM := Lib.hid cm
    have CD := Lib.hid cd
    clear hd h he et hs s1 s2 s3 e1 e2 e3 y1 y2 m1 m2 d1 d2 hmb h1 cy cm cd
    go_enter Tryd.func27, Tryd.ntmps27
    go_wp2_with fail
    refine (HD.out _).mono ?_
    rintro e w1 ⟨rfl, b⟩
    go_wp2_with fail
    refine (CY.out _).mono ?_
    rintro e w2 ⟨rfl, rfl⟩
    go_wp2_with fail
    refine (CM.out _).mono ?_
    rintro e w2 ⟨rfl, rfl⟩
    go_wp2_with fail
    refine (CD.out _).mono ?_
    rintro e w2 ⟨rfl, rfl⟩
    go_wp2
    go_ret
    exact ⟨rfl, b⟩

/-! Parse. -/
/-- The digits read so far. -/
def fil10 (l : List UInt8) (k : Nat) : Array Value := ((List.range 10).map fun i => if i < k then Value.int .i64 (vl (l.getD i 0)) else Value.int .i64 0).toArray
theorem fil10_set (l : List UInt8) {k : Nat} {b : UInt8} (hb : l[k]? = some b) (h : k < 10) : (fil10 l k).setIfInBounds k (.int .i64 (vl b)) = fil10 l (k + 1) := by
  have e : vl b = vl (l.getD k 0) := by rw [List.getD_eq_getElem?_getD, hb]; rfl
  rw [e]
  unfold fil10
  rw [List.setIfInBounds_toArray]
  congr 1
  apply List.ext_getElem?
  intro i
  rw [List.getElem?_set]
  by_cases hi : k = i
  · subst hi
    simp [h]
  · rw [if_neg hi]
    by_cases h10 : i < 10
    · simp only [List.getElem?_map, List.getElem?_range h10, Option.map_some]
      congr 1
      by_cases hk : i < k
      · rw [if_pos hk, if_pos (by omega)]
      · rw [if_neg hk, if_neg (by omega)]
    · simp [h10]
theorem goodK_step {l : List UInt8} {k : Nat} {b : UInt8} (h : goodK l k) (hb : l[k]? = some b) (ho : okB k b = true) : goodK l (k + 1) := fun i c hi hc => by
  rcases Nat.lt_or_ge i k with h1 | h1
  · exact h i c h1 hc
  · obtain rfl : i = k := by omega
    rw [hb] at hc
    injection hc with hc
    rw [← hc]; exact ho
theorem goodK_not {l : List UInt8} {k : Nat} {b : UInt8} (hk : k < 10) (hb : l[k]? = some b) (ho : okB k b = false) : parseL l = (0, 5) := parseL_no fun h => by
  have := h.2 k b hk hb
  rw [ho] at this
  cases this
theorem fil10_10 (l : List UInt8) : fil10 l 10 = #[.int .i64 (vl (l.getD 0 0)), .int .i64 (vl (l.getD 1 0)), .int .i64 (vl (l.getD 2 0)), .int .i64 (vl (l.getD 3 0)), .int .i64 (vl (l.getD 4 0)), .int .i64 (vl (l.getD 5 0)), .int .i64 (vl (l.getD 6 0)), .int .i64 (vl (l.getD 7 0)), .int .i64 (vl (l.getD 8 0)), .int .i64 (vl (l.getD 9 0))] := rfl
theorem vl_bd (b : UInt8) : -48 ≤ vl b ∧ vl b ≤ 207 := by
  have := b.toNat_lt
  unfold vl; omega
theorem fil10_len (l : List UInt8) (k : Nat) : (fil10 l k).size = 10 := by simp [fil10]

set_option maxRecDepth 100000 in
set_option maxHeartbeats 4000000 in
theorem rParse_any (w : World) (t : ByteArray) (_ht : t.size ≤ 40) : Calls Tryd.prog 24 #[.string t] w fun e w' =>
    e = .returned (.tuple #[.int .i64 (parseL t.data.toList).1, .int .i64 (parseL t.data.toList).2]) ∧ Below w.heap.size w w' := by
  have hz := sizes_of t
  obtain ⟨r, hr⟩ : ∃ r, parseL t.data.toList = r := ⟨_, rfl⟩
  rw [hr]
  by_cases h10 : t.size = 10
  case neg =>
    have hp : parseL t.data.toList = (0, 5) := parseL_no (fun h => h10 (hz.symm.trans h.1))
    obtain rfl : r = (0, 5) := hr.symm.trans hp
    have b1 : ((t.size : Int) != 10) = true := neq_i (by omega)
    have b2 : ((t.size : Int) == 10) = false := eq_i (by omega)
    clear hp h10 hz hr
    go_enter Tryd.func24, Tryd.ntmps24
    go_wp2
    go_ret2
    exact ⟨rfl, Below.refl _ _⟩
  have b1 : ((t.size : Int) != 10) = false := by rw [h10]; rfl
  have b2 : ((t.size : Int) == 10) = true := by rw [h10]; rfl
  have HZ := Lib.hid hz
  have H10 := Lib.hid h10
  have HR := Lib.hid hr
  clear hz h10 hr
  go_enter Tryd.func24, Tryd.ntmps24
  have g0 : Blk (w.alloc (.cells #[.int .i64 0, .int .i64 0, .int .i64 0, .int .i64 0, .int .i64 0, .int .i64 0, .int .i64 0, .int .i64 0, .int .i64 0, .int .i64 0] 70)) w.heap.size 70 (fil10 t.data.toList 0) := Blk.new w 70 _
  have hb0 := (Below.refl w.heap.size w).alloc (Nat.le_refl _) (.cells #[.int .i64 0, .int .i64 0, .int .i64 0, .int .i64 0, .int .i64 0, .int .i64 0, .int .i64 0, .int .i64 0, .int .i64 0, .int .i64 0] 70)
  go_upto_block 0 with fail
  generalize w.alloc (.cells #[.int .i64 0, .int .i64 0, .int .i64 0, .int .i64 0, .int .i64 0, .int .i64 0, .int .i64 0, .int .i64 0, .int .i64 0, .int .i64 0] 70) = w2 at *
  go_wp2_with fail
  go_loopw [5] (fun i wr => ∃ k : Nat, k ≤ 10 ∧ i = .int .i64 (k : Int) ∧ Hid (goodK t.data.toList k) ∧ Blk wr w.heap.size 70 (fil10 t.data.toList k) ∧ Below w.heap.size w wr) (fun i _ => 10 - (intOf i).toNat)
  case atStart => exact ⟨0, by omega, rfl, Lib.hid (fun i b hi => absurd hi (by omega)), g0, hb0⟩
  case round =>
    clear g0 hb0
    obtain ⟨k, hk, rfl, HG, g0, hb0⟩ := hrel
    by_cases hlt : k < 10
    · obtain ⟨c, hc⟩ : ∃ c, t.data.toList[k]? = some c := ⟨_, List.getElem?_eq_getElem (by rw [HZ.out, H10.out]; exact hlt)⟩
      have hks : k < t.size := by rw [H10.out]; exact hlt
      have hget : t[k] = c := by
        obtain ⟨h1, h2⟩ := List.getElem?_eq_some_iff.1 hc
        rw [← h2]
        rfl
      have HC := Lib.hid hc
      clear hc
      have h255 := c.toNat_lt
      have hkk : (0 : Int) ≤ (k : Int) := by omega
      cases ho : okB k c with
      | false =>
        obtain rfl : r = (0, 5) := HR.out.symm.trans (goodK_not hlt HC.out ho)
        unfold okB at ho
        by_cases h47 : k = 4 ∨ k = 7
        · rw [if_pos h47] at ho
          have e45 : ((c.toNat : Int) == 45) = false := by
            rw [beq_eq_false_iff_ne] at ho ⊢
            intro e; apply ho; rw [← UInt8.toNat_inj]; show c.toNat = 45; omega
          clear ho
          rcases h47 with rfl | rfl
          all_goals
            go_wp2
            go_ret2
            exact ⟨rfl, hb0⟩
        · rw [if_neg h47] at ho
          have n4 : ((k : Int) == 4) = false := eq_i (by omega)
          have n7 : ((k : Int) == 7) = false := eq_i (by omega)
          have m4 : ((k : Int) != 4) = true := neq_i (by omega)
          have m7 : ((k : Int) != 7) = true := neq_i (by omega)
          have hcl : c.toNat < 48 ∨ 57 < c.toNat := by
            rcases Classical.em (c.toNat < 48 ∨ 57 < c.toNat) with h | h
            · exact h
            · have := dgt_iff.2 (show 48 ≤ c.toNat ∧ c.toNat ≤ 57 by omega)
              rw [ho] at this; cases this
          clear ho h47
          by_cases h45 : c.toNat = 45
          · have e45 : ((c.toNat : Int) == 45) = true := by rw [h45]; rfl
            go_wp2
            go_ret2
            exact ⟨rfl, hb0⟩
          · have e45 : ((c.toNat : Int) == 45) = false := eq_i (by omega)
            rcases hcl with h | h
            · have d1 : decide ((c.toNat : Int) < 48) = true := decide_eq_true (by omega)
              go_wp2
              go_ret2
              exact ⟨rfl, hb0⟩
            · have d1 : decide ((c.toNat : Int) < 48) = false := decide_eq_false (by omega)
              have d2 : decide (57 < (c.toNat : Int)) = true := decide_eq_true (by omega)
              go_wp2
              go_ret2
              exact ⟨rfl, hb0⟩
      | true =>
        have HNX := Lib.hid (goodK_step HG.out HC.out ho)
        have hset := fil10_set t.data.toList HC.out hlt
        have hsz := fil10_len t.data.toList k
        have g1 := g0.set_ k (.int .i64 (vl c))
        rw [hset] at g1
        have hb1 := hb0.setCell (p := ⟨w.heap.size, k, none⟩) (Nat.le_refl _) (.int .i64 (vl c))
        have hvl : vl c = (c.toNat : Int) - 48 := rfl
        rw [hvl] at g1 hb1
        obtain ⟨c0, c1, c2⟩ := g0.all
        obtain ⟨v, hv⟩ : ∃ v, wr.cell? ⟨w.heap.size, k, none⟩ = some v := ⟨_, (c0 k).trans (Array.getElem?_eq_getElem (by omega))⟩
        clear c0 hsz hset hvl g0 hb0
        unfold okB at ho
        by_cases h47 : k = 4 ∨ k = 7
        · rw [if_pos h47] at ho
          have e45 : ((c.toNat : Int) == 45) = true := by
            rw [beq_iff_eq] at ho; subst ho; rfl
          clear ho
          rcases h47 with rfl | rfl
          all_goals
            go_wp2
            go_roundw
            case rel => exact ⟨_, by omega, by go_num, HNX, g1, hb1⟩
            case measure => simp [intOf]
        · rw [if_neg h47] at ho
          have n4 : ((k : Int) == 4) = false := eq_i (by omega)
          have n7 : ((k : Int) == 7) = false := eq_i (by omega)
          have m4 : ((k : Int) != 4) = true := neq_i (by omega)
          have m7 : ((k : Int) != 7) = true := neq_i (by omega)
          obtain ⟨q1, q2⟩ := dgt_iff.1 ho
          have e45 : ((c.toNat : Int) == 45) = false := eq_i (by omega)
          have d1 : decide ((c.toNat : Int) < 48) = false := decide_eq_false (by omega)
          have d2 : decide (57 < (c.toNat : Int)) = false := decide_eq_false (by omega)
          clear ho h47
          go_wp2
          go_roundw
          case rel => exact ⟨k + 1, by omega, by go_num, HNX, g1, hb1⟩
          case measure => simp [intOf]; omega
    · obtain rfl : k = 10 := by omega
      have hy := parseL_yes (HZ.out.trans H10.out) HG.out
      rw [HR.out] at hy
      have g3 := g0
      rw [fil10_10] at g3
      obtain ⟨x0, x1, x2⟩ := g3.all
      clear g0 g3
      unfold yL mL dL at hy
      have q0 := vl_bd (t.data.toList.getD 0 0)
      have q1 := vl_bd (t.data.toList.getD 1 0)
      have q2 := vl_bd (t.data.toList.getD 2 0)
      have q3 := vl_bd (t.data.toList.getD 3 0)
      have q5 := vl_bd (t.data.toList.getD 5 0)
      have q6 := vl_bd (t.data.toList.getD 6 0)
      have q8 := vl_bd (t.data.toList.getD 8 0)
      have q9 := vl_bd (t.data.toList.getD 9 0)
      generalize vl (t.data.toList.getD 0 0) = v0 at *
      generalize vl (t.data.toList.getD 1 0) = v1 at *
      generalize vl (t.data.toList.getD 2 0) = v2 at *
      generalize vl (t.data.toList.getD 3 0) = v3 at *
      generalize vl (t.data.toList.getD 5 0) = v5 at *
      generalize vl (t.data.toList.getD 6 0) = v6 at *
      generalize vl (t.data.toList.getD 8 0) = v8 at *
      generalize vl (t.data.toList.getD 9 0) = v9 at *
      obtain ⟨q00, q01⟩ := q0
      obtain ⟨q10, q11⟩ := q1
      obtain ⟨q20, q21⟩ := q2
      obtain ⟨q30, q31⟩ := q3
      obtain ⟨q50, q51⟩ := q5
      obtain ⟨q60, q61⟩ := q6
      obtain ⟨q80, q81⟩ := q8
      obtain ⟨q90, q91⟩ := q9
      obtain ⟨a, bb, hd⟩ : ∃ a bb, dayS (1000 * v0 + 100 * v1 + 10 * v2 + v3) (10 * v5 + v6) (10 * v8 + v9) = (a, bb) := ⟨_, _, rfl⟩
      rw [hd] at hy
      unfold okP at hy
      simp only at hy
      have HD := Lib.hid hd
      have HYY := Lib.hid hy
      clear hd hy
      go_wp2_with fail
      have hc := rDay_any wr (1000 * v0 + 100 * v1 + 10 * v2 + v3) (10 * v5 + v6) (10 * v8 + v9)
      rw [HD.out] at hc
      refine hc.mono ?_
      rintro e w3 ⟨rfl, b⟩
      replace hb0 := hb0.trans (b.mono hb0.size)
      clear b x0 x1 x2 hc
      by_cases hz : bb = 0
      · subst hz
        obtain rfl : r = (a, 0) := HYY.out
        go_wp2
        go_ret2
        exact ⟨rfl, hb0⟩
      · have e1 : (bb == 0) = false := eq_i hz
        have e2 : (bb != 0) = true := neq_i hz
        obtain rfl : r = (0, 5) := by have := HYY.out; rw [if_neg hz] at this; exact this
        clear hz
        go_wp2
        go_ret2
        exact ⟨rfl, hb0⟩
end Go.Proofs.YtfblngdmeliabaaDoor
