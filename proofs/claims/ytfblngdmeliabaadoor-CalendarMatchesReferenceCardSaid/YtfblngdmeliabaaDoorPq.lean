/- What Parse of package calendar returns. -/
import Derived.Test.YtfblngdmeliabaaDoorPl
import Derived.Test.YtfblngdmeliabaaDoorPs
import Derived.Test.YtfblngdmeliabaaDoorPlan
import Derived.Lib.SmallJoins
import Derived.Lib.AtoiErrMem
import Derived.WalkSpells
namespace Go.Proofs.YtfblngdmeliabaaDoor
open Go.RowKit Go.Shelf

/-- internal/bytealg.MaxLen holds some int. -/
def MaxL (w : World) : Prop := ∃ m, w.cell? ⟨2, 0, none⟩ = some (.int .i64 m)
theorem MaxL.below {w w' : World} (h : MaxL w) (hb : Below w.heap.size w w') : MaxL w' := by
  obtain ⟨m, hm⟩ := h
  exact ⟨m, (hb.cell (World.block_lt_of_cell? _ _ hm)).trans hm⟩

theorem dig_pred (w : World) : PredAt Tryd.prog 44 #[] encR notDigit w := fun W r _ => by
  unfold FnGives
  by_cases h1 : r < 48 <;> by_cases h2 : 57 < r
  all_goals
    have z1 : (r : Int) < 48 ↔ r < 48 := by omega
    have z2 : (57 : Int) < (r : Int) ↔ 57 < r := by omega
    go_enter Tryd.func44, Tryd.ntmps44
    go_wp2
    all_goals first | (exfalso; omega) | (go_ret; exact ⟨by simp [notDigit, h1, h2], 0, rfl⟩)
theorem dig_enters : ∀ args w, (callFunc 44 args).run Tryd.prog w = .ok (.enter 44 args) w := enters_of Tryd.func44 (by kernel_rfl) rfl
theorem contains_any (w : World) (s : ByteArray) : Calls Tryd.prog 43 #[.string s, .func (.func 44) #[] #[]] w fun e w' => e = .returned (.bool (!allD s.data.toList)) ∧ Below w.heap.size w w' := by
  have := shf_strings_ContainsFunc 44 #[] dig_enters notDigit s w (dig_pred w)
  rw [idx_dig] at this
  exact this
theorem atoi_any (w : World) (s : ByteArray) (n : Int) (hl : s.size ≤ 18) (h : Lib.atoi s.data.toList = some n) : Calls Tryd.prog 45 #[.string s] w fun e w' => e = .returned (.tuple #[.int .i64 n, .nilIface]) ∧ Below w.heap.size w w' :=
  (shf_strconv_Atoi s n hl h w).mono fun _ _ ⟨he, _, hw⟩ => ⟨he, hw ▸ Go.Joins.below_bytesWorld _ _ _ _ (Nat.le_refl _)⟩

/-- The numbers read so far. -/
def fil3 (a b c : Int) : Nat → Array Value
  | 0 => #[.int .i64 0, .int .i64 0, .int .i64 0]
  | 1 => #[.int .i64 a, .int .i64 0, .int .i64 0]
  | 2 => #[.int .i64 a, .int .i64 b, .int .i64 0]
  | _ => #[.int .i64 a, .int .i64 b, .int .i64 c]

theorem sizes_of (s : ByteArray) : s.data.toList.length = s.size := by rw [Array.length_toList]; rfl
theorem neq_i {a b : Int} (h : a ≠ b) : (a != b) = true := by simpa using h
theorem eq_i {a b : Int} (h : a ≠ b) : (a == b) = false := by simpa using h

/-- The parts read so far are digits. -/
def OkD (p0 p1 p2 : List UInt8) (k : Nat) : Prop := (1 ≤ k → allD p0 = true) ∧ (2 ≤ k → allD p1 = true) ∧ (3 ≤ k → allD p2 = true)

set_option maxRecDepth 100000 in
set_option maxHeartbeats 4000000 in
theorem parse_any (w : World) (hm : MaxL w) (t : ByteArray) (ht : t.size ≤ 40) : Calls Tryd.prog 23 #[.string t] w fun e w' =>
    e = .returned (.tuple #[.int .i64 (parseL t.data.toList).1, .int .i64 (parseL t.data.toList).2]) ∧ Below w.heap.size w w' := by
  obtain ⟨m, hm⟩ := hm
  have hsp := shf_strings_Split t ⟨#[45]⟩ m w (by omega) hm (by decide)
  have hll := Lib.splitB_all ⟨#[45]⟩ (by decide) 0 _ t rfl
  have hdat := Lib.splitB_data ⟨#[45]⟩ 0 (Lib.countB t ⟨#[45]⟩) t
  have hcl : Lib.countB t ⟨#[45]⟩ ≤ t.size := Lib.countB_le _ (by decide) _ _ (Nat.le_refl _)
  have hcc : Lib.countB t ⟨#[45]⟩ = Lib.count t.data.toList [45] := rfl
  have hz := sizes_of t
  obtain ⟨n, hn⟩ : ∃ n, Lib.countB t ⟨#[45]⟩ = n := ⟨_, rfl⟩
  rw [hn] at hsp hll hdat hcc hcl
  obtain ⟨ps, hps⟩ : ∃ ps, Lib.splitB ⟨#[45]⟩ 0 n t = ps := ⟨_, rfl⟩
  rw [hps] at hsp hll hdat
  obtain ⟨k, hk⟩ : ∃ k, n + 1 = k := ⟨_, rfl⟩
  rw [hk] at hsp hll
  have HS := Lib.hid hsp
  have HL := Lib.hid hll
  have HD := Lib.hid hdat
  have HC := Lib.hid hcc
  have HZ := Lib.hid hz
  have HN := Lib.hid hn
  have HP := Lib.hid hps
  have HM := Lib.hid hm
  have kle : k ≤ 41 := by omega
  have HK := Lib.hid hk
  have hb := (Below.refl w.heap.size w).alloc (Nat.le_refl _) (.cells (ps.map Value.string).toArray 9)
  clear hsp hll hdat hcc hz hn hps hm hk hcl
  by_cases h10 : t.size = 10
  case neg =>
    have hp : parseL t.data.toList = (0, 5) := parseL_no (fun h => h10 (HZ.out.symm.trans h.1))
    have b1 : ((t.size : Int) != 10) = true := neq_i (by omega)
    have b2 : ((t.size : Int) == 10) = false := eq_i (by omega)
    rw [hp]
    clear hp h10
    go_enter Tryd.func23, Tryd.ntmps23
    go_wp2_with fail
    refine HS.out.mono ?_
    rintro e w1 ⟨rfl, rfl⟩
    go_wp2
    go_ret2
    exact ⟨rfl, hb⟩
  have H10 := Lib.hid h10
  have b1 : ((t.size : Int) != 10) = false := by rw [h10]; rfl
  have b2 : ((t.size : Int) == 10) = true := by rw [h10]; rfl
  clear h10
  by_cases h3 : k = 3
  case neg =>
    have hp : parseL t.data.toList = (0, 5) := parseL_no (fun h => h3 (by have := good_count h; have h1 := HC.out; have h2 := HK.out; omega))
    have b3 : ((k : Int) != 3) = true := neq_i (by omega)
    have b4 : ((k : Int) == 3) = false := eq_i (by omega)
    rw [hp]
    clear hp h3
    go_enter Tryd.func23, Tryd.ntmps23
    go_wp2_with fail
    refine HS.out.mono ?_
    rintro e w1 ⟨rfl, rfl⟩
    go_wp2
    go_ret2
    exact ⟨rfl, hb⟩
  subst h3
  obtain ⟨s0, s1, s2, rfl⟩ : ∃ s0 s1 s2, ps = [s0, s1, s2] := by
    have := HL.out
    match ps, this with
    | [a, b, c], _ => exact ⟨a, b, c, rfl⟩
  obtain ⟨p0, p1, p2, g0, g1, g2, hl, hsk⟩ := split3 (l := t.data.toList) (by have h1 := HC.out; have h2 := HK.out; omega)
  have hn2 : n = 2 := by have h2 := HK.out; omega
  have hd := HD.out
  rw [hn2, hsk] at hd
  simp only [List.map_cons, List.map_nil, List.cons.injEq, and_true] at hd
  obtain ⟨d0, d1, d2⟩ := hd
  have z0 := sizes_of s0
  have z1 := sizes_of s1
  have z2 := sizes_of s2
  rw [d0] at z0
  rw [d1] at z1
  rw [d2] at z2
  have hgood := good3 (p0 := p0) (p1 := p1) (p2 := p2) g0 g1
  rw [← hl] at hgood
  have hlen : p0.length + p1.length + p2.length = 8 := by
    have h1 := HZ.out; have h2 := H10.out
    rw [hl] at h1
    simp at h1
    omega
  have HG := Lib.hid hgood
  have HL2 := Lib.hid hl
  have HLL := Lib.hid hlen
  have HD0 := Lib.hid d0
  have HD1 := Lib.hid d1
  have HD2 := Lib.hid d2
  have HZ0 := Lib.hid z0
  have HZ1 := Lib.hid z1
  have HZ2 := Lib.hid z2
  have kb := Blk.new w 9 ([s0, s1, s2].map Value.string).toArray
  clear hgood hl hlen d0 d1 d2 z0 z1 z2 hsk hn2 g0 g1 g2 HL HD HC HN HP HK
  have kb2 : Blk (w.alloc (.cells ([s0, s1, s2].map Value.string).toArray 9)) w.heap.size 9 #[.string s0, .string s1, .string s2] := kb
  clear kb
  obtain ⟨x0, x1, x2⟩ := kb2.all
  by_cases h4 : s0.size = 4
  case neg =>
    have hp : parseL t.data.toList = (0, 5) := parseL_no (fun h => h4 (by have := (HG.out.1 h).2.1; have h2 := HZ0.out; omega))
    have b3 : ((s0.size : Int) != 4) = true := neq_i (by omega)
    have b4 : ((s0.size : Int) == 4) = false := eq_i (by omega)
    rw [hp]
    clear hp h4
    go_enter Tryd.func23, Tryd.ntmps23
    go_wp2_with fail
    refine HS.out.mono ?_
    rintro e w1 ⟨rfl, rfl⟩
    go_wp2
    go_ret2
    exact ⟨rfl, hb⟩
  have H4 := Lib.hid h4
  have b3 : ((s0.size : Int) != 4) = false := by rw [h4]; rfl
  have b4 : ((s0.size : Int) == 4) = true := by rw [h4]; rfl
  clear h4
  by_cases h5 : s1.size = 2
  case neg =>
    have hp : parseL t.data.toList = (0, 5) := parseL_no (fun h => h5 (by have := (HG.out.1 h).2.2.1; have h2 := HZ1.out; omega))
    have b5 : ((s1.size : Int) != 2) = true := neq_i (by omega)
    have b6 : ((s1.size : Int) == 2) = false := eq_i (by omega)
    rw [hp]
    clear hp h5
    go_enter Tryd.func23, Tryd.ntmps23
    go_wp2_with fail
    refine HS.out.mono ?_
    rintro e w1 ⟨rfl, rfl⟩
    go_wp2
    go_ret2
    exact ⟨rfl, hb⟩
  have H5 := Lib.hid h5
  have b5 : ((s1.size : Int) != 2) = false := by rw [h5]; rfl
  have b6 : ((s1.size : Int) == 2) = true := by rw [h5]; rfl
  clear h5
  have l0 : p0.length = 4 := by have h1 := H4.out; have h2 := HZ0.out; omega
  have l1 : p1.length = 2 := by have h1 := H5.out; have h2 := HZ1.out; omega
  have l2 : p2.length = 2 := by have h1 := HLL.out; omega
  obtain ⟨vy, hvy⟩ : ∃ v, 1000 * vl (p0.getD 0 0) + 100 * vl (p0.getD 1 0) + 10 * vl (p0.getD 2 0) + vl (p0.getD 3 0) = v := ⟨_, rfl⟩
  obtain ⟨vm, hvm⟩ : ∃ v, 10 * vl (p1.getD 0 0) + vl (p1.getD 1 0) = v := ⟨_, rfl⟩
  obtain ⟨vd, hvd⟩ : ∃ v, 10 * vl (p2.getD 0 0) + vl (p2.getD 1 0) = v := ⟨_, rfl⟩
  have hval := parts_val l0 l1 l2
  rw [← HL2.out, hvy, hvm, hvd] at hval
  have hc0 := fun W => contains_any W s0
  have hc1 := fun W => contains_any W s1
  have hc2 := fun W => contains_any W s2
  rw [HD0.out] at hc0
  rw [HD1.out] at hc1
  rw [HD2.out] at hc2
  have ha0 : allD p0 = true → ∀ W, _ := fun h W => atoi_any W s0 vy (by have := H4.out; omega) (by rw [HD0.out, atoi4 h l0, hvy])
  have ha1 : allD p1 = true → ∀ W, _ := fun h W => atoi_any W s1 vm (by have := H5.out; omega) (by rw [HD1.out, atoi2 h l1, hvm])
  have ha2 : allD p2 = true → ∀ W, _ := fun h W => atoi_any W s2 vd (by have := HZ2.out; omega) (by rw [HD2.out, atoi2 h l2, hvd])
  have HL0 := Lib.hid l0
  have HL1 := Lib.hid l1
  have HV := Lib.hid hval
  have HC0 := Lib.hid hc0
  have HC1 := Lib.hid hc1
  have HC2 := Lib.hid hc2
  have HA0 := Lib.hid ha0
  have HA1 := Lib.hid ha1
  have HA2 := Lib.hid ha2
  have hbad : ¬ (allD p0 = true ∧ allD p1 = true ∧ allD p2 = true) → parseL t.data.toList = (0, 5) := fun h => parseL_no (fun hg => h ⟨(HG.out.1 hg).2.2.2.1, (HG.out.1 hg).2.2.2.2.1, (HG.out.1 hg).2.2.2.2.2⟩)
  have hyes : allD p0 = true → allD p1 = true → allD p2 = true → parseL t.data.toList = okP (dayS vy vm vd) := fun a b c => by
    have g := HG.out.2 ⟨HZ.out.trans H10.out, HL0.out, HL1.out, a, b, c⟩
    rw [parseL_yes g.1 g.2, HV.out.1, HV.out.2.1, HV.out.2.2]
  have HB := Lib.hid hbad
  have HY := Lib.hid hyes
  clear l0 l1 l2 hvy hvm hvd hval hc0 hc1 hc2 ha0 ha1 ha2 hbad hyes HG HL2 HLL HZ H10 HD0 HD1 HD2 HZ0 HZ1 HZ2 H4 H5 HL0 HL1 HV ht kle
  obtain ⟨r, hr⟩ : ∃ r, parseL t.data.toList = r := ⟨_, rfl⟩
  rw [hr]
  have HR := Lib.hid hr
  clear hr
  go_enter Tryd.func23, Tryd.ntmps23
  go_wp2_with fail
  refine HS.out.mono ?_
  rintro e w1 ⟨rfl, rfl⟩
  clear HS
  go_upto_region 5 with fail
  have g0 : Blk ((w.alloc (.cells #[.string s0, .string s1, .string s2] 9)).alloc (.cells #[.int .i64 0, .int .i64 0, .int .i64 0] 63)) (w.heap.size + 1) 63 (fil3 vy vm vd 0) := Blk.new1 w (.cells #[.string s0, .string s1, .string s2] 9) 63 _
  have k0 := kb2.alloc (.cells #[.int .i64 0, .int .i64 0, .int .i64 0] 63)
  have hb0 := hb.alloc hb.size (.cells #[.int .i64 0, .int .i64 0, .int .i64 0] 63)
  have sg : w.heap.size ≤ w.heap.size + 1 := by omega
  clear kb2 x0 x1 x2 hb b1 b2 b3 b4 b5 b6
  go_upto_block 0 with fail
  change Blk ((w.alloc (.cells #[.string s0, .string s1, .string s2] 9)).alloc (.cells #[.int .i64 0, .int .i64 0, .int .i64 0] 63)) w.heap.size 9 #[.string s0, .string s1, .string s2] at k0
  change Below w.heap.size w ((w.alloc (.cells #[.string s0, .string s1, .string s2] 9)).alloc (.cells #[.int .i64 0, .int .i64 0, .int .i64 0] 63)) at hb0
  generalize (w.alloc (.cells #[.string s0, .string s1, .string s2] 9)).alloc (.cells #[.int .i64 0, .int .i64 0, .int .i64 0] 63) = w2 at *
  generalize hgg : w.heap.size + 1 = gg at *
  have hng : w.heap.size ≠ gg := by omega
  clear hgg
  go_wp2_with fail
  go_loopw [36] (fun i wr => ∃ k : Nat, k ≤ 3 ∧ i = .int .i64 (k : Int) ∧ OkD p0 p1 p2 k ∧ Blk wr w.heap.size 9 #[.string s0, .string s1, .string s2] ∧ Blk wr gg 63 (fil3 vy vm vd k) ∧ Below w.heap.size w wr) (fun i _ => 3 - (intOf i).toNat)
  case atStart => exact ⟨0, by omega, rfl, ⟨fun h => absurd h (by omega), fun h => absurd h (by omega), fun h => absurd h (by omega)⟩, k0, g0, hb0⟩
  case round =>
    clear k0 g0 hb0
    obtain ⟨k, hk, rfl, hok, k0, g0, hb0⟩ := hrel
    have HOK := Lib.hid hok
    clear hok
    rcases (show k = 0 ∨ k = 1 ∨ k = 2 ∨ k = 3 by omega) with rfl | rfl | rfl | rfl
    · obtain ⟨x0, x1, x2⟩ := k0.all
      go_wp2_with fail
      refine (HC0.out _).mono ?_
      rintro e w3 ⟨rfl, b⟩
      replace k0 := k0.below b k0.lt
      replace g0 := g0.below b g0.lt
      replace hb0 := hb0.trans (b.mono hb0.size)
      clear b x0 x1 x2
      cases hh : allD p0 with
      | false =>
        obtain rfl : r = (0, 5) := HR.out.symm.trans (HB.out (fun h => by rw [hh] at h; cases h.1))
        clear hh
        go_wp2
        go_ret2
        exact ⟨rfl, hb0⟩
      | true =>
        have HH := Lib.hid hh
        clear hh
        obtain ⟨x0, x1, x2⟩ := g0.all
        go_wp2_with fail
        refine (HA0.out HH.out _).mono ?_
        rintro e w4 ⟨rfl, b⟩
        replace k0 := k0.below b k0.lt
        replace g0 := g0.below b g0.lt
        replace hb0 := hb0.trans (b.mono hb0.size)
        clear b x0 x1 x2
        obtain ⟨x0, x1, x2⟩ := g0.all
        have k1 := k0.far (p := ⟨gg, 0, none⟩) hng (.int .i64 vy)
        have g1 : Blk (w4.setCell ⟨gg, 0, none⟩ (.int .i64 vy)) gg 63 (fil3 vy vm vd 1) := g0.set_ 0 (.int .i64 vy)
        have hb1 := hb0.setCell (p := ⟨gg, 0, none⟩) sg (.int .i64 vy)
        go_wp2
        go_roundw
        case rel => exact ⟨1, by omega, rfl, ⟨fun _ => HH.out, fun h => absurd h (by omega), fun h => absurd h (by omega)⟩, k1, g1, hb1⟩
        case measure => simp [intOf]
    · obtain ⟨x0, x1, x2⟩ := k0.all
      go_wp2_with fail
      refine (HC1.out _).mono ?_
      rintro e w3 ⟨rfl, b⟩
      replace k0 := k0.below b k0.lt
      replace g0 := g0.below b g0.lt
      replace hb0 := hb0.trans (b.mono hb0.size)
      clear b x0 x1 x2
      cases hh : allD p1 with
      | false =>
        obtain rfl : r = (0, 5) := HR.out.symm.trans (HB.out (fun h => by rw [hh] at h; cases h.2.1))
        clear hh
        go_wp2
        go_ret2
        exact ⟨rfl, hb0⟩
      | true =>
        have HH := Lib.hid hh
        clear hh
        obtain ⟨x0, x1, x2⟩ := g0.all
        go_wp2_with fail
        refine (HA1.out HH.out _).mono ?_
        rintro e w4 ⟨rfl, b⟩
        replace k0 := k0.below b k0.lt
        replace g0 := g0.below b g0.lt
        replace hb0 := hb0.trans (b.mono hb0.size)
        clear b x0 x1 x2
        obtain ⟨x0, x1, x2⟩ := g0.all
        have k1 := k0.far (p := ⟨gg, 1, none⟩) hng (.int .i64 vm)
        have g1 : Blk (w4.setCell ⟨gg, 1, none⟩ (.int .i64 vm)) gg 63 (fil3 vy vm vd 2) := g0.set_ 1 (.int .i64 vm)
        have hb1 := hb0.setCell (p := ⟨gg, 1, none⟩) sg (.int .i64 vm)
        go_wp2
        go_roundw
        case rel => exact ⟨2, by omega, rfl, ⟨fun _ => HOK.out.1 (by decide), fun _ => HH.out, fun h => absurd h (by omega)⟩, k1, g1, hb1⟩
        case measure => simp [intOf]
    · obtain ⟨x0, x1, x2⟩ := k0.all
      go_wp2_with fail
      refine (HC2.out _).mono ?_
      rintro e w3 ⟨rfl, b⟩
      replace k0 := k0.below b k0.lt
      replace g0 := g0.below b g0.lt
      replace hb0 := hb0.trans (b.mono hb0.size)
      clear b x0 x1 x2
      cases hh : allD p2 with
      | false =>
        obtain rfl : r = (0, 5) := HR.out.symm.trans (HB.out (fun h => by rw [hh] at h; cases h.2.2))
        clear hh
        go_wp2
        go_ret2
        exact ⟨rfl, hb0⟩
      | true =>
        have HH := Lib.hid hh
        clear hh
        obtain ⟨x0, x1, x2⟩ := g0.all
        go_wp2_with fail
        refine (HA2.out HH.out _).mono ?_
        rintro e w4 ⟨rfl, b⟩
        replace k0 := k0.below b k0.lt
        replace g0 := g0.below b g0.lt
        replace hb0 := hb0.trans (b.mono hb0.size)
        clear b x0 x1 x2
        obtain ⟨x0, x1, x2⟩ := g0.all
        have k1 := k0.far (p := ⟨gg, 2, none⟩) hng (.int .i64 vd)
        have g1 : Blk (w4.setCell ⟨gg, 2, none⟩ (.int .i64 vd)) gg 63 (fil3 vy vm vd 3) := g0.set_ 2 (.int .i64 vd)
        have hb1 := hb0.setCell (p := ⟨gg, 2, none⟩) sg (.int .i64 vd)
        go_wp2
        go_roundw
        case rel => exact ⟨3, by omega, rfl, ⟨fun _ => HOK.out.1 (by decide), fun _ => HOK.out.2.1 (by decide), fun _ => HH.out⟩, k1, g1, hb1⟩
        case measure => simp [intOf]
    · have g3 : Blk wr gg 63 #[.int .i64 vy, .int .i64 vm, .int .i64 vd] := g0
      obtain ⟨x0, x1, x2⟩ := g3.all
      have hy := HY.out (HOK.out.1 (by decide)) (HOK.out.2.1 (by decide)) (HOK.out.2.2 (by decide))
      rw [HR.out] at hy
      obtain ⟨a, bb, hd⟩ : ∃ a bb, dayS vy vm vd = (a, bb) := ⟨_, _, rfl⟩
      rw [hd] at hy
      unfold okP at hy
      simp only at hy
      have HD := Lib.hid hd
      have HYY := Lib.hid hy
      clear hd hy
      go_wp2_with fail
      have hc := day_any wr vy vm vd
      rw [HD.out] at hc
      refine hc.mono ?_
      rintro e w3 ⟨rfl, b⟩
      replace hb0 := hb0.trans (b.mono hb0.size)
      clear b x0 x1 x2 hc
      by_cases hz : bb = 0
      · subst hz
        obtain rfl : r = (a, 0) := HYY.out
        go_wp2
        go_ret2
        exact ⟨rfl, hb0⟩
      · have e1 : (bb == 0) = false := eq_i hz
        have e2 : (bb != 0) = true := neq_i hz
        obtain rfl : r = (0, 5) := by have := HYY.out; rw [if_neg hz] at this; exact this
        clear hz
        go_wp2
        go_ret2
        exact ⟨rfl, hb0⟩
end Go.Proofs.YtfblngdmeliabaaDoor
