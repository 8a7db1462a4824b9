/- Package fact's Fits; package matter's Has and Valid. -/
import Derived.Test.YtgfahifdmacmhaaGreatDoorQp
namespace Go.Proofs.YtgfahifdmacmhaaGreatDoor
open Go.RowKit Go.Shelf

theorem str_no {a b : ByteArray} (h : ¬ a = b) : (a.toList == b.toList) = false := by rw [str_beq]; exact decide_eq_false h
set_option maxRecDepth 100000 in
theorem hpred_any (w : World) (bn bd : Nat) (n : ByteArray) (day : Int) (h1 : w.cell? ⟨bn, 0, none⟩ = some (.string n)) (h2 : w.cell? ⟨bd, 0, none⟩ = some (.int .i64 day)) (l1 : bn < w.heap.size) (l2 : bd < w.heap.size) (r : Rt) :
    Calls Tryz.prog 51 #[.agg #[.string r.1, .int .i64 r.2], .pointer (some ⟨bn, 0, none⟩), .pointer (some ⟨bd, 0, none⟩)] w fun e w' => e = .returned (.bool (decide (r.1 = n) && decide (r.2 ≤ day))) ∧ Below w.heap.size w w' := by
  have hb := below_self_alloc w (.cells #[.string r.1, .int .i64 r.2] 41)
  have h1' : (w.alloc (.cells #[.string r.1, .int .i64 r.2] 41)).cell? ⟨bn, 0, none⟩ = some (.string n) := (hb.cell (p := ⟨bn, 0, none⟩) l1).trans h1
  have h2' : (w.alloc (.cells #[.string r.1, .int .i64 r.2] 41)).cell? ⟨bd, 0, none⟩ = some (.int .i64 day) := (hb.cell (p := ⟨bd, 0, none⟩) l2).trans h2
  obtain ⟨a, d⟩ := r
  simp only at *
  by_cases h3 : a = n
  · rw [decide_eq_true h3, Bool.true_and]
    subst h3
    by_cases h4 : d ≤ day
    · rw [decide_eq_true h4]
      go_enter Tryz.func51, Tryz.ntmps51
      go_wp2
      go_ret
      exact ⟨rfl, hb⟩
    · rw [decide_eq_false h4]
      have h5 : day < d := by omega
      go_enter Tryz.func51, Tryz.ntmps51
      go_wp2
      go_ret
      exact ⟨rfl, hb⟩
  · rw [decide_eq_false h3, Bool.false_and]
    have e3 := str_no h3
    clear h3
    go_enter Tryz.func51, Tryz.ntmps51
    go_wp2
    go_ret
    exact ⟨rfl, hb⟩
set_option maxRecDepth 100000 in
set_option maxHeartbeats 2000000 in
theorem has_any (w : World) (B : Nat) (m : Mt) (x : MtX) (h : RtsAt w B x.a3 m.rs) (hB : B ≤ w.heap.size) (hs : m.rs.length ≤ 4611686018427387904) (n : ByteArray) (day : Int) :
    Calls Tryz.prog 16 #[.agg (mtC m x), .string n, .int .i64 day] w fun e w' => e = .returned (.bool (hasB m.rs n day)) ∧ Below w.heap.size w w' := by
  obtain ⟨id, o, cs, pr, st, mv, rs, ls⟩ := m
  obtain ⟨a1, c1, a2, c2, a3, c3, a4, c4, lv⟩ := x
  simp only at *
  show Calls Tryz.prog 16 #[.agg #[.string id, .int .i64 o, .slice a1 cs.length c1, .string pr, .int .i64 st, .slice a2 mv.length c2, .slice a3 rs.length c3, .slice a4 ls.length c4], .string n, .int .i64 day] w _
  have hb := ((below_self_alloc w (.cells #[.string id, .int .i64 o, .slice a1 cs.length c1, .string pr, .int .i64 st, .slice a2 mv.length c2, .slice a3 rs.length c3, .slice a4 ls.length c4] 27)).alloc (by simp) (.cells #[.string n] 9)).alloc (by simp; omega) (.cells #[.int .i64 day] 3)
  have kx := ((Blk.new w 27 #[.string id, .int .i64 o, .slice a1 cs.length c1, .string pr, .int .i64 st, .slice a2 mv.length c2, .slice a3 rs.length c3, .slice a4 ls.length c4]).alloc (.cells #[.string n] 9)).alloc (.cells #[.int .i64 day] 3)
  have kn := (Blk.new1 w (.cells #[.string id, .int .i64 o, .slice a1 cs.length c1, .string pr, .int .i64 st, .slice a2 mv.length c2, .slice a3 rs.length c3, .slice a4 ls.length c4] 27) 9 #[.string n]).alloc (.cells #[.int .i64 day] 3)
  have kd := Blk.new2 w (.cells #[.string id, .int .i64 o, .slice a1 cs.length c1, .string pr, .int .i64 st, .slice a2 mv.length c2, .slice a3 rs.length c3, .slice a4 ls.length c4] 27) (.cells #[.string n] 9) 3 #[.int .i64 day]
  have eh := enters_of Tryz.func51 (by kernel_rfl) rfl
  have HH := Lib.hid h
  clear h
  go_enter Tryz.func16, Tryz.ntmps16
  go_upto_region 1 with fail
  generalize ((w.alloc (.cells #[.string id, .int .i64 o, .slice a1 cs.length c1, .string pr, .int .i64 st, .slice a2 mv.length c2, .slice a3 rs.length c3, .slice a4 ls.length c4] 27)).alloc (.cells #[.string n] 9)).alloc (.cells #[.int .i64 day] 3) = W0 at *
  have hc := containsR_any W0 B a3 rs c3 (HH.out.below (hb.mono hB)) (Nat.le_trans hB hb.size) hs (fun r => decide (r.1 = n) && decide (r.2 ≤ day)) 51 #[.pointer (some ⟨w.heap.size + 1, 0, none⟩), .pointer (some ⟨w.heap.size + 1 + 1, 0, none⟩)] eh
    (fun W r hw => hpred_any W (w.heap.size + 1) (w.heap.size + 1 + 1) n day ((kn.below hw kn.lt).cell 0) ((kd.below hw kd.lt).cell 0) (Nat.lt_of_lt_of_le kn.lt hw.size) (Nat.lt_of_lt_of_le kd.lt hw.size) r)
  have HC := Lib.hid hc
  obtain ⟨t0, t1, t2⟩ := kx.all
  clear hc kn kd kx
  go_wp2_with fail
  refine HC.out.mono ?_
  rintro e w1 ⟨rfl, b1⟩
  have hb1 := hb.trans (b1.mono hb.size)
  clear b1 t0 t1 t2
  go_wp2
  go_ret
  exact ⟨rfl, hb1⟩
/-- What Fits asks of the values. -/
theorem all_zip_take {d : List Fc} {c : List Int} {k : Nat} {f : Fc} {n : Int} (h1 : d[k]? = some f) (h2 : c[k]? = some n) : ((d.zip c).take (k + 1)).all (fun x => inB x.1 x.2) = (((d.zip c).take k).all (fun x => inB x.1 x.2) && inB f n) := by
  have : (d.zip c)[k]? = some (f, n) := by
    rw [List.getElem?_zip_eq_some]
    exact ⟨h1, h2⟩
  rw [take_snoc' this, List.all_append]
  simp
set_option maxRecDepth 100000 in
set_option maxHeartbeats 4000000 in
theorem fits_any (w : World) (B : Nat) (A : Option Addr) (d : List Fc) (c : Nat) (h : FcsAt w B A d) (hB : B ≤ w.heap.size) (hl : d.length ≤ 4611686018427387904) (hn : ∀ f ∈ d, f.name.size ≤ 9223372036854775807) (A2 : Option Addr) (cs : List Int) (c2 : Nat) (h2 : IntsAt w B A2 cs) :
    Calls Tryz.prog 67 #[.agg #[.slice A d.length c], .slice A2 cs.length c2] w fun e w' => e = .returned (.bool (fitB d cs)) ∧ Below w.heap.size w w' := by
  obtain ⟨r, hr⟩ : ∃ r, fitB d cs = r := ⟨_, rfl⟩
  rw [hr]
  unfold fitB at hr
  have hb := below_self_alloc w (.cells #[.slice A d.length c] 52)
  have kd := Blk.new w 52 #[.slice A d.length c]
  have hv := fvalid_any (w.alloc (.cells #[.slice A d.length c] 52)) B A d c (h.below (hb.mono hB)) (Nat.le_trans hB hb.size) hl hn
  have HH := Lib.hid h
  have HH2 := Lib.hid h2
  generalize dmB d = D at *
  have HR := Lib.hid hr
  have HV := Lib.hid hv
  obtain ⟨t0, t1, t2⟩ := kd.all
  clear h h2 hn hr hv
  cases D with
  | false =>
    obtain rfl : false = r := HR.out
    go_enter Tryz.func67, Tryz.ntmps67
    go_wp2_with fail
    refine HV.out.mono ?_
    rintro e w1 ⟨rfl, b1⟩
    have hb1 := hb.trans (b1.mono hb.size)
    clear b1 t0 t1 t2
    go_wp2
    go_ret
    exact ⟨rfl, hb1⟩
  | true =>
    have hr := HR.out
    rw [Bool.true_and] at hr
    have HR2 := Lib.hid hr
    clear hr HR
    go_enter Tryz.func67, Tryz.ntmps67
    go_wp2_with fail
    refine HV.out.mono ?_
    rintro e w1 ⟨rfl, b1⟩
    have hb1 := hb.trans (b1.mono hb.size)
    have k1 := kd.below b1 kd.lt
    clear b1 t0 t1 t2 hb kd
    by_cases hle : cs.length = d.length
    · have e1 : ((cs.length : Int) != (d.length : Int)) = false := by simp; omega
      have hr := HR2.out
      rw [decide_eq_true hle, Bool.true_and] at hr
      have HR3 := Lib.hid hr
      have HLE := Lib.hid hle
      obtain ⟨t0, t1, t2⟩ := k1.all
      clear hr hle
      go_wp2_with fail
      go_loopw [21] (fun i wr => ∃ k : Nat, k ≤ d.length ∧ i = .int .i64 (k : Int) ∧ Hid (((d.zip cs).take k).all (fun x => inB x.1 x.2) = true) ∧ Below w.heap.size w wr) (fun i _ => d.length - (intOf i).toNat)
      case atStart => exact ⟨0, Nat.zero_le _, rfl, Lib.hid rfl, hb1⟩
      case round =>
        clear hb1 k1 t0 t1 t2 e1
        obtain ⟨k, hk, rfl, HA, hb⟩ := hrel
        by_cases hlt : k < d.length
        · obtain ⟨f, hf⟩ : ∃ f, d[k]? = some f := ⟨_, List.getElem?_eq_getElem hlt⟩
          obtain ⟨v, hv⟩ : ∃ v, cs[k]? = some v := ⟨_, List.getElem?_eq_getElem (by rw [HLE.out]; exact hlt)⟩
          obtain ⟨g, off, hA, hg, f0, f1, f2, f3⟩ := (HH.out.below (hb.mono hB)) k f hf
          obtain ⟨g', off', hA', hg', v0⟩ := (HH2.out.below (hb.mono hB)) k v hv
          subst hA hA'
          have hst := all_zip_take hf hv
          rw [HA.out, Bool.true_and] at hst
          have hzm : (f, v) ∈ d.zip cs := List.mem_of_getElem? (by rw [List.getElem?_zip_eq_some]; exact ⟨hf, hv⟩ : (d.zip cs)[k]? = some (f, v))
          have HST := Lib.hid hst
          have HZM := Lib.hid hzm
          have hb2 := hb.alloc hb.size (.cells #[.string f.name, .int .i64 f.kind, .int .i64 f.lo, .int .i64 f.hi] 104)
          have kf := Blk.new wr 104 #[.string f.name, .int .i64 f.kind, .int .i64 f.lo, .int .i64 f.hi]
          have v1 : (wr.alloc (.cells #[.string f.name, .int .i64 f.kind, .int .i64 f.lo, .int .i64 f.hi] 104)).cell? ⟨g', off' + k, none⟩ = some (.int .i64 v) := ((below_self_alloc wr _).cell (p := ⟨g', off' + k, none⟩) (Nat.lt_of_lt_of_le hg' (Nat.le_trans hB hb.size))).trans v0
          have kc : (k : Int) < (cs.length : Int) := by rw [HLE.out]; omega
          have k0 : (0 : Int) ≤ (k : Int) := by omega
          clear hf hv hst hzm
          go_upto_region 6 with fail
          generalize hWW : wr.alloc (.cells #[.string f.name, .int .i64 f.kind, .int .i64 f.lo, .int .i64 f.hi] 104) = W1 at *
          obtain ⟨t0, t1, t2⟩ := kf.all
          clear f0 f1 f2 f3 v0 hWW
          by_cases h1 : f.lo ≤ v
          · have d1 : decide (v < f.lo) = false := decide_eq_false (by omega)
            by_cases h2 : v ≤ f.hi
            · have d2 : decide (f.hi < v) = false := decide_eq_false (by omega)
              go_quiet (fail)
              go_wp2
              go_roundw
              case rel => exact ⟨k + 1, by omega, by go_num, Lib.hid (by rw [HST.out]; exact decide_eq_true ⟨h1, h2⟩), below_dN hb2 nq⟩
              case measure => simp [intOf]; omega
            · have d2 : decide (f.hi < v) = true := decide_eq_true (by omega)
              have hv2 : f.hi < v := by omega
              have hrr : r = false := by
                rw [← HR3.out, List.all_eq_false]
                exact ⟨_, HZM.out, by simp [inB, h2]⟩
              subst hrr
              go_quiet (fail)
              go_wp2
              go_ret
              exact ⟨rfl, below_dN hb2 nq⟩
          · have d1 : decide (v < f.lo) = true := decide_eq_true (by omega)
            have hv2 : v < f.lo := by omega
            have hrr : r = false := by
              rw [← HR3.out, List.all_eq_false]
              exact ⟨_, HZM.out, by simp [inB, h1]⟩
            subst hrr
            go_quiet (fail)
            go_wp2
            go_ret
            exact ⟨rfl, below_dN hb2 nq⟩
        · obtain rfl : k = d.length := by omega
          have hall := HA.out
          rw [List.take_of_length_le (by simp; omega), HR3.out] at hall
          subst hall
          go_wp2
          go_ret
          exact ⟨rfl, hb⟩
    · have e1 : ((cs.length : Int) != (d.length : Int)) = true := by simp; omega
      have hr := HR2.out
      rw [decide_eq_false hle, Bool.false_and] at hr
      subst hr
      obtain ⟨t0, t1, t2⟩ := k1.all
      clear hle
      go_wp2
      go_ret
      exact ⟨rfl, hb1⟩
end Go.Proofs.YtgfahifdmacmhaaGreatDoor
