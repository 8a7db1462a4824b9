/- Package fact's Fits; package matter's Has and Valid. slices.Clone at rights and at ints; slices.Contains at moves. -/
import Derived.Test.YtebdkmlganalaaaGreatDoorKTopAccruedQp
namespace Go.Proofs.YtebdkmlganalaaaGreatDoor
open Go.RowKit Go.Shelf

theorem str_no {a b : ByteArray} (h : ¬ a = b) : (a.toList == b.toList) = false := by rw [str_beq]; exact decide_eq_false h
set_option maxRecDepth 100000 in
theorem hpred_any (w : World) (bn bd : Nat) (n : ByteArray) (day : Int) (h1 : w.cell? ⟨bn, 0, none⟩ = some (.string n)) (h2 : w.cell? ⟨bd, 0, none⟩ = some (.int .i64 day)) (l1 : bn < w.heap.size) (l2 : bd < w.heap.size) (r : Rt) :
    Calls Tryz.prog 37 #[.agg #[.string r.1, .int .i64 r.2], .pointer (some ⟨bn, 0, none⟩), .pointer (some ⟨bd, 0, none⟩)] w fun e w' => e = .returned (.bool (decide (r.1 = n) && decide (r.2 ≤ day))) ∧ Below w.heap.size w w' := by
  have hb := below_self_alloc w (.cells #[.string r.1, .int .i64 r.2] 53)
  have h1' : (w.alloc (.cells #[.string r.1, .int .i64 r.2] 53)).cell? ⟨bn, 0, none⟩ = some (.string n) := (hb.cell (p := ⟨bn, 0, none⟩) l1).trans h1
  have h2' : (w.alloc (.cells #[.string r.1, .int .i64 r.2] 53)).cell? ⟨bd, 0, none⟩ = some (.int .i64 day) := (hb.cell (p := ⟨bd, 0, none⟩) l2).trans h2
  obtain ⟨a, d⟩ := r
  simp only at *
  by_cases h3 : a = n
  · rw [decide_eq_true h3, Bool.true_and]
    subst h3
    by_cases h4 : d ≤ day
    · rw [decide_eq_true h4]
      go_enter Tryz.func37, Tryz.ntmps37
      go_wp2
      go_ret
      exact ⟨rfl, hb⟩
    · rw [decide_eq_false h4]
      have h5 : day < d := by omega
      go_enter Tryz.func37, Tryz.ntmps37
      go_wp2
      go_ret
      exact ⟨rfl, hb⟩
  · rw [decide_eq_false h3, Bool.false_and]
    have e3 := str_no h3
    clear h3
    go_enter Tryz.func37, Tryz.ntmps37
    go_wp2
    go_ret
    exact ⟨rfl, hb⟩
set_option maxRecDepth 100000 in
set_option maxHeartbeats 2000000 in
theorem has_any (w : World) (B : Nat) (m : Mt) (x : MtX) (h : RtsAt w B x.a3 m.rs) (hB : B ≤ w.heap.size) (hs : m.rs.length ≤ 4611686018427387904) (n : ByteArray) (day : Int) :
    Calls Tryz.prog 17 #[.agg (mtC m x), .string n, .int .i64 day] w fun e w' => e = .returned (.bool (hasB m.rs n day)) ∧ Below w.heap.size w w' := by
  obtain ⟨id, o, cs, pr, st, mv, rs, ls⟩ := m
  obtain ⟨a1, c1, a2, c2, a3, c3, a4, c4, lv⟩ := x
  simp only at *
  show Calls Tryz.prog 17 #[.agg #[.string id, .int .i64 o, .slice a1 cs.length c1, .string pr, .int .i64 st, .slice a2 mv.length c2, .slice a3 rs.length c3, .slice a4 ls.length c4], .string n, .int .i64 day] w _
  have hb := ((below_self_alloc w (.cells #[.string id, .int .i64 o, .slice a1 cs.length c1, .string pr, .int .i64 st, .slice a2 mv.length c2, .slice a3 rs.length c3, .slice a4 ls.length c4] 27)).alloc (by simp) (.cells #[.string n] 9)).alloc (by simp; omega) (.cells #[.int .i64 day] 3)
  have kx := ((Blk.new w 27 #[.string id, .int .i64 o, .slice a1 cs.length c1, .string pr, .int .i64 st, .slice a2 mv.length c2, .slice a3 rs.length c3, .slice a4 ls.length c4]).alloc (.cells #[.string n] 9)).alloc (.cells #[.int .i64 day] 3)
  have kn := (Blk.new1 w (.cells #[.string id, .int .i64 o, .slice a1 cs.length c1, .string pr, .int .i64 st, .slice a2 mv.length c2, .slice a3 rs.length c3, .slice a4 ls.length c4] 27) 9 #[.string n]).alloc (.cells #[.int .i64 day] 3)
  have kd := Blk.new2 w (.cells #[.string id, .int .i64 o, .slice a1 cs.length c1, .string pr, .int .i64 st, .slice a2 mv.length c2, .slice a3 rs.length c3, .slice a4 ls.length c4] 27) (.cells #[.string n] 9) 3 #[.int .i64 day]
  have eh := enters_of Tryz.func37 (by kernel_rfl) rfl
  have HH := Lib.hid h
  clear h
  go_enter Tryz.func17, Tryz.ntmps17
  go_upto_region 1 with fail
  generalize ((w.alloc (.cells #[.string id, .int .i64 o, .slice a1 cs.length c1, .string pr, .int .i64 st, .slice a2 mv.length c2, .slice a3 rs.length c3, .slice a4 ls.length c4] 27)).alloc (.cells #[.string n] 9)).alloc (.cells #[.int .i64 day] 3) = W0 at *
  have hc := containsR_any W0 B a3 rs c3 (HH.out.below (hb.mono hB)) (Nat.le_trans hB hb.size) hs (fun r => decide (r.1 = n) && decide (r.2 ≤ day)) 37 #[.pointer (some ⟨w.heap.size + 1, 0, none⟩), .pointer (some ⟨w.heap.size + 1 + 1, 0, none⟩)] eh
    (fun W r hw => hpred_any W (w.heap.size + 1) (w.heap.size + 1 + 1) n day ((kn.below hw kn.lt).cell 0) ((kd.below hw kd.lt).cell 0) (Nat.lt_of_lt_of_le kn.lt hw.size) (Nat.lt_of_lt_of_le kd.lt hw.size) r)
  have HC := Lib.hid hc
  obtain ⟨t0, t1, t2⟩ := kx.all
  clear hc kn kd kx
  go_wp2_with fail
  refine HC.out.mono ?_
  rintro e w1 ⟨rfl, b1⟩
  have hb1 := hb.trans (b1.mono hb.size)
  clear b1 t0 t1 t2
  go_wp2
  go_ret
  exact ⟨rfl, hb1⟩
/-- What Fits asks of the values. -/
theorem all_zip_take {d : List Fc} {c : List Int} {k : Nat} {f : Fc} {n : Int} (h1 : d[k]? = some f) (h2 : c[k]? = some n) : ((d.zip c).take (k + 1)).all (fun x => inB x.1 x.2) = (((d.zip c).take k).all (fun x => inB x.1 x.2) && inB f n) := by
  have : (d.zip c)[k]? = some (f, n) := by
    rw [List.getElem?_zip_eq_some]
    exact ⟨h1, h2⟩
  rw [take_snoc' this, List.all_append]
  simp
set_option maxRecDepth 100000 in
set_option maxHeartbeats 4000000 in
theorem fits_any (w : World) (B : Nat) (A : Option Addr) (d : List Fc) (c : Nat) (h : FcsAt w B A d) (hB : B ≤ w.heap.size) (hl : d.length ≤ 4611686018427387904) (hn : ∀ f ∈ d, f.name.size ≤ 9223372036854775807) (A2 : Option Addr) (cs : List Int) (c2 : Nat) (h2 : IntsAt w B A2 cs) :
    Calls Tryz.prog 24 #[.agg #[.slice A d.length c], .slice A2 cs.length c2] w fun e w' => e = .returned (.bool (fitB d cs)) ∧ Below w.heap.size w w' := by
  obtain ⟨r, hr⟩ : ∃ r, fitB d cs = r := ⟨_, rfl⟩
  rw [hr]
  unfold fitB at hr
  have hb := below_self_alloc w (.cells #[.slice A d.length c] 37)
  have kd := Blk.new w 37 #[.slice A d.length c]
  have hv := fvalid_any (w.alloc (.cells #[.slice A d.length c] 37)) B A d c (h.below (hb.mono hB)) (Nat.le_trans hB hb.size) hl hn
  have HH := Lib.hid h
  have HH2 := Lib.hid h2
  generalize dmB d = D at *
  have HR := Lib.hid hr
  have HV := Lib.hid hv
  obtain ⟨t0, t1, t2⟩ := kd.all
  clear h h2 hn hr hv
  cases D with
  | false =>
    obtain rfl : false = r := HR.out
    go_enter Tryz.func24, Tryz.ntmps24
    go_wp2_with fail
    refine HV.out.mono ?_
    rintro e w1 ⟨rfl, b1⟩
    have hb1 := hb.trans (b1.mono hb.size)
    clear b1 t0 t1 t2
    go_wp2
    go_ret
    exact ⟨rfl, hb1⟩
  | true =>
    have hr := HR.out
    rw [Bool.true_and] at hr
    have HR2 := Lib.hid hr
    clear hr HR
    go_enter Tryz.func24, Tryz.ntmps24
    go_wp2_with fail
    refine HV.out.mono ?_
    rintro e w1 ⟨rfl, b1⟩
    have hb1 := hb.trans (b1.mono hb.size)
    have k1 := kd.below b1 kd.lt
    clear b1 t0 t1 t2 hb kd
    by_cases hle : cs.length = d.length
    · have e1 : ((cs.length : Int) != (d.length : Int)) = false := by simp; omega
      have hr := HR2.out
      rw [decide_eq_true hle, Bool.true_and] at hr
      have HR3 := Lib.hid hr
      have HLE := Lib.hid hle
      obtain ⟨t0, t1, t2⟩ := k1.all
      clear hr hle
      go_wp2_with fail
      go_loopw [21] (fun i wr => ∃ k : Nat, k ≤ d.length ∧ i = .int .i64 (k : Int) ∧ Hid (((d.zip cs).take k).all (fun x => inB x.1 x.2) = true) ∧ Below w.heap.size w wr) (fun i _ => d.length - (intOf i).toNat)
      case atStart => exact ⟨0, Nat.zero_le _, rfl, Lib.hid rfl, hb1⟩
      case round =>
        clear hb1 k1 t0 t1 t2 e1
        obtain ⟨k, hk, rfl, HA, hb⟩ := hrel
        by_cases hlt : k < d.length
        · obtain ⟨f, hf⟩ : ∃ f, d[k]? = some f := ⟨_, List.getElem?_eq_getElem hlt⟩
          obtain ⟨v, hv⟩ : ∃ v, cs[k]? = some v := ⟨_, List.getElem?_eq_getElem (by rw [HLE.out]; exact hlt)⟩
          obtain ⟨g, off, hA, hg, f0, f1, f2, f3⟩ := (HH.out.below (hb.mono hB)) k f hf
          obtain ⟨g', off', hA', hg', v0⟩ := (HH2.out.below (hb.mono hB)) k v hv
          subst hA hA'
          have hst := all_zip_take hf hv
          rw [HA.out, Bool.true_and] at hst
          have hzm : (f, v) ∈ d.zip cs := List.mem_of_getElem? (by rw [List.getElem?_zip_eq_some]; exact ⟨hf, hv⟩ : (d.zip cs)[k]? = some (f, v))
          have HST := Lib.hid hst
          have HZM := Lib.hid hzm
          have hb2 := hb.alloc hb.size (.cells #[.string f.name, .int .i64 f.kind, .int .i64 f.lo, .int .i64 f.hi] 72)
          have kf := Blk.new wr 72 #[.string f.name, .int .i64 f.kind, .int .i64 f.lo, .int .i64 f.hi]
          have v1 : (wr.alloc (.cells #[.string f.name, .int .i64 f.kind, .int .i64 f.lo, .int .i64 f.hi] 72)).cell? ⟨g', off' + k, none⟩ = some (.int .i64 v) := ((below_self_alloc wr _).cell (p := ⟨g', off' + k, none⟩) (Nat.lt_of_lt_of_le hg' (Nat.le_trans hB hb.size))).trans v0
          have kc : (k : Int) < (cs.length : Int) := by rw [HLE.out]; omega
          have k0 : (0 : Int) ≤ (k : Int) := by omega
          clear hf hv hst hzm
          go_upto_region 6 with fail
          generalize hWW : wr.alloc (.cells #[.string f.name, .int .i64 f.kind, .int .i64 f.lo, .int .i64 f.hi] 72) = W1 at *
          obtain ⟨t0, t1, t2⟩ := kf.all
          clear f0 f1 f2 f3 v0 hWW
          by_cases h1 : f.lo ≤ v
          · have d1 : decide (v < f.lo) = false := decide_eq_false (by omega)
            by_cases h2 : v ≤ f.hi
            · have d2 : decide (f.hi < v) = false := decide_eq_false (by omega)
              go_quiet (fail)
              go_wp2
              go_roundw
              case rel => exact ⟨k + 1, by omega, by go_num, Lib.hid (by rw [HST.out]; exact decide_eq_true ⟨h1, h2⟩), below_dN hb2 nq⟩
              case measure => simp [intOf]; omega
            · have d2 : decide (f.hi < v) = true := decide_eq_true (by omega)
              have hv2 : f.hi < v := by omega
              have hrr : r = false := by
                rw [← HR3.out, List.all_eq_false]
                exact ⟨_, HZM.out, by simp [inB, h2]⟩
              subst hrr
              go_quiet (fail)
              go_wp2
              go_ret
              exact ⟨rfl, below_dN hb2 nq⟩
          · have d1 : decide (v < f.lo) = true := decide_eq_true (by omega)
            have hv2 : v < f.lo := by omega
            have hrr : r = false := by
              rw [← HR3.out, List.all_eq_false]
              exact ⟨_, HZM.out, by simp [inB, h1]⟩
            subst hrr
            go_quiet (fail)
            go_wp2
            go_ret
            exact ⟨rfl, below_dN hb2 nq⟩
        · obtain rfl : k = d.length := by omega
          have hall := HA.out
          rw [List.take_of_length_le (by simp; omega), HR3.out] at hall
          subst hall
          go_wp2
          go_ret
          exact ⟨rfl, hb⟩
    · have e1 : ((cs.length : Int) != (d.length : Int)) = true := by simp; omega
      have hr := HR2.out
      rw [decide_eq_false hle, Bool.false_and] at hr
      subst hr
      obtain ⟨t0, t1, t2⟩ := k1.all
      clear hle
      go_wp2
      go_ret
      exact ⟨rfl, hb1⟩
end Go.Proofs.YtebdkmlganalaaaGreatDoor

namespace Go.Proofs.YtebdkmlganalaaaGreatDoor
open Go.RowKit Go.Shelf

theorem Tryz.infoRight : (Tryz.prog.info? 53).map (fun i => (i.zero, i.size, i.bytes)) = some (some (.agg #[.string ⟨#[]⟩, .int .i64 0]), 2, 24) := by kernel_rfl
theorem Tryz.infoInt : (Tryz.prog.info? 3).map (fun i => (i.zero, i.size, i.bytes)) = some (some (Value.int .i64 0), 1, 8) := by kernel_rfl
def encR2 (s : Rt) : List Value := [.string s.1, .int .i64 s.2]
def rtCells (S : List Rt) : List Value := S.flatMap encR2
theorem rtCells_len (S : List Rt) : (rtCells S).length = S.length * 2 := by
  induction S with
  | nil => rfl
  | cons s S ih => show (encR2 s ++ rtCells S).length = _; rw [List.length_append, ih]; simp [encR2]; omega
theorem rtCells_app (J K : List Rt) : rtCells (J ++ K) = rtCells J ++ rtCells K := by simp [rtCells]
theorem rtCells_at : ∀ (S : List Rt) (i : Nat) (s : Rt), S[i]? = some s → (rtCells S)[i * 2]? = some (.string s.1) ∧ (rtCells S)[i * 2 + 1]? = some (.int .i64 s.2)
  | [], i, s, h => by simp at h
  | t :: S, 0, s, h => by
    have : t = s := by simpa using h
    subst this
    exact ⟨rfl, rfl⟩
  | t :: S, i + 1, s, h => by
    have h' : S[i]? = some s := by simpa using h
    obtain ⟨h1, h2⟩ := rtCells_at S i s h'
    have e1 : (i + 1) * 2 = i * 2 + 1 + 1 := by omega
    refine ⟨?_, ?_⟩
    · rw [e1]; show (rtCells S)[i * 2]? = _; exact h1
    · rw [e1]; show (rtCells S)[i * 2 + 1]? = _; exact h2
theorem rtCells_one (S : List Rt) : ∀ u ∈ rtCells S, u.oneCell' = true := by
  intro u hu
  obtain ⟨s, _, hs⟩ := List.mem_flatMap.1 hu
  simp [encR2] at hs
  rcases hs with rfl | rfl <;> rfl
theorem rtCells_news {w : World} {B : Nat} {A : Option Addr} {S : List Rt} (h : RtsAt w B A S) : ∀ j u, (rtCells S)[j]? = some u → ∃ ad, A = some ad ∧ w.cell? (ad.add j) = some u := fun j u hj => by
  have hjl : j < S.length * 2 := by rw [← rtCells_len]; exact (List.getElem?_eq_some_iff.1 hj).1
  obtain ⟨s, hs⟩ : ∃ s, S[j / 2]? = some s := ⟨_, List.getElem?_eq_getElem (by omega)⟩
  obtain ⟨g, off, hA, _, c0, c1⟩ := h (j / 2) s hs
  obtain ⟨h0, h1⟩ := rtCells_at S (j / 2) s hs
  refine ⟨_, hA, ?_⟩
  have hadd : (⟨g, off, none⟩ : Addr).add j = ⟨g, off + j, none⟩ := by unfold Addr.add; split <;> simp_all
  rw [hadd]
  rcases Nat.mod_two_eq_zero_or_one j with hm | hm
  · have e : j = j / 2 * 2 := by omega
    have hj' : (rtCells S)[j / 2 * 2]? = some u := by rw [← e]; exact hj
    rw [h0] at hj'
    injection hj' with hj'
    rw [← hj', show off + j = off + j / 2 * 2 by omega]
    exact c0
  · have e : j = j / 2 * 2 + 1 := by omega
    have hj' : (rtCells S)[j / 2 * 2 + 1]? = some u := by rw [← e]; exact hj
    rw [h1] at hj'
    injection hj' with hj'
    rw [← hj', show off + j = off + j / 2 * 2 + 1 by omega]
    exact c1
theorem RtsAt.of_row {w : World} {base cap n : Nat} {A : Option Addr} {S : List Rt} (hl : S.length = n) (h : w.ownsRow base 53 2 (.slice A n cap) n (rtCells S)) : RtsAt w w.heap.size A S := by
  intro i s hi
  have hil := (List.getElem?_eq_some_iff.1 hi).1
  rcases h.2 with ⟨_, h0⟩ | ⟨g, cap', cur, hv, _, hh, _, _, _, h4⟩
  · omega
  · injection hv with hv _ _
    have at_ : ∀ j v, (rtCells S)[j]? = some v → w.cell? ⟨g, 0 + j, none⟩ = some v := fun j v hj => by
      rw [Nat.zero_add, cell_of_row w g j cur _ _ hh]
      have hj4 : j < n * 2 := by
        have := (List.getElem?_eq_some_iff.1 hj).1
        rw [rtCells_len, hl] at this
        exact this
      have h5 := congrArg (fun l : List Value => l[j]?) h4
      simp only [List.getElem?_take, if_pos hj4] at h5
      rw [hj] at h5
      simpa using h5
    obtain ⟨q0, q1⟩ := rtCells_at S i s hi
    exact ⟨g, 0, hv, (Array.getElem?_eq_some_iff.1 hh).1, at_ _ _ q0, at_ _ _ q1⟩
def intCells (S : List Int) : List Value := S.map fun n => .int .i64 n
theorem intCells_len (S : List Int) : (intCells S).length = S.length * 1 := by simp [intCells]
theorem intCells_app (J K : List Int) : intCells (J ++ K) = intCells J ++ intCells K := by simp [intCells]
theorem intCells_one (S : List Int) : ∀ u ∈ intCells S, u.oneCell' = true := by
  intro u hu
  obtain ⟨s, _, rfl⟩ := List.mem_map.1 hu
  rfl
theorem intCells_news {w : World} {B : Nat} {A : Option Addr} {S : List Int} (h : IntsAt w B A S) : ∀ j u, (intCells S)[j]? = some u → ∃ ad, A = some ad ∧ w.cell? (ad.add j) = some u := fun j u hj => by
  unfold intCells at hj
  rw [List.getElem?_map] at hj
  obtain ⟨v, hv, rfl⟩ := Option.map_eq_some_iff.1 hj
  obtain ⟨g, off, hA, _, c0⟩ := h j v hv
  refine ⟨_, hA, ?_⟩
  have hadd : (⟨g, off, none⟩ : Addr).add j = ⟨g, off + j, none⟩ := by unfold Addr.add; split <;> simp_all
  rw [hadd]
  exact c0
theorem IntsAt.of_row {w : World} {base cap n : Nat} {A : Option Addr} {S : List Int} (hl : S.length = n) (h : w.ownsRow base 3 1 (.slice A n cap) n (intCells S)) : IntsAt w w.heap.size A S := by
  intro i s hi
  have hil := (List.getElem?_eq_some_iff.1 hi).1
  rcases h.2 with ⟨_, h0⟩ | ⟨g, cap', cur, hv, _, hh, _, _, _, h4⟩
  · omega
  · injection hv with hv _ _
    have at_ : ∀ j v, (intCells S)[j]? = some v → w.cell? ⟨g, 0 + j, none⟩ = some v := fun j v hj => by
      rw [Nat.zero_add, cell_of_row w g j cur _ _ hh]
      have hj4 : j < n * 1 := by
        have := (List.getElem?_eq_some_iff.1 hj).1
        rw [intCells_len, hl] at this
        exact this
      have h5 := congrArg (fun l : List Value => l[j]?) h4
      simp only [List.getElem?_take, if_pos hj4] at h5
      rw [hj] at h5
      simpa using h5
    exact ⟨g, 0, hv, (Array.getElem?_eq_some_iff.1 hh).1, at_ _ _ (by unfold intCells; rw [List.getElem?_map, hi]; rfl)⟩

/-- What Clone leaves: the same stops in memory of the call's own. -/
def ClonePostR (w : World) (S : List Rt) (e : Ending) (w' : World) : Prop :=
  ∃ A' c', e = .returned (.slice A' S.length c') ∧ w'.ownsRow w.heap.size 53 2 (.slice A' S.length c') S.length (rtCells S) ∧ Below w.heap.size w w'

set_option maxHeartbeats 1000000 in
set_option maxRecDepth 100000 in
theorem cloneR_any (w : World) (B : Nat) (A : Option Addr) (S : List Rt) (c : Nat) (h : RtsAt w B A S) (hB : B ≤ w.heap.size) (hl : S.length ≤ 1000000) :
    Calls Tryz.prog 33 #[.slice A S.length c] w (ClonePostR w S) := by
  obtain ⟨i0, hi0, hz0, hz1, hz2⟩ := info_parts Tryz.infoRight
  have hw0 : w.ownsRow w.heap.size 53 2 (.slice none 0 0) 0 [] := World.ownsRow_nil _ _ _ _
  cases A with
  | none =>
    have hS : S = [] := by
      match S, h with
      | [], _ => rfl
      | s :: S, h => obtain ⟨_, _, hA, _⟩ := h 0 s rfl; cases hA
    subst hS
    clear h hl
    have hnil := fun (W : World) (n c : Nat) => Lib.run_eql_slice_nil (P := Tryz.prog) W 24 53 none n c 0 0 Tryz.underlying24
    go_enter Tryz.func33, Tryz.ntmps33
    go_wp2
    go_ret
    exact ⟨none, 0, rfl, hw0, Below.refl _ _⟩
  | some ad =>
    have own := World.ownsRow_lit (base := w.heap.size) (e := 53) (size := 2) w #[] 0 (Nat.le_refl _) (by unfold maxLen; omega) rfl
    have hst := h.below ((Below.refl B w).alloc hB (.cells #[] 53))
    have hbb := (Below.refl w.heap.size w).alloc (Nat.le_refl _) (.cells #[] 53)
    clear hw0 h
    have hnil := fun (W : World) (n c : Nat) => Lib.run_eql_slice_nil (P := Tryz.prog) W 24 53 (some ad) n c 0 0 Tryz.underlying24
    go_enter Tryz.func33, Tryz.ntmps33
    go_wp2_with (at_builtin; refine wpList_append_any rfl _ _ 24 rfl w.heap.size 53 i0 _ 2 24 Tryz.underlying24 hi0 hz0 hz1 hz2 rfl (by omega) (.slice (some ⟨w.heap.size, 0, none⟩) 0 0) 0 [] rfl own (some ad) S.length c (rtCells S) rfl (rtCells_len S) (rtCells_news hst) (rtCells_one S) (by unfold maxLen; omega) (by omega) (by simp) ?_; intro v4 w1 own4 gr4 l4)
    simp only [Nat.zero_add, List.nil_append] at own4
    have hb4 := hbb.grown gr4 (by simp) (fun x hx => (own.lt x hx).1)
    have hv : ∃ A' c', v4 = .slice A' S.length c' := by
      rcases own4.2 with ⟨hv, h0⟩ | ⟨g, cap, cur, hv, _⟩
      · exact ⟨none, 0, by rw [hv, h0]⟩
      · exact ⟨_, _, hv⟩
    obtain ⟨A', c', rfl⟩ := hv
    clear own hst hbb gr4 l4
    go_wp2
    go_ret
    exact ⟨A', c', rfl, own4, hb4⟩

/-- What Clone leaves: the same stops in memory of the call's own. -/
def ClonePostI (w : World) (S : List Int) (e : Ending) (w' : World) : Prop :=
  ∃ A' c', e = .returned (.slice A' S.length c') ∧ w'.ownsRow w.heap.size 3 1 (.slice A' S.length c') S.length (intCells S) ∧ Below w.heap.size w w'

set_option maxHeartbeats 1000000 in
set_option maxRecDepth 100000 in
theorem cloneI_any (w : World) (B : Nat) (A : Option Addr) (S : List Int) (c : Nat) (h : IntsAt w B A S) (hB : B ≤ w.heap.size) (hl : S.length ≤ 1000000) :
    Calls Tryz.prog 35 #[.slice A S.length c] w (ClonePostI w S) := by
  obtain ⟨i0, hi0, hz0, hz1, hz2⟩ := info_parts Tryz.infoInt
  have hw0 : w.ownsRow w.heap.size 3 1 (.slice none 0 0) 0 [] := World.ownsRow_nil _ _ _ _
  cases A with
  | none =>
    have hS : S = [] := by
      match S, h with
      | [], _ => rfl
      | s :: S, h => obtain ⟨_, _, hA, _⟩ := h 0 s rfl; cases hA
    subst hS
    clear h hl
    have hnil := fun (W : World) (n c : Nat) => Lib.run_eql_slice_nil (P := Tryz.prog) W 22 3 none n c 0 0 Tryz.underlying22
    go_enter Tryz.func35, Tryz.ntmps35
    go_wp2
    go_ret
    exact ⟨none, 0, rfl, hw0, Below.refl _ _⟩
  | some ad =>
    have own := World.ownsRow_lit (base := w.heap.size) (e := 3) (size := 1) w #[] 0 (Nat.le_refl _) (by unfold maxLen; omega) rfl
    have hst := h.below ((Below.refl B w).alloc hB (.cells #[] 3))
    have hbb := (Below.refl w.heap.size w).alloc (Nat.le_refl _) (.cells #[] 3)
    clear hw0 h
    have hnil := fun (W : World) (n c : Nat) => Lib.run_eql_slice_nil (P := Tryz.prog) W 22 3 (some ad) n c 0 0 Tryz.underlying22
    go_enter Tryz.func35, Tryz.ntmps35
    go_wp2_with (at_builtin; refine wpList_append_any rfl _ _ 22 rfl w.heap.size 3 i0 _ 1 8 Tryz.underlying22 hi0 hz0 hz1 hz2 rfl (by omega) (.slice (some ⟨w.heap.size, 0, none⟩) 0 0) 0 [] rfl own (some ad) S.length c (intCells S) rfl (intCells_len S) (intCells_news hst) (intCells_one S) (by unfold maxLen; omega) (by omega) (by simp) ?_; intro v4 w1 own4 gr4 l4)
    simp only [Nat.zero_add, List.nil_append] at own4
    have hb4 := hbb.grown gr4 (by simp) (fun x hx => (own.lt x hx).1)
    have hv : ∃ A' c', v4 = .slice A' S.length c' := by
      rcases own4.2 with ⟨hv, h0⟩ | ⟨g, cap, cur, hv, _⟩
      · exact ⟨none, 0, by rw [hv, h0]⟩
      · exact ⟨_, _, hv⟩
    obtain ⟨A', c', rfl⟩ := hv
    clear own hst hbb gr4 l4
    go_wp2
    go_ret
    exact ⟨A', c', rfl, own4, hb4⟩


set_option maxRecDepth 100000 in
set_option maxHeartbeats 2000000 in
theorem indexM_any (w : World) (B : Nat) (A : Option Addr) (l : List I2) (c : Nat) (h : StopsAt w B A l) (hB : B ≤ w.heap.size) (hl : l.length ≤ 4611686018427387904) (m : I2) :
    Calls Tryz.prog 71 #[.slice A l.length c, .agg #[.int .i64 m.1, .int .i64 m.2]] w fun e w' => ∃ n : Int, e = .returned (.int .i64 n) ∧ decide (0 ≤ n) = decide (m ∈ l) ∧ Below w.heap.size w w' := by
  obtain ⟨a, b⟩ := m
  have hb := below_self_alloc w (.cells #[.int .i64 a, .int .i64 b] 90)
  have km := Blk.new w 90 #[.int .i64 a, .int .i64 b]
  have HH := Lib.hid h
  clear h
  go_enter Tryz.func71, Tryz.ntmps71
  go_wp2_with fail
  generalize w.alloc (.cells #[.int .i64 a, .int .i64 b] 90) = W0 at *
  go_loopw [8] (fun i wr => ∃ k : Nat, k ≤ l.length ∧ i = .int .i64 (k : Int) ∧ Hid ((a, b) ∉ l.take k) ∧ ∃ q, wr = W0.drewN q) (fun i _ => l.length - (intOf i).toNat)
  case atStart => exact ⟨0, Nat.zero_le _, rfl, Lib.hid (by simp), 0, rfl⟩
  case round =>
    obtain ⟨k, hk, rfl, HN, q, rfl⟩ := hrel
    by_cases hlt : k < l.length
    · obtain ⟨s, hs⟩ : ∃ s, l[k]? = some s := ⟨_, List.getElem?_eq_getElem hlt⟩
      obtain ⟨g, off, hA, hg, c0, c1⟩ := (HH.out.below (hb.mono hB)) k s hs
      subst hA
      obtain ⟨x, y⟩ := s
      have HS := Lib.hid hs
      have c0' : (W0.drewN q).cell? ⟨g, off + k * 2, none⟩ = some (.int .i64 x) := c0
      have c1' : (W0.drewN q).cell? ⟨g, off + k * 2 + 1, none⟩ = some (.int .i64 y) := c1
      obtain ⟨t0, t1, t2⟩ := (km.drewN q).all
      have i0 : (0 : Int) ≤ (k : Int) := by omega
      have i1 : (k : Int) < (l.length : Int) := by omega
      clear c0 c1 hs
      go_wp2_with fail
      generalize hW : W0.drewN q = W at *
      by_cases e1 : a = x
      · by_cases e2 : b = y
        · have heq : ∀ W, (Op.equalIn 10000 90 (.agg #[.int .i64 a, .int .i64 b]) (.agg #[.int .i64 x, .int .i64 y])).run Tryz.prog W = .ok true W := fun W => by rw [eq_ky, decide_eq_true ⟨e1, e2⟩]
          have hin : decide ((a, b) ∈ l) = true := decide_eq_true (by
            have := List.mem_of_getElem? HS.out
            rw [e1, e2]
            exact this)
          have HIN := Lib.hid hin
          clear hin e1 e2
          go_quiet (fail)
          subst hW
          rw [drew2]
          go_wp2
          go_ret
          exact ⟨_, rfl, by rw [HIN.out]; simp, below_dN hb _⟩
        · have heq : ∀ W, (Op.equalIn 10000 90 (.agg #[.int .i64 a, .int .i64 b]) (.agg #[.int .i64 x, .int .i64 y])).run Tryz.prog W = .ok false W := fun W => by rw [eq_ky, decide_eq_false (fun h => e2 h.2)]
          have hnx : (a, b) ∉ l.take (k + 1) := by
            rw [take_snoc' HS.out, List.mem_append, List.mem_singleton]
            rintro (h | h)
            · exact HN.out h
            · exact e2 (congrArg Prod.snd h)
          have HNX := Lib.hid hnx
          clear hnx e1 e2
          go_quiet (fail)
          subst hW
          rw [drew2]
          go_wp2
          go_roundw
          case rel => exact ⟨k + 1, by omega, by go_num, HNX, _, rfl⟩
          case measure => simp [intOf]; omega
      · have heq : ∀ W, (Op.equalIn 10000 90 (.agg #[.int .i64 a, .int .i64 b]) (.agg #[.int .i64 x, .int .i64 y])).run Tryz.prog W = .ok false W := fun W => by rw [eq_ky, decide_eq_false (fun h => e1 h.1)]
        have hnx : (a, b) ∉ l.take (k + 1) := by
          rw [take_snoc' HS.out, List.mem_append, List.mem_singleton]
          rintro (h | h)
          · exact HN.out h
          · exact e1 (congrArg Prod.fst h)
        have HNX := Lib.hid hnx
        clear hnx e1
        go_quiet (fail)
        subst hW
        rw [drew2]
        go_wp2
        go_roundw
        case rel => exact ⟨k + 1, by omega, by go_num, HNX, _, rfl⟩
        case measure => simp [intOf]; omega
    · obtain rfl : k = l.length := by omega
      have hno := HN.out
      rw [List.take_length] at hno
      have hin : decide ((a, b) ∈ l) = false := decide_eq_false hno
      have HIN := Lib.hid hin
      clear hin hno
      go_wp2
      go_ret
      exact ⟨_, rfl, by rw [HIN.out]; simp, below_dN hb _⟩
set_option maxRecDepth 100000 in
theorem containsM_any (w : World) (B : Nat) (A : Option Addr) (l : List I2) (c : Nat) (h : StopsAt w B A l) (hB : B ≤ w.heap.size) (hl : l.length ≤ 4611686018427387904) (m : I2) :
    Calls Tryz.prog 34 #[.slice A l.length c, .agg #[.int .i64 m.1, .int .i64 m.2]] w fun e w' => e = .returned (.bool (decide (m ∈ l))) ∧ Below w.heap.size w w' := by
  have hb := below_self_alloc w (.cells #[.int .i64 m.1, .int .i64 m.2] 90)
  have km := Blk.new w 90 #[.int .i64 m.1, .int .i64 m.2]
  have hi := indexM_any (w.alloc (.cells #[.int .i64 m.1, .int .i64 m.2] 90)) B A l c (h.below (hb.mono hB)) (Nat.le_trans hB hb.size) hl m
  generalize decide (m ∈ l) = r at *
  have HI := Lib.hid hi
  obtain ⟨t0, t1, t2⟩ := km.all
  clear hi h km
  go_enter Tryz.func34, Tryz.ntmps34
  go_wp2_with fail
  refine HI.out.mono ?_
  rintro e w1 ⟨n, rfl, hn, b1⟩
  have hb1 := hb.trans (b1.mono hb.size)
  have HN := Lib.hid hn
  clear hn b1 t0 t1 t2
  go_wp2
  go_ret
  exact ⟨congrArg (fun b => Ending.returned (.bool b)) HN.out, hb1⟩
end Go.Proofs.YtebdkmlganalaaaGreatDoor
