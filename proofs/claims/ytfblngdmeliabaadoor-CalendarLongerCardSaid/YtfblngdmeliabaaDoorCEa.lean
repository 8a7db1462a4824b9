/- The walk of CalendarEnds. -/
import Derived.Test.YtfblngdmeliabaaDoorCk
import Derived.Test.YtfblngdmeliabaaDoorCEp
namespace Go.Proofs.YtfblngdmeliabaaDoor
open Go.RowKit

theorem light_at (w : World) (n u : Int) (A : Option Addr) (len c : Nat) (hl : len ≤ 9223372036854775807) (r : Bool) (hr : ltB n u len = r) :
    Calls Tryd.prog 19 #[.agg #[.int .i64 n, .int .i64 u], .slice A len c, .int .i64 60] w fun e w' => e = .returned (.bool r) ∧ Below w.heap.size w w' := hr ▸ light_any w n u A len c hl
theorem ltB_len {n u : Int} {len : Nat} (h : ltB n u len = true) : len ≤ 60 := by
  unfold ltB at h
  simp at h
  omega

theorem cntS_le (l : List Int) (a : Int) : ∀ k, cntS l a k ≤ k
  | 0 => Nat.le_refl _
  | k + 1 => by
    have := cntS_le l a k
    show cntS l a k + (if opB l (a + 1 + (k : Int)) = true then 1 else 0) ≤ k + 1
    split <;> omega

set_option maxRecDepth 100000 in
set_option maxHeartbeats 4000000 in
theorem ends_walk (w : World) (ht : Tab w) (d n u : Int) (A : Option Addr) (c : Nat) (l : List Int) (h : Ints w w.heap.size A l) : Calls Tryd.prog 6 #[.int .i64 d, .agg #[.int .i64 n, .int .i64 u], .slice A l.length c] w fun e w' => e = .returned (.bool true) ∧ Below w.heap.size w w' := by
  obtain ⟨hA, hw, hl⟩ := h
  have HA := Lib.hid hA
  have HW := Lib.hid hw
  clear hA hw
  have b0 := (Below.refl w.heap.size w).alloc (Nat.le_refl _) (.cells #[.int .i64 n, .int .i64 u] 29)
  have k0 := Blk.new w 29 #[.int .i64 n, .int .i64 u]
  have tb := ht.below b0
  go_enter Tryd.func6, Tryd.ntmps6
  go_wp2_with fail
  refine (head_any _ tb).mono ?_
  rintro e w1 ⟨rfl, b1⟩
  have b := b0.trans (b1.mono (by simp))
  have k1 := k0.below b1 k0.lt
  generalize hg : w.heap.size = g at *
  have hgl : g < w1.heap.size := k1.lt
  have HG := Lib.hid hg
  clear b0 k0 b1 tb hg
  obtain ⟨t0, t1, -⟩ := k1.all
  unfold Blk at k1
  go_wp2_with fail
  cases hlt : ltB n u l.length with
  | false =>
    refine (light_at _ _ _ _ _ _ hl _ hlt).mono ?_
    rintro e w2 ⟨rfl, b2⟩
    replace b := b.trans (b2.mono (by omega))
    clear b2 k1 t0 t1
    go_wp2
    go_ret
    exact ⟨rfl, by rw [HG.out]; exact b⟩
  | true =>
    refine (light_at _ _ _ _ _ _ hl _ hlt).mono ?_
    rintro e w2 ⟨rfl, b2⟩
    have hl6 := ltB_len hlt
    replace b := b.trans (b2.mono (by omega))
    have k2 := Blk.below (t := 29) (cs := #[.int .i64 n, .int .i64 u]) k1 b2 hgl
    replace hgl : g < w2.heap.size := k2.lt
    clear b2 k1 t0 t1 hl hlt
    obtain ⟨t0, t1, -⟩ := k2.all
    unfold Blk at k2
    have hgw : w.heap.size ≤ w2.heap.size := b.size
    go_wp2_with fail
    obtain ⟨r1, r2, hr⟩ : ∃ r1 r2, addS l d n u = (r1, r2) := ⟨_, _, rfl⟩
    have hadd := add_any w2 g A l c (HA.out.below b) (by omega) HW.out d n u
    rw [hr] at hadd
    refine hadd.mono ?_
    rintro e w3 ⟨rfl, b2⟩
    replace b := b.trans (b2.mono (by omega))
    have k3 := Blk.below (t := 29) (cs := #[.int .i64 n, .int .i64 u]) k2 b2 hgl
    replace hgl : g < w3.heap.size := k3.lt
    clear b2 k2 t0 t1 hadd hgw
    obtain ⟨t0, t1, -⟩ := k3.all
    unfold Blk at k3
    cases hz : (r2 == 0) with
    | false =>
      have hr1 : r1 = 0 := by
        have := addS_err (l := l) (day := d) (n := n) (u := u) (by rw [hr]; simpa using hz)
        rw [hr] at this
        exact this
      subst hr1
      have HR := Lib.hid hr
      clear hr
      go_wp2
      go_ret
      exact ⟨rfl, by rw [HG.out]; exact b⟩
    | true =>
      have hz2 : r2 = 0 := by simpa using hz
      subst hz2
      obtain ⟨hd, u1, u2, n0, n1, -, p, hp, hpb, he, heb⟩ := addS_ok (l := l) (day := d) (n := n) (u := u) (by rw [hr])
      rw [hr] at he
      simp only at he
      have hop := fromS_op l heb
      have hno := fun i a b => (fromS_no l (x := p) (i := i) a b).2.2
      have hpe := fromS_le l p
      rw [← he] at heb hop hno hpe
      have hpd : d ≤ p := by
        unfold stepS at hp
        split at hp
        · injection hp with hp _; omega
        · split at hp
          · injection hp with hp _; omega
          · split at hp
            · obtain ⟨hv, hnum⟩ := ymd_of hd
              have := monS_ge hv n0 (by rw [hp])
              rw [hp, hnum] at this
              exact this
            · split at hp
              · obtain ⟨hv, hnum⟩ := ymd_of hd
                have := monS_ge (n := 12 * n) hv (by omega) (by rw [hp])
                rw [hp, hnum] at this
                exact this
              · injection hp with hp _
                rw [← hp]
                exact nthS_le l d _
      obtain ⟨e0, e1⟩ := (isB_iff r1).1 heb
      obtain ⟨d0, d1⟩ := (isB_iff d).1 hd
      have hde : d ≤ r1 := by omega
      have HN := Lib.hid hno
      have HP := Lib.hid hp
      have HO := Lib.hid hop
      have HB := Lib.hid hpb
      have HE := Lib.hid he
      clear hno hp hop hpb he hr heb hd hz
      go_wp2_with fail
      have hwk := work_any w3 g A l c (HA.out.below b) (by omega) (by omega) HW.out r1
      rw [HO.out] at hwk
      refine hwk.mono ?_
      rintro e w4 ⟨rfl, b2⟩
      replace b := b.trans (b2.mono (by omega))
      have k4 := Blk.below (t := 29) (cs := #[.int .i64 n, .int .i64 u]) k3 b2 hgl
      replace hgl : g < w4.heap.size := k4.lt
      clear b2 k3 t0 t1 hwk
      obtain ⟨t0, t1, -⟩ := k4.all
      unfold Blk at k4
      have hgw4 : g ≤ w4.heap.size := by omega
      by_cases c1 : u = 1
      · subst c1
        have hpp : p = d + n := by have := HP.out; unfold stepS at this; rw [if_pos rfl] at this; injection this with a _; exact a.symm
        subst hpp
        have hnn := none_any w4 g A l c (HA.out.below b) hgw4 (by omega) HW.out (d + n) r1 hpe ⟨by omega, by omega⟩ ⟨by omega, by omega⟩ HN.out
        have HNN := Lib.hid hnn
        clear hnn
        go_wp2_with fail
        refine HNN.out.mono ?_
        rintro e w5 ⟨rfl, b2⟩
        replace b := b.trans (b2.mono hgw4)
        clear b2 t0 t1 k4 HNN
        go_wp2
        go_ret
        exact ⟨rfl, by rw [HG.out]; exact b⟩
      by_cases c2 : u = 2
      · subst c2
        have hpp : p = d + 7 * n := by have := HP.out; unfold stepS at this; rw [if_neg (by decide), if_pos rfl] at this; injection this with a _; exact a.symm
        subst hpp
        have hnn := none_any w4 g A l c (HA.out.below b) hgw4 (by omega) HW.out (d + 7 * n) r1 hpe ⟨by omega, by omega⟩ ⟨by omega, by omega⟩ HN.out
        have HNN := Lib.hid hnn
        clear hnn c1
        go_wp2_with fail
        refine HNN.out.mono ?_
        rintro e w5 ⟨rfl, b2⟩
        replace b := b.trans (b2.mono hgw4)
        clear b2 t0 t1 k4 HNN
        go_wp2
        go_ret
        exact ⟨rfl, by rw [HG.out]; exact b⟩
      by_cases c5 : u = 5
      · have hpp : p = nthS l n.toNat d := by have := HP.out; unfold stepS at this; rw [if_neg (by omega), if_neg (by omega), if_neg (by omega), if_neg (by omega)] at this; injection this with a _; exact a.symm
        by_cases cn : n = 0
        · subst c5
          clear c1 c2
          subst cn
          have hpd2 : p = d := hpp
          subst hpd2
          have hnn := none_any w4 g A l c (HA.out.below b) hgw4 (by omega) HW.out p r1 hpe ⟨by omega, by omega⟩ ⟨by omega, by omega⟩ HN.out
          have HNN := Lib.hid hnn
          clear hnn hpp
          go_wp2_with fail
          refine HNN.out.mono ?_
          rintro e w5 ⟨rfl, b2⟩
          replace b := b.trans (b2.mono hgw4)
          clear b2 t0 t1 k4 HNN
          go_wp2
          go_ret
          exact ⟨rfl, by rw [HG.out]; exact b⟩
        · have n2 : 1 ≤ n := by omega
          have v1 : (u == 1) = false := by simpa using c1
          have v2 : (u == 2) = false := by simpa using c2
          have v5 : (u == 5) = true := by simpa using c5
          have vn : (n == 0) = false := by simpa using cn
          clear c1 c2 c5
          have hcn : cntS l d (r1 - d).toNat = n.toNat := by
            have hb := HB.out
            rw [hpp] at hb
            obtain ⟨j, hj⟩ : ∃ j, n.toNat = j + 1 := ⟨n.toNat - 1, by omega⟩
            have h1 := nthS_cnt l d n.toNat hb
            have h2 : opB l (nthS l n.toNat d) = true := by rw [hj] at hb ⊢; exact nthS_op l d j hb
            have h3 : r1 = nthS l n.toNat d := by rw [HE.out, hpp]; exact fromS_here h2
            rw [h3]
            exact h1
          have HC := Lib.hid hcn
          clear hcn hpp cn HP HB HE HN
          go_wp2_with fail
          go_loopw [10, 11] (fun q i wr => ∃ k : Nat, d + (k : Int) ≤ r1 ∧ q = .int .i64 (cntS l d k : Int) ∧ i = .int .i64 (d + 1 + (k : Int)) ∧ Below g w wr ∧ Blk wr g 29 #[.int .i64 n, .int .i64 u]) (fun _ i _ => (r1 + 1 - intOf i).toNat)
          case atStart => exact ⟨0, by omega, rfl, by simp, b, k4⟩
          case round =>
            clear b k4 hgw4 hgl t0 t1
            obtain ⟨k, hk, rfl, rfl, b, k4⟩ := hrel
            have hgw : g ≤ wr.heap.size := by have := k4.lt; omega
            have hcl := cntS_le l d k
            by_cases hlt : d + 1 + (k : Int) ≤ r1
            · have hwk := work_any wr g A l c (HA.out.below b) hgw (by omega) HW.out (d + 1 + (k : Int))
              have hsu : cntS l d (k + 1) = cntS l d k + if opB l (d + 1 + (k : Int)) = true then 1 else 0 := rfl
              cases ho : opB l (d + 1 + (k : Int)) with
              | true =>
                rw [ho] at hwk hsu
                rw [if_pos rfl] at hsu
                have HWK := Lib.hid hwk
                have HSU := Lib.hid hsu
                clear hwk hsu ho
                go_wp2_with fail
                refine HWK.out.mono ?_
                rintro e w5 ⟨rfl, b2⟩
                have k5 := k4.below b2 k4.lt
                replace b := b.trans (b2.mono hgw)
                clear b2 k4 HWK
                go_wp2
                go_roundw
                case rel => exact ⟨k + 1, by omega, by rw [HSU.out]; go_num, by go_num, b, k5⟩
                case measure => simp [intOf]; omega
              | false =>
                rw [ho] at hwk hsu
                rw [if_neg (by simp)] at hsu
                have HWK := Lib.hid hwk
                have HSU := Lib.hid hsu
                clear hwk hsu ho
                go_wp2_with fail
                refine HWK.out.mono ?_
                rintro e w5 ⟨rfl, b2⟩
                have k5 := k4.below b2 k4.lt
                replace b := b.trans (b2.mono hgw)
                clear b2 k4 HWK
                go_wp2
                go_roundw
                case rel => exact ⟨k + 1, by omega, by rw [HSU.out, Nat.add_zero], by go_num, b, k5⟩
                case measure => simp [intOf]; omega
            · have hk2 : (r1 - d).toNat = k := by omega
              have hcn := HC.out
              rw [hk2] at hcn
              obtain ⟨m, hm⟩ : ∃ m : Nat, n = m := ⟨n.toNat, by omega⟩
              subst hm
              simp only [Int.toNat_natCast] at hcn
              rw [hcn]
              obtain ⟨t0, t1, t2⟩ := k4.all
              unfold Blk at k4
              clear hcn HC hcl
              go_wp2
              go_ret
              exact ⟨rfl, by rw [HG.out]; exact b⟩
      · have u34 : u = 3 ∨ u = 4 := by omega
        clear c1 c2 c5
        rcases u34 with rfl | rfl
        · go_wp2
          go_ret
          exact ⟨rfl, by rw [HG.out]; exact b⟩
        · go_wp2
          go_ret
          exact ⟨rfl, by rw [HG.out]; exact b⟩
theorem ends_walk' (w : World) (ht : Tab w) (d : Int) (_wd : (Lit.int .i64 d).wf = true) (x : Int × Int) (A : Option Addr) (c : Nat) (l : List Int) (h : Ints w w.heap.size A l) : Calls Tryd.prog 6 #[.int .i64 d, .agg #[.int .i64 x.1, .int .i64 x.2], .slice A l.length c] w fun e w' => e = .returned (.bool true) ∧ Below w.heap.size w w' := ends_walk w ht d x.1 x.2 A c l h
end Go.Proofs.YtfblngdmeliabaaDoor
