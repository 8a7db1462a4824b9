/- Package fact: Valid and Fits. -/
import Derived.Test.YtebdkmlganalaaaGreatDoorKTopAccruedGAS
namespace Go.Proofs.YtebdkmlganalaaaGreatDoor
open Go.RowKit Go.Shelf

set_option maxHeartbeats 1000000 in
theorem fname_any (w : World) (s : ByteArray) (hs : s.size ≤ 9223372036854775807) : Calls Tryz.prog 60 #[.string s] w fun e w' => e = .returned (.bool (nmB s.data.toList)) ∧ w = w' := by
  have hsz : s.data.toList.length = s.size := rfl
  have HL := Lib.hid hsz
  clear hsz
  obtain ⟨r, hr⟩ : ∃ r, r = nmB s.data.toList := ⟨_, rfl⟩
  rw [← hr]
  have HR := Lib.hid hr
  clear hr
  go_enter Tryz.func60, Tryz.ntmps60
  go_wp2_with fail
  go_loop [9] (fun i => ∃ k : Nat, k ≤ s.size ∧ i = .int .i64 (k : Int) ∧ Hid (nmGo 0 (s.data.toList.take k) = true)) (fun i => s.size - (intOf i).toNat)
  case atStart => exact ⟨0, Nat.zero_le _, rfl, Lib.hid rfl⟩
  case round =>
    obtain ⟨k, hk, rfl, hn⟩ := hrel
    by_cases hlt : k < s.size
    · obtain ⟨c, hc⟩ : ∃ c, s.data.toList[k]? = some c := ⟨_, List.getElem?_eq_getElem (by rw [HL.out]; exact hlt)⟩
      have hget : s[k] = c := by
        obtain ⟨h1, h2⟩ := List.getElem?_eq_some_iff.1 hc
        rw [← h2]
        rfl
      have HC := Lib.hid hc
      clear hc
      have h255 := c.toNat_lt
      have hcl : (c.toNat ≤ 47 ∨ (58 ≤ c.toNat ∧ c.toNat ≤ 64) ∨ (91 ≤ c.toNat ∧ c.toNat ≤ 94) ∨ c.toNat = 96 ∨ 123 ≤ c.toNat) ∨ ((48 ≤ c.toNat ∧ c.toNat ≤ 57) ∨ c.toNat = 95) ∨ (65 ≤ c.toNat ∧ c.toNat ≤ 90) ∨ (97 ≤ c.toNat ∧ c.toNat ≤ 122) := by omega
      rcases hcl with hcl | hcl | hcl
      · have hok : okAt k c = false := by simp [okAt, letB, digB]; omega
        have e95 : ((c.toNat : Int) == 95) = false := by simp; omega
        have hno := nmGo_no HC.out hok
        have e : nmB s.data.toList = false := by unfold nmB; rw [hno]; rfl
        have HE := Lib.hid (HR.out.trans e)
        clear e hno hok HC
        have hk0 : ((k : Int) == 0) = true ∨ ((k : Int) == 0) = false := by cases ((k : Int) == 0) <;> simp
        rcases hk0 with e0 | e0 <;> rcases hcl with h | h | h | h | h <;> cases d57 : decide ((c.toNat : Int) ≤ 57) <;> cases d90 : decide ((c.toNat : Int) ≤ 90) <;> cases d122 : decide ((c.toNat : Int) ≤ 122)
        all_goals first
          | (exfalso; simp at d57 d90 d122; omega)
          | (go_wp2; go_ret; exact ⟨by rw [HE.out]; rfl, rfl⟩)
      · cases h0 : decide (0 < k) with
        | false =>
          have hk0 : k = 0 := by simpa using h0
          have hok : okAt k c = false := by
            subst hk0
            simp [okAt, letB, digB]; omega
          have e0 : ((k : Int) == 0) = true := by simpa using hk0
          have hno := nmGo_no HC.out hok
          have e : nmB s.data.toList = false := by unfold nmB; rw [hno]; rfl
          have HE := Lib.hid (HR.out.trans e)
          clear e hno hok HC hk0 h0
          rcases hcl with h | h
          · cases e95 : ((c.toNat : Int) == 95) with
            | true => exfalso; simp at e95; omega
            | false =>
              go_wp2
              go_ret
              exact ⟨by rw [HE.out]; rfl, rfl⟩
          · have e95 : ((c.toNat : Int) == 95) = true := by simp; omega
            go_wp2
            go_ret
            exact ⟨by rw [HE.out]; rfl, rfl⟩
        | true =>
          have hk0 : 0 < k := by simpa using h0
          have hok : okAt k c = true := by
            simp [okAt, letB, digB]; omega
          have e0 : ((k : Int) == 0) = false := by simp; omega
          have hnx : nmGo 0 (s.data.toList.take (k + 1)) = true := by rw [nmGo_at HC.out, hn.out, hok]; rfl
          have HX := Lib.hid hnx
          clear hnx hok h0
          rcases hcl with h | h
          · have d57 : decide ((c.toNat : Int) ≤ 57) = true := by simp; omega
            go_wp2
            go_round
            case rel => exact ⟨k + 1, by omega, by go_num, HX⟩
            case measure => simp [intOf]; omega
          · have e95 : ((c.toNat : Int) == 95) = true := by simp; omega
            go_wp2
            go_round
            case rel => exact ⟨k + 1, by omega, by go_num, HX⟩
            case measure => simp [intOf]; omega
      · have hok : okAt k c = true := by simp [okAt, letB, digB]; omega
        have e95 : ((c.toNat : Int) == 95) = false := by simp; omega
        have hnx : nmGo 0 (s.data.toList.take (k + 1)) = true := by rw [nmGo_at HC.out, hn.out, hok]; rfl
        have HX := Lib.hid hnx
        clear hnx hok
        rcases hcl with h | h <;> cases d57 : decide ((c.toNat : Int) ≤ 57) <;> cases d90 : decide ((c.toNat : Int) ≤ 90) <;> cases d122 : decide ((c.toNat : Int) ≤ 122)
        all_goals try (exfalso; simp at d57 d90 d122; omega)
        all_goals
          go_wp2
          go_round
          case rel => exact ⟨k + 1, by omega, by go_num, HX⟩
          case measure => simp [intOf]; omega
    · obtain rfl : k = s.size := by omega
      have hn2 : nmGo 0 s.data.toList = true := by have := hn.out; rwa [List.take_of_length_le (by rw [HL.out]; exact Nat.le_refl _)] at this
      have e : nmB s.data.toList = (!s.toList.isEmpty && decide ((s.size : Int) ≤ 24)) := by
        unfold nmB
        rw [hn2, Bool.true_and, HL.out, ByteArray.toList_eq]
        congr 1
        rw [decide_eq_decide]
        omega
      cases he : s.toList.isEmpty with
      | true =>
        have hz : s.toList = [] := by simpa using he
        rw [he] at e
        have HE := Lib.hid (HR.out.trans e)
        clear e hn2 hn
        go_wp2
        go_ret
        exact ⟨by rw [HE.out]; rfl, rfl⟩
      | false =>
        have hz : ¬ s.toList = [] := by simpa using he
        rw [he] at e
        have HE := Lib.hid (HR.out.trans e)
        clear e hn2 hn
        go_wp2
        go_ret
        exact ⟨by rw [HE.out]; rfl, rfl⟩

/-- Facts in memory. -/
def FcsAt (w : World) (B : Nat) (A : Option Addr) (l : List Fc) : Prop :=
  ∀ (i : Nat) (x : Fc), l[i]? = some x → ∃ g off, A = some ⟨g, off, none⟩ ∧ g < B ∧ w.cell? ⟨g, off + i * 4, none⟩ = some (.string x.name) ∧ w.cell? ⟨g, off + i * 4 + 1, none⟩ = some (.int .i64 x.kind) ∧ w.cell? ⟨g, off + i * 4 + 2, none⟩ = some (.int .i64 x.lo) ∧ w.cell? ⟨g, off + i * 4 + 3, none⟩ = some (.int .i64 x.hi)
theorem FcsAt.below {w w' : World} {B : Nat} {A : Option Addr} {l : List Fc} (h : FcsAt w B A l) (hb : Below B w w') : FcsAt w' B A l := fun i s hi => by
  obtain ⟨g, off, hA, hg, c0, c1, c2, c3⟩ := h i s hi
  exact ⟨g, off, hA, hg, (hb.cell (p := ⟨g, off + i * 4, none⟩) hg).trans c0, (hb.cell (p := ⟨g, off + i * 4 + 1, none⟩) hg).trans c1, (hb.cell (p := ⟨g, off + i * 4 + 2, none⟩) hg).trans c2, (hb.cell (p := ⟨g, off + i * 4 + 3, none⟩) hg).trans c3⟩
theorem FcsAt.wide {w : World} {B B' : Nat} {A : Option Addr} {l : List Fc} (h : FcsAt w B A l) (hB : B ≤ B') : FcsAt w B' A l := fun i s hi => by
  obtain ⟨g, off, hA, hg, c0⟩ := h i s hi
  exact ⟨g, off, hA, by omega, c0⟩
def flgB (f : Fc) : Bool := decide (f.kind = 1 ∧ f.lo = 0 ∧ f.hi = 1)
def othB (f : Fc) : Bool := decide ((f.kind = 2 ∨ f.kind = 3) ∧ 0 ≤ f.lo ∧ f.lo ≤ f.hi ∧ f.hi ≤ 1000000)

set_option maxRecDepth 100000 in
set_option maxHeartbeats 4000000 in
theorem fvalid_any (w : World) (B : Nat) (A : Option Addr) (l : List Fc) (c : Nat) (h : FcsAt w B A l) (hB : B ≤ w.heap.size) (hl : l.length ≤ 4611686018427387904) (hn : ∀ f ∈ l, f.name.size ≤ 9223372036854775807) :
    Calls Tryz.prog 23 #[.agg #[.slice A l.length c]] w fun e w' => e = .returned (.bool (dmB l)) ∧ Below w.heap.size w w' := by
  have hz := fun W => Tryz.zeroValue4 W
  obtain ⟨r, hr⟩ : ∃ r, dmB l = r := ⟨_, rfl⟩
  rw [hr]
  unfold dmB at hr
  have HR := Lib.hid hr
  have HH := Lib.hid h
  have HNM := Lib.hid hn
  have hb0 := (below_self_alloc w (.cells #[.slice A l.length c] 37)).alloc (by simp) (.map #[] 0)
  have kd := (Blk.new w 37 #[.slice A l.length c]).alloc (.map #[] 0)
  have hm0 := MapV.made (w.alloc (.cells #[.slice A l.length c] 37))
  rw [World.size_alloc] at hm0
  have hmm := @run_makeMap Tryz.prog
  clear hr h hn
  obtain ⟨d0, d1, d2⟩ := kd.all
  go_enter Tryz.func23, Tryz.ntmps23
  go_wp2_with fail
  go_loopw [12] (fun i wr => ∃ k : Nat, k ≤ l.length ∧ i = .int .i64 (k : Int) ∧ Hid (difTo (·.name) fcB l k) ∧ Hid (MapV wr (w.heap.size + 1) (seenL (fun x : Fc => (.string x.name : Value)) l k)) ∧ Hid (Blk wr w.heap.size 37 #[.slice A l.length c]) ∧ Below w.heap.size w wr) (fun i _ => l.length - (intOf i).toNat)
  case atStart => exact ⟨0, Nat.zero_le _, rfl, Lib.hid difTo_zero, Lib.hid hm0, Lib.hid kd, hb0⟩
  case round =>
    clear hb0 hm0 hmm kd d0 d1 d2
    obtain ⟨k, hk, rfl, HD, HM, KD, hb⟩ := hrel
    by_cases hlt : k < l.length
    · obtain ⟨x, hx⟩ : ∃ x, l[k]? = some x := ⟨_, List.getElem?_eq_getElem hlt⟩
      obtain ⟨g, off, hA, hg, c0, c1, c2, c3⟩ := (HH.out.below (hb.mono hB)) k x hx
      have hnx := HNM.out x (List.mem_of_getElem? hx)
      subst hA
      have HX := Lib.hid hx
      have hb1 := hb.alloc hb.size (.cells #[.string x.name, .int .i64 x.kind, .int .i64 x.lo, .int .i64 x.hi] 72)
      have kx := Blk.new wr 72 #[.string x.name, .int .i64 x.kind, .int .i64 x.lo, .int .i64 x.hi]
      have m1 := HM.out.alloc (.cells #[.string x.name, .int .i64 x.kind, .int .i64 x.lo, .int .i64 x.hi] 72)
      have d1 := KD.out.alloc (.cells #[.string x.name, .int .i64 x.kind, .int .i64 x.lo, .int .i64 x.hi] 72)
      clear hx
      go_upto_region 5 with fail
      generalize wr.alloc (.cells #[.string x.name, .int .i64 x.kind, .int .i64 x.lo, .int .i64 x.hi] 72) = W1 at *
      have HB1 := Lib.hid hb1
      have KX := Lib.hid kx
      have M1 := Lib.hid m1
      have D1 := Lib.hid d1
      obtain ⟨t0, t1, t2⟩ := kx.all
      clear hb1 kx m1 d1 c0 c1 c2 c3 HM KD hb
      obtain ⟨F, hF⟩ : ∃ F, flgB x = F := ⟨_, rfl⟩
      obtain ⟨O, hO⟩ : ∃ O, othB x = O := ⟨_, rfl⟩
      have HF := Lib.hid hF
      have HO := Lib.hid hO
      clear hF hO
      go_cut [6] (fun v wx => v = .bool F ∧ W1 = wx)
      case first =>
        have hF := HF.out
        unfold flgB at hF
        by_cases e1 : x.kind = 1
        · by_cases e2 : x.lo = 0
          · by_cases e3 : x.hi = 1
            · obtain rfl : true = F := by rw [← hF]; exact (decide_eq_true ⟨e1, e2, e3⟩).symm
              have q1 : (x.kind == 1) = true := by simpa using e1
              have q2 : (x.lo == 0) = true := by simpa using e2
              have q3 : (x.hi == 1) = true := by simpa using e3
              clear hF e1 e2 e3
              go_wp2
              go_meet
              exact ⟨rfl, rfl⟩
            · obtain rfl : false = F := by rw [← hF]; exact (decide_eq_false (fun h => e3 h.2.2)).symm
              have q1 : (x.kind == 1) = true := by simpa using e1
              have q2 : (x.lo == 0) = true := by simpa using e2
              have q3 : (x.hi == 1) = false := by simpa using e3
              clear hF e1 e2 e3
              go_wp2
              go_meet
              exact ⟨rfl, rfl⟩
          · obtain rfl : false = F := by rw [← hF]; exact (decide_eq_false (fun h => e2 h.2.1)).symm
            have q1 : (x.kind == 1) = true := by simpa using e1
            have q2 : (x.lo == 0) = false := by simpa using e2
            clear hF e1 e2
            go_wp2
            go_meet
            exact ⟨rfl, rfl⟩
        · obtain rfl : false = F := by rw [← hF]; exact (decide_eq_false (fun h => e1 h.1)).symm
          have q1 : (x.kind == 1) = false := by simpa using e1
          clear hF e1
          go_wp2
          go_meet
          exact ⟨rfl, rfl⟩
      case rest =>
        obtain ⟨rfl, rfl⟩ := hcut
        go_upto_region 6 with fail
        go_cut [7] (fun v wx => v = .bool O ∧ W1 = wx)
        case first =>
          have hO := HO.out
          unfold othB at hO
          by_cases e2 : x.kind = 2
          · have q2 : (x.kind == 2) = true := by simpa using e2
            by_cases e4 : 0 ≤ x.lo
            · by_cases e5 : x.lo ≤ x.hi
              · by_cases e6 : x.hi ≤ 1000000
                · obtain rfl : true = O := by rw [← hO]; exact (decide_eq_true (by omega)).symm
                  clear hO
                  go_wp2
                  go_meet
                  exact ⟨rfl, rfl⟩
                · obtain rfl : false = O := by rw [← hO]; exact (decide_eq_false (by omega)).symm
                  have d6 : decide (x.hi ≤ 1000000) = false := decide_eq_false e6
                  clear hO
                  go_wp2
                  go_meet
                  exact ⟨rfl, rfl⟩
              · obtain rfl : false = O := by rw [← hO]; exact (decide_eq_false (by omega)).symm
                have d5 : decide (x.lo ≤ x.hi) = false := decide_eq_false e5
                clear hO
                go_wp2
                go_meet
                exact ⟨rfl, rfl⟩
            · obtain rfl : false = O := by rw [← hO]; exact (decide_eq_false (by omega)).symm
              have d4 : decide (0 ≤ x.lo) = false := decide_eq_false e4
              clear hO
              go_wp2
              go_meet
              exact ⟨rfl, rfl⟩
          · have q2 : (x.kind == 2) = false := by simpa using e2
            by_cases e3 : x.kind = 3
            · have q3 : (x.kind == 3) = true := by simpa using e3
              by_cases e4 : 0 ≤ x.lo
              · by_cases e5 : x.lo ≤ x.hi
                · by_cases e6 : x.hi ≤ 1000000
                  · obtain rfl : true = O := by rw [← hO]; exact (decide_eq_true (by omega)).symm
                    clear hO
                    go_wp2
                    go_meet
                    exact ⟨rfl, rfl⟩
                  · obtain rfl : false = O := by rw [← hO]; exact (decide_eq_false (by omega)).symm
                    have d6 : decide (x.hi ≤ 1000000) = false := decide_eq_false e6
                    clear hO
                    go_wp2
                    go_meet
                    exact ⟨rfl, rfl⟩
                · obtain rfl : false = O := by rw [← hO]; exact (decide_eq_false (by omega)).symm
                  have d5 : decide (x.lo ≤ x.hi) = false := decide_eq_false e5
                  clear hO
                  go_wp2
                  go_meet
                  exact ⟨rfl, rfl⟩
              · obtain rfl : false = O := by rw [← hO]; exact (decide_eq_false (by omega)).symm
                have d4 : decide (0 ≤ x.lo) = false := decide_eq_false e4
                clear hO
                go_wp2
                go_meet
                exact ⟨rfl, rfl⟩
            · have q3 : (x.kind == 3) = false := by simpa using e3
              obtain rfl : false = O := by rw [← hO]; exact (decide_eq_false (fun h => by omega)).symm
              clear hO e2 e3
              go_wp2
              go_meet
              exact ⟨rfl, rfl⟩
        case rest =>
          obtain ⟨rfl, rfl⟩ := hcut
          cases F with
          | true =>
            have n1 := fname_any W1 x.name hnx
            have hfc : fcB x = nameB x.name := by
              show ((flgB x || othB x) && nameB x.name) = nameB x.name
              rw [HF.out, HO.out]
              rfl
            have HFC := Lib.hid hfc
            clear hfc
            cases hN : nameB x.name with
            | false =>
              have hrr : r = false := by rw [← HR.out]; exact difB_bad HX.out (by rw [HFC.out, hN])
              subst hrr
              rw [show nmB x.name.data.toList = nameB x.name from rfl, hN] at n1
              have N1 := Lib.hid n1
              have hb1 := HB1.out
              clear n1 hN
              go_wp2_with fail
              refine N1.out.mono ?_
              rintro e w2 ⟨rfl, rfl⟩
              go_wp2
              go_ret
              exact ⟨rfl, hb1⟩
            | true =>
              have hgd := Lib.hid (HFC.out.trans hN)
              rw [show nmB x.name.data.toList = nameB x.name from rfl, hN] at n1
              have N1 := Lib.hid n1
              clear n1 hN
              go_wp2_with fail
              refine N1.out.mono ?_
              rintro e w2 ⟨rfl, rfl⟩
              by_cases hdup : x.name ∈ (l.take k).map (·.name)
              · have hrr : r = false := by rw [← HR.out]; exact difB_twice HX.out hdup
                subst hrr
                have lk : (Instr.lookup 115 (.map (some (w.heap.size + 1))) (.string x.name) false).run Tryz.prog W1 = .ok (.bool true) W1 := M1.out.look_some kysStr Tryz.underlying115 (seenL_G (fun x => ⟨x.name, rfl⟩) l k) (seenL_mem (f := fun s => Value.string s) (fun _ => rfl) hdup) false
                have hb1 := HB1.out
                clear hdup
                go_wp2
                go_ret
                exact ⟨rfl, hb1⟩
              · have lk : (Instr.lookup 115 (.map (some (w.heap.size + 1))) (.string x.name) false).run Tryz.prog W1 = .ok (.bool false) W1 := M1.out.look_none kysStr Tryz.underlying115 (seenL_G (fun x => ⟨x.name, rfl⟩) l k) ⟨x.name, rfl⟩ (seenL_ne (f := fun s => Value.string s) (fun _ => rfl) (fun a b h => Value.string.inj h) hdup) (hz W1) false
                have hdx := Lib.hid (difTo_next HD.out HX.out hgd.out hdup)
                have hne := Lib.hid (seenL_ne (kv := fun x : Fc => (.string x.name : Value)) (f := fun s => Value.string s) (fun _ => rfl) (fun a b h => Value.string.inj h) hdup)
                obtain ⟨w5, hu, hm5, hg5⟩ := M1.out.upd_none kysStr Tryz.underlying115 (seenL_G (fun x => ⟨x.name, rfl⟩) l k) (x := .string x.name) ⟨x.name, rfl⟩ hne.out (.bool true)
                have hb5 := HB1.out.grown hg5 HB1.out.size (fun j e => by injection e with e; omega)
                have hd5 := D1.out.grown hg5 (fun e => by injection e with e; omega)
                have HM5 := Lib.hid hm5
                have HD5 := Lib.hid hd5
                clear hdup hm5 hg5 hd5
                go_wp2
                go_roundw
                case rel => exact ⟨k + 1, by omega, by go_num, hdx, Lib.hid (by rw [seenL_next HX.out]; exact HM5.out), HD5, hb5⟩
                case measure => simp [intOf]; omega
          | false =>
            cases O with
            | true =>
              have n1 := fname_any W1 x.name hnx
              have hfc : fcB x = nameB x.name := by
                show ((flgB x || othB x) && nameB x.name) = nameB x.name
                rw [HF.out, HO.out]
                rfl
              have HFC := Lib.hid hfc
              clear hfc
              cases hN : nameB x.name with
              | false =>
                have hrr : r = false := by rw [← HR.out]; exact difB_bad HX.out (by rw [HFC.out, hN])
                subst hrr
                rw [show nmB x.name.data.toList = nameB x.name from rfl, hN] at n1
                have N1 := Lib.hid n1
                have hb1 := HB1.out
                clear n1 hN
                go_wp2_with fail
                refine N1.out.mono ?_
                rintro e w2 ⟨rfl, rfl⟩
                go_wp2
                go_ret
                exact ⟨rfl, hb1⟩
              | true =>
                have hgd := Lib.hid (HFC.out.trans hN)
                rw [show nmB x.name.data.toList = nameB x.name from rfl, hN] at n1
                have N1 := Lib.hid n1
                clear n1 hN
                go_wp2_with fail
                refine N1.out.mono ?_
                rintro e w2 ⟨rfl, rfl⟩
                by_cases hdup : x.name ∈ (l.take k).map (·.name)
                · have hrr : r = false := by rw [← HR.out]; exact difB_twice HX.out hdup
                  subst hrr
                  have lk : (Instr.lookup 115 (.map (some (w.heap.size + 1))) (.string x.name) false).run Tryz.prog W1 = .ok (.bool true) W1 := M1.out.look_some kysStr Tryz.underlying115 (seenL_G (fun x => ⟨x.name, rfl⟩) l k) (seenL_mem (f := fun s => Value.string s) (fun _ => rfl) hdup) false
                  have hb1 := HB1.out
                  clear hdup
                  go_wp2
                  go_ret
                  exact ⟨rfl, hb1⟩
                · have lk : (Instr.lookup 115 (.map (some (w.heap.size + 1))) (.string x.name) false).run Tryz.prog W1 = .ok (.bool false) W1 := M1.out.look_none kysStr Tryz.underlying115 (seenL_G (fun x => ⟨x.name, rfl⟩) l k) ⟨x.name, rfl⟩ (seenL_ne (f := fun s => Value.string s) (fun _ => rfl) (fun a b h => Value.string.inj h) hdup) (hz W1) false
                  have hdx := Lib.hid (difTo_next HD.out HX.out hgd.out hdup)
                  have hne := Lib.hid (seenL_ne (kv := fun x : Fc => (.string x.name : Value)) (f := fun s => Value.string s) (fun _ => rfl) (fun a b h => Value.string.inj h) hdup)
                  obtain ⟨w5, hu, hm5, hg5⟩ := M1.out.upd_none kysStr Tryz.underlying115 (seenL_G (fun x => ⟨x.name, rfl⟩) l k) (x := .string x.name) ⟨x.name, rfl⟩ hne.out (.bool true)
                  have hb5 := HB1.out.grown hg5 HB1.out.size (fun j e => by injection e with e; omega)
                  have hd5 := D1.out.grown hg5 (fun e => by injection e with e; omega)
                  have HM5 := Lib.hid hm5
                  have HD5 := Lib.hid hd5
                  clear hdup hm5 hg5 hd5
                  go_wp2
                  go_roundw
                  case rel => exact ⟨k + 1, by omega, by go_num, hdx, Lib.hid (by rw [seenL_next HX.out]; exact HM5.out), HD5, hb5⟩
                  case measure => simp [intOf]; omega
            | false =>
              have hfc : fcB x = false := by
                show ((flgB x || othB x) && nameB x.name) = false
                rw [HF.out, HO.out]
                rfl
              have hrr : r = false := by rw [← HR.out]; exact difB_bad HX.out hfc
              subst hrr
              have hb1 := HB1.out
              clear hfc
              go_wp2
              go_ret
              exact ⟨rfl, hb1⟩
    · obtain rfl : k = l.length := by omega
      have hend := HR.out
      rw [difB_end HD.out] at hend
      have HE := Lib.hid hend
      obtain ⟨d0, d1, d2⟩ := KD.out.all
      clear hend
      by_cases h60 : l.length ≤ 60
      · have d60 : decide ((l.length : Int) ≤ 60) = true := decide_eq_true (by omega)
        have hrr : r = true := by rw [← HE.out]; exact decide_eq_true h60
        subst hrr
        clear h60
        go_wp2
        go_ret
        exact ⟨rfl, hb⟩
      · have d60 : decide ((l.length : Int) ≤ 60) = false := decide_eq_false (by omega)
        have hrr : r = false := by rw [← HE.out]; exact decide_eq_false h60
        subst hrr
        clear h60
        go_wp2
        go_ret
        exact ⟨rfl, hb⟩
end Go.Proofs.YtebdkmlganalaaaGreatDoor
