/- JournalAtomic's walk. -/
import Derived.Test.YtfjejfgdnjnflaaDoorKo
import Derived.Test.YtfjejfgdnjnflaaDoorKt
namespace Go.Proofs.YtfjejfgdnjnflaaDoor
open Go.RowKit Go.Shelf

theorem tmod_max (a : Int) : ∃ v : Nat, (v : Int) = max 0 (a.tmod 100) ∧ v ≤ 99 := by
  have h1 : a.tmod 100 < 100 := Int.tmod_lt_of_pos a (by decide)
  refine ⟨(max 0 (a.tmod 100)).toNat, by omega, by omega⟩
theorem Live.lift2 {w0 w : World} {a : Nat} {d d' : Dk} {K : Foot} {P : Program} {f : FuncId} {args : Array Value} {v : Value} (h : Live w0 w a d K) (hc : ∀ F, DiskAt w a d F → Calls P f args w fun e w' => e = .returned v ∧ Stp w w' a d' F) :
    Calls P f args w fun e w' => e = .returned v ∧ Live w0 w' a d' K ∧ Keep K w w' := h.lift hc
/-- What a round of JournalAtomic finds wrong: nothing. -/
theorem round_ok {rs xs ls : List (List UInt8)} {e : Int} (h1 : rs = xs ∨ rs = xs ++ ls) (h2 : e = 0 → rs = xs ++ ls) (h3 : e ≠ 0 → e ≠ 25 → rs = xs) :
    (e = 0 ∧ decide (rs = xs ++ ls) = true) ∨ (e = 25 ∧ (decide (rs = xs) = true ∨ (decide (rs = xs) = false ∧ decide (rs = xs ++ ls) = true))) ∨ ((e == 0) = false ∧ (e != 0) = true ∧ (e == 25) = false ∧ (e != 25) = true ∧ decide (rs = xs) = true) := by
  by_cases e0 : e = 0
  · exact .inl ⟨e0, decide_eq_true (h2 e0)⟩
  by_cases e25 : e = 25
  · refine .inr (.inl ⟨e25, ?_⟩)
    by_cases h : rs = xs
    · exact .inl (decide_eq_true h)
    · exact .inr ⟨decide_eq_false h, decide_eq_true (h1.resolve_left h)⟩
  · exact .inr (.inr ⟨by simpa using e0, by simpa using e0, by simpa using e25, by simpa using e25, decide_eq_true (h3 e0 e25)⟩)

set_option maxRecDepth 100000 in
set_option maxHeartbeats 16000000 in
theorem atomic_walk (w : World) (ht : Tbs w) (s : Int) (_ws : (Lit.int .i64 s).wf = true) (A : Option Addr) (c : Nat) (l : List OpJ) (h : OpsAt w w.heap.size A l) :
    Calls Tryd.prog 7 #[.int .i64 s, .slice A l.length c] w fun e w' => e = .returned (.bool true) ∧ Below w.heap.size w w' := by
  have HO := Lib.hid h
  have HT := Lib.hid ht
  obtain ⟨i0, hi0, hz0, hz1, hz2⟩ := info_parts Tryd.infoStr
  clear h ht _ws
  go_enter Tryd.func7, Tryd.ntmps7
  go_wp2_with fail
  refine (head_any w HT.out).mono ?_
  rintro e w1 ⟨rfl, b1⟩
  have HL := Lib.hid (light_any w1 s A c l (HO.out.later b1))
  go_wp2_with fail
  refine HL.out.mono ?_
  rintro e w2 ⟨lt, rfl, hlt, b2⟩
  have hb2 := b1.trans (b2.mono b1.size)
  clear HL b1 b2
  cases lt with
  | false =>
    clear hlt
    go_wp2
    go_ret
    exact ⟨rfl, hb2⟩
  | true =>
    obtain ⟨h40, h16, h20⟩ := hlt rfl
    have HO2 := Lib.hid (HO.out.later hb2)
    have HTW := Lib.hid (HT.out.below hb2)
    have H20 := Lib.hid h20
    clear hlt h20 HO HT
    by_cases h1 : s < 1
    · have P := Lib.hid (new_no w2 s (.inl h1))
      go_wp2_with fail
      refine P.out.mono ?_
      rintro e w3 ⟨rfl, rfl⟩
      go_wp2_with fail
      refine (open_nil w2).mono ?_
      rintro e w3 ⟨rfl, rfl⟩
      clear P h1
      go_wp2
      go_ret
      exact ⟨rfl, hb2⟩
    obtain ⟨n, rfl⟩ := Int.eq_ofNat_of_zero_le (show 0 ≤ s by omega)
    have P := Lib.hid (new_yes w2 n (by omega) (by omega))
    by_cases h3 : n < 3
    · go_wp2_with fail
      refine P.out.mono ?_
      rintro e w3 ⟨a, rfl, b3, ga, hD⟩
      have L3 : Live w2 w3 a (Dk.new n) (fun _ => False) := Live.of_new (Below.refl _ _) b3 hD
      have P1 := Lib.hid (L3.open_none HTW.out (by show 0 ≤ 1000; omega) (new_few h3))
      clear P b3 ga hD L3
      go_wp2_with fail
      refine P1.out.mono ?_
      rintro e w4 ⟨rfl, L4, k4⟩
      have hb4 := hb2.trans (L4.below.mono hb2.size)
      clear P1 L4 k4 h1 h3
      go_wp2
      go_ret
      exact ⟨rfl, hb4⟩
    go_wp2_with fail
    refine P.out.mono ?_
    rintro e w3 ⟨a, rfl, b3, ga, hD⟩
    have L3 : Live w2 w3 a (Dk.new n) (fun _ => False) := Live.of_new (Below.refl _ _) b3 hD
    have p1 := L3.open_some HTW.out (by show 0 ≤ 1000; omega) (new_on (by omega) (by omega)).2
    simp only [List.length_nil] at p1
    have P1 := Lib.hid p1
    have b3s := b3.size
    clear P b3 ga hD L3 p1
    go_wp2_with fail
    refine P1.out.mono ?_
    rintro e w4 ⟨j, Aq, cq, B, rfl, S4, o4, hB, k4⟩
    have hb24 := S4.live.below.size
    have hBw : w2.heap.size ≤ B := by omega
    have S5 := Lib.hid (S4.base.less (L := fun i => i < w2.heap.size ∨ (Value.slice Aq 0 cq).ownBlock = some i) fun i hi => hi.elim .inl (fun h => .inr (.inr (World.ownsRow.lt o4 i h))))
    have o5 : OwnStrs w4 w2.heap.size (.slice Aq 0 cq) [] := o4.mono hBw
    have O5 := Lib.hid o5
    have HA0 := Lib.hid (show At (Dk.new n) ⟨n, 0, [], false⟩ n from ⟨(new_on (by omega) (by omega)).1, rfl, rfl, rfl⟩)
    clear P1 S4 o4 hB k4 o5
    go_wp2_with fail
    go_loopw [7, 8, 10] (fun v7 v8 i wr => ∃ (k : Nat) (d : Dk) (x : Jn) (j : Nat) (A8 : Option Addr) (c8 : Nat), k ≤ l.length ∧ i = .int .i64 (k : Int) ∧ v7 = .pointer (some ⟨j, 0, none⟩) ∧ v8 = .slice A8 x.rs.length c8 ∧
      OwnStrs wr w2.heap.size (.slice A8 x.rs.length c8) x.rs ∧ Ses w2 wr a d j x (fun i => i < w2.heap.size ∨ (Value.slice A8 x.rs.length c8).ownBlock = some i) ∧ Hid (At d x n)) (fun _ _ i _ => l.length - (intOf i).toNat)
    case atStart => exact ⟨0, Dk.new n, ⟨n, 0, [], false⟩, j, Aq, cq, Nat.zero_le _, rfl, rfl, rfl, O5.out, S5.out, HA0⟩
    case round =>
      clear S5 O5 HA0
      obtain ⟨k, d, x, j, A8, c8, hk, rfl, rfl, rfl, own8, S, HA⟩ := hrel
      by_cases hlt : k < l.length
      · obtain ⟨o, ho⟩ : ∃ o, l[k]? = some o := ⟨_, List.getElem?_eq_getElem hlt⟩
        have hom := List.mem_of_getElem? ho
        obtain ⟨g, off, rfl, hg, -⟩ := HO2.out.cell k o ho
        have hcells : ∀ W, Below w2.heap.size w2 W → W.cell? ⟨g, off + k * 5 + 1, none⟩ = some (.slice o.la o.list.length o.lc) ∧ W.cell? ⟨g, off + k * 5 + 2, none⟩ = some (.int .i64 o.at_) ∧ W.cell? ⟨g, off + k * 5 + 3, none⟩ = some (.int .i64 o.writes) ∧ W.cell? ⟨g, off + k * 5 + 4, none⟩ = some (.int .i64 o.bytes) := fun W hW => by
          obtain ⟨g', off', h1, h2, h3⟩ := (HO2.out.below hW).cell k o ho
          obtain ⟨rfl, rfl⟩ : g = g' ∧ off = off' := by simpa using h1
          exact ⟨h3 1 _ rfl, h3 2 _ rfl, h3 3 _ rfl, h3 4 _ rfl⟩
        have hst : ∀ W, Below w2.heap.size w2 W → StrsAt W w2.heap.size o.la o.list := fun W hW => ((HO2.out.below hW).strs o hom).1
        have h20 := H20.out o hom
        have hsz := HA.out.size
        obtain ⟨v, hv, hv99⟩ := tmod_max o.at_
        have hmx := run_max2 (P := Tryd.prog) 0 (o.at_.tmod 100) (v : Int) hv
        have tm5 : (v : Int).tmod 5 = ((v % 5 : Nat) : Int) := (Int.ofNat_tmod v 5).symm
        have has := atomic_step HA.out v hv99 (v % 5) (by omega) o.writes o.bytes o.list
        obtain ⟨v5, hv5⟩ : ∃ v5, v % 5 = v5 := ⟨_, rfl⟩
        have hv5l : v5 ≤ 99 := by omega
        rw [hv5] at tm5 has
        obtain ⟨kd, la, lc, ls, at_, wn, bn⟩ := o
        simp only at *
        obtain ⟨tt, htt⟩ : ∃ t, at_.tmod 100 = t := ⟨_, rfl⟩
        rw [htt] at hmx hv
        have HC := Lib.hid hcells
        have HST := Lib.hid hst
        have HAS := Lib.hid has
        have hki : (k : Int) < (l.length : Int) := by omega
        have hk0 : (0 : Int) ≤ (k : Int) := by omega
        have hrl : x.rs.length ≤ 5000 := by omega
        clear hcells hst has ho hom hv5 hv
        go_upto_region 11 with fail
        go_cut [11] from 45 to 53 (fun v wx => ∃ (A11 : Option Addr) (c11 : Nat), v = .slice A11 (x.rs ++ ls).length c11 ∧ OwnStrs wx wr.heap.size (.slice A11 (x.rs ++ ls).length c11) (x.rs ++ ls) ∧ Below wr.heap.size wr wx)
        case first =>
          have hbr := S.live.below
          have hbs := hbr.size
          refine wp_region_hold (fun W => W.cell? ⟨g, off + k * 5 + 1, none⟩ = some (.slice la ls.length lc)) [1, 3, 4, 5, 6, 7] [0, 2] [8, 9] (by kernel_rfl) (by kernel_rfl) (fun _ d _ _ _ h => by cases d <;> exact h) (HC.out wr hbr).1 ?_
          simp only [pick, List.drop_succ_cons, List.drop_zero, List.head?_cons, Option.toList_some, List.cons_append, List.nil_append, List.append_nil]
          repeat (refine wpHeld_step ?_ rfl ?_ ?_; rotate_left; · (intro W hW; go_simp; with_reducible rfl))
          refine wpHeld_nil ?_
          simp only [wpEarly]
          have bd : Below wr.heap.size wr wr.drew := (Below.refl _ wr).drew
          have own8d : OwnStrs wr.drew w2.heap.size (.slice A8 x.rs.length c8) x.rs := own8.below bd
          have hds : wr.drew.heap.size = wr.heap.size := rfl
          generalize wr.drew = wd at *
          have b7 : Below wr.heap.size wr (wd.alloc (.cells #[] 9)) := bd.alloc (by omega) _
          have own0 : (wd.alloc (.cells #[] 9)).ownsRow wr.heap.size 9 1 (.slice (some ⟨wr.heap.size, 0, none⟩) 0 0) 0 [] := by
            have q : (wd.alloc (.cells #[] 9)).ownsRow wr.heap.size 9 1 (.slice (some ⟨wd.heap.size, 0, none⟩) 0 0) 0 [] := World.ownsRow_lit wd #[] 0 (by omega) (by unfold maxLen; omega) rfl
            rwa [hds] at q
          have o7 : OwnStrs (wd.alloc (.cells #[] 9)) w2.heap.size (.slice A8 x.rs.length c8) x.rs := World.ownsRow.alloc own8d _
          have hnews : ∀ (i : Nat) (u : Value), (x.rs.map sv)[i]? = some u → ∃ ad, A8 = some ad ∧ (wd.alloc (.cells #[] 9)).cell? (ad.add i) = some u := fun i u hu => by
            rw [List.getElem?_map, Option.map_eq_some_iff] at hu
            obtain ⟨s', hs', rfl⟩ := hu
            obtain ⟨g', off', h1, h2, h3⟩ := o7.strsAt i s' hs'
            refine ⟨_, h1, ?_⟩
            have hadd : (⟨g', off', none⟩ : Addr).add i = ⟨g', off' + i, none⟩ := by unfold Addr.add; split <;> simp_all
            rw [hadd]
            exact h3
          have HNW := Lib.hid hnews
          have hc7 := (HC.out _ (hbr.trans (b7.mono hbr.size))).1
          clear hnews o7 own8d
          go_wp2_with fail
          refine ⟨hc7, ?_⟩
          go_wp2_with (go_loud (at_builtin; refine wpList_append_any rfl _ _ 27 rfl wr.heap.size 9 i0 _ 1 16 Tryd.underlying27 hi0 hz0 hz1 hz2 rfl (by omega) (.slice (some ⟨wr.heap.size, 0, none⟩) 0 0) 0 [] rfl own0 A8 x.rs.length c8 (x.rs.map sv) rfl (by simp) HNW.out (sv_one x.rs) (by unfold maxLen; omega) (by omega) (by simp; omega) ?_; intro v4 w8 own4 gr4 l4))
          simp only [Nat.zero_add, List.nil_append] at own4
          have b8 : Below wr.heap.size wr w8 := b7.grown gr4 b7.size (fun y hy => (own0.lt y hy).1)
          have hb8 := hbr.trans (b8.mono hbr.size)
          have hc8 := (HC.out _ hb8).1
          have hst8 := HST.out _ hb8
          have hnews2 : ∀ (i : Nat) (u : Value), (ls.map sv)[i]? = some u → ∃ ad, la = some ad ∧ w8.cell? (ad.add i) = some u := fun i u hu => by
            rw [List.getElem?_map, Option.map_eq_some_iff] at hu
            obtain ⟨s', hs', rfl⟩ := hu
            obtain ⟨g', off', h1, h2, h3⟩ := hst8 i s' hs'
            refine ⟨_, h1, ?_⟩
            have hadd : (⟨g', off', none⟩ : Addr).add i = ⟨g', off' + i, none⟩ := by unfold Addr.add; split <;> simp_all
            rw [hadd]
            exact h3
          have HNW2 := Lib.hid hnews2
          have b8s := b8.size
          clear hnews2 hst8 own0 gr4 l4 HNW b7 hc7
          refine ⟨hc8, ?_⟩
          go_wp2_with (at_builtin; refine wpList_append_any rfl _ _ 27 rfl wr.heap.size 9 i0 _ 1 16 Tryd.underlying27 hi0 hz0 hz1 hz2 rfl (by omega) v4 x.rs.length (x.rs.map sv) rfl own4 la ls.length lc (ls.map sv) rfl (by simp) HNW2.out (sv_one ls) (by unfold maxLen; omega) (by omega) b8s ?_; intro v5' w9 own9 gr9 l9)
          have b9 : Below wr.heap.size wr w9 := b8.grown gr9 b8.size (fun y hy => (own4.lt y hy).1)
          have oo9 : OwnStrs w9 wr.heap.size v5' (x.rs ++ ls) := by
            unfold OwnStrs
            rw [List.length_append, List.map_append]
            exact own9
          obtain ⟨A9, c9, rfl⟩ := oo9.form
          go_meet
          exact ⟨A9, c9, rfl, oo9, b9⟩
        case rest =>
          obtain ⟨A11, c11, rfl, o11, b11⟩ := hcut
          obtain ⟨wa, rfl⟩ : ∃ q : World, q = wc := ⟨wc, rfl⟩
          have Sa := S.more b11 (L := fun i => (i < w2.heap.size ∨ (Value.slice A8 x.rs.length c8).ownBlock = some i) ∨ (wr.heap.size ≤ i ∧ i < wa.heap.size)) (fun i hi => hi)
          have o8 := own8.below b11
          have hKw : ∀ i, i < w2.heap.size → (fun i => (i < w2.heap.size ∨ (Value.slice A8 x.rs.length c8).ownBlock = some i) ∨ (wr.heap.size ≤ i ∧ i < wa.heap.size)) i := fun i hi => .inl (.inl hi)
          have hK8 : ∀ i, (Value.slice A8 x.rs.length c8).ownBlock = some i → (fun i => (i < w2.heap.size ∨ (Value.slice A8 x.rs.length c8).ownBlock = some i) ∨ (wr.heap.size ≤ i ∧ i < wa.heap.size)) i := fun i hi => .inl (.inr hi)
          have hK11 : ∀ i, (Value.slice A11 (x.rs ++ ls).length c11).ownBlock = some i → (fun i => (i < w2.heap.size ∨ (Value.slice A8 x.rs.length c8).ownBlock = some i) ∨ (wr.heap.size ≤ i ∧ i < wa.heap.size)) i := fun i hi => .inr (World.ownsRow.lt o11 i hi)
          generalize (fun i => (i < w2.heap.size ∨ (Value.slice A8 x.rs.length c8).ownBlock = some i) ∨ (wr.heap.size ≤ i ∧ i < wa.heap.size)) = K1 at *
          have hca := HC.out wa Sa.live.below
          have ca2 := hca.2.1
          clear S own8 b11
          go_upto_region 13 with fail
          have bd : Below wa.heap.size wa wa.drew := (Below.refl _ wa).drew
          have Sd := Sa.same bd
          have o8d := o8.below bd
          have o11d := o11.below bd
          have P13 := Lib.hid (Sd.lift fun F hF => arm_any hF (v : Int) wn bn (by omega))
          refine wp_region_hold (fun W => W.cell? ⟨g, off + k * 5 + 3, none⟩ = some (.int .i64 wn) ∧ W.cell? ⟨g, off + k * 5 + 4, none⟩ = some (.int .i64 bn)) [0, 1, 2, 3, 4, 5, 6, 7, 8, 9, 10, 11] [] [12] (by kernel_rfl) (by kernel_rfl) (fun _ d _ _ _ h => by cases d <;> exact h) ⟨hca.2.2.1, hca.2.2.2⟩ ?_
          simp only [pick, List.drop_succ_cons, List.drop_zero, List.head?_cons, Option.toList_some, List.cons_append, List.nil_append, List.append_nil]
          repeat (refine wpHeld_step ?_ rfl ?_ ?_; rotate_left; · (intro W hW; have hW1 := hW.1; have hW2 := hW.2; go_simp; with_reducible rfl))
          refine wpHeld_nil ?_
          simp only [wpEarly]
          clear hca ca2 Sa o8 o11 bd Sd
          go_wp2_with fail
          refine P13.out.mono ?_
          rintro e w13 ⟨rfl, S13, k13⟩
          have o8a := o8d.keep k13 hK8
          have o11a := o11d.keep k13 hK11
          have c13 := (HC.out w13 S13.live.below).1
          have P14 := Lib.hid (S13.append2 HTW.out hsz.2.2.2.1 la lc ls ((HST.out w13 S13.live.below).toIn hKw) (by omega) (by omega) h20 (by omega) (by rw [HAS.out.1]; exact Nat.zero_le _))
          have has := HAS.out
          obtain ⟨r, hr⟩ : ∃ r, appendS (d.doArm (v : Int) wn bn) x ls = r := ⟨_, rfl⟩
          rw [hr] at P14 has
          obtain ⟨r1, r2, r3⟩ := r
          simp only at P14 has
          obtain ⟨-, cc, rs, q1, q2, q3, q4, q5⟩ := has
          have HOK := Lib.hid (round_ok q1 q2 q3)
          have HQ4 := Lib.hid q4
          have hrs : rs.length ≤ 6000 := by rcases q1 with rfl | rfl; omega; rw [List.length_append]; omega
          have HQ5 := Lib.hid q5
          clear P13 S13 k13 o8d o11d HAS hr q1 q2 q3 q4 q5
          go_wp2_with fail
          refine P14.out.mono ?_
          rintro e w14 ⟨rfl, S14, k14⟩
          have o8b := o8a.keep k14 hK8
          have o11b := o11a.keep k14 hK11
          have P15 := Lib.hid (S14.live.lift fun F hF => fail_any hF 0 0)
          clear P14 S14 k14 o8a o11a c13
          go_wp2_with fail
          refine P15.out.mono ?_
          rintro e w15 ⟨rfl, L15, k15⟩
          have o8c := o8b.keep k15 hK8
          have o11c := o11b.keep k15 hK11
          have P16 := Lib.hid (L15.lift fun F hF => startany hF)
          clear P15 L15 k15 o8b o11b
          go_wp2_with fail
          refine P16.out.mono ?_
          rintro e w16 ⟨rfl, L16, k16⟩
          have o8d := o8c.keep k16 hK8
          have o11d := o11c.keep k16 hK11
          have hca := HC.out w16 L16.below
          clear P16 k16 o8c o11c
          go_upto_region 17 with fail
          have bd : Below w16.heap.size w16 w16.drew := (Below.refl _ w16).drew
          have Ld := L16.same bd
          have o8e := o8d.below bd
          have o11e := o11d.below bd
          have P17 := Lib.hid (Ld.lift fun F hF => arm_any hF (v5 : Int) bn wn (by omega))
          refine wp_region_hold (fun W => W.cell? ⟨g, off + k * 5 + 3, none⟩ = some (.int .i64 wn) ∧ W.cell? ⟨g, off + k * 5 + 4, none⟩ = some (.int .i64 bn)) [0, 1, 2, 3, 4, 5, 6, 7, 8, 9, 10, 11, 12] [] [13] (by kernel_rfl) (by kernel_rfl) (fun _ d _ _ _ h => by cases d <;> exact h) ⟨hca.2.2.1, hca.2.2.2⟩ ?_
          simp only [pick, List.drop_succ_cons, List.drop_zero, List.head?_cons, Option.toList_some, List.cons_append, List.nil_append, List.append_nil]
          repeat (refine wpHeld_step ?_ rfl ?_ ?_; rotate_left; · (intro W hW; have hW1 := hW.1; have hW2 := hW.2; go_simp; with_reducible rfl))
          refine wpHeld_nil ?_
          simp only [wpEarly]
          clear hca L16 o8d o11d bd Ld HC HST
          generalize ((r1.fail 0 0).start.doArm (v5 : Int) bn wn) = d3 at *
          go_wp2_with fail
          refine P17.out.mono ?_
          rintro e w17 ⟨rfl, L17, k17⟩
          have o8f := o8e.keep k17 hK8
          have o11f := o11e.keep k17 hK11
          clear P17 k17 o8e o11e
          rcases HQ5.out with ⟨d4, x4, hop, hx4, hfin⟩ | ⟨d4, hop, hfin⟩
          · have p18 := L17.open_some HTW.out (by rw [HQ4.out]; exact Nat.zero_le _) hop
            rw [hx4] at p18
            have P18 := Lib.hid p18
            have HFN := Lib.hid hfin
            clear p18 L17 hop HQ5 hfin hx4
            go_wp2_with fail
            refine P18.out.mono ?_
            rintro e w18 ⟨j4, Ae, ce, Be, rfl, S18, oe, hBe, k18⟩
            have o8g := o8f.keep k18 hK8
            have o11g := o11f.keep k18 hK11
            have hKe : ∀ i, (Value.slice Ae rs.length ce).ownBlock = some i → (fun i => K1 i ∨ (Be ≤ i ∧ i < w18.heap.size)) i := fun i hi => .inr (World.ownsRow.lt oe i hi)
            have hK1 : ∀ i, K1 i → (fun i => K1 i ∨ (Be ≤ i ∧ i < w18.heap.size)) i := fun i hi => .inl hi
            have L18 := S18.live
            generalize (fun i => K1 i ∨ (Be ≤ i ∧ i < w18.heap.size)) = K2 at *
            clear P18 S18 hBe k18 o8f o11f
            have P19 := Lib.hid (L18.lift fun F hF => fail_any hF 0 0)
            clear L18
            go_wp2_with fail
            refine P19.out.mono ?_
            rintro e w19 ⟨rfl, L19, k19⟩
            have o8h := o8g.keep k19 fun i hi => hK1 i (hK8 i hi)
            have o11h := o11g.keep k19 fun i hi => hK1 i (hK11 i hi)
            have oeh := oe.keep k19 hKe
            have P20 := Lib.hid (L19.lift fun F hF => startany hF)
            clear P19 L19 k19 o8g o11g oe
            go_wp2_with fail
            refine P20.out.mono ?_
            rintro e w20 ⟨rfl, L20, k20⟩
            have o8i := o8h.keep k20 fun i hi => hK1 i (hK8 i hi)
            have o11i := o11h.keep k20 fun i hi => hK1 i (hK11 i hi)
            have oei := oeh.keep k20 hKe
            have hs20 := L20.below.size
            clear P20 k20 o8h o11h oeh
            obtain ⟨hq5, d6, hop6, hAt6⟩ := HFN.out
            have p21 := L20.open_some HTW.out (by rw [hq5]; exact Nat.zero_le _) hop6
            have HAT := Lib.hid hAt6
            simp only at p21
            have P21 := Lib.hid p21
            clear p21 L20 HFN hq5 hop6 hAt6
            go_wp2_with fail
            refine P21.out.mono ?_
            rintro e w21 ⟨jk, Ag, cg, Bg, rfl, S21, og, hBg, k21⟩
            have o8j := o8i.keep k21 fun i hi => hK1 i (hK8 i hi)
            have o11j := o11i.keep k21 fun i hi => hK1 i (hK11 i hi)
            have oej := oei.keep k21 hKe
            have hw2 := S21.live.below.size
            have S22 : Ses w2 w21 a d6 jk ⟨n, cc, rs, false⟩ (fun i => i < w2.heap.size ∨ (Value.slice Ag rs.length cg).ownBlock = some i) := S21.base.less fun i hi => hi.elim .inl (fun h => .inr (.inr (World.ownsRow.lt og i h)))
            have og2 : OwnStrs w21 w2.heap.size (.slice Ag rs.length cg) rs := og.mono (Nat.le_trans hs20 hBg)
            have p22 := same_any w21 Ag A8 cg c8 rs x.rs og.strsAt o8j.strsAt (by omega)
            obtain ⟨b1, hb1⟩ : ∃ b, decide (rs = x.rs) = b := ⟨_, rfl⟩
            obtain ⟨b2, hb2'⟩ : ∃ b, decide (rs = x.rs ++ ls) = b := ⟨_, rfl⟩
            rw [hb1] at p22 HOK
            rw [hb2'] at HOK
            have HB2 := Lib.hid hb2'
            have P22 := Lib.hid p22
            clear p22 hb1 hb2' hs20
            clear P21 S21 k21 o8i o11i oei og
            go_wp2_with fail
            refine P22.out.mono ?_
            rintro e w22 ⟨rfl, b22⟩
            have S23 := S22.same b22
            have og3 := og2.below b22
            have o11k := o11j.below b22
            have oek := oej.below b22
            have p23 := same_any w22 Ag A11 cg c11 rs (x.rs ++ ls) og3.strsAt o11k.strsAt (by omega)
            rw [HB2.out, List.length_append] at p23
            have P23 := Lib.hid p23
            clear p23 HB2
            clear P22 S22 b22 o8j o11j og2 oej
            go_wp2_with fail
            refine P23.out.mono ?_
            rintro e w23 ⟨rfl, b23⟩
            have S24 := Lib.hid (S23.same b23)
            have OG := Lib.hid (og3.below b23)
            have P24 := Lib.hid (same_yes w23 Ae Ag ce cg rs (oek.below b23).strsAt OG.out.strsAt (by omega))
            clear P23 S23 b23 o11k og3 oek
            rcases HOK.out with ⟨rfl, rfl⟩ | ⟨rfl, rfl | ⟨rfl, rfl⟩⟩ | ⟨f1, f2, f3, f4, rfl⟩
            · clear HOK
              cases b1
              all_goals (
                go_wp2_with fail
                refine P24.out.mono ?_
                rintro e w24 ⟨rfl, b24⟩
                have S25 := Lib.hid (S24.out.same b24)
                have OH := Lib.hid (OG.out.below b24)
                clear P24 b24 S24 OG
                go_wp2_with fail
                go_roundw
                case rel => exact ⟨k + 1, d6, ⟨n, cc, rs, false⟩, jk, Ag, cg, by omega, by go_num, rfl, rfl, OH.out, S25.out, HAT⟩
                case measure => simp [intOf]; omega
              )
            · clear HOK
              cases b2
              all_goals (
                go_wp2_with fail
                refine P24.out.mono ?_
                rintro e w24 ⟨rfl, b24⟩
                have S25 := Lib.hid (S24.out.same b24)
                have OH := Lib.hid (OG.out.below b24)
                clear P24 b24 S24 OG
                go_wp2_with fail
                go_roundw
                case rel => exact ⟨k + 1, d6, ⟨n, cc, rs, false⟩, jk, Ag, cg, by omega, by go_num, rfl, rfl, OH.out, S25.out, HAT⟩
                case measure => simp [intOf]; omega
              )
            · clear HOK
              go_wp2_with fail
              refine P24.out.mono ?_
              rintro e w24 ⟨rfl, b24⟩
              have S25 := Lib.hid (S24.out.same b24)
              have OH := Lib.hid (OG.out.below b24)
              clear P24 b24 S24 OG
              go_wp2_with fail
              go_roundw
              case rel => exact ⟨k + 1, d6, ⟨n, cc, rs, false⟩, jk, Ag, cg, by omega, by go_num, rfl, rfl, OH.out, S25.out, HAT⟩
              case measure => simp [intOf]; omega
            · clear HOK
              cases b2
              all_goals (
                go_wp2_with fail
                refine P24.out.mono ?_
                rintro e w24 ⟨rfl, b24⟩
                have S25 := Lib.hid (S24.out.same b24)
                have OH := Lib.hid (OG.out.below b24)
                clear P24 b24 S24 OG
                go_wp2_with fail
                go_roundw
                case rel => exact ⟨k + 1, d6, ⟨n, cc, rs, false⟩, jk, Ag, cg, by omega, by go_num, rfl, rfl, OH.out, S25.out, HAT⟩
                case measure => simp [intOf]; omega
              )
          · have P18 := Lib.hid (L17.open_none HTW.out (by rw [HQ4.out]; exact Nat.zero_le _) hop)
            have HFN := Lib.hid hfin
            clear L17 hop HQ5 hfin
            go_wp2_with fail
            refine P18.out.mono ?_
            rintro e w18 ⟨rfl, L18, k18⟩
            have o8g := o8f.keep k18 hK8
            have o11g := o11f.keep k18 hK11
            have hK1 : ∀ i, K1 i → K1 i := fun i hi => hi
            obtain ⟨K2, hK2⟩ : ∃ K : Foot, K = K1 := ⟨_, rfl⟩
            rw [← hK2] at L18
            have hK1 : ∀ i, K1 i → K2 i := fun i hi => by rw [hK2]; exact hi
            clear P18 k18 o8f o11f hK2
            have P19 := Lib.hid (L18.lift fun F hF => fail_any hF 0 0)
            clear L18
            go_wp2_with fail
            refine P19.out.mono ?_
            rintro e w19 ⟨rfl, L19, k19⟩
            have o8h := o8g.keep k19 fun i hi => hK1 i (hK8 i hi)
            have o11h := o11g.keep k19 fun i hi => hK1 i (hK11 i hi)
            have P20 := Lib.hid (L19.lift fun F hF => startany hF)
            clear P19 L19 k19 o8g o11g
            go_wp2_with fail
            refine P20.out.mono ?_
            rintro e w20 ⟨rfl, L20, k20⟩
            have o8i := o8h.keep k20 fun i hi => hK1 i (hK8 i hi)
            have o11i := o11h.keep k20 fun i hi => hK1 i (hK11 i hi)
            have hs20 := L20.below.size
            clear P20 k20 o8h o11h
            obtain ⟨hq5, d6, hop6, hAt6⟩ := HFN.out
            have p21 := L20.open_some HTW.out (by rw [hq5]; exact Nat.zero_le _) hop6
            have HAT := Lib.hid hAt6
            simp only at p21
            have P21 := Lib.hid p21
            clear p21 L20 HFN hq5 hop6 hAt6
            go_wp2_with fail
            refine P21.out.mono ?_
            rintro e w21 ⟨jk, Ag, cg, Bg, rfl, S21, og, hBg, k21⟩
            have o8j := o8i.keep k21 fun i hi => hK1 i (hK8 i hi)
            have o11j := o11i.keep k21 fun i hi => hK1 i (hK11 i hi)
            have hw2 := S21.live.below.size
            have S22 : Ses w2 w21 a d6 jk ⟨n, cc, rs, false⟩ (fun i => i < w2.heap.size ∨ (Value.slice Ag rs.length cg).ownBlock = some i) := S21.base.less fun i hi => hi.elim .inl (fun h => .inr (.inr (World.ownsRow.lt og i h)))
            have og2 : OwnStrs w21 w2.heap.size (.slice Ag rs.length cg) rs := og.mono (Nat.le_trans hs20 hBg)
            have p22 := same_any w21 Ag A8 cg c8 rs x.rs og.strsAt o8j.strsAt (by omega)
            obtain ⟨b1, hb1⟩ : ∃ b, decide (rs = x.rs) = b := ⟨_, rfl⟩
            obtain ⟨b2, hb2'⟩ : ∃ b, decide (rs = x.rs ++ ls) = b := ⟨_, rfl⟩
            rw [hb1] at p22 HOK
            rw [hb2'] at HOK
            have HB2 := Lib.hid hb2'
            have P22 := Lib.hid p22
            clear p22 hb1 hb2' hs20
            clear P21 S21 k21 o8i o11i og
            go_wp2_with fail
            refine P22.out.mono ?_
            rintro e w22 ⟨rfl, b22⟩
            have S23 := S22.same b22
            have og3 := og2.below b22
            have o11k := o11j.below b22
            have p23 := same_any w22 Ag A11 cg c11 rs (x.rs ++ ls) og3.strsAt o11k.strsAt (by omega)
            rw [HB2.out, List.length_append] at p23
            have P23 := Lib.hid p23
            clear p23 HB2
            clear P22 S22 b22 o8j o11j og2
            go_wp2_with fail
            refine P23.out.mono ?_
            rintro e w23 ⟨rfl, b23⟩
            have S24 := Lib.hid (S23.same b23)
            have OG := Lib.hid (og3.below b23)
            clear P23 S23 b23 o11k og3
            rcases HOK.out with ⟨rfl, rfl⟩ | ⟨rfl, rfl | ⟨rfl, rfl⟩⟩ | ⟨f1, f2, f3, f4, rfl⟩
            · clear HOK
              cases b1
              all_goals (
                go_wp2_with fail
                have S25 := S24
                have OH := OG
                go_roundw
                case rel => exact ⟨k + 1, d6, ⟨n, cc, rs, false⟩, jk, Ag, cg, by omega, by go_num, rfl, rfl, OH.out, S25.out, HAT⟩
                case measure => simp [intOf]; omega
              )
            · clear HOK
              cases b2
              all_goals (
                go_wp2_with fail
                have S25 := S24
                have OH := OG
                go_roundw
                case rel => exact ⟨k + 1, d6, ⟨n, cc, rs, false⟩, jk, Ag, cg, by omega, by go_num, rfl, rfl, OH.out, S25.out, HAT⟩
                case measure => simp [intOf]; omega
              )
            · clear HOK
              go_wp2_with fail
              have S25 := S24
              have OH := OG
              go_roundw
              case rel => exact ⟨k + 1, d6, ⟨n, cc, rs, false⟩, jk, Ag, cg, by omega, by go_num, rfl, rfl, OH.out, S25.out, HAT⟩
              case measure => simp [intOf]; omega
            · clear HOK
              cases b2
              all_goals (
                go_wp2_with fail
                have S25 := S24
                have OH := OG
                go_roundw
                case rel => exact ⟨k + 1, d6, ⟨n, cc, rs, false⟩, jk, Ag, cg, by omega, by go_num, rfl, rfl, OH.out, S25.out, HAT⟩
                case measure => simp [intOf]; omega
              )
      · obtain rfl : k = l.length := by omega
        have hb := hb2.trans (S.live.below.mono hb2.size)
        clear S own8 HA
        go_wp2
        go_ret
        exact ⟨rfl, hb⟩
end Go.Proofs.YtfjejfgdnjnflaaDoor
