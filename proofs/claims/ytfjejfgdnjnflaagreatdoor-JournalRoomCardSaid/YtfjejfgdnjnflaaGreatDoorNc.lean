/- JournalRoom's walk. -/
import Derived.Test.YtfjejfgdnjnflaaGreatDoorNb
import Derived.Test.YtfjejfgdnjnflaaGreatDoorKp
namespace Go.Proofs.YtfjejfgdnjnflaaGreatDoor
open Go.RowKit Go.Shelf

/-- One Append, in plain words. -/
theorem room_step {d : Dk} {x : Jn} {n : Nat} (h : Rest d x n) (ls : List (List UInt8)) :
    (ls.any (fun r => decide (20000 < r.length)) = true ∧ appendS d x ls = (d, x, 2)) ∨ (ls.any (fun r => decide (20000 < r.length)) = false ∧ ((n < x.cnt + 2 + (piecesL (textR ls)).length ∧ appendS d x ls = (d, x, 27)) ∨
      (x.cnt + 2 + (piecesL (textR ls)).length ≤ n ∧ ∃ d' x', appendS d x ls = (d', x', 0) ∧ Rest d' x' n ∧ x'.rs = x.rs ++ ls ∧ x'.cnt = x.cnt + (piecesL (textR ls)).length))) := by
  have hn := h.size.1
  have hr := h.append ls
  rcases append_on h.on ls with ⟨⟨r, hr1, hr2⟩, e⟩ | ⟨hs, ⟨h1, e⟩ | ⟨h1, ⟨h0, e⟩ | ⟨h0, ⟨d', e, _⟩ | ⟨d', _, h2, _⟩⟩⟩⟩
  · exact .inl ⟨List.any_eq_true.2 ⟨r, hr1, decide_eq_true hr2⟩, e⟩
  · exact .inr ⟨by simpa using fun r hr => hs r hr, .inl ⟨by omega, e⟩⟩
  · refine .inr ⟨by simpa using fun r hr => hs r hr, .inr ⟨by omega, d, x, e, h, ?_, ?_⟩⟩
    · rw [h0, List.append_nil]
    · rw [h0]; rfl
  · refine .inr ⟨by simpa using fun r hr => hs r hr, .inr ⟨by omega, d', _, e, ?_, rfl, rfl⟩⟩
    rw [e] at hr
    rcases hr with ⟨_, hr, _⟩ | ⟨hr, _⟩
    · exact hr
    · exact absurd rfl hr
  · exact absurd h.arm h2

set_option maxRecDepth 100000 in
set_option maxHeartbeats 16000000 in
theorem room_walk (w : World) (ht : Tbs w) (s : Int) (_ws : (Lit.int .i64 s).wf = true) (A : Option Addr) (c : Nat) (l : List OpJ) (h : OpsAt w w.heap.size A l) (hsm : ∀ o ∈ l, ∀ r ∈ o.list, r.length ≤ 140737488355328) :
    Calls Tryz.prog 3 #[.int .i64 s, .slice A l.length c] w fun e w' => e = .returned (.bool true) ∧ Below w.heap.size w w' := by
  have HO := Lib.hid h
  have HT := Lib.hid ht
  have HSM := Lib.hid hsm
  obtain ⟨i0, hi0, hz0, hz1, hz2⟩ := info_parts Tryz.infoStr
  clear h ht _ws hsm
  go_enter Tryz.func3, Tryz.ntmps3
  go_wp2_with fail
  refine (head_any w HT.out).mono ?_
  rintro e w1 ⟨rfl, b1⟩
  have HL := Lib.hid (light2_any w1 s A c l (HO.out.later b1) HSM.out)
  go_wp2_with fail
  refine HL.out.mono ?_
  rintro e w2 ⟨lt, rfl, hlt, b2⟩
  have hb2 := b1.trans (b2.mono b1.size)
  clear HL b1 b2 HSM
  cases lt with
  | false =>
    clear hlt
    go_wp2
    go_ret
    exact ⟨rfl, hb2⟩
  | true =>
    obtain ⟨h40, h16, h20⟩ := hlt rfl
    have HO2 := Lib.hid (HO.out.later hb2)
    have HTW := Lib.hid (HT.out.below hb2)
    have H20 := Lib.hid h20
    clear hlt h20 HO HT
    by_cases h1 : s < 1
    · have P := Lib.hid (new_no w2 s (.inl h1))
      go_wp2_with fail
      refine P.out.mono ?_
      rintro e w3 ⟨rfl, rfl⟩
      go_wp2_with fail
      refine (open_nil w2).mono ?_
      rintro e w3 ⟨rfl, rfl⟩
      clear P h1
      go_wp2
      go_ret
      exact ⟨rfl, hb2⟩
    obtain ⟨n, rfl⟩ := Int.eq_ofNat_of_zero_le (show 0 ≤ s by omega)
    have P := Lib.hid (new_yes w2 n (by omega) (by omega))
    by_cases h3 : n < 3
    · go_wp2_with fail
      refine P.out.mono ?_
      rintro e w3 ⟨a, rfl, b3, ga, hD⟩
      have L3 : Live w2 w3 a (Dk.new n) (fun _ => False) := Live.of_new (Below.refl _ _) b3 hD
      have P1 := Lib.hid (L3.open_none HTW.out (by show 0 ≤ 1000; omega) (new_few h3))
      clear P b3 ga hD L3
      go_wp2_with fail
      refine P1.out.mono ?_
      rintro e w4 ⟨rfl, L4, k4⟩
      have hb4 := hb2.trans (L4.below.mono hb2.size)
      clear P1 L4 k4 h1 h3
      go_wp2
      go_ret
      exact ⟨rfl, hb4⟩
    go_wp2_with fail
    refine P.out.mono ?_
    rintro e w3 ⟨a, rfl, b3, ga, hD⟩
    have L3 : Live w2 w3 a (Dk.new n) (fun _ => False) := Live.of_new (Below.refl _ _) b3 hD
    have p1 := L3.open_some HTW.out (by show 0 ≤ 1000; omega) (new_on (by omega) (by omega)).2
    simp only [List.length_nil] at p1
    have P1 := Lib.hid p1
    have b3s := b3.size
    clear P b3 ga hD L3 p1
    go_wp2_with fail
    refine P1.out.mono ?_
    rintro e w4 ⟨j, Aq, cq, B, rfl, S4, o4, hB, k4⟩
    have S5 := Lib.hid (S4.base.less (L := fun i => i < w2.heap.size) fun i hi => .inl hi)
    have HA0 := Lib.hid (Rest.new (n := n) (by omega) (by omega))
    clear P1 S4 o4 hB k4
    go_wp2_with fail
    go_loopw [9, 10] (fun v9 i wr => ∃ (k : Nat) (d : Dk) (x : Jn) (rm : Int), k ≤ l.length ∧ i = .int .i64 (k : Int) ∧ v9 = .int .i64 rm ∧ Ses w2 wr a d j x (fun i => i < w2.heap.size) ∧ Hid (Rest d x n ∧ rm = (n : Int) - 2 - (x.cnt : Int) ∧ x.rs.length ≤ 20 * k)) (fun _ i _ => l.length - (intOf i).toNat)
    case atStart => exact ⟨0, Dk.new n, ⟨n, 0, [], false⟩, (n : Int) - 2, Nat.zero_le _, rfl, rfl, S5.out, Lib.hid ⟨HA0.out, by simp, Nat.zero_le _⟩⟩
    case round =>
      clear S5 HA0
      obtain ⟨k, d, x, rm, hk, rfl, rfl, S, HA⟩ := hrel
      by_cases hlt : k < l.length
      · obtain ⟨o, ho⟩ : ∃ o, l[k]? = some o := ⟨_, List.getElem?_eq_getElem hlt⟩
        have hom := List.mem_of_getElem? ho
        obtain ⟨g, off, rfl, hg, -⟩ := HO2.out.cell k o ho
        have hcells : ∀ W, Below w2.heap.size w2 W → W.cell? ⟨g, off + k * 5 + 1, none⟩ = some (.slice o.la o.list.length o.lc) := fun W hW => by
          obtain ⟨g', off', h1, h2, h3⟩ := (HO2.out.below hW).cell k o ho
          obtain ⟨rfl, rfl⟩ : g = g' ∧ off = off' := by simpa using h1
          exact h3 1 _ rfl
        have hst : ∀ W, Below w2.heap.size w2 W → StrsAt W w2.heap.size o.la o.list := fun W hW => ((HO2.out.below hW).strs o hom).1
        obtain ⟨h20, htt⟩ := H20.out o hom
        obtain ⟨hR, hrm, hxl⟩ := HA.out
        have hsz := hR.size
        have hq0 := hR.q
        have hstp := room_step hR o.list
        obtain ⟨kd, la, lc, ls, at_, wn, bn⟩ := o
        simp only at *
        obtain ⟨M, hM⟩ : ∃ M, (piecesL (textR ls)).length = M := ⟨_, rfl⟩
        have hMl : M ≤ 1000000 := by
          have h1 := textR_len ls (by omega)
          have h2 := pieces_le (textR ls)
          omega
        have htx : (textR ls).length ≤ 1000000 := by
          have h1 := textR_len ls (by omega)
          omega
        rw [hM] at hstp
        have HSTP := Lib.hid hstp
        have HC := Lib.hid hcells
        have HST := Lib.hid hst
        have HM := Lib.hid hM
        have hki : (k : Int) < (l.length : Int) := by omega
        have hk0 : (0 : Int) ≤ (k : Int) := by omega
        have hrb : -2 ≤ rm ∧ rm ≤ 100 := by omega
        have HRM := Lib.hid hrm
        have hsr := S.live.below.size
        clear hcells hst hom hM hstp hrm hR
        have P1 := Lib.hid (S.records (by omega))
        go_wp2_with fail
        refine P1.out.mono ?_
        rintro e w5 ⟨v11, rfl, own5, b5⟩
        obtain ⟨A11, c11, rfl⟩ := own5.form
        have S5 : Ses w2 w5 a d j x (fun i => i < w2.heap.size ∨ (wr.heap.size ≤ i ∧ i < w5.heap.size)) := S.more b5 fun i hi => hi
        have hK11 : ∀ i, (Value.slice A11 x.rs.length c11).ownBlock = some i → (fun i => i < w2.heap.size ∨ (wr.heap.size ≤ i ∧ i < w5.heap.size)) i := fun i hi => .inr (World.ownsRow.lt own5 i hi)
        have hKw : ∀ i, i < w2.heap.size → (fun i => i < w2.heap.size ∨ (wr.heap.size ≤ i ∧ i < w5.heap.size)) i := fun i hi => .inl hi
        generalize (fun i => i < w2.heap.size ∨ (wr.heap.size ≤ i ∧ i < w5.heap.size)) = K1 at *
        have c5 := HC.out w5 S5.live.below
        have P2 := Lib.hid (rtext_any w5 w2.heap.size la ls lc (HST.out w5 S5.live.below) (by have := S5.live.below.size; omega) (by omega) (by omega))
        clear P1 S b5
        go_wp2_with fail
        refine P2.out.mono ?_
        rintro e w6 ⟨rfl, b6⟩
        have S6 := S5.same b6
        have own6 := own5.below b6
        have P3 := Lib.hid (rpieces_any w6 (textR ls) htx)
        clear P2 S5 own5 c5 b6
        go_wp2_with fail
        refine P3.out.mono ?_
        rintro e w7 ⟨v12, rfl, own7, b7⟩
        have S7 := S6.same b7
        have own8 := own6.below b7
        obtain ⟨A12, c12, hv12⟩ := own7.form
        rw [HM.out] at hv12
        subst hv12
        have c7 := HC.out w7 S7.live.below
        have HL := Lib.hid (rlong_any w7 w2.heap.size la lc ls (HST.out w7 S7.live.below) (by omega))
        have PA := Lib.hid (S7.append2 HTW.out hsz.2.2.2 la lc ls ((HST.out w7 S7.live.below).toIn hKw) (by omega) (by omega) h20 (by omega) (by rw [hq0]; exact Nat.zero_le _))
        clear P3 S6 own6 own7 b7 htx HM hq0
        rcases HSTP.out with ⟨h2, e2⟩ | ⟨h2, ⟨h4, e2⟩ | ⟨h4, d', x', e2, hR', hrs', hc'⟩⟩
        · rw [h2] at HL
          rw [e2] at PA
          clear HSTP h2 e2 HST
          go_wp2_with fail
          refine HL.out.mono ?_
          rintro e w8 ⟨rfl, rfl⟩
          clear HL
          go_wp2_with fail
          refine PA.out.mono ?_
          rintro e w9 ⟨rfl, S9, k9⟩
          have own9 := own8.keep k9 hK11
          have hrm9 : (x.n : Int) - 2 - (x.cnt : Int) = rm := by rw [HRM.out]; omega
          have p4 := S9.room (by omega) (by omega)
          rw [hrm9] at p4
          have P4 := Lib.hid p4
          clear PA p4 hrm9 S7 own8 k9 c7
          go_wp2_with fail
          refine P4.out.mono ?_
          rintro e w10 ⟨rfl, b10⟩
          have S10 := S9.same b10
          have own10 := own9.below b10
          have P5 := Lib.hid (S10.records (by omega))
          clear P4 S9 own9 b10
          go_wp2_with fail
          refine P5.out.mono ?_
          rintro e w11 ⟨v90, rfl, own90, b11⟩
          have S11 := S10.same b11
          have own11 := own10.below b11
          obtain ⟨A90, c90, rfl⟩ := own90.form
          have P6 := Lib.hid (same_yes w11 A90 A11 c90 c11 x.rs own90.strsAt own11.strsAt (by omega))
          clear P5 S10 own10 b11 own90 own11
          go_wp2_with fail
          refine P6.out.mono ?_
          rintro e w12 ⟨rfl, b12⟩
          have S12 := Lib.hid ((S11.same b12).less (L := fun i => i < w2.heap.size) hKw)
          clear P6 S11 b12
          go_wp2_with fail
          go_roundw
          case rel => exact ⟨k + 1, d, x, rm, by omega, by go_num, rfl, S12.out, Lib.hid ⟨HA.out.1, HRM.out, by omega⟩⟩
          case measure => simp [intOf]; omega
        · rw [h2] at HL
          rw [e2] at PA
          have hdc : decide (rm < (M : Int)) = true := decide_eq_true (by rw [HRM.out]; omega)
          clear HSTP h2 e2 HST
          go_wp2_with fail
          refine HL.out.mono ?_
          rintro e w8 ⟨rfl, rfl⟩
          clear HL
          go_wp2_with fail
          refine PA.out.mono ?_
          rintro e w9 ⟨rfl, S9, k9⟩
          have own9 := own8.keep k9 hK11
          have hrm9 : (x.n : Int) - 2 - (x.cnt : Int) = rm := by rw [HRM.out]; omega
          have p4 := S9.room (by omega) (by omega)
          rw [hrm9] at p4
          have P4 := Lib.hid p4
          clear PA p4 hrm9 S7 own8 k9 c7
          go_wp2_with fail
          refine P4.out.mono ?_
          rintro e w10 ⟨rfl, b10⟩
          have S10 := S9.same b10
          have own10 := own9.below b10
          have P5 := Lib.hid (S10.records (by omega))
          clear P4 S9 own9 b10
          go_wp2_with fail
          refine P5.out.mono ?_
          rintro e w11 ⟨v90, rfl, own90, b11⟩
          have S11 := S10.same b11
          have own11 := own10.below b11
          obtain ⟨A90, c90, rfl⟩ := own90.form
          have P6 := Lib.hid (same_yes w11 A90 A11 c90 c11 x.rs own90.strsAt own11.strsAt (by omega))
          clear P5 S10 own10 b11 own90 own11
          go_wp2_with fail
          refine P6.out.mono ?_
          rintro e w12 ⟨rfl, b12⟩
          have S12 := Lib.hid ((S11.same b12).less (L := fun i => i < w2.heap.size) hKw)
          clear P6 S11 b12
          go_wp2_with fail
          go_roundw
          case rel => exact ⟨k + 1, d, x, rm, by omega, by go_num, rfl, S12.out, Lib.hid ⟨HA.out.1, HRM.out, by omega⟩⟩
          case measure => simp [intOf]; omega
        · rw [h2] at HL
          rw [e2] at PA
          have hdc : decide (rm < (M : Int)) = false := decide_eq_false (by rw [HRM.out]; omega)
          have HR' := Lib.hid hR'
          have HRS := Lib.hid hrs'
          have HCC := Lib.hid hc'
          have hsz' := hR'.size
          clear HSTP h2 e2 hR' hrs' hc'
          go_wp2_with fail
          refine HL.out.mono ?_
          rintro e w8 ⟨rfl, rfl⟩
          clear HL
          go_wp2_with fail
          refine PA.out.mono ?_
          rintro e w9 ⟨rfl, S9, k9⟩
          have own9 := own8.keep k9 hK11
          have hb9 := S9.live.below
          have hbs := hb9.size
          clear PA S7 own8 k9 c7
          go_upto_region 21 with fail
          refine wp_region_hold (fun W => W.cell? ⟨g, off + k * 5 + 1, none⟩ = some (.slice la ls.length lc)) [1, 3, 4, 5, 6, 7] [0, 2] [8, 9] (by kernel_rfl) (by kernel_rfl) (fun _ d _ _ _ h => by cases d <;> exact h) (HC.out w9 hb9) ?_
          simp only [pick, List.drop_succ_cons, List.drop_zero, List.head?_cons, Option.toList_some, List.cons_append, List.nil_append, List.append_nil]
          repeat (refine wpHeld_step ?_ rfl ?_ ?_; rotate_left; · (intro W hW; go_simp; with_reducible rfl))
          refine wpHeld_nil ?_
          simp only [wpEarly]
          have bd : Below w9.heap.size w9 w9.drew := (Below.refl _ w9).drew
          have own9d : OwnStrs w9.drew wr.heap.size (.slice A11 x.rs.length c11) x.rs := own9.below bd
          have hds : w9.drew.heap.size = w9.heap.size := rfl
          generalize w9.drew = wd at *
          have b7 : Below w9.heap.size w9 (wd.alloc (.cells #[] 9)) := bd.alloc (by omega) _
          have own0 : (wd.alloc (.cells #[] 9)).ownsRow w9.heap.size 9 1 (.slice (some ⟨w9.heap.size, 0, none⟩) 0 0) 0 [] := by
            have q : (wd.alloc (.cells #[] 9)).ownsRow w9.heap.size 9 1 (.slice (some ⟨wd.heap.size, 0, none⟩) 0 0) 0 [] := World.ownsRow_lit wd #[] 0 (by omega) (by unfold maxLen; omega) rfl
            rwa [hds] at q
          have o7 : OwnStrs (wd.alloc (.cells #[] 9)) wr.heap.size (.slice A11 x.rs.length c11) x.rs := World.ownsRow.alloc own9d _
          have hnews : ∀ (i : Nat) (u : Value), (x.rs.map sv)[i]? = some u → ∃ ad, A11 = some ad ∧ (wd.alloc (.cells #[] 9)).cell? (ad.add i) = some u := fun i u hu => by
            rw [List.getElem?_map, Option.map_eq_some_iff] at hu
            obtain ⟨s', hs', rfl⟩ := hu
            obtain ⟨g', off', h1, h2, h3⟩ := o7.strsAt i s' hs'
            refine ⟨_, h1, ?_⟩
            have hadd : (⟨g', off', none⟩ : Addr).add i = ⟨g', off' + i, none⟩ := by unfold Addr.add; split <;> simp_all
            rw [hadd]
            exact h3
          have HNW := Lib.hid hnews
          have hc7 := (HC.out _ (hb9.trans (b7.mono hb9.size)))
          clear hnews o7 own9d
          go_wp2_with fail
          refine ⟨hc7, ?_⟩
          go_wp2_with (go_loud (at_builtin; refine wpList_append_any rfl _ _ 26 rfl w9.heap.size 9 i0 _ 1 16 Tryz.underlying26 hi0 hz0 hz1 hz2 rfl (by omega) (.slice (some ⟨w9.heap.size, 0, none⟩) 0 0) 0 [] rfl own0 A11 x.rs.length c11 (x.rs.map sv) rfl (by simp) HNW.out (sv_one x.rs) (by unfold maxLen; omega) (by omega) (by simp; omega) ?_; intro v4 w8 own4 gr4 l4))
          simp only [Nat.zero_add, List.nil_append] at own4
          have b8 : Below w9.heap.size w9 w8 := b7.grown gr4 b7.size (fun y hy => (own0.lt y hy).1)
          have hb8 := hb9.trans (b8.mono hb9.size)
          have hc8 := HC.out _ hb8
          have hst8 := HST.out _ hb8
          have hnews2 : ∀ (i : Nat) (u : Value), (ls.map sv)[i]? = some u → ∃ ad, la = some ad ∧ w8.cell? (ad.add i) = some u := fun i u hu => by
            rw [List.getElem?_map, Option.map_eq_some_iff] at hu
            obtain ⟨s', hs', rfl⟩ := hu
            obtain ⟨g', off', h1, h2, h3⟩ := hst8 i s' hs'
            refine ⟨_, h1, ?_⟩
            have hadd : (⟨g', off', none⟩ : Addr).add i = ⟨g', off' + i, none⟩ := by unfold Addr.add; split <;> simp_all
            rw [hadd]
            exact h3
          have HNW2 := Lib.hid hnews2
          have b8s := b8.size
          clear hnews2 hst8 own0 gr4 l4 HNW b7 hc7
          refine ⟨hc8, ?_⟩
          go_wp2_with (at_builtin; refine wpList_append_any rfl _ _ 26 rfl w9.heap.size 9 i0 _ 1 16 Tryz.underlying26 hi0 hz0 hz1 hz2 rfl (by omega) v4 x.rs.length (x.rs.map sv) rfl own4 la ls.length lc (ls.map sv) rfl (by simp) HNW2.out (sv_one ls) (by unfold maxLen; omega) (by omega) b8s ?_; intro v5' w10 own10 gr10 l10)
          have b10 : Below w9.heap.size w9 w10 := b8.grown gr10 b8.size (fun y hy => (own4.lt y hy).1)
          have oo10 : OwnStrs w10 w9.heap.size v5' (x.rs ++ ls) := by
            unfold OwnStrs
            rw [List.length_append, List.map_append]
            exact own10
          obtain ⟨A10, c10, rfl⟩ := oo10.form
          have S10 := S9.same b10
          have hrm9 : (x'.n : Int) - 2 - (x'.cnt : Int) = rm - (M : Int) := by rw [HRM.out, HCC.out]; omega
          have p4 := S10.room (by omega) (by omega)
          rw [hrm9] at p4
          have P4 := Lib.hid p4
          clear p4 hrm9 S9 own9 b10 own4 gr10 l10 b8 hc8 HNW2 own10
          go_wp2_with fail
          refine P4.out.mono ?_
          rintro e w11 ⟨rfl, b11⟩
          have S11 := S10.same b11
          have oo11 := oo10.below b11
          have p5 := S11.records (by rw [HRS.out, List.length_append]; omega)
          rw [HRS.out] at p5
          have P5 := Lib.hid p5
          clear P4 S10 oo10 b11 p5
          go_wp2_with fail
          refine P5.out.mono ?_
          rintro e w12 ⟨v90, rfl, own90, b12⟩
          have S12 := S11.same b12
          have oo12 := oo11.below b12
          obtain ⟨A90, c90, rfl⟩ := own90.form
          have p6 := same_yes w12 A90 A10 c90 c10 (x.rs ++ ls) own90.strsAt oo12.strsAt (by rw [List.length_append]; omega)
          rw [List.length_append] at p6
          have P6 := Lib.hid p6
          clear p6
          clear P5 S11 oo11 b12 own90 oo12
          go_wp2_with fail
          refine P6.out.mono ?_
          rintro e w13 ⟨rfl, b13⟩
          have S13 := Lib.hid ((S12.same b13).less (L := fun i => i < w2.heap.size) hKw)
          clear P6 S12 b13
          go_wp2_with fail
          go_roundw
          case rel => exact ⟨k + 1, d', x', rm - (M : Int), by omega, by go_num, by first | rfl | go_num, S13.out, Lib.hid ⟨HR'.out, by rw [HRM.out, HCC.out]; omega, by rw [HRS.out, List.length_append]; omega⟩⟩
          case measure => simp [intOf]; omega
      · obtain rfl : k = l.length := by omega
        have hb := hb2.trans (S.live.below.mono hb2.size)
        clear S HA
        go_wp2
        go_ret
        exact ⟨rfl, hb⟩
end Go.Proofs.YtfjejfgdnjnflaaGreatDoor
