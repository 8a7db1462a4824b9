/- The walk of Left. -/
import Derived.Test.YtogjcejiojmmbaaTg
namespace Go.Proofs.Ytogjcejiojmmbaa
open Go.RowKit Go.Shelf

/-- What Left returns. -/
noncomputable def leftS (L : Lm) (day : Int) (l : List Int) : Int × Int :=
  if isB day = true then (if (dueS L l).2 = 0 then ((cntU (pzB L.f L.S) (day - 1) ((dueS L l).1 - day + 1).toNat : Int), 0) else (0, (dueS L l).2)) else (0, 1)

theorem openK_rng (p : Int → Bool) (l : List Int) : ∀ (k : Nat) (x : Int), (openK p l k x).2 = 0 → x ≤ (openK p l k x).1 ∧ (openK p l k x).1 < x + k ∧ p (openK p l k x).1 = false ∧ opB l (openK p l k x).1 = true ∧ ∀ i, x ≤ i → i < (openK p l k x).1 → p i = true ∨ opB l i = false
  | 0, x, h => by cases h
  | k + 1, x, h => by
    have e : openK p l (k + 1) x = if (!p x && opB l x) = true then (x, 0) else openK p l k (x + 1) := rfl
    rw [e] at h ⊢
    by_cases hc : (!p x && opB l x) = true
    · rw [if_pos hc] at h ⊢
      rw [Bool.and_eq_true, Bool.not_eq_true'] at hc
      exact ⟨Int.le_refl _, by show x < x + ((k + 1 : Nat) : Int); omega, hc.1, hc.2, fun i h1 h2 => by have h2 : i < x := h2; omega⟩
    · rw [if_neg hc] at h ⊢
      obtain ⟨a, b, c, d, g⟩ := openK_rng p l k (x + 1) h
      refine ⟨by omega, by omega, c, d, fun i h1 h2 => ?_⟩
      by_cases hi : i = x
      · subst hi
        cases h3 : p i with
        | true => exact .inl rfl
        | false =>
          cases h4 : opB l i with
          | false => exact .inr rfl
          | true => rw [h3, h4] at hc; exact absurd rfl hc
      · exact g i (by omega) h2
theorem openK_err (p : Int → Bool) (l : List Int) : ∀ (k : Nat) (x : Int), (openK p l k x).2 = 0 ∨ ((openK p l k x) = (0, 10) ∧ ∀ i, x ≤ i → i < x + k → p i = true ∨ opB l i = false)
  | 0, x => .inr ⟨rfl, fun i h1 h2 => by omega⟩
  | k + 1, x => by
    have e : openK p l (k + 1) x = if (!p x && opB l x) = true then (x, 0) else openK p l k (x + 1) := rfl
    rw [e]
    by_cases hc : (!p x && opB l x) = true
    · rw [if_pos hc]; exact .inl rfl
    · rw [if_neg hc]
      rcases openK_err p l k (x + 1) with h | ⟨h, g⟩
      · exact .inl h
      · refine .inr ⟨h, fun i h1 h2 => ?_⟩
        by_cases hi : i = x
        · subst hi
          cases h3 : p i with
          | true => exact .inl rfl
          | false =>
            cases h4 : opB l i with
            | false => exact .inr rfl
            | true => rw [h3, h4] at hc; exact absurd rfl hc
        · exact g i (by omega) (by omega)
/-- What openS finds. -/
theorem openS_ok {p : Int → Bool} {l : List Int} {x : Int} (h : (openS p l x).2 = 0) : x ≤ (openS p l x).1 ∧ (openS p l x).1 ≤ 1000000 ∧ p (openS p l x).1 = false ∧ opB l (openS p l x).1 = true ∧ ∀ i, x ≤ i → i < (openS p l x).1 → p i = true ∨ opB l i = false := by
  obtain ⟨a, b, c, d, g⟩ := openK_rng p l _ x h
  unfold openS
  exact ⟨a, by omega, c, d, g⟩
theorem openS_err {p : Int → Bool} {l : List Int} {x : Int} (h : (openS p l x).2 ≠ 0) : openS p l x = (0, 10) ∧ ∀ i, x ≤ i → i ≤ 1000000 → p i = true ∨ opB l i = false := by
  rcases openK_err p l (1000001 - x).toNat x with h1 | ⟨h1, g⟩
  · exact absurd h1 h
  · exact ⟨h1, fun i h2 h3 => g i h2 (by omega)⟩

/-- A last day is a day. -/
theorem due_day {L : Lm} {l : List Int} (h : (dueS L l).2 = 0) : prB L = true ∧ isB L.f = true ∧ L.f ≤ (dueS L l).1 ∧ (dueS L l).1 ≤ 1000000 := by
  unfold dueS at h ⊢
  cases hp : prB L with
  | false => rw [hp, if_neg (by simp)] at h; cases h
  | true =>
    rw [hp, if_pos rfl] at h
    rw [if_pos rfl]
    obtain ⟨-, hf, -, -, hS⟩ := prB_iff.1 hp
    by_cases ha : (addS l L.f L.n L.u).2 = 0
    · rw [if_pos ha] at h ⊢
      obtain ⟨g1, g2, g3⟩ := add_ge ha
      obtain ⟨h1, h2, -⟩ := openS_ok h
      obtain ⟨n1, -⟩ := nthU_spec (pz_far (f := L.f) hS) L.f ((addS l L.f L.n L.u).1 - L.f).toNat
      exact ⟨rfl, hf, by omega, h2⟩
    · rw [if_neg ha] at h
      exact absurd h ha

theorem ovlS_app (a b : Int) (J K : List Stp2) : ovlS a b (J ++ K) = ovlS a b J + ovlS a b K := by
  unfold ovlS
  rw [List.map_append, List.sum_append]
theorem ovlS_at {a b : Int} {J : List Stp2} {k : Nat} {s : Stp2} (h : J[k]? = some s) : ovlS a b (J.take (k + 1)) = ovlS a b (J.take k) + max 0 (min s.2 (b + 1) - max s.1 a) := by
  obtain ⟨hk, hs⟩ := List.getElem?_eq_some_iff.1 h
  rw [List.take_succ_eq_append_getElem hk, hs, ovlS_app]
  show _ + (ovl a b s + 0) = _
  unfold ovl
  omega

set_option maxHeartbeats 4000000 in
set_option maxRecDepth 100000 in
theorem left_any (w : World) (L : Lm) (day : Int) (B : Nat) (A : Option Addr) (c : Nat) (h : LmAt w B A L) (hB : B ≤ w.heap.size) (C : Option Addr) (l : List Int) (cl : Nat) (hA : IntsAt w B C l) (hll : l.length ≤ 4611686018427387904) (hw : ∀ x ∈ l, wf64 x) :
    Calls Try.prog 15 #[.agg (L.cells A c), .int .i64 day, .slice C l.length cl] w fun e w' => e = .returned (.tuple #[.int .i64 (leftS L day l).1, .int .i64 (leftS L day l).2]) ∧ Below w.heap.size w w' := by
  obtain ⟨r1, r2, hr⟩ : ∃ r1 r2, leftS L day l = (r1, r2) := ⟨_, _, rfl⟩
  rw [hr]
  have hdd := @due_day L l
  have hdc := fun W (b : Below w.heap.size w W) => due_any W L B A c (h.below (b.mono hB)) (Nat.le_trans hB b.size) C l cl (hA.below (b.mono hB)) hll hw
  have hst := fun W (b : Below w.heap.size w W) => start_any W L B A c (h.below (b.mono hB)).1 (Nat.le_trans hB b.size)
  have e0 : Array.size #[Value.string L.id] = 1 := rfl
  show Calls Try.prog 15 #[.agg #[.string L.id, .int .i64 L.n, .int .i64 L.u, .int .i64 L.f, .slice A L.S.length c], .int .i64 day, .slice C l.length cl] w _
  have hb := (Below.refl w.heap.size w).alloc (Nat.le_refl _) (.cells #[.string L.id, .int .i64 L.n, .int .i64 L.u, .int .i64 L.f, .slice A L.S.length c] 26)
  have k0 := Blk.new w 26 #[.string L.id, .int .i64 L.n, .int .i64 L.u, .int .i64 L.f, .slice A L.S.length c]
  unfold leftS at hr
  have HDC := Lib.hid hdc
  have HST := Lib.hid hst
  have HDD := Lib.hid hdd
  clear hdc hst hdd h hA hw e0
  obtain ⟨t0, t1, -⟩ := k0.all
  cases hd : isB day with
  | false =>
    rw [hd, if_neg (by simp)] at hr
    injection hr with h1 h2
    subst h1 h2
    have hi := fun W => isDay_any W day
    rw [hd] at hi
    have HI := Lib.hid hi
    clear hi hd
    go_enter Try.func15, Try.ntmps15
    go_wp2_with fail
    refine (HI.out _).mono ?_
    rintro e w2 ⟨rfl, rfl⟩
    go_wp2
    go_ret2
    exact ⟨rfl, hb⟩
  | true =>
    rw [hd, if_pos rfl] at hr
    have hi := fun W => isDay_any W day
    rw [hd] at hi
    have HI := Lib.hid hi
    obtain ⟨d0, d1⟩ := (isB_iff day).1 hd
    clear hi hd
    obtain ⟨q1, q2, hq⟩ : ∃ q1 q2, dueS L l = (q1, q2) := ⟨_, _, rfl⟩
    rw [hq] at hr
    have HQ := Lib.hid hq
    have HR := Lib.hid hr
    clear hq hr
    go_enter Try.func15, Try.ntmps15
    go_wp2_with fail
    refine (HI.out _).mono ?_
    rintro e w2 ⟨rfl, rfl⟩
    go_wp2_with fail
    have hdu := HDC.out _ hb
    rw [HQ.out] at hdu
    refine hdu.mono ?_
    rintro e w3 ⟨rfl, b⟩
    have k3 := k0.below b k0.lt
    replace hb := hb.trans (b.mono hb.size)
    clear b t0 t1 k0 hdu
    obtain ⟨t0, t1, -⟩ := k3.all
    by_cases hz : q2 = 0
    · subst hz
      obtain ⟨hp, -, -, g5⟩ := HDD.out (by rw [HQ.out])
      rw [HQ.out] at g5
      simp only at g5
      have hf0 : 0 ≤ q1 := by
        obtain ⟨_, hf, g4, _⟩ := HDD.out (by rw [HQ.out])
        rw [HQ.out] at g4
        have := (isB_iff _).1 hf
        simp only at g4
        omega
      have hrr := HR.out
      rw [if_pos rfl] at hrr
      have HRR := Lib.hid hrr
      obtain ⟨m0, hm0⟩ : ∃ m0, m0 = max 0 (q1 - day + 1) := ⟨_, rfl⟩
      have rm0 := fun ts ty W => run_max2 (P := Try.prog) 0 (q1 - day + 1) m0 hm0 ts ty W
      have hmb : 0 ≤ m0 ∧ m0 ≤ 1000001 := by omega
      have HM0 := Lib.hid hm0
      have HP := Lib.hid hp
      clear hrr HR hm0 hp HI HDC HDD
      go_wp2_with fail
      refine (HST.out w3 hb HP.out).mono ?_
      rintro e w4 ⟨g, J, rfl, ⟨A5, c5, kc, hs5⟩, ⟨hsep, hany, hJl, hJm⟩, b⟩
      replace hb := hb.trans (b.mono hb.size)
      have HSEP := Lib.hid hsep
      have HANY := Lib.hid hany
      have HJM := Lib.hid hJm
      have HS5 := Lib.hid hs5
      clear b t0 t1 k3 hsep hany hJm hs5
      obtain ⟨t0, t1, -⟩ := kc.all
      go_wp2_with fail
      clear t0 t1 kc
      go_loopw [10, 36] (fun v i wx => ∃ (k : Nat) (m : Int), k ≤ J.length ∧ i = .int .i64 (k : Int) ∧ v = .int .i64 m ∧ Hid (m = m0 - ovlS day q1 (J.take k)) ∧ -3000000 * (k : Int) ≤ m ∧ m ≤ 1000001 ∧ Below w.heap.size w wx ∧ Below w4.heap.size w4 wx) (fun _ i _ => J.length - (intOf i).toNat)
      case atStart => exact ⟨0, m0, Nat.zero_le _, rfl, rfl, Lib.hid (by show m0 = m0 - 0; omega), by omega, hmb.2, hb, Below.refl _ _⟩
      case round =>
        clear hb
        obtain ⟨k, m, hk, rfl, rfl, hm, hm0, hm1, hb, hb4⟩ := hrel
        by_cases hlt : k < J.length
        · obtain ⟨t, ht⟩ : ∃ t, J[k]? = some t := ⟨_, List.getElem?_eq_getElem hlt⟩
          obtain ⟨gb, off, hA5, hg, e0, e1⟩ := (HS5.out.below hb4) k t ht
          subst hA5
          obtain ⟨j0, j1, j2⟩ := HJM.out t (List.mem_of_getElem? ht)
          have hf' := (prB_iff.1 HP.out).2.1
          obtain ⟨f0, f1⟩ := (isB_iff _).1 hf'
          have hat := ovlS_at (a := day) (b := q1) ht
          clear ht hf'
          obtain ⟨a, b⟩ := t
          simp only at hat j0 j1 j2 e0 e1
          obtain ⟨x1, hx1⟩ : ∃ x, x = min b (q1 + 1) := ⟨_, rfl⟩
          obtain ⟨x2, hx2⟩ : ∃ x, x = max a day := ⟨_, rfl⟩
          rw [← hx1, ← hx2] at hat
          obtain ⟨x3, hx3⟩ : ∃ x, x = max 0 (x1 - x2) := ⟨_, rfl⟩
          rw [← hx3] at hat
          have rm1 := fun ts ty W => run_min2 (P := Try.prog) b (q1 + 1) x1 hx1 ts ty W
          have rm2 := fun ts ty W => run_max2 (P := Try.prog) a day x2 hx2 ts ty W
          have rm3 := fun ts ty W => run_max2 (P := Try.prog) 0 (x1 - x2) x3 hx3 ts ty W
          have hxb : 0 ≤ x1 ∧ x1 ≤ 1000001 ∧ 0 ≤ x2 ∧ x2 ≤ 1000001 ∧ 0 ≤ x3 ∧ x3 ≤ 1000001 := by omega
          obtain ⟨y1, y2, y3, y4, y5, y6⟩ := hxb
          have HAT := Lib.hid hat
          clear hat hx1 hx2 hx3 f0 f1
          have hb2 := hb.alloc hb.size (.cells #[.int .i64 a, .int .i64 b] 28)
          have hb42 := hb4.alloc hb4.size (.cells #[.int .i64 a, .int .i64 b] 28)
          go_wp2
          go_roundw
          case rel => exact ⟨k + 1, m - x3, by omega, by go_num, rfl, Lib.hid (by rw [HAT.out, hm.out]; omega), by omega, by omega, hb2, hb42⟩
          case measure => simp [intOf]; omega
        · obtain rfl : k = J.length := by omega
          have hmm := hm.out
          rw [List.take_length] at hmm
          have hfin : m = r1 ∧ 0 = r2 := by
            have h1 := HRR.out
            injection h1 with h1 h2
            refine ⟨?_, h2⟩
            rw [← h1, ← HANY.out, ovlS_all HSEP.out, hmm, HM0.out]
            by_cases hc : day ≤ q1 + 1
            · have e1 : ((q1 - day + 1).toNat : Int) = q1 - day + 1 := by omega
              have e2 : day + (q1 - day + 1) - 1 = q1 := by omega
              rw [e1, e2]
              omega
            · have e1 : (q1 - day + 1).toNat = 0 := by omega
              have z1 : ∀ (J : List Stp2) (b : Int), b + 1 ≤ day → ovlS day b J = 0 := by
                intro J
                induction J with
                | nil => intro b _; rfl
                | cons s J ih =>
                  intro b hb
                  show ovl day b s + ovlS day b J = 0
                  rw [ih b hb]
                  unfold ovl
                  omega
              rw [e1, z1 J q1 (by omega), z1 J _ (by omega)]
              omega
          obtain ⟨hf1, hf2⟩ := hfin
          subst hf1 hf2
          clear hmm hm HRR
          go_wp2
          go_ret2
          exact ⟨rfl, hb⟩
    · have hrr := HR.out
      rw [if_neg hz] at hrr
      injection hrr with h4 h5
      subst h4 h5
      have hz2 : (q2 != 0) = true := by simpa using hz
      clear hz
      go_wp2
      go_ret2
      exact ⟨rfl, hb⟩
end Go.Proofs.Ytogjcejiojmmbaa
