/- The reference's Left. -/
import Derived.Test.YtogjcejiojmmbaaUf
namespace Go.Proofs.Ytogjcejiojmmbaa
open Go.RowKit Go.Shelf

set_option maxRecDepth 100000 in
set_option maxHeartbeats 2000000 in
theorem rLeft_any (w : World) (L : Lm) (day : Int) (B : Nat) (A : Option Addr) (c : Nat) (h : LmAt w B A L) (hB : B ≤ w.heap.size) (C : Option Addr) (l : List Int) (cl : Nat) (hA : IntsAt w B C l) (hll : l.length ≤ 4611686018427387904) :
    Calls Try.prog 16 #[.agg (L.cells A c), .int .i64 day, .slice C l.length cl] w fun e w' => e = .returned (.tuple #[.int .i64 (leftS L day l).1, .int .i64 (leftS L day l).2]) ∧ Below w.heap.size w w' := by
  obtain ⟨r1, r2, hr⟩ : ∃ r1 r2, leftS L day l = (r1, r2) := ⟨_, _, rfl⟩
  rw [hr]
  unfold leftS at hr
  have HA := Lib.hid hA
  have HX := Lib.hid h
  clear hA h
  have e0 : Array.size #[Value.string L.id] = 1 := rfl
  show Calls Try.prog 16 #[.agg #[.string L.id, .int .i64 L.n, .int .i64 L.u, .int .i64 L.f, .slice A L.S.length c], .int .i64 day, .slice C l.length cl] w _
  have hb := (Below.refl w.heap.size w).alloc (Nat.le_refl _) (.cells #[.string L.id, .int .i64 L.n, .int .i64 L.u, .int .i64 L.f, .slice A L.S.length c] 26)
  have k0 := Blk.new w 26 #[.string L.id, .int .i64 L.n, .int .i64 L.u, .int .i64 L.f, .slice A L.S.length c]
  clear e0
  obtain ⟨t0, t1, -⟩ := k0.all
  have hi := fun W => rIs_any W day
  have hdu := due_day (L := L) (l := l)
  cases hd : isB day with
  | false =>
    rw [hd, if_neg (by simp)] at hr
    injection hr with h1 h2
    subst h1 h2
    rw [hd] at hi
    have HI := Lib.hid hi
    clear hi hd hdu
    go_enter Try.func16, Try.ntmps16
    go_wp2_with fail
    refine (HI.out _).mono ?_
    rintro e w1 ⟨rfl, rfl⟩
    go_wp2
    go_ret2
    exact ⟨rfl, hb⟩
  | true =>
  rw [hd, if_pos rfl] at hr
  rw [hd] at hi
  obtain ⟨d0, d1⟩ := (isB_iff _).1 hd
  have HI := Lib.hid hi
  clear hi hd
  obtain ⟨q1, q2, hq⟩ : ∃ q1 q2, dueS L l = (q1, q2) := ⟨_, _, rfl⟩
  rw [hq] at hr hdu
  simp only at hr hdu
  have HR := Lib.hid hr
  have HDU := Lib.hid hdu
  have HQ := Lib.hid hq
  clear hr hdu hq
  go_enter Try.func16, Try.ntmps16
  go_wp2_with fail
  refine (HI.out _).mono ?_
  rintro e w1 ⟨rfl, rfl⟩
  go_wp2_with fail
  have hdue := rDue_any _ L B A c (HX.out.below (hb.mono hB)) (Nat.le_trans hB hb.size) C l cl (HA.out.below (hb.mono hB)) hll
  rw [HQ.out] at hdue
  refine hdue.mono ?_
  rintro e w2 ⟨rfl, b⟩
  have k2 := k0.below b k0.lt
  replace hb := hb.trans (b.mono hb.size)
  clear b hdue k0 t0 t1
  by_cases hz : q2 = 0
  case neg =>
    have hz2 : (q2 != 0) = true := by simpa using hz
    have hr := HR.out
    rw [if_neg hz] at hr
    injection hr with h1 h2
    subst h1 h2
    clear HR
    go_wp2
    go_ret2
    exact ⟨rfl, hb⟩
  subst hz
  have hr := HR.out
  rw [if_pos rfl] at hr
  injection hr with h1 h2
  subst h2
  obtain ⟨-, hf, g1, g2⟩ := HDU.out rfl
  obtain ⟨f0, f1⟩ := (isB_iff _).1 hf
  have H1 := Lib.hid h1
  clear hf h1 HR
  go_wp2_with fail
  go_loopw [10, 11] (fun v i wr => ∃ k : Nat, (k = 0 ∨ day + (k : Int) ≤ q1 + 1) ∧ i = .int .i64 (day + (k : Int)) ∧ v = .int .i64 (cntU (pzB L.f L.S) (day - 1) k : Int) ∧ Blk wr w.heap.size 26 #[.string L.id, .int .i64 L.n, .int .i64 L.u, .int .i64 L.f, .slice A L.S.length c] ∧ Below w.heap.size w wr) (fun _ i _ => (q1 + 1 - intOf i).toNat)
  case atStart => exact ⟨0, .inl rfl, by go_num, rfl, k2, hb⟩
  case round =>
    clear hb k2
    obtain ⟨k, hk, rfl, rfl, k6, hb⟩ := hrel
    obtain ⟨t0, t1, -⟩ := k6.all
    have hcl := cntU_le (pzB L.f L.S) (day - 1) k
    have hcs : cntU (pzB L.f L.S) (day - 1) (k + 1) = cntU (pzB L.f L.S) (day - 1) k + if pzB L.f L.S (day - 1 + 1 + (k : Int)) = true then 0 else 1 := rfl
    rw [show day - 1 + 1 + (k : Int) = day + (k : Int) by omega] at hcs
    have HCS := Lib.hid hcs
    clear hcs
    obtain ⟨cn, hcn⟩ : ∃ cn, cntU (pzB L.f L.S) (day - 1) k = cn := ⟨_, rfl⟩
    have HCN := Lib.hid hcn
    rw [hcn] at hcl
    rw [hcn]
    clear hcn
    by_cases hlt : day + (k : Int) ≤ q1
    · have hpa := rPaused_any wr L (day + (k : Int)) B A c (HX.out.below (hb.mono hB)) (Nat.le_trans hB hb.size)
      cases hz : pzB L.f L.S (day + (k : Int)) with
      | true =>
        rw [hz] at hpa
        have HPA := Lib.hid hpa
        have HZ := Lib.hid hz
        clear hpa hz
        go_wp2_with fail
        refine HPA.out.mono ?_
        rintro e w7 ⟨rfl, b⟩
        have k7 := k6.below b k6.lt
        replace hb := hb.trans (b.mono hb.size)
        clear b k6 t0 t1
        go_wp2
        go_roundw
        case rel => exact ⟨k + 1, .inr (by omega), by go_num, by rw [HCS.out, HZ.out, if_pos rfl, HCN.out]; rfl, k7, hb⟩
        case measure => simp [intOf]; omega
      | false =>
        rw [hz] at hpa
        have HPA := Lib.hid hpa
        have HZ := Lib.hid hz
        clear hpa hz
        go_wp2_with fail
        refine HPA.out.mono ?_
        rintro e w7 ⟨rfl, b⟩
        have k7 := k6.below b k6.lt
        replace hb := hb.trans (b.mono hb.size)
        clear b k6 t0 t1
        go_wp2
        go_roundw
        case rel => exact ⟨k + 1, .inr (by omega), by go_num, by rw [HCS.out, HZ.out, if_neg (by simp), HCN.out]; go_num, k7, hb⟩
        case measure => simp [intOf]; omega
    · have hkk : (q1 - day + 1).toNat = k := by omega
      have h9 := H1.out
      rw [hkk, HCN.out] at h9
      subst h9
      clear H1
      go_wp2
      go_ret2
      exact ⟨rfl, hb⟩
end Go.Proofs.Ytogjcejiojmmbaa
