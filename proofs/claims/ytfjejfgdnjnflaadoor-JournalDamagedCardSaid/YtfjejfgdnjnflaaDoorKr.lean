/- JournalDamaged's walk. -/
import Derived.Test.YtfjejfgdnjnflaaDoorKo
namespace Go.Proofs.YtfjejfgdnjnflaaDoor
open Go.RowKit Go.Shelf

theorem u8_nat {n : Int} (h : (Lit.int .u8 n).wf = true) : ∃ k : Nat, n = (k : Int) ∧ k < 256 := by
  have h1 : 0 ≤ n ∧ n ≤ 255 := by simpa [Lit.wf, IntKind.min, IntKind.max, IntKind.signed, IntKind.bits] using h
  exact ⟨n.toNat, by omega, by omega⟩
theorem Found.q {d : Dk} {c : Nat} {rs : List (List UInt8)} (h : Found d c rs) : (∃ d' x, openS d = (d', some x, 0) ∧ x.rs = rs) ∨ openS d = (d, none, 26) := by
  rcases h with ⟨d', h1, _⟩ | h
  · exact .inl ⟨d', _, h1, rfl⟩
  · exact .inr h
theorem rot_q (d : Dk) (x y z : Int) : (d.rot x y z).q = d.q := by unfold Dk.rot; split <;> rfl
theorem stale_q (d : Dk) (x : Int) : (d.stale x).q = d.q := by unfold Dk.stale; split <;> rfl

set_option maxRecDepth 100000 in
set_option maxHeartbeats 8000000 in
theorem damaged_walk (w : World) (ht : Tbs w) (s : Int) (_ws : (Lit.int .i64 s).wf = true) (A : Option Addr) (c : Nat) (l : List OpJ) (h : OpsAt w w.heap.size A l) (q0 : Int) (wq : (Lit.int .u8 q0).wf = true) (q1 : Int) (wq1 : (Lit.int .u8 q1).wf = true) (q2 : Int) (wq2 : (Lit.int .u8 q2).wf = true) (sb : Bool) :
    Calls Tryd.prog 6 #[.int .i64 s, .slice A l.length c, .int .u8 q0, .int .u8 q1, .int .u8 q2, .bool sb] w fun e w' => e = .returned (.bool true) ∧ Below w.heap.size w w' := by
  obtain ⟨k0, rfl, hk0⟩ := u8_nat wq
  obtain ⟨k1, rfl, hk1⟩ := u8_nat wq1
  obtain ⟨k2, rfl, hk2⟩ := u8_nat wq2
  have HO := Lib.hid h
  have HT := Lib.hid ht
  clear h ht _ws wq wq1 wq2
  go_enter Tryd.func6, Tryd.ntmps6
  go_wp2_with fail
  refine (head_any w HT.out).mono ?_
  rintro e w1 ⟨rfl, b1⟩
  have HL := Lib.hid (light_any w1 s A c l (HO.out.later b1))
  go_wp2_with fail
  refine HL.out.mono ?_
  rintro e w2 ⟨lt, rfl, hlt, b2⟩
  have hb2 := b1.trans (b2.mono b1.size)
  clear HL b1 b2
  cases lt with
  | false =>
    clear hlt
    go_wp2
    go_ret
    exact ⟨rfl, hb2⟩
  | true =>
    obtain ⟨h40, h16, h20⟩ := hlt rfl
    have HF := Lib.hid (filled_any w2 (HT.out.below hb2) s A c l (HO.out.later hb2) h40 h16 h20)
    have HTW := Lib.hid (HT.out.below hb2)
    clear hlt h16 h20 HO
    go_wp2_with fail
    refine HF.out.mono ?_
    rintro e w3 ⟨b3, hpost⟩
    clear HF
    rcases hpost with ⟨h3, v, rfl⟩ | ⟨h3, a, j, d, x, Ao, co, rfl, S3, o3, hR, hxl⟩
    · have hb3 := hb2.trans (b3.mono hb2.size)
      clear b3 hb2 h3
      go_wp2
      go_ret
      exact ⟨rfl, hb3⟩
    · obtain ⟨n, rfl⟩ := Int.eq_ofNat_of_zero_le (show 0 ≤ s by omega)
      rw [Int.toNat_natCast] at hR
      have hsz := hR.size
      have hx1 : x.rs.length ≤ 1000000 := by omega
      have hdn : d.n = n := hR.n
      have hlt0 : k0 % n < n := Nat.mod_lt _ (by omega)
      have tm0 : (k0 : Int).tmod (n : Int) = ((k0 % n : Nat) : Int) := (Int.ofNat_tmod k0 n).symm
      have tm1 : (k1 : Int).tmod 64 = ((k1 % 64 : Nat) : Int) := (Int.ofNat_tmod k1 64).symm
      have hn0 : ((n : Int) == 0) = false := by simp; omega
      have HFR := Lib.hid (rot_found hR.on hR.q hR.arm (s := k0 % n) (k := k1 % 64) (m := k2) (by omega) (Nat.mod_lt _ (by decide)) hk2).q
      have HFS := Lib.hid (stale_found hR.on hR.q hR.arm hR.el (s := k0 % n) (by omega)).q
      have HQR := Lib.hid ((rot_q d ((k0 % n : Nat) : Int) ((k1 % 64 : Nat) : Int) (k2 : Int)).trans hR.q)
      have HQS := Lib.hid ((stale_q d ((k0 % n : Nat) : Int)).trans hR.q)
      generalize hm0 : k0 % n = m0 at *
      generalize hm1 : k1 % 64 = m1 at *
      clear hm0 hm1 hR hsz b3
      have hKo : ∀ i, (Value.slice Ao x.rs.length co).ownBlock = some i → (fun i => i < w2.heap.size ∨ (Value.slice Ao x.rs.length co).ownBlock = some i) i := fun i hi => .inr hi
      cases sb with
      | true =>
        have P4 := Lib.hid (S3.lift fun F hF => stale_any hF (m0 : Int))
        clear HFR HQR
        go_wp2_with fail
        refine P4.out.mono ?_
        rintro e w4 ⟨rfl, S4, k4⟩
        have o4 := o3.keep k4 hKo
        clear P4 S3 o3 k4 tm0 tm1
        generalize d.stale (m0 : Int) = D at *
        rcases HFS.out with ⟨d', y, hop, hrs⟩ | hop
        · have p5 := S4.live.open_some HTW.out (by rw [HQS.out]; exact Nat.zero_le _) hop
          rw [hrs] at p5
          have P5 := Lib.hid p5
          clear p5 hop S4
          go_wp2_with fail
          refine P5.out.mono ?_
          rintro e w5 ⟨jk, Ag, cg, Bg, rfl, S5, og, hBg, k5⟩
          have o5 := o4.keep k5 hKo
          have hb5 := hb2.trans (S5.live.below.mono hb2.size)
          have P6 := Lib.hid (same_yes w5 Ag Ao cg co x.rs og.strsAt o5.strsAt hx1)
          clear P5 S5 hBg k5 o4 og o5 hb2
          go_wp2_with fail
          refine P6.out.mono ?_
          rintro e w6 ⟨rfl, b6⟩
          have hb6 := hb5.trans (b6.mono hb5.size)
          clear P6 b6 hb5
          go_wp2
          go_ret
          exact ⟨rfl, hb6⟩
        · have P5 := Lib.hid (S4.live.open_none HTW.out (by rw [HQS.out]; exact Nat.zero_le _) hop)
          clear hop S4
          go_wp2_with fail
          refine P5.out.mono ?_
          rintro e w5 ⟨rfl, L5, k5⟩
          have hb5 := hb2.trans (L5.below.mono hb2.size)
          clear P5 L5 k5 hb2 o4
          go_wp2
          go_ret
          exact ⟨rfl, hb5⟩
      | false =>
        have P4 := Lib.hid (S3.lift fun F hF => rot_any hF (m0 : Int) (m1 : Int) (k2 : Int))
        clear HFS HQS
        go_wp2_with fail
        refine P4.out.mono ?_
        rintro e w4 ⟨rfl, S4, k4⟩
        have o4 := o3.keep k4 hKo
        clear P4 S3 o3 k4 tm0 tm1
        generalize d.rot (m0 : Int) (m1 : Int) (k2 : Int) = D at *
        rcases HFR.out with ⟨d', y, hop, hrs⟩ | hop
        · have p5 := S4.live.open_some HTW.out (by rw [HQR.out]; exact Nat.zero_le _) hop
          rw [hrs] at p5
          have P5 := Lib.hid p5
          clear p5 hop S4
          go_wp2_with fail
          refine P5.out.mono ?_
          rintro e w5 ⟨jk, Ag, cg, Bg, rfl, S5, og, hBg, k5⟩
          have o5 := o4.keep k5 hKo
          have hb5 := hb2.trans (S5.live.below.mono hb2.size)
          have P6 := Lib.hid (same_yes w5 Ag Ao cg co x.rs og.strsAt o5.strsAt hx1)
          clear P5 S5 hBg k5 o4 og o5 hb2
          go_wp2_with fail
          refine P6.out.mono ?_
          rintro e w6 ⟨rfl, b6⟩
          have hb6 := hb5.trans (b6.mono hb5.size)
          clear P6 b6 hb5
          go_wp2
          go_ret
          exact ⟨rfl, hb6⟩
        · have P5 := Lib.hid (S4.live.open_none HTW.out (by rw [HQR.out]; exact Nat.zero_le _) hop)
          clear hop S4
          go_wp2_with fail
          refine P5.out.mono ?_
          rintro e w5 ⟨rfl, L5, k5⟩
          have hb5 := hb2.trans (L5.below.mono hb2.size)
          clear P5 L5 k5 hb2 o4
          go_wp2
          go_ret
          exact ⟨rfl, hb5⟩
end Go.Proofs.YtfjejfgdnjnflaaDoor
