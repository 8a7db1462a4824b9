/- JournalDurable's walk. -/
import Derived.Test.YtfjejfgdnjnflaaDoorKn
namespace Go.Proofs.YtfjejfgdnjnflaaDoor
open Go.RowKit Go.Shelf

theorem Rest.open {d : Dk} {x : Jn} {n : Nat} (h : Rest d x n) : openS d = (d, some x, 0) := by
  have hs := h.size
  rcases open_on h.on.ok h.on.off h.on.good with ⟨d', h1, _, _, _, _, h6⟩ | ⟨_, _, h1, _⟩
  · rw [h6 h.on.heads] at h1
    rw [h1, h.n]
    obtain ⟨a, b, c, e⟩ := x
    simp only at hs ⊢
    rw [hs.1, hs.2.2.2]
  · exact absurd h.arm h1
theorem Rest.fail {d : Dk} {x : Jn} {n : Nat} (h : Rest d x n) (y z : Int) : Rest (d.fail y z).start x n := by
  obtain ⟨d', k1, k2, k3, k4, k5, k6, _⟩ := fail_start h.on h.q y z
  rw [k1]
  exact ⟨k2, k3, k4, k6 _ h.el, k5.trans h.n⟩
theorem same_yes (w : World) (A B : Option Addr) (c c' : Nat) (l : List (List UInt8)) (h1 : StrsAt w w.heap.size A l) (h2 : StrsAt w w.heap.size B l) (hl : l.length ≤ 1000000) :
    Calls Tryd.prog 11 #[.slice A l.length c, .slice B l.length c'] w fun e w' => e = .returned (.bool true) ∧ Below w.heap.size w w' := by
  have h := same_any w A B c c' l l h1 h2 hl
  rwa [show decide (l = l) = true from decide_eq_true rfl] at h
theorem room_at (w : World) (base a j : Nat) (J : Foot) (x : Jn) (h : JAt w base a j J x) (hn : x.n ≤ 1000000) (hc : x.cnt ≤ 1000000) :
    Calls Tryd.prog 16 #[.pointer (some ⟨j, 0, none⟩)] w fun e w' => e = .returned (.int .i64 ((x.n : Int) - 2 - x.cnt)) ∧ Below w.heap.size w w' := by
  refine (room_any w _ a j J x h hn hc).mono ?_
  rintro e w' ⟨he, q, rfl⟩
  exact ⟨he, below_dN (Below.refl _ _) q⟩

set_option maxRecDepth 100000 in
set_option maxHeartbeats 8000000 in
theorem durable_walk (w : World) (ht : Tbs w) (s : Int) (_ws : (Lit.int .i64 s).wf = true) (A : Option Addr) (c : Nat) (l : List OpJ) (h : OpsAt w w.heap.size A l) (y : Int) (_wy : (Lit.int .i64 y).wf = true) (z : Int) (_wz : (Lit.int .i64 z).wf = true) :
    Calls Tryd.prog 3 #[.int .i64 s, .slice A l.length c, .int .i64 y, .int .i64 z] w fun e w' => e = .returned (.bool true) ∧ Below w.heap.size w w' := by
  have HO := Lib.hid h
  have HT := Lib.hid ht
  clear h ht _ws _wy _wz
  go_enter Tryd.func3, Tryd.ntmps3
  go_wp2_with fail
  refine (head_any w HT.out).mono ?_
  rintro e w1 ⟨rfl, b1⟩
  have HO1 := Lib.hid (HO.out.below b1)
  have hs1 := b1.size
  have HL := Lib.hid (light_any w1 s A c l ⟨fun i o ho => by
    obtain ⟨g, off, h1, h2, h3⟩ := HO1.out.cell i o ho
    exact ⟨g, off, h1, by omega, h3⟩, fun o ho => ⟨((HO1.out.strs o ho).1.wide hs1), (HO1.out.strs o ho).2⟩, HO1.out.bd, HO1.out.len⟩)
  go_wp2_with fail
  refine HL.out.mono ?_
  rintro e w2 ⟨lt, rfl, hlt, b2⟩
  have hb2 := b1.trans (b2.mono b1.size)
  clear HL b1 b2 HO1 hs1
  cases lt with
  | false =>
    clear hlt
    go_wp2
    go_ret
    exact ⟨rfl, hb2⟩
  | true =>
    obtain ⟨h40, h16, h20⟩ := hlt rfl
    have hs2 := hb2.size
    have HO2 := Lib.hid (HO.out.below hb2)
    have HF := Lib.hid (filled_any w2 (HT.out.below hb2) s A c l ⟨fun i o ho => by
      obtain ⟨g, off, h1, h2, h3⟩ := HO2.out.cell i o ho
      exact ⟨g, off, h1, by omega, h3⟩, fun o ho => ⟨((HO2.out.strs o ho).1.wide hs2), (HO2.out.strs o ho).2⟩, HO2.out.bd, HO2.out.len⟩ h40 h16 h20)
    have HTW := Lib.hid (HT.out.below hb2)
    clear hlt h16 h20 HO2 hs2 HO
    go_wp2_with fail
    refine HF.out.mono ?_
    rintro e w3 ⟨b3, hpost⟩
    clear HF
    rcases hpost with ⟨h3, v, rfl⟩ | ⟨h3, a, j, d, x, Ao, co, rfl, S3, o3, hR, hxl⟩
    · have d1 : decide (s < 3) = true := decide_eq_true h3
      have hb3 := hb2.trans (b3.mono hb2.size)
      clear b3 hb2 h3
      go_wp2
      go_ret
      exact ⟨rfl, hb3⟩
    · have hsz := hR.size
      have HR := Lib.hid hR
      have hn1 : x.n ≤ 1000000 := by omega
      have hc1 : x.cnt ≤ 1000000 := by omega
      have hx1 : x.rs.length ≤ 1000000 := by omega
      clear hR hsz b3
      have P4 := Lib.hid (S3.records hx1)
      go_wp2_with fail
      refine P4.out.mono ?_
      rintro e w4 ⟨v, rfl, or, b4⟩
      obtain ⟨Ar, cr, rfl⟩ := or.form
      have S4 := S3.same b4
      have o4 := o3.below b4
      have P5 := Lib.hid (same_yes w4 Ar Ao cr co x.rs or.strsAt o4.strsAt hx1)
      clear P4 S3 o3 b4 or
      go_wp2_with fail
      refine P5.out.mono ?_
      rintro e w5 ⟨rfl, b5⟩
      have S5 := S4.same b5
      have o5 := o4.below b5
      have P6 := Lib.hid (S5.lift fun F hF => fail_any hF y z)
      clear P5 S4 o4 b5
      go_wp2_with fail
      refine P6.out.mono ?_
      rintro e w6 ⟨rfl, S6, k6⟩
      have o6 := o5.keep k6 fun i hi => .inr hi
      have P7 := Lib.hid (S6.lift fun F hF => startany hF)
      clear P6 S5 o5 k6
      go_wp2_with fail
      refine P7.out.mono ?_
      rintro e w7 ⟨rfl, S7, k7⟩
      have o7 := o6.keep k7 fun i hi => .inr hi
      have hR2 := HR.out.fail y z
      clear P7 S6 o6 k7 HR
      generalize (d.fail y z).start = D at *
      have HR := Lib.hid hR2
      clear hR2
      obtain ⟨J, L7, jat, hJ⟩ := S7.split
      have hKo : ∀ i, (Value.slice Ao x.rs.length co).ownBlock = some i → (fun i => (i < w2.heap.size ∨ (Value.slice Ao x.rs.length co).ownBlock = some i) ∨ J i) i := fun i hi => .inl (.inr hi)
      have hKJ : ∀ i, J i → (fun i => (i < w2.heap.size ∨ (Value.slice Ao x.rs.length co).ownBlock = some i) ∨ J i) i := fun i hi => .inr hi
      generalize (fun i => (i < w2.heap.size ∨ (Value.slice Ao x.rs.length co).ownBlock = some i) ∨ J i) = K1 at *
      have P8 := Lib.hid (L7.open_some HTW.out (by rw [HR.out.q]; exact Nat.zero_le _) HR.out.open)
      clear S7 L7 hJ
      go_wp2_with fail
      refine P8.out.mono ?_
      rintro e w8 ⟨jk, Ag, cg, Bg, rfl, S8, og, hBg, k8⟩
      obtain ⟨Jk, L8, jatk, hJk⟩ := S8.split
      have hKg : ∀ i, (Value.slice Ag x.rs.length cg).ownBlock = some i → (fun i => (K1 i ∨ (Bg ≤ i ∧ i < w8.heap.size)) ∨ Jk i) i := fun i hi => .inl (.inr (World.ownsRow.lt og i hi))
      have hKk : ∀ i, Jk i → (fun i => (K1 i ∨ (Bg ≤ i ∧ i < w8.heap.size)) ∨ Jk i) i := fun i hi => .inr hi
      have hK1 : ∀ i, K1 i → (fun i => (K1 i ∨ (Bg ≤ i ∧ i < w8.heap.size)) ∨ Jk i) i := fun i hi => .inl (.inl hi)
      generalize (fun i => (K1 i ∨ (Bg ≤ i ∧ i < w8.heap.size)) ∨ Jk i) = K2 at *
      have P9 := Lib.hid (L8.open_some HTW.out (by rw [HR.out.q]; exact Nat.zero_le _) HR.out.open)
      have o8 := o7.keep k8 hKo
      have jat8 := jat.keep k8 hKJ
      clear P8 S8 L8 hJk hBg k8 o7 jat
      go_wp2_with fail
      refine P9.out.mono ?_
      rintro e w9 ⟨jm, Am, cm, Bm, rfl, S9, om, hBm, k9⟩
      have o9 := o8.keep (k9.mono hK1) hKo
      have jat9 := jat8.keep (k9.mono hK1) hKJ
      have og9 := og.keep k9 hKg
      have jatk9 := jatk.keep k9 hKk
      have hb9 : Below w2.heap.size w2 w9 := S9.live.below
      have P10 := Lib.hid (same_yes w9 Ag Ao cg co x.rs og9.strsAt o9.strsAt hx1)
      clear P9 S9 hBm k9 o8 jat8 og jatk HR
      go_wp2_with fail
      refine P10.out.mono ?_
      rintro e w10 ⟨rfl, b10⟩
      have P11 := Lib.hid (same_yes w10 Am Ao cm co x.rs (om.below b10).strsAt (o9.below b10).strsAt hx1)
      have o10 := o9.below b10
      have jat10 := jat9.below b10
      have jatk10 := jatk9.below b10
      have hb10 := hb9.trans (b10.mono hb9.size)
      clear P10 b10 o9 jat9 jatk9 om og9 hb9
      go_wp2_with fail
      refine P11.out.mono ?_
      rintro e w11 ⟨rfl, b11⟩
      have P12 := Lib.hid (records_any w11 _ a jk Jk x (jatk10.below b11) hx1)
      have o11 := o10.below b11
      have jat11 := jat10.below b11
      have jatk11 := jatk10.below b11
      have hb11 := hb10.trans (b11.mono hb10.size)
      clear P11 b11 o10 jat10 jatk10 hb10
      go_wp2_with fail
      refine P12.out.mono ?_
      rintro e w12 ⟨v, rfl, or, b12⟩
      obtain ⟨Ar, cr, rfl⟩ := or.form
      have P13 := Lib.hid (same_yes w12 Ar Ao cr co x.rs or.strsAt (o11.below b12).strsAt hx1)
      have jat12 := jat11.below b12
      have jatk12 := jatk11.below b12
      have hb12 := hb11.trans (b12.mono hb11.size)
      clear P12 b12 o11 jat11 jatk11 hb11 or
      go_wp2_with fail
      refine P13.out.mono ?_
      rintro e w13 ⟨rfl, b13⟩
      have P14 := Lib.hid (room_at w13 _ a jk Jk x (jatk12.below b13) hn1 hc1)
      have jat13 := jat12.below b13
      have hb13 := hb12.trans (b13.mono hb12.size)
      clear P13 b13 jat12 jatk12 hb12
      go_wp2_with fail
      refine P14.out.mono ?_
      rintro e w14 ⟨rfl, b14⟩
      have P15 := Lib.hid (room_at w14 _ a j J x (jat13.below b14) hn1 hc1)
      have hb14 := hb13.trans (b14.mono hb13.size)
      clear P14 b14 jat13 hb13
      go_wp2_with fail
      refine P15.out.mono ?_
      rintro e w15 ⟨rfl, b15⟩
      have hb15 := hb2.trans ((hb14.trans (b15.mono hb14.size)).mono hb2.size)
      clear P15 b15 hb14
      go_wp2
      go_ret
      exact ⟨rfl, hb15⟩
end Go.Proofs.YtfjejfgdnjnflaaDoor
