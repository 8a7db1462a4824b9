/- head of the statements about the journal: the fixed examples. -/
import Derived.Test.YtfjejfgdnjnflaaGreatDoorKi
namespace Go.Proofs.YtfjejfgdnjnflaaGreatDoor
open Go.RowKit Go.Shelf

set_option maxRecDepth 100000 in
theorem append_nil (w : World) (v : Value) : Calls Tryz.prog 13 #[.pointer none, v] w fun e w' => e = .returned (.int .i64 1) ∧ Below w.heap.size w w' := by
  have hmf : ∀ (fn : Fn) (first cap : Array Value) (w : World), (Instr.makeFunc fn first cap).run Tryz.prog w = .ok (.func fn first cap) w := fun _ _ _ _ => rfl
  go_enter_defers Tryz.func13, Tryz.ntmps13
  go_wp2
  have hbel : Below w.heap.size w ((w.alloc (.cells #[.pointer none] 25)).alloc (.cells #[.int .i64 1] 27)) := ((Below.refl _ w).alloc (Nat.le_refl _) _).alloc (by simp) _
  simp [bodyPostD, Leaves, results, Tryz.results13, go_sem]
  exact hbel
theorem JAt.below {w w' : World} {base a j : Nat} {J : Foot} {x : Jn} (h : JAt w base a j J x) (hb : Below w.heap.size w w') : JAt w' base a j J x := by
  obtain ⟨A, c, h1, h2, h3, h4⟩ := h
  exact ⟨A, c, Blk.below h1 hb h1.lt, h2.below hb, h3, h4⟩
theorem lit_in (w : World) (l : List (List UInt8)) (K : Foot) : StrsIn (w.alloc (.cells (l.map sv).toArray 9)) (fun i => K i ∨ i = w.heap.size) (some ⟨w.heap.size, 0, none⟩) l := fun i s hi => by
  refine ⟨_, _, rfl, .inr rfl, ?_⟩
  have := (Blk.new w 9 (l.map sv).toArray).cell (0 + i)
  rw [this]
  simp [hi]
  rfl
theorem lit_at (w : World) (l : List (List UInt8)) : StrsAt (w.alloc (.cells (l.map sv).toArray 9)) (w.alloc (.cells (l.map sv).toArray 9)).heap.size (some ⟨w.heap.size, 0, none⟩) l :=
  (lit_in w l (fun _ => False)).at fun i hi => by
    rcases hi with h | rfl
    · exact h.elim
    · simp
theorem new6 (w : World) : Calls Tryz.prog 8 #[.int .i64 6] w fun e w' =>
    ∃ a, e = .returned (.pointer (some ⟨a, 0, none⟩)) ∧ Below w.heap.size w w' ∧ w.heap.size ≤ a ∧ DiskAt w' a (Dk.new 6) (fun i => w.heap.size ≤ i ∧ i < w'.heap.size) := new_yes w 6 (by decide) (by decide)
theorem new2 (w : World) : Calls Tryz.prog 8 #[.int .i64 2] w fun e w' =>
    ∃ a, e = .returned (.pointer (some ⟨a, 0, none⟩)) ∧ Below w.heap.size w w' ∧ w.heap.size ≤ a ∧ DiskAt w' a (Dk.new 2) (fun i => w.heap.size ≤ i ∧ i < w'.heap.size) := new_yes w 2 (by decide) (by decide)
theorem text200 (w : World) : Calls Tryz.prog 33 #[.int .i64 200] w fun e w' => e = .returned (.string (bs (List.replicate 200 0))) ∧ Below w.heap.size w w' := lawText_any w 200 (by omega)
theorem text20001 (w : World) : Calls Tryz.prog 33 #[.int .i64 20001] w fun e w' => e = .returned (.string (bs (List.replicate 20001 0))) ∧ Below w.heap.size w w' := lawText_any w 20001 (by omega)

set_option maxRecDepth 100000 in
set_option maxHeartbeats 8000000 in
theorem head_any (w : World) (ht : Tbs w) : Calls Tryz.prog 5 #[] w fun e w' => e = .returned (.bool true) ∧ Below w.heap.size w w' := by
  obtain ⟨d1, d2, d4, d5, d6, a1, a2, a3, f1, o2, r4, o4, r6, o6, q1, q2, q4, q5, q6⟩ := hd_all
  have t200 := fun W => text200 W
  have t20001 := fun W => text20001 W
  have l200 : total [List.replicate 200 (0 : UInt8)] ≤ 500000 := by show (List.replicate 200 (0 : UInt8)).length + 0 ≤ _; rw [List.length_replicate]; decide
  have l20001 : total [List.replicate 20001 (0 : UInt8)] ≤ 500000 := by show (List.replicate 20001 (0 : UInt8)).length + 0 ≤ _; rw [List.length_replicate]; decide
  generalize List.replicate 200 (0 : UInt8) = T200 at *
  generalize List.replicate 20001 (0 : UInt8) = T20001 at *
  have X200 := Lib.hid (And.intro t200 l200)
  have X20001 := Lib.hid (And.intro t20001 l20001)
  clear t200 t20001 l200 l20001
  have A1 := Lib.hid a1
  have A2 := Lib.hid a2
  have A3 := Lib.hid a3
  have F1 := Lib.hid f1
  have O2 := Lib.hid o2
  have R4 := Lib.hid r4
  have O4 := Lib.hid o4
  have R6 := Lib.hid r6
  have O6 := Lib.hid o6
  have Q := Lib.hid (And.intro q1 (And.intro q2 (And.intro q4 (And.intro q5 q6))))
  have HT := Lib.hid ht
  clear a1 a2 a3 f1 o2 r4 o4 r6 o6 q1 q2 q4 q5 q6 ht
  go_enter Tryz.func5, Tryz.ntmps5
  go_wp2_with fail
  refine (new6 w).mono ?_
  rintro e w1 ⟨a, rfl, b1, ga, hD⟩
  have L1 : Live w w1 a (Dk.new 6) (fun _ => False) := Live.of_new (Below.refl _ _) b1 hD
  clear b1 ga hD
  have p1 := L1.open_some HT.out (by show 0 ≤ 1000; omega) hd_open.2
  simp only [show (x6 0 []).rs = [] from rfl, List.length_nil] at p1
  have P1 := Lib.hid p1
  clear p1
  go_wp2_with fail
  refine P1.out.mono ?_
  rintro e w2 ⟨j, A, c, B, rfl, S2, o2, hB, k2⟩
  clear P1 L1 o2 k2 hB
  have hb3 : Below w2.heap.size w2 (w2.alloc (.cells #[.string ⟨#[97]⟩, .string ⟨#[98, 99]⟩] 9)) := (Below.refl _ w2).alloc (Nat.le_refl _) _
  have S3 := S2.more hb3 (L := fun i => False ∨ i = w2.heap.size) (fun i hi => .inr (by rcases hi with h | rfl; exact h.elim; simp))
  have i3 : StrsIn (w2.alloc (.cells #[.string ⟨#[97]⟩, .string ⟨#[98, 99]⟩] 9)) (fun i => False ∨ i = w2.heap.size) (some ⟨w2.heap.size, 0, none⟩) abL := lit_in w2 abL (fun _ => False)
  have P3 := Lib.hid (S3.append HT.out _ 2 abL i3 (by decide) (by decide) (by decide) (by decide) (by decide) (by show 0 ≤ 1000; omega))
  rw [A1.out] at P3
  clear S2 S3 i3 hb3
  go_wp2_with fail
  refine P3.out.mono ?_
  rintro e w4 ⟨rfl, S4, k4⟩
  clear P3 k4
  have p4 := S4.room (by decide) (by decide)
  rw [show (((x6 1 abL).n : Nat) : Int) - 2 - (((x6 1 abL).cnt : Nat) : Int) = 3 from rfl] at p4
  have P4 := Lib.hid p4
  clear p4
  go_wp2_with fail
  refine P4.out.mono ?_
  rintro e w5 ⟨rfl, b5⟩
  have S5 := S4.same b5
  clear P4 S4 b5
  go_wp2_with fail
  refine (X200.out.1 _).mono ?_
  rintro e w6 ⟨rfl, b6⟩
  have S6 := S5.same b6
  clear S5 b6
  have hb7 : Below w6.heap.size w6 (w6.alloc (.cells #[.string (bs T200)] 9)) := (Below.refl _ w6).alloc (Nat.le_refl _) _
  have S7 := S6.more hb7 (L := fun i => False ∨ i = w6.heap.size) (fun i hi => .inr (by rcases hi with h | rfl; exact h.elim; simp))
  have i7 : StrsIn (w6.alloc (.cells #[.string (bs T200)] 9)) (fun i => False ∨ i = w6.heap.size) (some ⟨w6.heap.size, 0, none⟩) [T200] := lit_in w6 [T200] (fun _ => False)
  have P7 := Lib.hid (S7.append HT.out _ 1 [T200] i7 (by decide) (by decide) (by simp) X200.out.2 (by decide) (by rw [Q.out.1]; decide))
  rw [A2.out] at P7
  clear S6 S7 i7 hb7
  go_wp2_with fail
  refine P7.out.mono ?_
  rintro e w8 ⟨rfl, S8, k8⟩
  clear P7 k8
  go_wp2_with fail
  refine (X20001.out.1 _).mono ?_
  rintro e w9 ⟨rfl, b9⟩
  have S9 := S8.same b9
  clear S8 b9
  have hb10 : Below w9.heap.size w9 (w9.alloc (.cells #[.string (bs T20001)] 9)) := (Below.refl _ w9).alloc (Nat.le_refl _) _
  have S10 := S9.more hb10 (L := fun i => False ∨ i = w9.heap.size) (fun i hi => .inr (by rcases hi with h | rfl; exact h.elim; simp))
  have i10 : StrsIn (w9.alloc (.cells #[.string (bs T20001)] 9)) (fun i => False ∨ i = w9.heap.size) (some ⟨w9.heap.size, 0, none⟩) [T20001] := lit_in w9 [T20001] (fun _ => False)
  have P10 := Lib.hid (S10.append HT.out _ 1 [T20001] i10 (by decide) (by decide) (by simp) X20001.out.2 (by decide) (by rw [Q.out.1]; decide))
  rw [A3.out] at P10
  clear S9 S10 i10 hb10
  go_wp2_with fail
  refine P10.out.mono ?_
  rintro e w11 ⟨rfl, S11, k11⟩
  clear P10 k11
  have P11 := Lib.hid (S11.lift fun F hF => fail_any hF 0 0)
  go_wp2_with fail
  refine P11.out.mono ?_
  rintro e w12 ⟨rfl, S12, k12⟩
  clear P11 k12 S11
  have p12 := S12.lift fun F hF => startany hF
  rw [F1.out] at p12
  have P12 := Lib.hid p12
  clear p12
  go_wp2_with fail
  refine P12.out.mono ?_
  rintro e w13 ⟨rfl, S13, k13⟩
  clear P12 k13 S12
  have p13 := (S13.live.less (H := fun _ => False) (fun _ h => h.elim)).open_some HT.out (by rw [Q.out.2.1]; decide) O2.out
  simp only [show (x6 1 abL).rs = abL from rfl] at p13
  have P13 := Lib.hid p13
  clear p13 S13
  go_wp2_with fail
  refine P13.out.mono ?_
  rintro e w14 ⟨jk, Am, cm, Bm, rfl, S14, om, hBm, k14⟩
  clear P13 k14
  obtain ⟨Jk, L14, jat, hJk⟩ := S14.split
  have hmK : ∀ i, (Value.slice Am abL.length cm).ownBlock = some i → (fun i => (False ∨ (Bm ≤ i ∧ i < w14.heap.size)) ∨ Jk i) i := fun i hi => .inl (.inr (World.ownsRow.lt om i hi))
  have hJK : ∀ i, Jk i → (fun i => (False ∨ (Bm ≤ i ∧ i < w14.heap.size)) ∨ Jk i) i := fun i hi => .inr hi
  generalize (fun i => (False ∨ (Bm ≤ i ∧ i < w14.heap.size)) ∨ Jk i) = KK at *
  clear S14 hBm hJk
  have p15 := L14.lift fun F hF => rot_any hF 0 5 1
  rw [R4.out] at p15
  have P15 := Lib.hid p15
  clear p15 L14
  go_wp2_with fail
  refine P15.out.mono ?_
  rintro e w15 ⟨rfl, L15, k15⟩
  clear P15
  have p16 := L15.open_some HT.out (by rw [Q.out.2.2.1]; decide) O4.out
  simp only [show (x6 1 abL).rs = abL from rfl] at p16
  have P16 := Lib.hid p16
  clear p16 L15
  go_wp2_with fail
  refine P16.out.mono ?_
  rintro e w16 ⟨j5, An, cn, Bn, rfl, S16, on, hBn, k16⟩
  have k1416 := k15.trans k16
  have hnK : ∀ i, (Value.slice An abL.length cn).ownBlock = some i → (fun i => KK i ∨ (Bn ≤ i ∧ i < w16.heap.size)) i := fun i hi => .inr (World.ownsRow.lt on i hi)
  have hKN : ∀ i, KK i → (fun i => KK i ∨ (Bn ≤ i ∧ i < w16.heap.size)) i := fun i hi => .inl hi
  have L16 := S16.live
  generalize (fun i => KK i ∨ (Bn ≤ i ∧ i < w16.heap.size)) = KN at *
  clear P16 k15 k16 hBn S16
  have p17 := L16.lift fun F hF => rot_any hF 2 40 1
  rw [R6.out] at p17
  have P17 := Lib.hid p17
  clear p17 L16
  go_wp2_with fail
  refine P17.out.mono ?_
  rintro e w17 ⟨rfl, L17, k17⟩
  clear P17
  have P18 := Lib.hid (L17.open_none HT.out (by rw [Q.out.2.2.2.2]; decide) O6.out)
  clear L17
  go_wp2_with fail
  refine P18.out.mono ?_
  rintro e w18 ⟨rfl, L18, k18⟩
  have k1618 := k17.trans k18
  clear P18 k17 k18
  go_wp2_with fail
  refine (new2 w18).mono ?_
  rintro e w19 ⟨a2, rfl, b19, ga2, hD2⟩
  have L19 : Live w18 w19 a2 (Dk.new 2) (fun _ => False) := Live.of_new (Below.refl _ _) b19 hD2
  have P20 := Lib.hid (L19.open_none (HT.out.below L18.below) (by show 0 ≤ 1000; omega) (new_few (by decide)))
  clear b19 ga2 hD2 L19
  go_wp2_with fail
  refine P20.out.mono ?_
  rintro e w20 ⟨rfl, L20, k20⟩
  have b20 := L20.below
  have hb20 : Below w.heap.size w w20 := L18.below.trans (b20.mono L18.below.size)
  have k1620 : Keep KN w16 w20 := k1618.trans (Keep.of_below b20 L18.lt)
  have k1420 : Keep KK w14 w20 := k1416.trans (k1620.mono hKN)
  have om20 := om.keep k1420 hmK
  have on20 := on.keep k1620 hnK
  have jat20 := jat.keep k1420 hJK
  clear P20 L20 k20 L18 b20 k1620 k1420 k1618 k1416 om on jat
  have b21 : Below w20.heap.size w20 (w20.alloc (.cells #[.string ⟨#[97]⟩, .string ⟨#[98, 99]⟩] 9)) := (Below.refl _ w20).alloc (Nat.le_refl _) _
  have l21 : StrsAt (w20.alloc (.cells #[.string ⟨#[97]⟩, .string ⟨#[98, 99]⟩] 9)) (w20.alloc (.cells #[.string ⟨#[97]⟩, .string ⟨#[98, 99]⟩] 9)).heap.size (some ⟨w20.heap.size, 0, none⟩) abL := lit_at w20 abL
  have om21 := om20.below b21
  have p21 := same_any _ Am _ cm 2 abL abL om21.strsAt l21 (by decide)
  rw [show decide (abL = abL) = true from decide_eq_true rfl] at p21
  have P21 := Lib.hid p21
  clear p21 l21
  go_wp2_with fail
  refine P21.out.mono ?_
  rintro e w22 ⟨rfl, b22⟩
  have b2022 := b21.trans (b22.mono b21.size)
  have hb22 := hb20.trans (b2022.mono hb20.size)
  have p23 := records_any w22 _ a jk Jk (x6 1 abL) (jat20.below b2022) (by decide)
  simp only [show (x6 1 abL).rs = abL from rfl] at p23
  have P23 := Lib.hid p23
  have om22 := om20.below b2022
  have on22 := on20.below b2022
  clear p23 P21 b21 b22 om21 om20 on20 jat20 b2022 hb20
  go_wp2_with fail
  refine P23.out.mono ?_
  rintro e w23 ⟨v, rfl, or, b23⟩
  obtain ⟨Ar, cr, rfl⟩ := or.form
  have om23 := om22.below b23
  have on23 := on22.below b23
  have hb23 := hb22.trans (b23.mono hb22.size)
  have p24 := same_any _ Ar Am cr cm abL abL or.strsAt om23.strsAt (by decide)
  rw [show decide (abL = abL) = true from decide_eq_true rfl] at p24
  have P24 := Lib.hid p24
  clear p24 P23 b23 om22 on22 or hb22
  go_wp2_with fail
  refine P24.out.mono ?_
  rintro e w24 ⟨rfl, b24⟩
  have om24 := om23.below b24
  have on24 := on23.below b24
  have hb24 := hb23.trans (b24.mono hb23.size)
  have p25 := same_any _ An Am cn cm abL abL on24.strsAt om24.strsAt (by decide)
  rw [show decide (abL = abL) = true from decide_eq_true rfl] at p25
  have P25 := Lib.hid p25
  clear p25 P24 b24 om23 on23 hb23
  go_wp2_with fail
  refine P25.out.mono ?_
  rintro e w25 ⟨rfl, b25⟩
  have hb25 := hb24.trans (b25.mono hb24.size)
  clear P25 b25 om24 on24 hb24
  go_wp2_with fail
  refine (append_nil _ _).mono ?_
  rintro e w26 ⟨rfl, b26⟩
  have hb26 := hb25.trans (b26.mono hb25.size)
  go_wp2
  go_ret
  exact ⟨rfl, hb26⟩
end Go.Proofs.YtfjejfgdnjnflaaGreatDoor
