/- Package matter's Parse. -/
import Derived.Test.YtgfahifdmacmhaaGreatDoorZUGA
import Derived.Test.YtgfahifdmacmhaaGreatDoorZUWc
import Derived.Test.YtgfahifdmacmhaaGreatDoorPlan
import Derived.BigQuiet
namespace Go.Proofs.YtgfahifdmacmhaaGreatDoor
open Go.RowKit Go.Shelf

set_option maxRecDepth 100000 in
set_option maxHeartbeats 8000000 in
theorem parse_any (w : World) (ht : Tbs w) (t : List UInt8) (hl : t.length ≤ 1000000) (E : Int) (Z : Mt) (hE : (parseOk t = true → E = 0 ∧ Z = looseM t) ∧ (parseOk t = false → E = 5 ∧ Z = Mt.zero)) :
    Calls Tryz.prog 13 #[.string (bs t)] w (MtPost w E Z) := by
  obtain ⟨j0, hj0, hy0, hy1, hy2⟩ := info_parts Tryz.infoRight
  obtain ⟨i0, hi0, hz0, hz1, hz2⟩ := info_parts Tryz.infoStop
  obtain ⟨l0, hl0', hx0', hx1', hx2'⟩ := info_parts Tryz.infoLimit
  have HT := Lib.hid ht
  have HEZ := Lib.hid hE
  obtain ⟨T, hT⟩ : ∃ T, bs t = T := ⟨_, rfl⟩
  have hTs : T.size ≤ 1000000 := by rw [← hT, bs_size]; exact hl
  have hTI : ¬ (1000000 : Int) < (T.size : Int) := by omega
  have hTd : decide ((1000000 : Int) < (T.size : Int)) = false := decide_eq_false hTI
  rw [hT]
  obtain ⟨T2, hT2⟩ : ∃ T2, bs (Lib.trimSuffix t [10]) = T2 := ⟨_, rfl⟩
  have htr := fun W => sh_strings_TrimSuffix T ⟨#[10]⟩ W (by omega)
  have e2 : (⟨(Lib.trimSuffix T.data.toList (⟨#[10]⟩ : ByteArray).data.toList).toArray⟩ : ByteArray) = T2 := by rw [← hT2, ← hT]; rfl
  rw [e2] at htr
  have hb0 := below_self_alloc w (.cells #[.string ⟨#[]⟩, .int .i64 0, .slice none 0 0, .string ⟨#[]⟩, .int .i64 0, .slice none 0 0, .slice none 0 0, .slice none 0 0] 27)
  have hsp := split_any (w.alloc (.cells #[.string ⟨#[]⟩, .int .i64 0, .slice none 0 0, .string ⟨#[]⟩, .int .i64 0, .slice none 0 0, .slice none 0 0, .slice none 0 0] 27)) (ht.below hb0) 10 (Lib.trimSuffix t [10]) (Nat.le_trans (trim_len t) hl)
  have e10 : bs [10] = ⟨#[10]⟩ := rfl
  rw [hT2, e10] at hsp
  obtain ⟨n0, hn0⟩ : ∃ n, (cutL 10 (Lib.trimSuffix t [10])).length = n := ⟨_, rfl⟩
  rw [hn0] at hsp
  have HTR := Lib.hid htr
  have HSP := Lib.hid hsp
  have HT1 := Lib.hid hT
  have HN0 := Lib.hid hn0
  have HL := Lib.hid hl
  have k0 := Blk.new w 27 #[.string ⟨#[]⟩, .int .i64 0, .slice none 0 0, .string ⟨#[]⟩, .int .i64 0, .slice none 0 0, .slice none 0 0, .slice none 0 0]
  have hs0 : (w.alloc (.cells #[.string ⟨#[]⟩, .int .i64 0, .slice none 0 0, .string ⟨#[]⟩, .int .i64 0, .slice none 0 0, .slice none 0 0, .slice none 0 0] 27)).heap.size = w.heap.size + 1 := by simp
  clear ht hE hT hT2 htr e2 e10 hsp hn0 hl
  go_enter Tryz.func13, Tryz.ntmps13
  go_upto_region 3 with fail
  generalize w.alloc (.cells #[.string ⟨#[]⟩, .int .i64 0, .slice none 0 0, .string ⟨#[]⟩, .int .i64 0, .slice none 0 0, .slice none 0 0, .slice none 0 0] 27) = W0 at *
  have HB0 := Lib.hid hb0
  have K0 := Lib.hid k0
  have HS0 := Lib.hid hs0
  clear hb0 k0 hs0 hTd hTI
  go_wp2_with fail
  refine (HTR.out W0).mono ?_
  rintro e w1 ⟨rfl, rfl⟩
  go_wp2_with fail
  refine HSP.out.mono ?_
  rintro e w1 ⟨rfl, rfl⟩
  go_upto_region 5 with fail
  have hb1 := HB0.out.alloc HB0.out.size (.cells ((cutL 10 (Lib.trimSuffix t [10])).map sv).toArray 9)
  have hb2 := hb1.alloc hb1.size (.cells #[.slice none 0 0, .bool false, .slice (some ⟨w1.heap.size, 0, none⟩) n0 n0] 86)
  have hb3 := hb2.alloc hb2.size (.cells #[.string ⟨#[]⟩, .int .i64 0, .slice none 0 0, .string ⟨#[]⟩, .int .i64 0, .slice none 0 0, .slice none 0 0, .slice none 0 0] 27)
  have hs0 := HS0.out
  have ks := (Blk.new1 w1 (.cells ((cutL 10 (Lib.trimSuffix t [10])).map sv).toArray 9) 86 #[.slice none 0 0, .bool false, .slice (some ⟨w1.heap.size, 0, none⟩) n0 n0]).alloc (.cells #[.string ⟨#[]⟩, .int .i64 0, .slice none 0 0, .string ⟨#[]⟩, .int .i64 0, .slice none 0 0, .slice none 0 0, .slice none 0 0] 27)
  have km := Blk.new2 w1 (.cells ((cutL 10 (Lib.trimSuffix t [10])).map sv).toArray 9) (.cells #[.slice none 0 0, .bool false, .slice (some ⟨w1.heap.size, 0, none⟩) n0 n0] 86) 27 #[.string ⟨#[]⟩, .int .i64 0, .slice none 0 0, .string ⟨#[]⟩, .int .i64 0, .slice none 0 0, .slice none 0 0, .slice none 0 0]
  have kr := ((K0.out.alloc (.cells ((cutL 10 (Lib.trimSuffix t [10])).map sv).toArray 9)).alloc (.cells #[.slice none 0 0, .bool false, .slice (some ⟨w1.heap.size, 0, none⟩) n0 n0] 86)).alloc (.cells #[.string ⟨#[]⟩, .int .i64 0, .slice none 0 0, .string ⟨#[]⟩, .int .i64 0, .slice none 0 0, .slice none 0 0, .slice none 0 0] 27)
  have hin : SIn (((w1.alloc (.cells ((cutL 10 (Lib.trimSuffix t [10])).map sv).toArray 9)).alloc (.cells #[.slice none 0 0, .bool false, .slice (some ⟨w1.heap.size, 0, none⟩) n0 n0] 86)).alloc (.cells #[.string ⟨#[]⟩, .int .i64 0, .slice none 0 0, .string ⟨#[]⟩, .int .i64 0, .slice none 0 0, .slice none 0 0, .slice none 0 0] 27)) (w1.heap.size + 1) (some ⟨w1.heap.size, 0, none⟩) (cutL 10 (Lib.trimSuffix t [10])) := (SIn.fresh (w := w1) (g := w1.heap.size + 1) (by omega)).via fun _ _ _ hb => (hb.alloc _).alloc _
  have hcl := cutL_le (c := 10) (Lib.trimSuffix t [10])
  have htl := trim_len t
  have hl := HL.out
  have P0 : Hid (PS w (((w1.alloc (.cells ((cutL 10 (Lib.trimSuffix t [10])).map sv).toArray 9)).alloc (.cells #[.slice none 0 0, .bool false, .slice (some ⟨w1.heap.size, 0, none⟩) n0 n0] 86)).alloc (.cells #[.string ⟨#[]⟩, .int .i64 0, .slice none 0 0, .string ⟨#[]⟩, .int .i64 0, .slice none 0 0, .slice none 0 0, .slice none 0 0] 27)) (w1.heap.size + 1) (w1.heap.size + 1 + 1) w.heap.size (S0 t) #[.string ⟨#[]⟩, .int .i64 0, .slice none 0 0, .string ⟨#[]⟩, .int .i64 0, .slice none 0 0, .slice none 0 0, .slice none 0 0]) := Lib.hid ⟨hb3, ⟨none, 0, some ⟨w1.heap.size, 0, none⟩, n0, by show Blk _ _ _ #[.slice none 0 0, .bool false, .slice (some ⟨w1.heap.size, 0, none⟩) (cutL 10 (Lib.trimSuffix t [10])).length n0]; rw [HN0.out]; exact ks, Nat.le_refl _, by show (cutL 10 (Lib.trimSuffix t [10])).length ≤ n0; rw [HN0.out]; exact Nat.le_refl _, SIn.nil _ _ _, hin, by simp [S0], fun x hx => by have := hcl.2 x hx; omega, by simp [S0]⟩, km, kr, by omega, by omega, Nat.le_refl _, by omega⟩
  clear hb1 hb2 hb3 ks km kr hin HSP HTR HB0 K0
  generalize ((w1.alloc (.cells ((cutL 10 (Lib.trimSuffix t [10])).map sv).toArray 9)).alloc (.cells #[.slice none 0 0, .bool false, .slice (some ⟨w1.heap.size, 0, none⟩) n0 n0] 86)).alloc (.cells #[.string ⟨#[]⟩, .int .i64 0, .slice none 0 0, .string ⟨#[]⟩, .int .i64 0, .slice none 0 0, .slice none 0 0, .slice none 0 0] 27) = W0 at *
  generalize w1.heap.size + 1 + 1 = gm at *
  generalize w1.heap.size + 1 = g at *
  have hl0 : (S0 t).ln.length ≤ 1000001 := by have := hcl.1; show (cutL 10 (Lib.trimSuffix t [10])).length ≤ _; omega
  obtain ⟨s0, h0⟩ : ∃ s, S0 t = s := ⟨_, rfl⟩
  rw [h0] at hl0
  rw [h0] at P0
  obtain ⟨s1, E0⟩ : ∃ s, s0.next = s := ⟨_, rfl⟩
  obtain ⟨s2, E1⟩ : ∃ s, s1.pop = s := ⟨_, rfl⟩
  obtain ⟨s3, E2⟩ : ∃ s, s2.pop = s := ⟨_, rfl⟩
  obtain ⟨s4, E3⟩ : ∃ s, s3.popN = s := ⟨_, rfl⟩
  obtain ⟨s5, E4⟩ : ∃ s, s4.pop = s := ⟨_, rfl⟩
  obtain ⟨s6, E5⟩ : ∃ s, s5.popN = s := ⟨_, rfl⟩
  obtain ⟨s7, E6⟩ : ∃ s, s6.next = s := ⟨_, rfl⟩
  obtain ⟨s8, E7⟩ : ∃ s, s7.pop = s := ⟨_, rfl⟩
  obtain ⟨s9, E8⟩ : ∃ s, s8.rest = s := ⟨_, rfl⟩
  obtain ⟨s10, E9⟩ : ∃ s, s9.next = s := ⟨_, rfl⟩
  obtain ⟨s11, E10⟩ : ∃ s, s10.pop = s := ⟨_, rfl⟩
  obtain ⟨s12, E11⟩ : ∃ s, s11.rest = s := ⟨_, rfl⟩
  have hS1 : S1 t = s2 := by unfold S1; rw [h0, E0, E1]
  have hS2 : S2 t = s8 := by unfold S2; rw [hS1, E2, E3, E4, E5, E6, E7]
  have hS3 : S3 t = s11 := by unfold S3; rw [hS2, E8, E9, E10]
  have hL3 : L3 t = loopW s12.ln [] [] s12.ws s12.wr := by unfold L3; rw [hS3, E11]
  have hlo : looseM t = ⟨bs s2.word, s3.num, s8.ws.map numW, bs s4.word, s5.num, s11.ws.map numW, (L3 t).1, (L3 t).2.1⟩ := by unfold looseM; rw [hS1, hS2, hS3, E2, E3, E4]
  obtain ⟨X1, e1⟩ : ∃ X, bs s2.word = X := ⟨_, rfl⟩
  obtain ⟨X2, e2⟩ : ∃ X, bs s4.word = X := ⟨_, rfl⟩
  obtain ⟨n1, e3⟩ : ∃ X, s3.num = X := ⟨_, rfl⟩
  obtain ⟨n2, e4⟩ : ∃ X, s5.num = X := ⟨_, rfl⟩
  obtain ⟨cs, e5⟩ : ∃ X, s8.ws.map numW = X := ⟨_, rfl⟩
  obtain ⟨mv, e6⟩ : ∃ X, s11.ws.map numW = X := ⟨_, rfl⟩
  obtain ⟨nc, e7⟩ : ∃ X, s8.ws.length = X := ⟨_, rfl⟩
  obtain ⟨nm, e8⟩ : ∃ X, s11.ws.length = X := ⟨_, rfl⟩
  have e9 : cs.length = nc := by rw [← e5, List.length_map, e7]
  have e10 : mv.length = nm := by rw [← e6, List.length_map, e8]
  rw [e1, e2, e3, e4, e5, e6] at hlo
  have HLO := Lib.hid hlo
  have HL3 := Lib.hid hL3
  have F0 := Lib.hid E0
  have F1 := Lib.hid E1
  have F2 := Lib.hid E2
  have F3 := Lib.hid E3
  have F4 := Lib.hid E4
  have F5 := Lib.hid E5
  have F6 := Lib.hid E6
  have F7 := Lib.hid E7
  have F8 := Lib.hid E8
  have F9 := Lib.hid E9
  have F10 := Lib.hid E10
  have F11 := Lib.hid E11
  have V1 := Lib.hid e1
  have V2 := Lib.hid e2
  have V3 := Lib.hid e3
  have V4 := Lib.hid e4
  have V5 := Lib.hid e5
  have V6 := Lib.hid e6
  have V7 := Lib.hid e7
  have V8 := Lib.hid e8
  have V9 := Lib.hid e9
  have V10 := Lib.hid e10
  clear hcl htl hl h0 hS1 hS2 hS3 hL3 hlo E0 E1 E2 E3 E4 E5 E6 E7 E8 E9 E10 E11 e1 e2 e3 e4 e5 e6 e7 e8 e9 e10
  go_quiet (fail)
  have P1 := Lib.hid (P0.out.drewN nq)
  clear P0
  generalize W0.drewN nq = W0 at *
  have Q0 := P1
  clear P1
  have hc := scnext_any W0 g s0 Q0.out.sc (Q0.out.tbs HT.out)
  rw [F0.out] at hc
  have HC := Lib.hid hc
  clear hc
  go_wp2_with fail
  refine HC.out.mono ?_
  rintro e W1 ⟨rfl, hs, ho⟩
  have Q1 := Lib.hid (Q0.out.step ho hs)
  clear hs ho HC Q0
  have hc := scword_any W1 g s1 Q1.out.sc
  rw [F1.out] at hc
  have HC := Lib.hid hc
  clear hc
  go_wp2_with fail
  refine HC.out.mono ?_
  rintro e W2 ⟨rfl, hs, ho⟩
  have Q2 := Lib.hid (Q1.out.step ho hs)
  clear hs ho HC Q1
  have hx1 : X1.size ≤ 1000000 := by rw [← V1.out, bs_size]; exact Q2.out.sc.len
  have hc := scword_any W2 g s2 Q2.out.sc
  rw [F2.out] at hc
  rw [V1.out] at hc
  have HC := Lib.hid hc
  clear hc
  go_wp2_with fail
  refine HC.out.mono ?_
  rintro e W3 ⟨rfl, hs, ho⟩
  have Q3 := Lib.hid (Q2.out.step ho hs)
  clear hs ho HC Q2
  have hc := scnum_any W3 g s3 Q3.out.sc (Q3.out.tbs HT.out)
  rw [F3.out] at hc
  rw [V3.out] at hc
  have HC := Lib.hid hc
  clear hc
  go_wp2_with fail
  refine HC.out.mono ?_
  rintro e W4 ⟨rfl, hs, ho⟩
  have Q4 := Lib.hid (Q3.out.step ho hs)
  clear hs ho HC Q3
  have hx2 : X2.size ≤ 1000000 := by rw [← V2.out, bs_size]; exact Q4.out.sc.len
  have hc := scword_any W4 g s4 Q4.out.sc
  rw [F4.out] at hc
  rw [V2.out] at hc
  have HC := Lib.hid hc
  clear hc
  go_wp2_with fail
  refine HC.out.mono ?_
  rintro e W5 ⟨rfl, hs, ho⟩
  have Q5 := Lib.hid (Q4.out.step ho hs)
  clear hs ho HC Q4
  have hc := scnum_any W5 g s5 Q5.out.sc (Q5.out.tbs HT.out)
  rw [F5.out] at hc
  rw [V4.out] at hc
  have HC := Lib.hid hc
  clear hc
  go_wp2_with fail
  refine HC.out.mono ?_
  rintro e W6 ⟨rfl, hs, ho⟩
  have Q6 := Lib.hid (Q5.out.step ho hs)
  clear hs ho HC Q5
  obtain ⟨k0, k1, k2⟩ := Q6.out.km.all
  go_upto_region 9 with fail
  clear k0 k1 k2
  have QQ : Hid (PS w ((((W6.setCell ⟨gm, 0, none⟩ (.string X1)).setCell ⟨gm, 1, none⟩ (.int .i64 n1)).setCell ⟨gm, 3, none⟩ (.string X2)).setCell ⟨gm, 4, none⟩ (.int .i64 n2)) g gm w.heap.size s6 #[.string X1, .int .i64 n1, .slice none 0 0, .string X2, .int .i64 n2, .slice none 0 0, .slice none 0 0, .slice none 0 0]) := Lib.hid (((((Q6.out.store 0 (.string X1)).store 1 (.int .i64 n1)).store 3 (.string X2)).store 4 (.int .i64 n2)).cast (by rfl))
  clear Q6
  have Q6 := QQ
  clear QQ
  generalize ((((W6.setCell ⟨gm, 0, none⟩ (.string X1)).setCell ⟨gm, 1, none⟩ (.int .i64 n1)).setCell ⟨gm, 3, none⟩ (.string X2)).setCell ⟨gm, 4, none⟩ (.int .i64 n2)) = W6 at *
  have hc := scnext_any W6 g s6 Q6.out.sc (Q6.out.tbs HT.out)
  rw [F6.out] at hc
  have HC := Lib.hid hc
  clear hc
  go_wp2_with fail
  refine HC.out.mono ?_
  rintro e W7 ⟨rfl, hs, ho⟩
  have Q7 := Lib.hid (Q6.out.step ho hs)
  clear hs ho HC Q6
  have hnc : nc ≤ 1000000 := by rw [← V7.out, ← F7.out, Sc.pop_ws]; have := Q7.out.sc.ws_len; omega
  have hc := scword_any W7 g s7 Q7.out.sc
  rw [F7.out] at hc
  have HC := Lib.hid hc
  clear hc
  go_wp2_with fail
  refine HC.out.mono ?_
  rintro e W8 ⟨rfl, hs, ho⟩
  have Q8 := Lib.hid (Q7.out.step ho hs)
  clear hs ho HC Q7
  have hc := screst_any W8 g s8 Q8.out.sc (Q8.out.tbs HT.out)
  rw [F8.out] at hc
  rw [V7.out, V5.out] at hc
  have HC := Lib.hid hc
  clear hc
  go_wp2_with fail
  refine HC.out.mono ?_
  rintro e W9 ⟨⟨A8, c8, rfl, hown⟩, hs, ho⟩
  have Q9 := Lib.hid (Q8.out.step ho hs)
  have OW8 := Lib.hid (owns_low hown Q8.out.hb.size)
  clear hown
  clear hs ho HC Q8
  obtain ⟨k0, k1, k2⟩ := Q9.out.km.all
  go_upto_region 12 with fail
  clear k0 k1 k2
  have QQ : Hid (PS w (W9.setCell ⟨gm, 2, none⟩ (.slice A8 nc c8)) g gm w.heap.size s9 #[.string X1, .int .i64 n1, .slice A8 nc c8, .string X2, .int .i64 n2, .slice none 0 0, .slice none 0 0, .slice none 0 0]) := Lib.hid ((Q9.out.store 2 (.slice A8 nc c8)).cast (by rfl))
  have OW8x : Hid ((W9.setCell ⟨gm, 2, none⟩ (.slice A8 nc c8)).ownsRow _ _ _ _ _ _) := Lib.hid (Q9.out.owns_set OW8.out (by decide))
  clear OW8
  have OW8 := OW8x
  clear OW8x
  clear Q9
  have Q9 := QQ
  clear QQ
  generalize (W9.setCell ⟨gm, 2, none⟩ (.slice A8 nc c8)) = W9 at *
  have hc := scnext_any W9 g s9 Q9.out.sc (Q9.out.tbs HT.out)
  rw [F9.out] at hc
  have HC := Lib.hid hc
  clear hc
  go_wp2_with fail
  refine HC.out.mono ?_
  rintro e W10 ⟨rfl, hs, ho⟩
  have Q10 := Lib.hid (Q9.out.step ho hs)
  have OW8x := Lib.hid (Q9.out.owns ho OW8.out (by decide))
  clear OW8
  have OW8 := OW8x
  clear OW8x
  clear hs ho HC Q9
  have hnm : nm ≤ 1000000 := by rw [← V8.out, ← F10.out, Sc.pop_ws]; have := Q10.out.sc.ws_len; omega
  have hc := scword_any W10 g s10 Q10.out.sc
  rw [F10.out] at hc
  have HC := Lib.hid hc
  clear hc
  go_wp2_with fail
  refine HC.out.mono ?_
  rintro e W11 ⟨rfl, hs, ho⟩
  have Q11 := Lib.hid (Q10.out.step ho hs)
  have OW8x := Lib.hid (Q10.out.owns ho OW8.out (by decide))
  clear OW8
  have OW8 := OW8x
  clear OW8x
  clear hs ho HC Q10
  have hc := screst_any W11 g s11 Q11.out.sc (Q11.out.tbs HT.out)
  rw [F11.out] at hc
  rw [V8.out, V6.out] at hc
  have HC := Lib.hid hc
  clear hc
  go_wp2_with fail
  refine HC.out.mono ?_
  rintro e W12 ⟨⟨A11, c11, rfl, hown⟩, hs, ho⟩
  have Q12 := Lib.hid (Q11.out.step ho hs)
  have OW8x := Lib.hid (Q11.out.owns ho OW8.out (by decide))
  clear OW8
  have OW8 := OW8x
  clear OW8x
  have OW11 := Lib.hid (owns_low hown Q11.out.hb.size)
  clear hown
  clear hs ho HC Q11
  obtain ⟨k0, k1, k2⟩ := Q12.out.km.all
  go_wp2_with fail
  clear k0 k1 k2
  have QQ : Hid (PS w (W12.setCell ⟨gm, 5, none⟩ (.slice A11 nm c11)) g gm w.heap.size s12 #[.string X1, .int .i64 n1, .slice A8 nc c8, .string X2, .int .i64 n2, .slice A11 nm c11, .slice none 0 0, .slice none 0 0]) := Lib.hid ((Q12.out.store 5 (.slice A11 nm c11)).cast (by rfl))
  have O8 : Hid ((W12.setCell ⟨gm, 5, none⟩ (.slice A11 nm c11)).ownsRow _ _ _ _ _ _) := Lib.hid (Q12.out.owns_set OW8.out (by decide))
  have O11 : Hid ((W12.setCell ⟨gm, 5, none⟩ (.slice A11 nm c11)).ownsRow _ _ _ _ _ _) := Lib.hid (Q12.out.owns_set OW11.out (by decide))
  have hl12 : s12.ws = [] := by rw [← F11.out]; rfl
  have HL12 := Lib.hid hl12
  clear Q12 OW8 OW11 hl12
  generalize (W12.setCell ⟨gm, 5, none⟩ (.slice A11 nm c11)) = W12 at *
  have hln : s12.ln.length ≤ 1000000 := by
    have q12 : s12.ln = s11.ln := by rw [← F11.out]; rfl
    have q11 : s11.ln = s10.ln := by rw [← F10.out]; rfl
    have q10 := Sc.next_len s9
    have q9 : s9.ln = s8.ln := by rw [← F8.out]; rfl
    have q8 : s8.ln = s7.ln := by rw [← F7.out]; rfl
    have q7 := Sc.next_len s6
    have q6 : s6.ln = s5.ln := by rw [← F5.out]; rfl
    have q5 : s5.ln = s4.ln := by rw [← F4.out]; rfl
    have q4 : s4.ln = s3.ln := by rw [← F3.out]; rfl
    have q3 : s3.ln = s2.ln := by rw [← F2.out]; rfl
    have q2 : s2.ln = s1.ln := by rw [← F1.out]; rfl
    have q1 := Sc.next_len s0
    rw [F0.out] at q1
    rw [F6.out] at q7
    rw [F9.out] at q10
    rw [q12, q11, q10, q9, q8, q7, q6, q5, q4, q3, q2, q1]
    omega
  go_loopg [] (s12.ln.length) (fun nn wr => ∃ (ln : List Wd) (rs : List Rt) (lv : List LmV) (ws : List Wd) (wb : Bool) (A6 : Option Addr) (c6 : Nat) (A7 : Option Addr) (c7 : Nat), nn = ln.length ∧ Hid (loopW ln rs (lv.map (·.1)) ws wb = L3 t) ∧ Hid (PS w wr g gm w.heap.size ⟨ws, wb, ln⟩ #[.string X1, .int .i64 n1, .slice A8 nc c8, .string X2, .int .i64 n2, .slice A11 nm c11, .slice A6 rs.length c6, .slice A7 lv.length c7]) ∧ Hid (wr.ownsRow w.heap.size 3 1 (.slice A8 nc c8) nc (intCells cs)) ∧ Hid (wr.ownsRow w.heap.size 3 1 (.slice A11 nm c11) nm (intCells mv)) ∧ Hid (wr.ownsRow w.heap.size 41 2 (.slice A6 rs.length c6) rs.length (rtCells rs)) ∧ Hid (wr.ownsRow w.heap.size 65 5 (.slice A7 lv.length c7) lv.length (lmCells lv)) ∧ Hid (StpOK w wr lv) ∧ rs.length + lv.length + ln.length ≤ 1000000 ∧ Hid (∀ r ∈ rs, r.1.size ≤ 1000000))
  case atStart => exact ⟨s12.ln, [], [], s12.ws, s12.wr, none, 0, none, 0, rfl, Lib.hid HL3.out.symm, QQ, O8, O11, Lib.hid (World.ownsRow_nil _ _ _ _), Lib.hid (World.ownsRow_nil _ _ _ _), Lib.hid (StpOK.nil _ _), by simpa using hln, Lib.hid (fun r h => by simp at h)⟩
  case round =>
    clear QQ O8 O11 hln HL3 HL12 hl0 F0 F1 F2 F3 F4 F5 F6 F7 F8 F9 F10 F11
    obtain ⟨ln, rs, lv, ws, wb, A6, c6, A7, c7, hnn, LW, Q, O8, O11, O6, O7, SO, hlen, RN⟩ := hrel
    cases ln with
    | nil =>
      have hL3 := LW.out.symm
      rw [loop_nil] at hL3
      obtain ⟨fb, hfb⟩ : ∃ b, (wb || !ws.isEmpty) = b := ⟨_, rfl⟩
      rw [hfb] at hL3
      have hc : Calls Tryz.prog 43 #[.pointer (some ⟨g, 0, none⟩)] wr fun e w' => e = .returned (.bool false) ∧ ScAt w' g ⟨ws, fb, []⟩ ∧ Only (fun i => i = g) wr w' := by rw [← hfb]; exact scnext_any wr g ⟨ws, wb, []⟩ Q.out.sc (Q.out.tbs HT.out)
      have hM : looseM t = ⟨X1, n1, cs, X2, n2, mv, rs, lv.map (·.1)⟩ := by rw [HLO.out, hL3]
      have hB : looseB t = fb := by unfold looseB; rw [hL3]
      have HM := Lib.hid hM
      have HBB := Lib.hid hB
      clear hL3 hM hB hfb LW
      have HC := Lib.hid hc
      clear hc
      go_wp2_with fail
      refine HC.out.mono ?_
      rintro e Wa ⟨rfl, hs, ho⟩
      have Qx := Lib.hid (Q.out.step ho hs)
      have O8x := Lib.hid (Q.out.owns ho O8.out (by decide))
      clear O8
      have O8 := O8x
      clear O8x
      have O11x := Lib.hid (Q.out.owns ho O11.out (by decide))
      clear O11
      have O11 := O11x
      clear O11x
      have O6x := Lib.hid (Q.out.owns ho O6.out (by decide))
      clear O6
      have O6 := O6x
      clear O6x
      have O7x := Lib.hid (Q.out.owns ho O7.out (by decide))
      clear O7
      have O7 := O7x
      clear O7x
      have SOx := Lib.hid (SO.out.scan Q.out.sc ho)
      clear SO
      have SO := SOx
      clear SOx
      clear hs ho HC Q
      have Q := Qx
      clear Qx
      obtain ⟨MM, hMM⟩ : ∃ m : Mt, m = ⟨X1, n1, cs, X2, n2, mv, rs, lv.map (·.1)⟩ := ⟨_, rfl⟩
      have hMA : MtAt Wa Wa.heap.size MM ⟨A8, c8, A11, c11, A6, c6, A7, c7, lv⟩ := by
        subst hMM
        exact ⟨IntsAt.of_row V9.out O8.out, IntsAt.of_row V10.out O11.out, RtsAt.of_row rfl O6.out, LmsAt.of_row rfl O7.out SO.out, rfl, by show X1.size ≤ _; omega, by show X2.size ≤ _; omega, fun r hr => by have := RN.out r hr; omega⟩
      have hSm : Sml MM := by
        subst hMM
        refine ⟨?_, ?_, ?_, ?_⟩
        · show cs.length ≤ _; rw [V9.out]; exact hnc
        · show mv.length ≤ _; rw [V10.out]; exact hnm
        · show rs.length ≤ _; simp only [List.length_nil] at hlen; omega
        · show (lv.map _).length ≤ _; rw [List.length_map]; simp only [List.length_nil] at hlen; omega
      have htx := text_any Wa (HT.out.below Q.out.hb) Wa.heap.size MM ⟨A8, c8, A11, c11, A6, c6, A7, c7, lv⟩ hMA (Nat.le_refl _) hSm
      have hcc : mtC MM ⟨A8, c8, A11, c11, A6, c6, A7, c7, lv⟩ = #[.string X1, .int .i64 n1, .slice A8 nc c8, .string X2, .int .i64 n2, .slice A11 nm c11, .slice A6 rs.length c6, .slice A7 lv.length c7] := by subst hMM; simp [mtC, V9.out, V10.out]
      rw [hcc] at htx
      unfold TextPost at htx
      rw [← hMM] at HM
      have HCC := Lib.hid hcc
      have HMX := Lib.hid hMM
      clear hcc hMM hSm hMA
      obtain ⟨k0, k1, k2⟩ := Q.out.km.all
      cases fb with
      | true =>
        obtain ⟨E9, hE9⟩ : ∃ e : Int, (if fmB MM then (0 : Int) else 1) = e := ⟨_, rfl⟩
        obtain ⟨R9, hR9⟩ : ∃ r, bs (if fmB MM then textL MM else []) = r := ⟨_, rfl⟩
        rw [hE9, hR9] at htx
        clear hE9 hR9
        have HTX := Lib.hid htx
        clear htx
        go_wp2_with fail
        refine HTX.out.mono ?_
        rintro e Wb ⟨rfl, bb⟩
        clear k0 k1 k2
        have Qb := Lib.hid (Q.out.keep bb)
        clear bb Q O8 O11 O6 O7 SO
        obtain ⟨rfl, rfl⟩ : E = 5 ∧ Z = Mt.zero := HEZ.out.2 (by unfold parseOk; rw [HBB.out]; rfl)
        have hlv := row_load Qb.out.kr #[.string ⟨#[]⟩, .int .i64 0, .slice none 0 0, .string ⟨#[]⟩, .int .i64 0, .slice none 0 0, .slice none 0 0, .slice none 0 0] rfl
        have HLV := Lib.hid hlv
        have KR := Lib.hid Qb.out.kr
        have hfin := mt_err (w := w) (E := 5) (below_row Qb.out.hb Qb.out.hr #[.string ⟨#[]⟩, .int .i64 0, .slice none 0 0, .string ⟨#[]⟩, .int .i64 0, .slice none 0 0, .slice none 0 0, .slice none 0 0])
        have HFIN := Lib.hid hfin
        clear hlv hfin
        obtain ⟨f1, f2⟩ := Qb.out.sc.mark_cell
        simp only at f1
        go_wp2_with (refine wp_row rfl (.tmp 2) (.tmp 129) rfl w.heap.size #[.string ⟨#[]⟩, .int .i64 0, .slice none 0 0, .string ⟨#[]⟩, .int .i64 0, .slice none 0 0, .slice none 0 0, .slice none 0 0] rfl rfl rfl one8 rfl KR.out ?_)
        exact bodyPost_ret (v := .tuple #[.agg #[.string ⟨#[]⟩, .int .i64 0, .slice none 0 0, .string ⟨#[]⟩, .int .i64 0, .slice none 0 0, .slice none 0 0, .slice none 0 0], .int .i64 5]) (by simp [results, Tryz.results13, asAddr, HLV.out]) rfl HFIN.out
      | false =>
        cases hf : fmB MM with
        | false =>
          rw [hf] at htx
          simp only [Bool.false_eq_true, if_false] at htx
          have HF := Lib.hid hf
          clear hf
          have HTX := Lib.hid htx
          clear htx
          go_wp2_with fail
          refine HTX.out.mono ?_
          rintro e Wb ⟨rfl, bb⟩
          clear k0 k1 k2
          have Qb := Lib.hid (Q.out.keep bb)
          clear bb Q O8 O11 O6 O7 SO
          obtain ⟨rfl, rfl⟩ : E = 5 ∧ Z = Mt.zero := HEZ.out.2 (by unfold parseOk; rw [HM.out, HF.out, Bool.false_and, Bool.and_false])
          have hlv := row_load Qb.out.kr #[.string ⟨#[]⟩, .int .i64 0, .slice none 0 0, .string ⟨#[]⟩, .int .i64 0, .slice none 0 0, .slice none 0 0, .slice none 0 0] rfl
          have HLV := Lib.hid hlv
          have KR := Lib.hid Qb.out.kr
          have hfin := mt_err (w := w) (E := 5) (below_row Qb.out.hb Qb.out.hr #[.string ⟨#[]⟩, .int .i64 0, .slice none 0 0, .string ⟨#[]⟩, .int .i64 0, .slice none 0 0, .slice none 0 0, .slice none 0 0])
          have HFIN := Lib.hid hfin
          clear hlv hfin
          obtain ⟨f1, f2⟩ := Qb.out.sc.mark_cell
          simp only at f1
          go_wp2_with (refine wp_row rfl (.tmp 2) (.tmp 129) rfl w.heap.size #[.string ⟨#[]⟩, .int .i64 0, .slice none 0 0, .string ⟨#[]⟩, .int .i64 0, .slice none 0 0, .slice none 0 0, .slice none 0 0] rfl rfl rfl one8 rfl KR.out ?_)
          exact bodyPost_ret (v := .tuple #[.agg #[.string ⟨#[]⟩, .int .i64 0, .slice none 0 0, .string ⟨#[]⟩, .int .i64 0, .slice none 0 0, .slice none 0 0, .slice none 0 0], .int .i64 5]) (by simp [results, Tryz.results13, asAddr, HLV.out]) rfl HFIN.out
        | true =>
          rw [hf] at htx
          simp only [if_true] at htx
          have HF := Lib.hid hf
          clear hf
          obtain ⟨R9, hR9⟩ : ∃ r, bs (textL MM) = r := ⟨_, rfl⟩
          rw [hR9] at htx
          by_cases he : textL MM = t
          · have heq : (R9.toList == T.toList) = true := by rw [← hR9, ← HT1.out]; exact eq_bs he
            have HEQ := Lib.hid he
            clear he hR9
            have HTX := Lib.hid htx
            clear htx
            go_wp2_with fail
            refine HTX.out.mono ?_
            rintro e Wb ⟨rfl, bb⟩
            clear k0 k1 k2
            have Qb := Lib.hid (Q.out.keep bb)
            have bo : Only (fun i => i = g) Wa Wb := Only.of_below bb _
            have O8b := Lib.hid (Q.out.owns bo O8.out (by decide))
            have O11b := Lib.hid (Q.out.owns bo O11.out (by decide))
            have O6b := Lib.hid (Q.out.owns bo O6.out (by decide))
            have O7b := Lib.hid (Q.out.owns bo O7.out (by decide))
            have SOb := Lib.hid (SO.out.below bb)
            clear bb bo Q O8 O11 O6 O7 SO
            obtain ⟨rfl, rfl⟩ : E = 0 ∧ Z = looseM t := HEZ.out.1 (by unfold parseOk; rw [HBB.out, HM.out, HF.out, decide_eq_true HEQ.out]; rfl)
            have hz : looseM t = MM := HM.out
            obtain ⟨k0, k1, k2⟩ := Qb.out.km.all
            have hlv := row_load Qb.out.kr #[.string X1, .int .i64 n1, .slice A8 nc c8, .string X2, .int .i64 n2, .slice A11 nm c11, .slice A6 rs.length c6, .slice A7 lv.length c7] rfl
            have HLV := Lib.hid hlv
            have KR := Lib.hid Qb.out.kr
            have bo := only_setRow Wb w.heap.size #[.string X1, .int .i64 n1, .slice A8 nc c8, .string X2, .int .i64 n2, .slice A11 nm c11, .slice A6 rs.length c6, .slice A7 lv.length c7]
            have kr := Qb.out.kr
            have hmm : MtAt (Wb.setRow w.heap.size #[.string X1, .int .i64 n1, .slice A8 nc c8, .string X2, .int .i64 n2, .slice A11 nm c11, .slice A6 rs.length c6, .slice A7 lv.length c7]) (Wb.setRow w.heap.size #[.string X1, .int .i64 n1, .slice A8 nc c8, .string X2, .int .i64 n2, .slice A11 nm c11, .slice A6 rs.length c6, .slice A7 lv.length c7]).heap.size ⟨X1, n1, cs, X2, n2, mv, rs, lv.map (·.1)⟩ ⟨A8, c8, A11, c11, A6, c6, A7, c7, lv⟩ :=
              ⟨IntsAt.of_row V9.out (bo.owns O8b.out (fun b hv e => own_blk_ne O8b.out kr (by decide) (by rw [hv, e]))), IntsAt.of_row V10.out (bo.owns O11b.out (fun b hv e => own_blk_ne O11b.out kr (by decide) (by rw [hv, e]))), RtsAt.of_row rfl (bo.owns O6b.out (fun b hv e => own_blk_ne O6b.out kr (by decide) (by rw [hv, e]))),
                LmsAt.of_row rfl (bo.owns O7b.out (fun b hv e => own_blk_ne O7b.out kr (by decide) (by rw [hv, e]))) (SOb.out.only kr (by decide) bo), rfl, by show X1.size ≤ _; omega, by show X2.size ≤ _; omega, fun r hr => by have := RN.out r hr; omega⟩
            have hmx : MM = ⟨X1, n1, cs, X2, n2, mv, rs, lv.map (·.1)⟩ := HMX.out
            have hfin : MtPost w 0 (looseM t) (.returned (.tuple #[.agg #[.string X1, .int .i64 n1, .slice A8 nc c8, .string X2, .int .i64 n2, .slice A11 nm c11, .slice A6 rs.length c6, .slice A7 lv.length c7], .int .i64 0])) (Wb.setRow w.heap.size #[.string X1, .int .i64 n1, .slice A8 nc c8, .string X2, .int .i64 n2, .slice A11 nm c11, .slice A6 rs.length c6, .slice A7 lv.length c7]) := ⟨⟨A8, c8, A11, c11, A6, c6, A7, c7, lv⟩, by rw [hz, HCC.out], by rw [hz, hmx]; exact hmm, below_row Qb.out.hb Qb.out.hr _⟩
            have HFIN := Lib.hid hfin
            clear hlv hfin hmm hmx hz bo kr
            obtain ⟨f1, f2⟩ := Qb.out.sc.mark_cell
            simp only at f1
            go_wp2_with (refine wp_row rfl (.tmp 2) (.tmp 130) rfl w.heap.size #[.string X1, .int .i64 n1, .slice A8 nc c8, .string X2, .int .i64 n2, .slice A11 nm c11, .slice A6 rs.length c6, .slice A7 lv.length c7] rfl rfl rfl one8 rfl KR.out ?_)
            exact bodyPost_ret (v := .tuple #[.agg #[.string X1, .int .i64 n1, .slice A8 nc c8, .string X2, .int .i64 n2, .slice A11 nm c11, .slice A6 rs.length c6, .slice A7 lv.length c7], .int .i64 0]) (by simp [results, Tryz.results13, asAddr, HLV.out]) rfl HFIN.out
          · have heq : (R9.toList == T.toList) = false := by rw [← hR9, ← HT1.out]; exact beq_bs he
            have HEQ := Lib.hid he
            clear he hR9
            have HTX := Lib.hid htx
            clear htx
            go_wp2_with fail
            refine HTX.out.mono ?_
            rintro e Wb ⟨rfl, bb⟩
            clear k0 k1 k2
            have Qb := Lib.hid (Q.out.keep bb)
            clear bb Q O8 O11 O6 O7 SO
            obtain ⟨rfl, rfl⟩ : E = 5 ∧ Z = Mt.zero := HEZ.out.2 (by unfold parseOk; rw [HM.out, decide_eq_false HEQ.out, Bool.and_false, Bool.and_false])
            have hlv := row_load Qb.out.kr #[.string ⟨#[]⟩, .int .i64 0, .slice none 0 0, .string ⟨#[]⟩, .int .i64 0, .slice none 0 0, .slice none 0 0, .slice none 0 0] rfl
            have HLV := Lib.hid hlv
            have KR := Lib.hid Qb.out.kr
            have hfin := mt_err (w := w) (E := 5) (below_row Qb.out.hb Qb.out.hr #[.string ⟨#[]⟩, .int .i64 0, .slice none 0 0, .string ⟨#[]⟩, .int .i64 0, .slice none 0 0, .slice none 0 0, .slice none 0 0])
            have HFIN := Lib.hid hfin
            clear hlv hfin
            obtain ⟨f1, f2⟩ := Qb.out.sc.mark_cell
            simp only at f1
            go_wp2_with (refine wp_row rfl (.tmp 2) (.tmp 129) rfl w.heap.size #[.string ⟨#[]⟩, .int .i64 0, .slice none 0 0, .string ⟨#[]⟩, .int .i64 0, .slice none 0 0, .slice none 0 0, .slice none 0 0] rfl rfl rfl one8 rfl KR.out ?_)
            exact bodyPost_ret (v := .tuple #[.agg #[.string ⟨#[]⟩, .int .i64 0, .slice none 0 0, .string ⟨#[]⟩, .int .i64 0, .slice none 0 0, .slice none 0 0, .slice none 0 0], .int .i64 5]) (by simp [results, Tryz.results13, asAddr, HLV.out]) rfl HFIN.out
    | cons l tl =>
      obtain ⟨sA, hA⟩ : ∃ s, (⟨cutL 32 l, wb || !ws.isEmpty, tl⟩ : Sc) = s := ⟨_, rfl⟩
      have hc : Calls Tryz.prog 43 #[.pointer (some ⟨g, 0, none⟩)] wr fun e w' => e = .returned (.bool true) ∧ ScAt w' g sA ∧ Only (fun i => i = g) wr w' := by rw [← hA]; exact scnext_any wr g ⟨ws, wb, l :: tl⟩ Q.out.sc (Q.out.tbs HT.out)
      have hAl : sA.ln = tl := by rw [← hA]
      have HA := Lib.hid hA
      have HAL := Lib.hid hAl
      rw [List.length_cons] at hlen hnn
      clear hA hAl
      have HC := Lib.hid hc
      clear hc
      go_wp2_with fail
      refine HC.out.mono ?_
      rintro e Wa ⟨rfl, hs, ho⟩
      have Qx := Lib.hid (Q.out.step ho hs)
      have O8x := Lib.hid (Q.out.owns ho O8.out (by decide))
      clear O8
      have O8 := O8x
      clear O8x
      have O11x := Lib.hid (Q.out.owns ho O11.out (by decide))
      clear O11
      have O11 := O11x
      clear O11x
      have O6x := Lib.hid (Q.out.owns ho O6.out (by decide))
      clear O6
      have O6 := O6x
      clear O6x
      have O7x := Lib.hid (Q.out.owns ho O7.out (by decide))
      clear O7
      have O7 := O7x
      clear O7x
      have SOx := Lib.hid (SO.out.scan Q.out.sc ho)
      clear SO
      have SO := SOx
      clear SOx
      clear hs ho HC Q
      have Q := Qx
      clear Qx
      have hc := scword_any Wa g sA Q.out.sc
      have hwl := Q.out.sc.len
      obtain ⟨sB, hB⟩ : ∃ s, sA.pop = s := ⟨_, rfl⟩
      obtain ⟨X, hX⟩ : ∃ x, bs sA.word = x := ⟨_, rfl⟩
      rw [hB, hX] at hc
      have HB := Lib.hid hB
      have HX := Lib.hid hX
      clear hB hX hwl
      obtain ⟨XN, hXN⟩ : ∃ x, bs sB.word = x := ⟨_, rfl⟩
      obtain ⟨sC, hC⟩ : ∃ s, sB.pop = s := ⟨_, rfl⟩
      obtain ⟨d1, hd1⟩ : ∃ x, sC.num = x := ⟨_, rfl⟩
      obtain ⟨sD, hD⟩ : ∃ s, sC.popN = s := ⟨_, rfl⟩
      have HXN := Lib.hid hXN
      have HC1 := Lib.hid hC
      have HD1 := Lib.hid hd1
      have HDD := Lib.hid hD
      clear hXN hC hd1 hD
      have HC := Lib.hid hc
      clear hc
      go_wp2_with fail
      refine HC.out.mono ?_
      rintro e Wb ⟨rfl, hs, ho⟩
      have Qx := Lib.hid (Q.out.step ho hs)
      have O8x := Lib.hid (Q.out.owns ho O8.out (by decide))
      clear O8
      have O8 := O8x
      clear O8x
      have O11x := Lib.hid (Q.out.owns ho O11.out (by decide))
      clear O11
      have O11 := O11x
      clear O11x
      have O6x := Lib.hid (Q.out.owns ho O6.out (by decide))
      clear O6
      have O6 := O6x
      clear O6x
      have O7x := Lib.hid (Q.out.owns ho O7.out (by decide))
      clear O7
      have O7 := O7x
      clear O7x
      have SOx := Lib.hid (SO.out.scan Q.out.sc ho)
      clear SO
      have SO := SOx
      clear SOx
      clear hs ho HC Q
      have Q := Qx
      clear Qx
      have hxn : XN.size ≤ 1000000 := by rw [← HXN.out, bs_size]; exact Q.out.sc.len
      by_cases hw : sA.word = rightW
      · have hxe : (⟨#[114, 105, 103, 104, 116]⟩ : ByteArray) = X := by rw [← HX.out, hw]; rfl
        subst hxe
        have hlw := loop_right (rs := rs) (ls := lv.map (·.1)) (ws := ws) HA.out hw
        rw [HB.out, HC1.out, HDD.out, HXN.out, HD1.out, LW.out] at hlw
        have hdl : sD.ln = tl := by rw [← HDD.out, ← HC1.out, ← HB.out]; exact HAL.out
        have LW2 := Lib.hid hlw.symm
        have HDL := Lib.hid hdl
        clear hw LW hlw hdl
        go_upto_region 17 with fail
        refine wp_region_hold (fun V => Blk V gm 27 #[.string X1, .int .i64 n1, .slice A8 nc c8, .string X2, .int .i64 n2, .slice A11 nm c11, .slice A6 rs.length c6, .slice A7 lv.length c7]) [0, 1, 2, 4] [3, 5, 6, 7, 8] [9, 10] (by kernel_rfl) (by kernel_rfl) (fun _ d _ _ _ h => by cases d <;> exact h) Q.out.km.drew ?_
        simp only [pick, List.drop_succ_cons, List.drop_zero, List.head?_cons, Option.toList_some, List.cons_append, List.nil_append, List.append_nil]
        repeat (refine wpHeld_step ?_ rfl ?_ ?_; rotate_left; · (intro V hV; obtain ⟨v0, v1, v2⟩ := hV.all; go_simp; with_reducible rfl))
        refine wpHeld_nil ?_
        simp only [wpEarly]
        have ho : Only (fun i => i = g) _ Wb.drew := Only.of_below (below_drew0 Wb) _
        have Qx := Lib.hid (Q.out.keep (below_drew0 Wb))
        have O8x := Lib.hid (Q.out.owns ho O8.out (by decide))
        clear O8
        have O8 := O8x
        clear O8x
        have O11x := Lib.hid (Q.out.owns ho O11.out (by decide))
        clear O11
        have O11 := O11x
        clear O11x
        have O6x := Lib.hid (Q.out.owns ho O6.out (by decide))
        clear O6
        have O6 := O6x
        clear O6x
        have O7x := Lib.hid (Q.out.owns ho O7.out (by decide))
        clear O7
        have O7 := O7x
        clear O7x
        have SOx := Lib.hid (SO.out.scan Q.out.sc ho)
        clear SO
        have SO := SOx
        clear SOx
        clear ho Q
        have Q := Qx
        clear Qx
        generalize Wb.drew = Wc at *
        have hc := scword_any Wc g sB Q.out.sc
        rw [HC1.out, HXN.out] at hc
        have HC := Lib.hid hc
        clear hc
        go_wp2_with fail
        refine HC.out.mono ?_
        rintro e Wd ⟨rfl, hs, ho⟩
        have Qx := Lib.hid (Q.out.step ho hs)
        have O8x := Lib.hid (Q.out.owns ho O8.out (by decide))
        clear O8
        have O8 := O8x
        clear O8x
        have O11x := Lib.hid (Q.out.owns ho O11.out (by decide))
        clear O11
        have O11 := O11x
        clear O11x
        have O6x := Lib.hid (Q.out.owns ho O6.out (by decide))
        clear O6
        have O6 := O6x
        clear O6x
        have O7x := Lib.hid (Q.out.owns ho O7.out (by decide))
        clear O7
        have O7 := O7x
        clear O7x
        have SOx := Lib.hid (SO.out.scan Q.out.sc ho)
        clear SO
        have SO := SOx
        clear SOx
        clear hs ho HC Q
        have Q := Qx
        clear Qx
        go_wp2_with fail
        refine ⟨Q.out.km, ?_⟩
        have hc := scnum_any Wd g sC Q.out.sc (Q.out.tbs HT.out)
        rw [HDD.out, HD1.out] at hc
        have HC := Lib.hid hc
        clear hc
        go_wp2_with fail
        refine HC.out.mono ?_
        rintro e We ⟨rfl, hs, ho⟩
        have Qx := Lib.hid (Q.out.step ho hs)
        have O8x := Lib.hid (Q.out.owns ho O8.out (by decide))
        clear O8
        have O8 := O8x
        clear O8x
        have O11x := Lib.hid (Q.out.owns ho O11.out (by decide))
        clear O11
        have O11 := O11x
        clear O11x
        have O6x := Lib.hid (Q.out.owns ho O6.out (by decide))
        clear O6
        have O6 := O6x
        clear O6x
        have O7x := Lib.hid (Q.out.owns ho O7.out (by decide))
        clear O7
        have O7 := O7x
        clear O7x
        have SOx := Lib.hid (SO.out.scan Q.out.sc ho)
        clear SO
        have SO := SOx
        clear SOx
        clear hs ho HC Q
        have Q := Qx
        clear Qx
        go_wp2_with fail
        refine ⟨Q.out.km, ?_⟩
        go_wp2_with fail
        refine ⟨Q.out.km, ?_⟩
        have kn := Blk.new We 41 #[.string XN, .int .i64 d1]
        have q0 := below_self_alloc We (.cells #[.string XN, .int .i64 d1] 41)
        have hne : We.heap.size = We.heap.size := rfl
        go_wp2_with fail
        have ho : Only (fun i => i = g) _ (We.alloc (.cells #[.string XN, .int .i64 d1] 41)) := Only.of_below q0 _
        have Qx := Lib.hid (Q.out.keep q0)
        have O8x := Lib.hid (Q.out.owns ho O8.out (by decide))
        clear O8
        have O8 := O8x
        clear O8x
        have O11x := Lib.hid (Q.out.owns ho O11.out (by decide))
        clear O11
        have O11 := O11x
        clear O11x
        have O6x := Lib.hid (Q.out.owns ho O6.out (by decide))
        clear O6
        have O6 := O6x
        clear O6x
        have O7x := Lib.hid (Q.out.owns ho O7.out (by decide))
        clear O7
        have O7 := O7x
        clear O7x
        have SOx := Lib.hid (SO.out.scan Q.out.sc ho)
        clear SO
        have SO := SOx
        clear SOx
        clear ho Q
        have Q := Qx
        clear Qx
        refine ⟨Q.out.km, ?_⟩
        have hsz := Q.out.hb.size
        generalize We.heap.size = gw at *
        generalize We.alloc (.cells #[.string XN, .int .i64 d1] 41) = Wf at *
        go_wp2_with (at_builtin; refine wpList_append_lies _ rfl _ _ 24 rfl w.heap.size 41 j0 _ 2 24 Tryz.underlying24 hj0 hy0 hy1 hy2 rfl (by omega) (.slice A6 rs.length c6) rs.length (rtCells rs) rfl O6.out ⟨gw, 0, none⟩ 1 1 [.string XN, .int .i64 d1] rfl rfl (World.news_of_block kn) (rtCells_one [(XN, d1)]) (by omega) (by unfold maxLen; omega) (by omega) (by omega) _ rfl ?_; intro gz cz Y own9 gr9 l9 z9; have Q9 := Lib.hid (Q.out.grown O6.out (Nat.le_refl _) (by decide) gr9); obtain ⟨k0, k1, k2⟩ := Q9.out.km.all)
        refine ⟨Q9.out.km, ?_⟩
        have P8 := Lib.hid (Q9.out.owns_set (i := 6) (u := .slice (some ⟨gz, 0, none⟩) (rs.length + 1) cz) (owns_grown O8.out O6.out (by decide) gr9) (by decide))
        have P11 := Lib.hid (Q9.out.owns_set (i := 6) (u := .slice (some ⟨gz, 0, none⟩) (rs.length + 1) cz) (owns_grown O11.out O6.out (by decide) gr9) (by decide))
        have P6 := Lib.hid (Q9.out.owns_set (i := 6) (u := .slice (some ⟨gz, 0, none⟩) (rs.length + 1) cz) own9 (by decide))
        have P7 := Lib.hid (Q9.out.owns_set (i := 6) (u := .slice (some ⟨gz, 0, none⟩) (rs.length + 1) cz) (owns_grown O7.out O6.out (by decide) gr9) (by decide))
        have PO := Lib.hid ((SO.out.grown O6.out (by decide) gr9).only Q9.out.km (by decide) ((Only.refl (fun i => i = gm) Y).setCell (p := ⟨gm, 6, none⟩) (.inl rfl) (.slice (some ⟨gz, 0, none⟩) (rs.length + 1) cz)))
        have QS := Lib.hid ((Q9.out.store 6 (.slice (some ⟨gz, 0, none⟩) (rs.length + 1) cz)).cast (C' := #[.string X1, .int .i64 n1, .slice A8 nc c8, .string X2, .int .i64 n2, .slice A11 nm c11, .slice (some ⟨gz, 0, none⟩) (rs.length + 1) cz, .slice A7 lv.length c7]) (by rfl))
        clear Q O8 O11 O6 O7 SO own9 gr9 l9 z9 kn q0 Q9 hne
        go_wp2
        go_roundg tl.length
        case rel =>
          refine ⟨tl, rs ++ [(XN, d1)], lv, sD.ws, sD.wr, some ⟨gz, 0, none⟩, cz, A7, c7, rfl, LW2, ?_, P8, P11, ?_, P7, PO, ?_, ?_⟩
          · have e : (⟨sD.ws, sD.wr, tl⟩ : Sc) = sD := by rw [← HDL.out]
            rw [e, List.length_append]
            exact QS
          · rw [List.length_append, rtCells_app]
            exact P6
          · rw [List.length_append]; simp only [List.length_cons, List.length_nil]; omega
          · exact Lib.hid fun r hr => by
              rcases List.mem_append.1 hr with h | h
              · exact RN.out r h
              · rw [List.mem_singleton] at h; subst h; exact hxn
        case measure => omega
      · have heq1 : (X.toList == (⟨#[114, 105, 103, 104, 116]⟩ : ByteArray).toList) = false := by rw [← HX.out]; exact beq_bs (b := rightW) hw
        have heq2 : (X.toList == [114, 105, 103, 104, 116]) = false := by have h := heq1; rw [show (⟨#[114, 105, 103, 104, 116]⟩ : ByteArray).toList = [114, 105, 103, 104, 116] from Lib.toList_data _] at h; exact h
        obtain ⟨d2, hd2⟩ : ∃ x, sD.num = x := ⟨_, rfl⟩
        obtain ⟨sE, hE⟩ : ∃ s, sD.popN = s := ⟨_, rfl⟩
        obtain ⟨d3, hd3⟩ : ∃ x, sE.num = x := ⟨_, rfl⟩
        obtain ⟨sF, hF⟩ : ∃ s, sE.popN = s := ⟨_, rfl⟩
        have hlw := loop_limit (rs := rs) (ls := lv.map (·.1)) (ws := ws) HA.out hw
        rw [HB.out, HC1.out, HDD.out, HXN.out, HD1.out, hE, hd2, hd3, hF, LW.out] at hlw
        have hfl : sF.ln = tl := by rw [← hF, ← hE, ← HDD.out, ← HC1.out, ← HB.out]; exact HAL.out
        obtain ⟨PP, hPP⟩ : ∃ p, (pairsW sF.ws).1 = p := ⟨_, rfl⟩
        obtain ⟨QF, hQF⟩ : ∃ p, (sF.wr || (pairsW sF.ws).2) = p := ⟨_, rfl⟩
        rw [hPP, hQF] at hlw
        have LW2 := Lib.hid hlw.symm
        have HFL := Lib.hid hfl
        have HD2 := Lib.hid hd2
        have HE1 := Lib.hid hE
        have HD3 := Lib.hid hd3
        have HF1 := Lib.hid hF
        have HPP := Lib.hid hPP
        have HQF := Lib.hid hQF
        clear hw LW hlw hfl hd2 hE hd3 hF hPP hQF
        have hc := scword_any Wb g sB Q.out.sc
        rw [HC1.out, HXN.out] at hc
        have HC := Lib.hid hc
        clear hc
        go_wp2_with fail
        refine HC.out.mono ?_
        rintro e Wc ⟨rfl, hs, ho⟩
        have Qx := Lib.hid (Q.out.step ho hs)
        have O8x := Lib.hid (Q.out.owns ho O8.out (by decide))
        clear O8
        have O8 := O8x
        clear O8x
        have O11x := Lib.hid (Q.out.owns ho O11.out (by decide))
        clear O11
        have O11 := O11x
        clear O11x
        have O6x := Lib.hid (Q.out.owns ho O6.out (by decide))
        clear O6
        have O6 := O6x
        clear O6x
        have O7x := Lib.hid (Q.out.owns ho O7.out (by decide))
        clear O7
        have O7 := O7x
        clear O7x
        have SOx := Lib.hid (SO.out.scan Q.out.sc ho)
        clear SO
        have SO := SOx
        clear SOx
        clear hs ho HC Q
        have Q := Qx
        clear Qx
        clear heq1 heq2
        have hc := scnum_any Wc g sC Q.out.sc (Q.out.tbs HT.out)
        rw [HDD.out, HD1.out] at hc
        have HC := Lib.hid hc
        clear hc
        go_wp2_with fail
        refine HC.out.mono ?_
        rintro e Wd ⟨rfl, hs, ho⟩
        have Qx := Lib.hid (Q.out.step ho hs)
        have O8x := Lib.hid (Q.out.owns ho O8.out (by decide))
        clear O8
        have O8 := O8x
        clear O8x
        have O11x := Lib.hid (Q.out.owns ho O11.out (by decide))
        clear O11
        have O11 := O11x
        clear O11x
        have O6x := Lib.hid (Q.out.owns ho O6.out (by decide))
        clear O6
        have O6 := O6x
        clear O6x
        have O7x := Lib.hid (Q.out.owns ho O7.out (by decide))
        clear O7
        have O7 := O7x
        clear O7x
        have SOx := Lib.hid (SO.out.scan Q.out.sc ho)
        clear SO
        have SO := SOx
        clear SOx
        clear hs ho HC Q
        have Q := Qx
        clear Qx
        have hc := scnum_any Wd g sD Q.out.sc (Q.out.tbs HT.out)
        rw [HE1.out, HD2.out] at hc
        have HC := Lib.hid hc
        clear hc
        go_wp2_with fail
        refine HC.out.mono ?_
        rintro e We ⟨rfl, hs, ho⟩
        have Qx := Lib.hid (Q.out.step ho hs)
        have O8x := Lib.hid (Q.out.owns ho O8.out (by decide))
        clear O8
        have O8 := O8x
        clear O8x
        have O11x := Lib.hid (Q.out.owns ho O11.out (by decide))
        clear O11
        have O11 := O11x
        clear O11x
        have O6x := Lib.hid (Q.out.owns ho O6.out (by decide))
        clear O6
        have O6 := O6x
        clear O6x
        have O7x := Lib.hid (Q.out.owns ho O7.out (by decide))
        clear O7
        have O7 := O7x
        clear O7x
        have SOx := Lib.hid (SO.out.scan Q.out.sc ho)
        clear SO
        have SO := SOx
        clear SOx
        clear hs ho HC Q
        have Q := Qx
        clear Qx
        have hc := scnum_any We g sE Q.out.sc (Q.out.tbs HT.out)
        rw [HF1.out, HD3.out] at hc
        have HC := Lib.hid hc
        clear hc
        go_wp2_with fail
        refine HC.out.mono ?_
        rintro e Wf ⟨rfl, hs, ho⟩
        have Qx := Lib.hid (Q.out.step ho hs)
        have O8x := Lib.hid (Q.out.owns ho O8.out (by decide))
        clear O8
        have O8 := O8x
        clear O8x
        have O11x := Lib.hid (Q.out.owns ho O11.out (by decide))
        clear O11
        have O11 := O11x
        clear O11x
        have O6x := Lib.hid (Q.out.owns ho O6.out (by decide))
        clear O6
        have O6 := O6x
        clear O6x
        have O7x := Lib.hid (Q.out.owns ho O7.out (by decide))
        clear O7
        have O7 := O7x
        clear O7x
        have SOx := Lib.hid (SO.out.scan Q.out.sc ho)
        clear SO
        have SO := SOx
        clear SOx
        clear hs ho HC Q
        have Q := Qx
        clear Qx
        have kb := Blk.new Wf 65 #[.string XN, .int .i64 d1, .int .i64 d2, .int .i64 d3, .slice none 0 0]
        have q0 := below_self_alloc Wf (.cells #[.string XN, .int .i64 d1, .int .i64 d2, .int .i64 d3, .slice none 0 0] 65)
        have h7 : ∀ b, (Value.slice A7 lv.length c7).ownBlock = some b → b ≠ Wf.heap.size := fun b hb => by have := (O7.out.lt b hb).2; omega
        have hgx := Q.out.hb.size
        go_wp2_with fail
        have ho : Only (fun i => i = g) _ (Wf.alloc (.cells #[.string XN, .int .i64 d1, .int .i64 d2, .int .i64 d3, .slice none 0 0] 65)) := Only.of_below q0 _
        have Qx := Lib.hid (Q.out.keep q0)
        have O8x := Lib.hid (Q.out.owns ho O8.out (by decide))
        clear O8
        have O8 := O8x
        clear O8x
        have O11x := Lib.hid (Q.out.owns ho O11.out (by decide))
        clear O11
        have O11 := O11x
        clear O11x
        have O6x := Lib.hid (Q.out.owns ho O6.out (by decide))
        clear O6
        have O6 := O6x
        clear O6x
        have O7x := Lib.hid (Q.out.owns ho O7.out (by decide))
        clear O7
        have O7 := O7x
        clear O7x
        have SOx := Lib.hid (SO.out.scan Q.out.sc ho)
        clear SO
        have SO := SOx
        clear SOx
        clear ho Q
        have Q := Qx
        clear Qx
        have H7 := Lib.hid h7
        have KB := Lib.hid kb
        have hws := Q.out.sc.ws_len
        clear h7 kb q0
        generalize Wf.heap.size = gx at *
        generalize Wf.alloc (.cells #[.string XN, .int .i64 d1, .int .i64 d2, .int .i64 d3, .slice none 0 0] 65) = Wg at *
        obtain ⟨zb, hzb⟩ : ∃ z, Wg.heap.size = z := ⟨_, rfl⟩
        have hzw := Q.out.hb.size
        have hltz := SO.out.lt
        rw [hzb] at hzw hltz
        have HZB := Lib.hid hzb
        have LTZ := Lib.hid hltz
        clear hzb hltz
        go_loopg [] (sF.ws.length) (fun nn wr => ∃ (st : Sc) (S : List Stp2) (A : Option Addr) (c : Nat), nn = st.ws.length ∧ Hid (st.ln = tl) ∧ Hid (S ++ (pairsW st.ws).1 = PP) ∧ Hid ((st.wr || (pairsW st.ws).2) = QF) ∧ Hid (PS w wr g gm w.heap.size st #[.string X1, .int .i64 n1, .slice A8 nc c8, .string X2, .int .i64 n2, .slice A11 nm c11, .slice A6 rs.length c6, .slice A7 lv.length c7]) ∧ Hid (wr.ownsRow w.heap.size 3 1 (.slice A8 nc c8) nc (intCells cs)) ∧ Hid (wr.ownsRow w.heap.size 3 1 (.slice A11 nm c11) nm (intCells mv)) ∧ Hid (wr.ownsRow w.heap.size 41 2 (.slice A6 rs.length c6) rs.length (rtCells rs)) ∧ Hid (wr.ownsRow w.heap.size 65 5 (.slice A7 lv.length c7) lv.length (lmCells lv)) ∧ Hid (StpOK w wr lv) ∧ Hid (Blk wr gx 65 #[.string XN, .int .i64 d1, .int .i64 d2, .int .i64 d3, .slice A S.length c]) ∧ Hid (wr.ownsRow zb 77 2 (.slice A S.length c) S.length (stopCells S)) ∧ S.length + st.ws.length ≤ 1000001 ∧ zb ≤ wr.heap.size)
        case atStart => exact ⟨sF, [], none, 0, rfl, HFL, Lib.hid (by rw [HPP.out]; rfl), HQF, Q, O8, O11, O6, O7, SO, KB, Lib.hid (World.ownsRow_nil _ _ _ _), by simpa using hws, Nat.le_of_eq HZB.out.symm⟩
        case round =>
          clear Q O8 O11 O6 O7 SO KB hws HZB HFL
          obtain ⟨st, S, A, c, hnn2, SL, SP, SQ, Q, O8, O11, O6, O7, SO, KB, OS, hsl, hzr⟩ := hrel
          have hscc := Q.out.sc
          obtain ⟨B1, e1, B2, e2, hbs, hrest⟩ := hscc
          obtain ⟨f0, f1, f2⟩ := hbs.all
          clear hrest hbs
          by_cases hne : st.ws = []
          · have hpe : S = PP := by have := SP.out; rw [hne] at this; simpa [pairsW] using this
            have hqe : st.wr = QF := by have := SQ.out; rw [hne] at this; simpa [pairsW] using this
            have hst : (⟨[], QF, tl⟩ : Sc) = st := by rw [← hqe, ← SL.out, ← hne]
            have hwl : st.ws.length = 0 := by rw [hne]; rfl
            rw [hwl] at f0
            have HST := Lib.hid hst
            have HPE := Lib.hid hpe
            have HNE := Lib.hid hne
            clear hpe hqe hst hwl hne
            obtain ⟨k0, k1, k2⟩ := Q.out.km.all
            obtain ⟨x0, x1, x2⟩ := KB.out.all
            have kn := Blk.new wr 65 #[.string XN, .int .i64 d1, .int .i64 d2, .int .i64 d3, .slice A S.length c]
            have q0 := below_self_alloc wr (.cells #[.string XN, .int .i64 d1, .int .i64 d2, .int .i64 d3, .slice A S.length c] 65)
            have hsz := Q.out.hb.size
            have hs1 : (wr.alloc (.cells #[.string XN, .int .i64 d1, .int .i64 d2, .int .i64 d3, .slice A S.length c] 65)).heap.size = wr.heap.size + 1 := by simp
            have O7a := Lib.hid (O7.out.alloc (.cells #[.string XN, .int .i64 d1, .int .i64 d2, .int .i64 d3, .slice A S.length c] 65))
            go_wp2_with (at_builtin; refine wpList_append_lies _ rfl _ _ 25 rfl w.heap.size 65 l0 _ 5 64 Tryz.underlying25 hl0' hx0' hx1' hx2' rfl (by omega) (.slice A7 lv.length c7) lv.length (lmCells lv) rfl O7a.out ⟨wr.heap.size, 0, none⟩ 1 1 (encL (⟨XN, d1, d2, d3, S⟩, A, c)) rfl rfl (World.news_of_block kn) (encL_one _) (by omega) (by unfold maxLen; omega) (by omega) (by omega) _ rfl ?_; intro gz cz Y own9 gr9 l9 z9; have Q9 := Lib.hid ((Q.out.keep q0).grown O7a.out (Nat.le_refl _) (by decide) gr9); obtain ⟨k0, k1, k2⟩ := Q9.out.km.all)
            have ho : Only (fun i => i = g) _ (wr.alloc (.cells #[.string XN, .int .i64 d1, .int .i64 d2, .int .i64 d3, .slice A S.length c] 65)) := Only.of_below q0 _
            have P8 := Lib.hid (Q9.out.owns_set (i := 7) (u := .slice (some ⟨gz, 0, none⟩) (lv.length + 1) cz) (owns_grown (Q.out.owns ho O8.out (by decide)) O7a.out (by decide) gr9) (by decide))
            have P11 := Lib.hid (Q9.out.owns_set (i := 7) (u := .slice (some ⟨gz, 0, none⟩) (lv.length + 1) cz) (owns_grown (Q.out.owns ho O11.out (by decide)) O7a.out (by decide) gr9) (by decide))
            have P6 := Lib.hid (Q9.out.owns_set (i := 7) (u := .slice (some ⟨gz, 0, none⟩) (lv.length + 1) cz) (owns_grown (Q.out.owns ho O6.out (by decide)) O7a.out (by decide) gr9) (by decide))
            have P7 := Lib.hid (Q9.out.owns_set (i := 7) (u := .slice (some ⟨gz, 0, none⟩) (lv.length + 1) cz) own9 (by decide))
            have PS5 := Lib.hid (Q9.out.owns_set (i := 7) (u := .slice (some ⟨gz, 0, none⟩) (lv.length + 1) cz) (owns_grown (Q.out.owns ho OS.out (by decide)) O7a.out (by decide) gr9) (by decide))
            have PO := Lib.hid (((SO.out.below q0).grown O7a.out (by decide) gr9).only Q9.out.km (by decide) (only_set2 (i := 7) (v := .slice (some ⟨gz, 0, none⟩) (lv.length + 1) cz)))
            have QS := Lib.hid ((Q9.out.store 7 (.slice (some ⟨gz, 0, none⟩) (lv.length + 1) cz)).cast (C' := #[.string X1, .int .i64 n1, .slice A8 nc c8, .string X2, .int .i64 n2, .slice A11 nm c11, .slice A6 rs.length c6, .slice (some ⟨gz, 0, none⟩) (lv.length + 1) cz]) (by rfl))
            clear Q O8 O11 O6 O7 SO own9 gr9 l9 z9 kn q0 Q9 ho O7a x0 x1 x2 KB OS
            go_wp2
            go_roundg tl.length
            case rel =>
              refine ⟨tl, rs, lv ++ [(⟨XN, d1, d2, d3, S⟩, A, c)], [], QF, A6, c6, some ⟨gz, 0, none⟩, cz, rfl, ?_, ?_, P8, P11, P6, ?_, ?_, ?_, RN⟩
              · rw [List.map_append, List.map_cons, List.map_nil, HPE.out]
                exact LW2
              · rw [HST.out, List.length_append]
                exact QS
              · rw [List.length_append, lmCells_app]
                exact P7
              · exact Lib.hid fun x hx => by
                  rcases List.mem_append.1 hx with h | h
                  · exact PO.out x h
                  · rw [List.mem_singleton] at h
                    subst h
                    exact ⟨owns_low PS5.out hzw, hxn, by show S.length ≤ _; omega⟩
              · rw [List.length_append]; simp only [List.length_cons, List.length_nil]; omega
            case measure => omega
          · obtain ⟨h1, h2, h3, h4⟩ := pairs_step hne
            have hwl : 0 < st.ws.length := List.length_pos_iff.2 hne
            obtain ⟨nw, hnw⟩ : ∃ k, st.ws.length = k + 1 := ⟨st.ws.length - 1, by omega⟩
            rw [hnw] at f0
            obtain ⟨p, hp⟩ : ∃ x, st.num = x := ⟨_, rfl⟩
            obtain ⟨s1, hs1⟩ : ∃ s, st.popN = s := ⟨_, rfl⟩
            rw [hs1] at h1 h2 h3 h4
            obtain ⟨q, hq⟩ : ∃ x, s1.num = x := ⟨_, rfl⟩
            obtain ⟨s2, hs2⟩ : ∃ s, s1.popN = s := ⟨_, rfl⟩
            rw [hs2] at h1 h2 h3 h4
            rw [hp, hq] at h1
            have hsp := SP.out
            have hsq := SQ.out
            rw [h1, List.append_cons] at hsp
            rw [h2] at hsq
            have SP2 := Lib.hid hsp
            have SQ2 := Lib.hid hsq
            have SL2 := Lib.hid (h4.trans SL.out)
            have J1 := Lib.hid hp
            have J2 := Lib.hid hs1
            have J3 := Lib.hid hq
            have J4 := Lib.hid hs2
            have HNW := Lib.hid hnw
            clear hp hs1 hq hs2 h1 h2 h4 hsp hsq SP SQ SL hne hnw
            go_upto_region 20 with fail
            clear f0 f1 f2
            refine wp_region_hold (fun V => Blk V gx 65 #[.string XN, .int .i64 d1, .int .i64 d2, .int .i64 d3, .slice A S.length c]) [0, 1, 2, 4] [3, 5, 6, 7, 8] [9, 10] (by kernel_rfl) (by kernel_rfl) (fun _ d _ _ _ h => by cases d <;> exact h) KB.out.drew ?_
            simp only [pick, List.drop_succ_cons, List.drop_zero, List.head?_cons, Option.toList_some, List.cons_append, List.nil_append, List.append_nil]
            repeat (refine wpHeld_step ?_ rfl ?_ ?_; rotate_left; · (intro V hV; obtain ⟨v0, v1, v2⟩ := hV.all; go_simp; with_reducible rfl))
            refine wpHeld_nil ?_
            simp only [wpEarly]
            have ho : Only (fun i => i = g) _ wr.drew := Only.of_below (below_drew0 wr) _
            have Qx := Lib.hid (Q.out.keep (below_drew0 wr))
            have O8x := Lib.hid (Q.out.owns ho O8.out (by decide))
            clear O8
            have O8 := O8x
            clear O8x
            have O11x := Lib.hid (Q.out.owns ho O11.out (by decide))
            clear O11
            have O11 := O11x
            clear O11x
            have O6x := Lib.hid (Q.out.owns ho O6.out (by decide))
            clear O6
            have O6 := O6x
            clear O6x
            have O7x := Lib.hid (Q.out.owns ho O7.out (by decide))
            clear O7
            have O7 := O7x
            clear O7x
            have OSx := Lib.hid (Q.out.owns ho OS.out (by decide))
            clear OS
            have OS := OSx
            clear OSx
            have SOx := Lib.hid (SO.out.scan Q.out.sc ho)
            clear SO
            have SO := SOx
            clear SOx
            have KBx := Lib.hid (ho.blk KB.out (by obtain ⟨cs', hb'⟩ := Q.out.sc.blk; exact Blk.ne_ KB.out hb' (by decide)))
            clear KB
            have KB := KBx
            clear KBx
            clear ho Q
            have Q := Qx
            clear Qx
            have hzr2 : zb ≤ wr.drew.heap.size := hzr
            generalize wr.drew = Wh at *
            have hc := scnum_any Wh g st Q.out.sc (Q.out.tbs HT.out)
            rw [J1.out, J2.out] at hc
            have HC := Lib.hid hc
            clear hc
            go_wp2_with fail
            refine HC.out.mono ?_
            rintro e Wi ⟨rfl, hs, ho⟩
            have Qx := Lib.hid (Q.out.step ho hs)
            have O8x := Lib.hid (Q.out.owns ho O8.out (by decide))
            clear O8
            have O8 := O8x
            clear O8x
            have O11x := Lib.hid (Q.out.owns ho O11.out (by decide))
            clear O11
            have O11 := O11x
            clear O11x
            have O6x := Lib.hid (Q.out.owns ho O6.out (by decide))
            clear O6
            have O6 := O6x
            clear O6x
            have O7x := Lib.hid (Q.out.owns ho O7.out (by decide))
            clear O7
            have O7 := O7x
            clear O7x
            have OSx := Lib.hid (Q.out.owns ho OS.out (by decide))
            clear OS
            have OS := OSx
            clear OSx
            have SOx := Lib.hid (SO.out.scan Q.out.sc ho)
            clear SO
            have SO := SOx
            clear SOx
            have KBx := Lib.hid (ho.blk KB.out (by obtain ⟨cs', hb'⟩ := Q.out.sc.blk; exact Blk.ne_ KB.out hb' (by decide)))
            clear KB
            have KB := KBx
            clear KBx
            have hzr3 := Nat.le_trans hzr2 ho.size
            clear hs ho HC Q
            have Q := Qx
            clear Qx
            go_wp2_with fail
            refine ⟨KB.out, ?_⟩
            have hc := scnum_any Wi g s1 Q.out.sc (Q.out.tbs HT.out)
            rw [J3.out, J4.out] at hc
            have HC := Lib.hid hc
            clear hc
            go_wp2_with fail
            refine HC.out.mono ?_
            rintro e Wj ⟨rfl, hs, ho⟩
            have Qx := Lib.hid (Q.out.step ho hs)
            have O8x := Lib.hid (Q.out.owns ho O8.out (by decide))
            clear O8
            have O8 := O8x
            clear O8x
            have O11x := Lib.hid (Q.out.owns ho O11.out (by decide))
            clear O11
            have O11 := O11x
            clear O11x
            have O6x := Lib.hid (Q.out.owns ho O6.out (by decide))
            clear O6
            have O6 := O6x
            clear O6x
            have O7x := Lib.hid (Q.out.owns ho O7.out (by decide))
            clear O7
            have O7 := O7x
            clear O7x
            have OSx := Lib.hid (Q.out.owns ho OS.out (by decide))
            clear OS
            have OS := OSx
            clear OSx
            have SOx := Lib.hid (SO.out.scan Q.out.sc ho)
            clear SO
            have SO := SOx
            clear SOx
            have KBx := Lib.hid (ho.blk KB.out (by obtain ⟨cs', hb'⟩ := Q.out.sc.blk; exact Blk.ne_ KB.out hb' (by decide)))
            clear KB
            have KB := KBx
            clear KBx
            have hzr4 := Nat.le_trans hzr3 ho.size
            clear hs ho HC Q
            have Q := Qx
            clear Qx
            go_wp2_with fail
            refine ⟨KB.out, ?_⟩
            go_wp2_with fail
            refine ⟨KB.out, ?_⟩
            have kn := Blk.new Wj 77 #[.int .i64 p, .int .i64 q]
            have q0 := below_self_alloc Wj (.cells #[.int .i64 p, .int .i64 q] 77)
            have hzr5 := Nat.le_trans hzr4 q0.size
            go_wp2_with fail
            have ho : Only (fun i => i = g) _ (Wj.alloc (.cells #[.int .i64 p, .int .i64 q] 77)) := Only.of_below q0 _
            have Qx := Lib.hid (Q.out.keep q0)
            have O8x := Lib.hid (Q.out.owns ho O8.out (by decide))
            clear O8
            have O8 := O8x
            clear O8x
            have O11x := Lib.hid (Q.out.owns ho O11.out (by decide))
            clear O11
            have O11 := O11x
            clear O11x
            have O6x := Lib.hid (Q.out.owns ho O6.out (by decide))
            clear O6
            have O6 := O6x
            clear O6x
            have O7x := Lib.hid (Q.out.owns ho O7.out (by decide))
            clear O7
            have O7 := O7x
            clear O7x
            have OSx := Lib.hid (Q.out.owns ho OS.out (by decide))
            clear OS
            have OS := OSx
            clear OSx
            have SOx := Lib.hid (SO.out.scan Q.out.sc ho)
            clear SO
            have SO := SOx
            clear SOx
            have KBx := Lib.hid (ho.blk KB.out (by obtain ⟨cs', hb'⟩ := Q.out.sc.blk; exact Blk.ne_ KB.out hb' (by decide)))
            clear KB
            have KB := KBx
            clear KBx
            clear ho Q
            have Q := Qx
            clear Qx
            refine ⟨KB.out, ?_⟩
            generalize Wj.heap.size = gw at *
            generalize Wj.alloc (.cells #[.int .i64 p, .int .i64 q] 77) = Wk at *
            go_wp2_with (at_builtin; refine wpList_append_lies _ rfl _ _ 63 rfl zb 77 i0 _ 2 16 Tryz.underlying63 hi0 hz0 hz1 hz2 rfl (by omega) (.slice A S.length c) S.length (stopCells S) rfl OS.out ⟨gw, 0, none⟩ 1 1 [.int .i64 p, .int .i64 q] rfl rfl (World.news_of_block kn) (stopCells_one [(p, q)]) (by omega) (by unfold maxLen; omega) (by omega) (by omega) _ rfl ?_; intro gz cz Y own9 gr9 l9 z9; have Q9 := Lib.hid (Q.out.grown OS.out hzw (by decide) gr9); have KB9 := Lib.hid (KB.out.grown gr9 (fun e => own_blk_ne OS.out KB.out (by decide) e.symm)); obtain ⟨k0, k1, k2⟩ := KB9.out.all)
            refine ⟨KB9.out, ?_⟩
            have ho : Only (fun i => i = gx) Y (Y.setCell ⟨gx, 4, none⟩ (.slice (some ⟨gz, 0, none⟩) (S.length + 1) cz)) := only_set2
            have P8 := Lib.hid (ho.owns (owns_grown O8.out OS.out (by decide) gr9) (fun b hv e => own_blk_ne (owns_grown O8.out OS.out (by decide) gr9) KB9.out (by decide) (by rw [hv, e])))
            have P11 := Lib.hid (ho.owns (owns_grown O11.out OS.out (by decide) gr9) (fun b hv e => own_blk_ne (owns_grown O11.out OS.out (by decide) gr9) KB9.out (by decide) (by rw [hv, e])))
            have P6 := Lib.hid (ho.owns (owns_grown O6.out OS.out (by decide) gr9) (fun b hv e => own_blk_ne (owns_grown O6.out OS.out (by decide) gr9) KB9.out (by decide) (by rw [hv, e])))
            have P7 := Lib.hid (ho.owns (owns_grown O7.out OS.out (by decide) gr9) H7.out)
            have P5 := Lib.hid (ho.owns own9 (fun b hv e => own_blk_ne own9 KB9.out (by decide) (by rw [hv, e])))
            have PO := Lib.hid ((SO.out.apart LTZ.out OS.out (Nat.le_refl _) gr9).only KB9.out (by decide) ho)
            have QS := Lib.hid (Q9.out.far (i := 4) (v := (.slice (some ⟨gz, 0, none⟩) (S.length + 1) cz)) KB9.out hgx)
            have KBS : Hid (Blk (Y.setCell ⟨gx, 4, none⟩ (.slice (some ⟨gz, 0, none⟩) (S.length + 1) cz)) gx 65 #[.string XN, .int .i64 d1, .int .i64 d2, .int .i64 d3, .slice (some ⟨gz, 0, none⟩) (S.length + 1) cz]) := Lib.hid (by simpa using KB9.out.set_ 4 (.slice (some ⟨gz, 0, none⟩) (S.length + 1) cz))
            have hzy := Nat.le_trans hzr5 gr9.size
            clear Q O8 O11 O6 O7 SO own9 gr9 l9 z9 kn q0 Q9 OS KB
            go_wp2
            go_roundg s2.ws.length
            case rel =>
              refine ⟨s2, S ++ [(p, q)], some ⟨gz, 0, none⟩, cz, rfl, SL2, SP2, SQ2, QS, P8, P11, P6, P7, PO, ?_, ?_, ?_, ?_⟩
              · rw [List.length_append]
                exact KBS
              · rw [List.length_append, stopCells_app]
                exact P5
              · rw [List.length_append]; simp only [List.length_cons, List.length_nil]; omega
              · simpa [World.setCell] using hzy
            case measure => omega
end Go.Proofs.YtgfahifdmacmhaaGreatDoor
