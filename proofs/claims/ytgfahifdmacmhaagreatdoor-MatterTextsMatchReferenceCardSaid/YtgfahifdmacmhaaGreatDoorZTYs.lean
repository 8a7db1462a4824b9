/- The reference's Text. -/
import Derived.Test.YtgfahifdmacmhaaGreatDoorZTYr
import Derived.Test.YtgfahifdmacmhaaGreatDoorZTGF
import Derived.Test.YtgfahifdmacmhaaGreatDoorZTWc
import Derived.Test.YtgfahifdmacmhaaGreatDoorZTGA
import Derived.BigQuiet
namespace Go.Proofs.YtgfahifdmacmhaaGreatDoor
open Go.RowKit Go.Shelf

def psT (w : World) (id : ByteArray) (o : Int) (cs : List Int) (pr : ByteArray) (st : Int) (mv : List Int) (a1 : Option Addr) (c1 : Nat) (a2 : Option Addr) (c2 : Nat) (L1 L2 L12 L3 L123 : ByteArray) : List Phi := [
  isV (.pointer (some ⟨w.heap.size, 0, none⟩)),
  isV (.string id),
  isV (.pointer (some ⟨w.heap.size, 1, none⟩)),
  isV (.int .i64 o),
  isV (.string (bs (Lib.itoa o))),
  isV (.pointer (some ⟨w.heap.size, 3, none⟩)),
  isV (.string pr),
  rowV w.heap.size 9 #[.string ⟨#[109, 97, 116, 116, 101, 114]⟩, .string id, .string (bs (Lib.itoa o)), .string pr] 4 4,
  isV (.pointer (some ⟨w.heap.size, 4, none⟩)),
  isV (.int .i64 st),
  rowV w.heap.size 3 #[.int .i64 st] 1 1,
  isV (.string L1),
  rowV w.heap.size 9 #[.string ⟨#[99, 97, 115, 101]⟩] 1 1,
  isV (.pointer (some ⟨w.heap.size, 2, none⟩)),
  isV (.slice a1 cs.length c1),
  isV (.string L2),
  isV (.string L12),
  rowV w.heap.size 9 #[.string ⟨#[109, 111, 118, 101, 100]⟩] 1 1,
  isV (.pointer (some ⟨w.heap.size, 5, none⟩)),
  isV (.slice a2 mv.length c2),
  isV (.string L3),
  isV (.string L123),
  isV (.string L123)]

def psR (w : World) (k : Nat) (rs : List Rt) (nm : ByteArray) (d : Int) (T : ByteArray) (g off c3 : Nat) (LR T2 : ByteArray) : List Phi := [
  isV (.string T),
  isV (.pointer (some ⟨w.heap.size, 6, none⟩)),
  isV (.slice (some ⟨g, off, none⟩) rs.length c3),
  isV (.int .i64 (k : Int)),
  isV (.pointer (some ⟨g, off + k * 2, none⟩)),
  isV (.pointer (some ⟨g, off + k * 2, none⟩)),
  isV (.string nm),
  rowV w.heap.size 9 #[.string ⟨#[114, 105, 103, 104, 116]⟩, .string nm] 2 2,
  isV (.pointer (some ⟨w.heap.size, 6, none⟩)),
  isV (.slice (some ⟨g, off, none⟩) rs.length c3),
  isV (.int .i64 (k : Int)),
  isV (.pointer (some ⟨g, off + k * 2, none⟩)),
  isV (.pointer (some ⟨g, off + k * 2 + 1, none⟩)),
  isV (.int .i64 d),
  rowV w.heap.size 3 #[.int .i64 d] 1 1,
  isV (.string LR),
  isV (.string T2),
  isV (.string T2)]

def TxS (w : World) (C : Array Value) (V : World) : Prop := Below w.heap.size w V ∧ Blk V w.heap.size 27 C
theorem nums_nat : ∀ (l : List Int), (∀ n ∈ l, 0 ≤ n) → numsL l = njF (l.map Int.toNat) ∧ ((l.map Int.toNat).map fun n : Nat => (n : Int)) = l
  | [], _ => ⟨rfl, rfl⟩
  | n :: l, h => by
    obtain ⟨h1, h2⟩ := nums_nat l fun x hx => h x (List.mem_cons_of_mem _ hx)
    have h0 := h n List.mem_cons_self
    refine ⟨?_, ?_⟩
    · show 32 :: Lib.itoa n ++ numsL l = _
      rw [h1, itoa_pos h0]
      rfl
    · show ((n.toNat : Nat) : Int) :: _ = _
      rw [h2, Int.toNat_of_nonneg h0]
theorem numsL_mono (l : List Int) : (numsL l).length ≤ (numsL l).length := Nat.le_refl _
/-- line, at numbers that are not negative. -/
theorem rline2_any (w : World) (B : Nat) (A1 : Option Addr) (ws : List (List UInt8)) (c1 n1 : Nat) (e1 : ws.length = n1) (h1 : StrsAt w B A1 ws) (A2 : Option Addr) (l : List Int) (c2 n2 : Nat) (e2 : l.length = n2) (h2 : IntsAt w B A2 l) (hn : ∀ n ∈ l, 0 ≤ n ∧ n ≤ 9223372036854775807)
    (hb : (wjF ws).length ≤ 100000000) (l1 : n1 ≤ 1000000) (l2 : n2 ≤ 1000000) :
    Calls Tryz.prog 37 #[.slice A1 n1 c1, .slice A2 n2 c2] w fun e w' => e = .returned (.string (bs (lineL (wj ws) l))) ∧ w = w' := by
  subst e1 e2
  obtain ⟨k1, k2⟩ := nums_nat l fun n h => (hn n h).1
  have hl := numsL_len l fun n h => ⟨by have := hn n h; omega, (hn n h).2⟩
  have h := rline_any w B A1 ws c1 h1 A2 (l.map Int.toNat) c2 (by rw [k2]; exact h2) (fun n h => by
    obtain ⟨x, hx, rfl⟩ := List.mem_map.1 h
    have := hn x hx
    omega) (by rw [← k1]; omega) l1 (by rw [List.length_map]; exact l2)
  rw [List.length_map, ← k1] at h
  exact h
theorem strs_blk {w : World} {g : Nat} {cs : Array Value} (h : Blk w g 9 cs) (l : List (List UInt8)) (hl : cs.toList = l.map sv) : StrsAt w w.heap.size (some ⟨g, 0, none⟩) l := fun i s hi => by
  refine ⟨g, 0, rfl, h.lt, ?_⟩
  rw [Nat.zero_add]
  have := h.cell i
  rw [this]
  have e : cs[i]? = cs.toList[i]? := by simp
  rw [e, hl, List.getElem?_map, hi]
  rfl
theorem ints_blk {w : World} {g : Nat} {cs : Array Value} (h : Blk w g 3 cs) (l : List Int) (hl : cs.toList = intCells l) : IntsAt w w.heap.size (some ⟨g, 0, none⟩) l := fun i s hi => by
  refine ⟨g, 0, rfl, h.lt, ?_⟩
  rw [Nat.zero_add]
  have := h.cell i
  rw [this]
  have e : cs[i]? = cs.toList[i]? := by simp
  rw [e, hl]
  unfold intCells
  rw [List.getElem?_map, hi]
  rfl
set_option maxRecDepth 100000 in
set_option maxHeartbeats 8000000 in
theorem rtext_any (w : World) (B : Nat) (m : Mt) (x : MtX) (h : MtAt w B m x) (hB : B ≤ w.heap.size) (hs : Sml m) (hcap : m.rs.length ≤ x.c3) :
    Calls Tryz.prog 12 #[.agg (mtC m x)] w (TextPost w m) := by
  obtain ⟨R, hR⟩ : ∃ R, (if fmB m then textL m else []) = R := ⟨_, rfl⟩
  obtain ⟨E, hE⟩ : ∃ E : Int, (if fmB m then (0 : Int) else 1) = E := ⟨_, rfl⟩
  unfold TextPost
  rw [hR, hE]
  obtain ⟨i0, hi0, hz0, hz1, hz2⟩ := info_parts Tryz.infoInt
  have hfo := fun W (hb : Below w.heap.size w W) => rformed_any W B _ _ (h.below (hb.mono hB)) (Nat.le_trans hB hb.size) hs hcap
  have H := Lib.hid h
  have HR := Lib.hid hR
  have HE := Lib.hid hE
  obtain ⟨s1, s2, s3, s4⟩ := hs
  have HBB := Lib.hid hB
  clear h hR hE hB
  obtain ⟨id, o, cs, pr, st, mv, rs, ls⟩ := m
  obtain ⟨a1, c1, a2, c2, a3, c3, a4, c4, lv⟩ := x
  simp only at s1 s2 s3 s4 hcap
  have hfo2 : ∀ W, Below w.heap.size w W → Calls Tryz.prog 36 #[.agg #[.string id, .int .i64 o, .slice a1 cs.length c1, .string pr, .int .i64 st, .slice a2 mv.length c2, .slice a3 rs.length c3, .slice a4 ls.length c4]] W fun e w' => e = .returned (.bool (fmB ⟨id, o, cs, pr, st, mv, rs, ls⟩)) ∧ Below W.heap.size W w' := hfo
  show Calls Tryz.prog 12 #[.agg #[.string id, .int .i64 o, .slice a1 cs.length c1, .string pr, .int .i64 st, .slice a2 mv.length c2, .slice a3 rs.length c3, .slice a4 ls.length c4]] w _
  have hb := below_self_alloc w (.cells #[.string id, .int .i64 o, .slice a1 cs.length c1, .string pr, .int .i64 st, .slice a2 mv.length c2, .slice a3 rs.length c3, .slice a4 ls.length c4] 27)
  have kx := Blk.new w 27 #[.string id, .int .i64 o, .slice a1 cs.length c1, .string pr, .int .i64 st, .slice a2 mv.length c2, .slice a3 rs.length c3, .slice a4 ls.length c4]
  obtain ⟨t0, t1, t2⟩ := kx.all
  go_enter Tryz.func12, Tryz.ntmps12
  go_upto_region 1 with fail
  generalize w.alloc (.cells #[.string id, .int .i64 o, .slice a1 cs.length c1, .string pr, .int .i64 st, .slice a2 mv.length c2, .slice a3 rs.length c3, .slice a4 ls.length c4] 27) = W at *
  have hc := hfo2 W hb
  have HB := Lib.hid hb
  have KX := Lib.hid kx
  clear hb kx hfo hfo2
  cases hf : fmB ⟨id, o, cs, pr, st, mv, rs, ls⟩ with
  | false =>
    rw [hf] at hc
    have HC := Lib.hid hc
    obtain rfl : ([] : List UInt8) = R := by have h := HR.out; rw [hf] at h; exact h
    obtain rfl : (1 : Int) = E := by have h := HE.out; rw [hf] at h; exact h
    clear hc hf HR HE
    go_wp2_with fail
    refine HC.out.mono ?_
    rintro e w3 ⟨rfl, b3⟩
    have hb3 := HB.out.trans (b3.mono HB.out.size)
    clear b3 t0 t1 t2
    go_wp2
    go_ret2
    exact ⟨rfl, hb3⟩
  | true =>
    rw [hf] at hc
    have HC := Lib.hid hc
    obtain rfl : textL ⟨id, o, cs, pr, st, mv, rs, ls⟩ = R := by have h := HR.out; rw [hf] at h; exact h
    obtain rfl : (0 : Int) = E := by have h := HE.out; rw [hf] at h; exact h
    have HF := Lib.hid hf
    clear hc hf HR HE
    go_wp2_with fail
    refine HC.out.mono ?_
    rintro e w3 ⟨rfl, b3⟩
    have HB3 := Lib.hid (HB.out.trans (b3.mono HB.out.size))
    have K3 := Lib.hid (KX.out.below b3 KX.out.lt)
    clear b3 t0 t1 t2 HC HB KX
    obtain ⟨f1, f2, f3, f4, f5, f6, f7, f8, f9, f10⟩ := fmB_iff.1 HF.out
    simp only at f1 f2 f3 f4 f5 f6 f7 f8 f9 f10
    have ho := (isB_iff o).1 f3
    have hidl := name_len f1
    have hprl := name_len f2
    have hil := itoa_len (n := o) (by omega) (by omega)
    have hmv : ∀ n ∈ mv, 0 ≤ n ∧ n ≤ 1000000 := upB_wf' mv o ho.1 f7
    have hcs : ∀ n ∈ cs, 0 ≤ n ∧ n ≤ 1000000 := fun n hn => (isB_iff n).1 (f5 n hn)
    have hd : ∀ W : World, Calls Tryz.prog 38 #[.int .i64 o] W fun e w' => e = .returned (.string (bs (Lib.itoa o))) ∧ W = w' := fun W => by
      have h := rdecimal_any W o.toNat (by omega)
      rw [Int.toNat_of_nonneg ho.1, ← itoa_pos ho.1] at h
      exact h
    obtain ⟨L1, hL1⟩ : ∃ L, bs (lineL (headL ⟨id, o, cs, pr, st, mv, rs, ls⟩) [st]) = L := ⟨_, rfl⟩
    obtain ⟨L2, hL2⟩ : ∃ L, bs (lineL caseL cs) = L := ⟨_, rfl⟩
    obtain ⟨L3, hL3⟩ : ∃ L, bs (lineL movedL mv) = L := ⟨_, rfl⟩
    obtain ⟨L12, hL12⟩ : ∃ L, bs (lineL (headL ⟨id, o, cs, pr, st, mv, rs, ls⟩) [st] ++ lineL caseL cs) = L := ⟨_, rfl⟩
    obtain ⟨L123, hL123⟩ : ∃ L, bs (lineL (headL ⟨id, o, cs, pr, st, mv, rs, ls⟩) [st] ++ (lineL caseL cs ++ lineL movedL mv)) = L := ⟨_, rfl⟩
    have hl1 : ∀ (W : World) (g7 g10 : Nat), Blk W g7 9 #[.string ⟨#[109, 97, 116, 116, 101, 114]⟩, .string id, .string (bs (Lib.itoa o)), .string pr] → Blk W g10 3 #[.int .i64 st] → Calls Tryz.prog 37 #[.slice (some ⟨g7, 0, none⟩) 4 4, .slice (some ⟨g10, 0, none⟩) 1 1] W fun e w' => e = .returned (.string L1) ∧ W = w' := fun W g7 g10 k7 k10 => by
      have h := rline2_any W W.heap.size (some ⟨g7, 0, none⟩) [matterW, sL id, Lib.itoa o, sL pr] 4 4 rfl (strs_blk k7 _ rfl) (some ⟨g10, 0, none⟩) [st] 1 1 rfl (ints_blk k10 _ rfl) (by intro n hn; rw [List.mem_singleton] at hn; subst hn; omega) (by simp [wjF, matterW]; omega) (by decide) (by decide)
      have e : wj [matterW, sL id, Lib.itoa o, sL pr] = headL ⟨id, o, cs, pr, st, mv, rs, ls⟩ := by simp [wj, wjF, headL, mattL, matterW]
      rw [e, hL1] at h
      exact h
    have hl2 : ∀ (W : World) (g : Nat), Below w.heap.size w W → Blk W g 9 #[.string ⟨#[99, 97, 115, 101]⟩] → Calls Tryz.prog 37 #[.slice (some ⟨g, 0, none⟩) 1 1, .slice a1 cs.length c1] W fun e w' => e = .returned (.string L2) ∧ W = w' := fun W g hW k => by
      have h := rline2_any W W.heap.size (some ⟨g, 0, none⟩) [caseL] 1 1 rfl (strs_blk k _ rfl) a1 cs c1 cs.length rfl ((H.out.cs.below (hW.mono HBB.out)).wide (Nat.le_trans HBB.out hW.size)) (fun n hn => by have := hcs n hn; omega) (by simp [wjF, caseL]) (by decide) (by omega)
      rw [wj_one, hL2] at h
      exact h
    have hl3 : ∀ (W : World) (g : Nat), Below w.heap.size w W → Blk W g 9 #[.string ⟨#[109, 111, 118, 101, 100]⟩] → Calls Tryz.prog 37 #[.slice (some ⟨g, 0, none⟩) 1 1, .slice a2 mv.length c2] W fun e w' => e = .returned (.string L3) ∧ W = w' := fun W g hW k => by
      have h := rline2_any W W.heap.size (some ⟨g, 0, none⟩) [movedL] 1 1 rfl (strs_blk k _ rfl) a2 mv c2 mv.length rfl ((H.out.mv.below (hW.mono HBB.out)).wide (Nat.le_trans HBB.out hW.size)) (fun n hn => by have := hmv n hn; omega) (by simp [wjF, movedL]) (by decide) (by omega)
      rw [wj_one, hL3] at h
      exact h
    have q1 := lineL_len (f := headL ⟨id, o, cs, pr, st, mv, rs, ls⟩) (l := [st]) (by intro n hn; rw [List.mem_singleton] at hn; subst hn; exact ⟨by omega, by omega⟩)
    have q2 := lineL_len (f := caseL) (l := cs) (fun n hn => isB_wf (f5 n hn))
    have q3 := lineL_len (f := movedL) (l := mv) (upB_wf mv o ho.1 f7)
    have q0 : (headL ⟨id, o, cs, pr, st, mv, rs, ls⟩).length = 7 + ((sL id).length + (1 + ((Lib.itoa o).length + (1 + (sL pr).length)))) := by simp only [headL, List.length_append, List.length_cons, mattL]; simp; omega
    have q4 : caseL.length = 4 := rfl
    have q5 : movedL.length = 5 := rfl
    simp only [List.length_cons, List.length_nil] at q1
    have hs12 : ∀ W, (Op.stringOp .add L1 L2).run Tryz.prog W = .ok (.string L12) W := fun W => by rw [← hL1, ← hL2, ← hL12]; exact sum_bs _ _ (by omega) W
    have hs123 : ∀ W, (Op.stringOp .add L12 L3).run Tryz.prog W = .ok (.string L123) W := fun W => by
      rw [← hL12, ← hL3, ← hL123]
      have := sum_bs (lineL (headL ⟨id, o, cs, pr, st, mv, rs, ls⟩) [st] ++ lineL caseL cs) (lineL movedL mv) (by rw [List.length_append]; omega) W
      rw [List.append_assoc] at this
      exact this
    have HD := Lib.hid hd
    have HL1 := Lib.hid hl1
    have HL2 := Lib.hid hl2
    have HL3 := Lib.hid hl3
    have HX := Lib.hid hL123
    have hxl : (lineL (headL ⟨id, o, cs, pr, st, mv, rs, ls⟩) [st] ++ (lineL caseL cs ++ lineL movedL mv)).length ≤ 100000 := by
      simp only [List.length_append]
      omega
    have HXL := Lib.hid hxl
    have F9 := Lib.hid (difB_iff.1 f9)
    have F10 := Lib.hid (difB_iff.1 f10)
    clear hd hl1 hl2 hl3 hL1 hL2 hL3 hL12 hL123 q0 q1 q2 q3 q4 q5 hxl f1 f2 f3 f4 f5 f7 f9 f10 hidl hprl hil hmv hcs ho
    go_upto_region 3 with fail
    refine wp_region_rg2 (TxS w #[.string id, .int .i64 o, .slice a1 cs.length c1, .string pr, .int .i64 st, .slice a2 mv.length c2, .slice a3 rs.length c3, .slice a4 ls.length c4]) RB (psT w id o cs pr st mv a1 c1 a2 c2 L1 L2 L12 L3 L123) [0, 1, 2, 3, 4, 5, 6, 7, 8, 9, 10, 11, 12, 13, 14, 15, 16, 17, 18, 19, 20, 21, 22] (by kernel_rfl) (by kernel_rfl) (by kernel_rfl) (⟨HB3.out.drew, K3.out.drew⟩) ⟨isV_mono _, isV_mono _, isV_mono _, isV_mono _, isV_mono _, isV_mono _, isV_mono _, rowV_mono _ _ _ _ _, isV_mono _, isV_mono _, rowV_mono _ _ _ _ _, isV_mono _, rowV_mono _ _ _ _ _, isV_mono _, isV_mono _, isV_mono _, isV_mono _, rowV_mono _ _ _ _ _, isV_mono _, isV_mono _, isV_mono _, isV_mono _, isV_mono _, trivial⟩ ?_
    intro F hF
    simp only [putAll, List.map_cons, List.map_nil, Act.put, List.setIfInBounds_toArray, List.set_cons_succ, List.set_cons_zero] at hF
    have HFX := Lib.hid hF
    clear hF
    refine ⟨fun Q' => ⟨?_, ?_, ?_, ?_, ?_, ?_, ?_, ?_, ?_, ?_, ?_, ?_, ?_, ?_, ?_, ?_, ?_, ?_, ?_, ?_, ?_, ?_, ?_, trivial⟩, ?_⟩
    · intro u W hS hd hp
      have HS := Lib.hid hS
      clear hS
      rw [HFX.out]
      clear hd hp 
      go_wp2_with fail
      exact ⟨_, by rw [HFX.out]; simp [upd], rfl, HS.out, Below.refl _ _⟩
    · intro u W hS hd hp
      have HS := Lib.hid hS
      clear hS
      obtain ⟨d0, -⟩ := hd
      have e0 : u 0 = .pointer (some ⟨w.heap.size, 0, none⟩) := d0 rfl
      rw [HFX.out]
      simp only [e0]
      clear hp d0
      obtain ⟨t0, t1, t2⟩ := HS.out.2.all
      go_wp2_with fail
      exact ⟨_, by rw [HFX.out]; simp [upd, e0], rfl, HS.out, Below.refl _ _⟩
    · intro u W hS hd hp
      have HS := Lib.hid hS
      clear hS
      rw [HFX.out]
      clear hd hp 
      go_wp2_with fail
      exact ⟨_, by rw [HFX.out]; simp [upd], rfl, HS.out, Below.refl _ _⟩
    · intro u W hS hd hp
      have HS := Lib.hid hS
      clear hS
      obtain ⟨d2, -⟩ := hd
      have e2 : u 2 = .pointer (some ⟨w.heap.size, 1, none⟩) := d2 rfl
      rw [HFX.out]
      simp only [e2]
      clear hp d2
      obtain ⟨t0, t1, t2⟩ := HS.out.2.all
      go_wp2_with fail
      exact ⟨_, by rw [HFX.out]; simp [upd, e2], rfl, HS.out, Below.refl _ _⟩
    · intro u W hS hd hp
      have HS := Lib.hid hS
      clear hS
      obtain ⟨d3, -⟩ := hd
      have e3 : u 3 = .int .i64 o := d3 rfl
      rw [HFX.out]
      simp only [e3]
      clear hp d3
      go_wp2_with fail
      refine (HD.out W).mono ?_
      rintro e W2 ⟨rfl, rfl⟩
      go_wp2_with fail
      exact ⟨_, by rw [HFX.out]; simp [upd, e3], rfl, HS.out, Below.refl _ _⟩
    · intro u W hS hd hp
      have HS := Lib.hid hS
      clear hS
      rw [HFX.out]
      clear hd hp 
      go_wp2_with fail
      exact ⟨_, by rw [HFX.out]; simp [upd], rfl, HS.out, Below.refl _ _⟩
    · intro u W hS hd hp
      have HS := Lib.hid hS
      clear hS
      obtain ⟨d5, -⟩ := hd
      have e5 : u 5 = .pointer (some ⟨w.heap.size, 3, none⟩) := d5 rfl
      rw [HFX.out]
      simp only [e5]
      clear hp d5
      obtain ⟨t0, t1, t2⟩ := HS.out.2.all
      go_wp2_with fail
      exact ⟨_, by rw [HFX.out]; simp [upd, e5], rfl, HS.out, Below.refl _ _⟩
    · intro u W hS hd hp
      have HS := Lib.hid hS
      clear hS
      obtain ⟨d1, d4, d6, -⟩ := hd
      have e1 : u 1 = .string id := d1 rfl
      have e4 : u 4 = .string (bs (Lib.itoa o)) := d4 rfl
      have e6 : u 6 = .string pr := d6 rfl
      rw [HFX.out]
      simp only [e1, e4, e6]
      clear hp d1 d4 d6
      go_wp2_with fail
      exact ⟨_, by rw [HFX.out]; simp [upd, e1, e4, e6], ⟨W.heap.size, rfl, HS.out.1.size, Blk.new W 9 #[.string ⟨#[109, 97, 116, 116, 101, 114]⟩, .string id, .string (bs (Lib.itoa o)), .string pr]⟩, ⟨HS.out.1.alloc HS.out.1.size _, HS.out.2.alloc _⟩, below_self_alloc _ _⟩
    · intro u W hS hd hp
      have HS := Lib.hid hS
      clear hS
      rw [HFX.out]
      clear hd hp 
      go_wp2_with fail
      exact ⟨_, by rw [HFX.out]; simp [upd], rfl, HS.out, Below.refl _ _⟩
    · intro u W hS hd hp
      have HS := Lib.hid hS
      clear hS
      obtain ⟨d8, -⟩ := hd
      have e8 : u 8 = .pointer (some ⟨w.heap.size, 4, none⟩) := d8 rfl
      rw [HFX.out]
      simp only [e8]
      clear hp d8
      obtain ⟨t0, t1, t2⟩ := HS.out.2.all
      go_wp2_with fail
      exact ⟨_, by rw [HFX.out]; simp [upd, e8], rfl, HS.out, Below.refl _ _⟩
    · intro u W hS hd hp
      have HS := Lib.hid hS
      clear hS
      obtain ⟨d9, -⟩ := hd
      have e9 : u 9 = .int .i64 st := d9 rfl
      rw [HFX.out]
      simp only [e9]
      clear hp d9
      go_wp2_with fail
      exact ⟨_, by rw [HFX.out]; simp [upd, e9], ⟨W.heap.size, rfl, HS.out.1.size, Blk.new W 3 #[.int .i64 st]⟩, ⟨HS.out.1.alloc HS.out.1.size _, HS.out.2.alloc _⟩, below_self_alloc _ _⟩
    · intro u W hS hd hp
      have HS := Lib.hid hS
      clear hS
      obtain ⟨d7, d10, -⟩ := hd
      obtain ⟨g7, e7, gb7, gk7⟩ : (rowV w.heap.size 9 #[.string ⟨#[109, 97, 116, 116, 101, 114]⟩, .string id, .string (bs (Lib.itoa o)), .string pr] 4 4).p (u 7) (u 7) W := d7 rfl
      obtain ⟨g10, e10, gb10, gk10⟩ : (rowV w.heap.size 3 #[.int .i64 st] 1 1).p (u 10) (u 10) W := d10 rfl
      rw [HFX.out]
      simp only [e7, e10]
      clear hp d7 d10
      go_wp2_with fail
      refine (HL1.out W g7 g10 gk7 gk10).mono ?_
      rintro e W2 ⟨rfl, rfl⟩
      go_wp2_with fail
      exact ⟨_, by rw [HFX.out]; simp [upd, e7, e10], rfl, HS.out, Below.refl _ _⟩
    · intro u W hS hd hp
      have HS := Lib.hid hS
      clear hS
      rw [HFX.out]
      clear hd hp 
      go_wp2_with fail
      exact ⟨_, by rw [HFX.out]; simp [upd], ⟨W.heap.size, rfl, HS.out.1.size, Blk.new W 9 #[.string ⟨#[99, 97, 115, 101]⟩]⟩, ⟨HS.out.1.alloc HS.out.1.size _, HS.out.2.alloc _⟩, below_self_alloc _ _⟩
    · intro u W hS hd hp
      have HS := Lib.hid hS
      clear hS
      rw [HFX.out]
      clear hd hp 
      go_wp2_with fail
      exact ⟨_, by rw [HFX.out]; simp [upd], rfl, HS.out, Below.refl _ _⟩
    · intro u W hS hd hp
      have HS := Lib.hid hS
      clear hS
      obtain ⟨d13, -⟩ := hd
      have e13 : u 13 = .pointer (some ⟨w.heap.size, 2, none⟩) := d13 rfl
      rw [HFX.out]
      simp only [e13]
      clear hp d13
      obtain ⟨t0, t1, t2⟩ := HS.out.2.all
      go_wp2_with fail
      exact ⟨_, by rw [HFX.out]; simp [upd, e13], rfl, HS.out, Below.refl _ _⟩
    · intro u W hS hd hp
      have HS := Lib.hid hS
      clear hS
      obtain ⟨d12, d14, -⟩ := hd
      obtain ⟨g12, e12, gb12, gk12⟩ : (rowV w.heap.size 9 #[.string ⟨#[99, 97, 115, 101]⟩] 1 1).p (u 12) (u 12) W := d12 rfl
      have e14 : u 14 = .slice a1 cs.length c1 := d14 rfl
      rw [HFX.out]
      simp only [e12, e14]
      clear hp d12 d14
      go_wp2_with fail
      refine (HL2.out W g12 HS.out.1 gk12).mono ?_
      rintro e W2 ⟨rfl, rfl⟩
      go_wp2_with fail
      exact ⟨_, by rw [HFX.out]; simp [upd, e12, e14], rfl, HS.out, Below.refl _ _⟩
    · intro u W hS hd hp
      have HS := Lib.hid hS
      clear hS
      obtain ⟨d11, d15, -⟩ := hd
      have e11 : u 11 = .string L1 := d11 rfl
      have e15 : u 15 = .string L2 := d15 rfl
      rw [HFX.out]
      simp only [e11, e15]
      clear hp d11 d15
      go_wp2_with fail
      exact ⟨_, by rw [HFX.out]; simp [upd, e11, e15], rfl, HS.out, Below.refl _ _⟩
    · intro u W hS hd hp
      have HS := Lib.hid hS
      clear hS
      rw [HFX.out]
      clear hd hp 
      go_wp2_with fail
      exact ⟨_, by rw [HFX.out]; simp [upd], ⟨W.heap.size, rfl, HS.out.1.size, Blk.new W 9 #[.string ⟨#[109, 111, 118, 101, 100]⟩]⟩, ⟨HS.out.1.alloc HS.out.1.size _, HS.out.2.alloc _⟩, below_self_alloc _ _⟩
    · intro u W hS hd hp
      have HS := Lib.hid hS
      clear hS
      rw [HFX.out]
      clear hd hp 
      go_wp2_with fail
      exact ⟨_, by rw [HFX.out]; simp [upd], rfl, HS.out, Below.refl _ _⟩
    · intro u W hS hd hp
      have HS := Lib.hid hS
      clear hS
      obtain ⟨d18, -⟩ := hd
      have e18 : u 18 = .pointer (some ⟨w.heap.size, 5, none⟩) := d18 rfl
      rw [HFX.out]
      simp only [e18]
      clear hp d18
      obtain ⟨t0, t1, t2⟩ := HS.out.2.all
      go_wp2_with fail
      exact ⟨_, by rw [HFX.out]; simp [upd, e18], rfl, HS.out, Below.refl _ _⟩
    · intro u W hS hd hp
      have HS := Lib.hid hS
      clear hS
      obtain ⟨d17, d19, -⟩ := hd
      obtain ⟨g17, e17, gb17, gk17⟩ : (rowV w.heap.size 9 #[.string ⟨#[109, 111, 118, 101, 100]⟩] 1 1).p (u 17) (u 17) W := d17 rfl
      have e19 : u 19 = .slice a2 mv.length c2 := d19 rfl
      rw [HFX.out]
      simp only [e17, e19]
      clear hp d17 d19
      go_wp2_with fail
      refine (HL3.out W g17 HS.out.1 gk17).mono ?_
      rintro e W2 ⟨rfl, rfl⟩
      go_wp2_with fail
      exact ⟨_, by rw [HFX.out]; simp [upd, e17, e19], rfl, HS.out, Below.refl _ _⟩
    · intro u W hS hd hp
      have HS := Lib.hid hS
      clear hS
      obtain ⟨d16, d20, -⟩ := hd
      have e16 : u 16 = .string L12 := d16 rfl
      have e20 : u 20 = .string L3 := d20 rfl
      rw [HFX.out]
      simp only [e16, e20]
      clear hp d16 d20
      go_wp2_with fail
      exact ⟨_, by rw [HFX.out]; simp [upd, e16, e20], rfl, HS.out, Below.refl _ _⟩
    · intro u W hS hd hp
      have HS := Lib.hid hS
      clear hS
      obtain ⟨d21, -⟩ := hd
      have e21 : u 21 = .string L123 := d21 rfl
      rw [HFX.out]
      simp only [e21]
      clear hp d21
      go_wp2_with fail
      exact ⟨_, by rw [HFX.out]; simp [upd, e21], rfl, HS.out, Below.refl _ _⟩
    intro u W hS hf
    have e22 : u 22 = .string L123 := hf 22 (by decide)
    rw [HFX.out]
    simp only [e22]
    have HBW := Lib.hid hS.1
    have KW := Lib.hid hS.2
    clear hf HFX F hS e22 HB3 K3 HD HL1 HL2 HL3 hs12 hs123
    obtain ⟨X, hX⟩ : ∃ X, lineL (headL ⟨id, o, cs, pr, st, mv, rs, ls⟩) [st] ++ (lineL caseL cs ++ lineL movedL mv) = X := ⟨_, rfl⟩
    have hxl := HXL.out
    have hx := HX.out
    rw [hX] at hxl hx
    have HX2 := Lib.hid hX
    clear hX HX HXL
    obtain ⟨t0, t1, t2⟩ := KW.out.all
    go_wp2_with fail
    go_loopw [4, 5] (fun v i wr => ∃ (k : Nat) (T : ByteArray), k ≤ rs.length ∧ i = .int .i64 (k : Int) ∧ v = .string T ∧ Hid (bs (X ++ rtsL (rs.take k)) = T) ∧ Hid (Below w.heap.size w wr) ∧ Hid (Blk wr w.heap.size 27 #[.string id, .int .i64 o, .slice a1 cs.length c1, .string pr, .int .i64 st, .slice a2 mv.length c2, .slice a3 rs.length c3, .slice a4 ls.length c4])) (fun _ i _ => rs.length - (intOf i).toNat)
    case atStart => exact ⟨0, L123, Nat.zero_le _, rfl, rfl, Lib.hid (by simpa [rtsL] using hx), HBW, KW⟩
    case round =>
      clear t0 t1 t2 HBW KW
      obtain ⟨k, T, hk, rfl, rfl, HT, HBr, KR⟩ := hrel
      obtain ⟨t0, t1, t2⟩ := KR.out.all
      by_cases hlt : k < rs.length
      · obtain ⟨x, hxx⟩ : ∃ x, rs[k]? = some x := ⟨_, List.getElem?_eq_getElem hlt⟩
        obtain ⟨g, off, hA, hg, q0, q1⟩ : ∃ g off, a3 = some ⟨g, off, none⟩ ∧ g < B ∧ w.cell? ⟨g, off + k * 2, none⟩ = some (.string x.1) ∧ w.cell? ⟨g, off + k * 2 + 1, none⟩ = some (.int .i64 x.2) := H.out.rs k x hxx
        subst hA
        have hcc : ∀ V, Below w.heap.size w V → V.cell? ⟨g, off + k * 2, none⟩ = some (.string x.1) ∧ V.cell? ⟨g, off + k * 2 + 1, none⟩ = some (.int .i64 x.2) := fun V hV => ⟨(hV.cell (p := ⟨g, off + k * 2, none⟩) (Nat.lt_of_lt_of_le hg HBB.out)).trans q0, (hV.cell (p := ⟨g, off + k * 2 + 1, none⟩) (Nat.lt_of_lt_of_le hg HBB.out)).trans q1⟩
        have hrt := F9.out.1 x (List.mem_of_getElem? hxx)
        obtain ⟨r1, r2⟩ := rtB_out hrt
        have hrb : 0 ≤ x.2 := by
          unfold rtB at hrt
          rw [Bool.and_eq_true, Bool.and_eq_true] at hrt
          exact ((isB_iff _).1 hrt.2.2).1
        have hlen := rtsL_len (rs.take k) (fun r hr => F9.out.1 r (List.mem_of_mem_take hr))
        have hlk : (rs.take k).length ≤ 60 := Nat.le_trans (List.length_take_le' _ _) F9.out.2.2
        have htk := rtsL_take hxx
        obtain ⟨nm, d⟩ := x
        simp only at hcc r1 r2 hrb htk
        obtain ⟨LR, hLR⟩ : ∃ L, bs (lineL (rightL ++ sL nm) [d]) = L := ⟨_, rfl⟩
        obtain ⟨T2, hT2⟩ : ∃ L, bs (X ++ rtsL (rs.take (k + 1))) = L := ⟨_, rfl⟩
        have hlr : ∀ (W : World) (g7 g14 : Nat), Blk W g7 9 #[.string ⟨#[114, 105, 103, 104, 116]⟩, .string nm] → Blk W g14 3 #[.int .i64 d] → Calls Tryz.prog 37 #[.slice (some ⟨g7, 0, none⟩) 2 2, .slice (some ⟨g14, 0, none⟩) 1 1] W fun e w' => e = .returned (.string LR) ∧ W = w' := fun W g7 g14 k7 k14 => by
          have h := rline2_any W W.heap.size (some ⟨g7, 0, none⟩) [rightW, sL nm] 2 2 rfl (strs_blk k7 _ rfl) (some ⟨g14, 0, none⟩) [d] 1 1 rfl (ints_blk k14 _ rfl) (by intro n hn; rw [List.mem_singleton] at hn; subst hn; exact ⟨hrb, r2.2⟩) (by simp [wjF, rightW]; omega) (by decide) (by decide)
          have e : wj [rightW, sL nm] = rightL ++ sL nm := by simp [wj, wjF, rightL, rightW]
          rw [e, hLR] at h
          exact h
        have q6 := lineL_len (f := rightL ++ sL nm) (l := [d]) (by intro n hn; rw [List.mem_singleton] at hn; subst hn; exact r2)
        have q7 : rightL.length = 6 := rfl
        rw [List.length_append, List.length_cons, List.length_nil] at q6
        have hs2 : ∀ W, (Op.stringOp .add T LR).run Tryz.prog W = .ok (.string T2) W := fun W => by
          rw [← HT.out, ← hLR, ← hT2, htk, ← List.append_assoc]
          exact sum_bs _ _ (by rw [List.length_append]; omega) W
        have ib0 : (0 : Int) ≤ (k : Int) := by omega
        have ib1 : (k : Int) < (rs.length : Int) := by omega
        have HCC := Lib.hid hcc
        have HLR := Lib.hid hlr
        have HT2 := Lib.hid hT2
        clear hxx q0 q1 hcc hlr hT2 hLR htk hlen q6 q7 hrt r2 hrb HT
        go_upto_region 7 with fail
        clear t0 t1 t2
        refine wp_region_rg2 (TxS w #[.string id, .int .i64 o, .slice a1 cs.length c1, .string pr, .int .i64 st, .slice a2 mv.length c2, .slice (some ⟨g, off, none⟩) rs.length c3, .slice a4 ls.length c4]) RB (psR w k rs nm d T g off c3 LR T2) [0, 1, 2, 3, 4, 5, 6, 7, 8, 9, 10, 11, 12, 13, 14, 15, 16, 17] (by kernel_rfl) (by kernel_rfl) (by kernel_rfl) (⟨HBr.out.drew, KR.out.drew⟩) ⟨isV_mono _, isV_mono _, isV_mono _, isV_mono _, isV_mono _, isV_mono _, isV_mono _, rowV_mono _ _ _ _ _, isV_mono _, isV_mono _, isV_mono _, isV_mono _, isV_mono _, isV_mono _, rowV_mono _ _ _ _ _, isV_mono _, isV_mono _, isV_mono _, trivial⟩ ?_
        intro F hF
        simp only [putAll, List.map_cons, List.map_nil, Act.put, List.setIfInBounds_toArray, List.set_cons_succ, List.set_cons_zero] at hF
        have HFX := Lib.hid hF
        clear hF
        refine ⟨fun Q' => ⟨?_, ?_, ?_, ?_, ?_, ?_, ?_, ?_, ?_, ?_, ?_, ?_, ?_, ?_, ?_, ?_, ?_, ?_, trivial⟩, ?_⟩
        · intro u W hS hd hp
          have HS := Lib.hid hS
          clear hS
          have e17 : u 17 = .string T := hp 17 (.inr (by kernel_rfl))
          rw [HFX.out]
          simp only [e17]
          clear hd hp 
          go_wp2_with fail
          exact ⟨_, by rw [HFX.out]; simp [upd, e17], rfl, HS.out, Below.refl _ _⟩
        · intro u W hS hd hp
          have HS := Lib.hid hS
          clear hS
          rw [HFX.out]
          clear hd hp 
          go_wp2_with fail
          exact ⟨_, by rw [HFX.out]; simp [upd], rfl, HS.out, Below.refl _ _⟩
        · intro u W hS hd hp
          have HS := Lib.hid hS
          clear hS
          obtain ⟨d1, -⟩ := hd
          have e1 : u 1 = .pointer (some ⟨w.heap.size, 6, none⟩) := d1 rfl
          rw [HFX.out]
          simp only [e1]
          clear hp d1
          obtain ⟨t0, t1, t2⟩ := HS.out.2.all
          go_wp2_with fail
          exact ⟨_, by rw [HFX.out]; simp [upd, e1], rfl, HS.out, Below.refl _ _⟩
        · intro u W hS hd hp
          have HS := Lib.hid hS
          clear hS
          rw [HFX.out]
          clear hd hp 
          go_wp2_with fail
          exact ⟨_, by rw [HFX.out]; simp [upd], rfl, HS.out, Below.refl _ _⟩
        · intro u W hS hd hp
          have HS := Lib.hid hS
          clear hS
          obtain ⟨d2, d3, -⟩ := hd
          have e2 : u 2 = .slice (some ⟨g, off, none⟩) rs.length c3 := d2 rfl
          have e3 : u 3 = .int .i64 (k : Int) := d3 rfl
          rw [HFX.out]
          simp only [e2, e3]
          clear hp d2 d3
          go_wp2_with fail
          exact ⟨_, by rw [HFX.out]; simp [upd, e2, e3], rfl, HS.out, Below.refl _ _⟩
        · intro u W hS hd hp
          have HS := Lib.hid hS
          clear hS
          obtain ⟨d4, -⟩ := hd
          have e4 : u 4 = .pointer (some ⟨g, off + k * 2, none⟩) := d4 rfl
          rw [HFX.out]
          simp only [e4]
          clear hp d4
          go_wp2_with fail
          exact ⟨_, by rw [HFX.out]; simp [upd, e4], rfl, HS.out, Below.refl _ _⟩
        · intro u W hS hd hp
          have HS := Lib.hid hS
          clear hS
          obtain ⟨d5, -⟩ := hd
          have e5 : u 5 = .pointer (some ⟨g, off + k * 2, none⟩) := d5 rfl
          rw [HFX.out]
          simp only [e5]
          clear hp d5
          obtain ⟨c0, c1⟩ := HCC.out W HS.out.1
          go_wp2_with fail
          exact ⟨_, by rw [HFX.out]; simp [upd, e5], rfl, HS.out, Below.refl _ _⟩
        · intro u W hS hd hp
          have HS := Lib.hid hS
          clear hS
          obtain ⟨d6, -⟩ := hd
          have e6 : u 6 = .string nm := d6 rfl
          rw [HFX.out]
          simp only [e6]
          clear hp d6
          go_wp2_with fail
          exact ⟨_, by rw [HFX.out]; simp [upd, e6], ⟨W.heap.size, rfl, HS.out.1.size, Blk.new W 9 #[.string ⟨#[114, 105, 103, 104, 116]⟩, .string nm]⟩, ⟨HS.out.1.alloc HS.out.1.size _, HS.out.2.alloc _⟩, below_self_alloc _ _⟩
        · intro u W hS hd hp
          have HS := Lib.hid hS
          clear hS
          rw [HFX.out]
          clear hd hp 
          go_wp2_with fail
          exact ⟨_, by rw [HFX.out]; simp [upd], rfl, HS.out, Below.refl _ _⟩
        · intro u W hS hd hp
          have HS := Lib.hid hS
          clear hS
          obtain ⟨d8, -⟩ := hd
          have e8 : u 8 = .pointer (some ⟨w.heap.size, 6, none⟩) := d8 rfl
          rw [HFX.out]
          simp only [e8]
          clear hp d8
          obtain ⟨t0, t1, t2⟩ := HS.out.2.all
          go_wp2_with fail
          exact ⟨_, by rw [HFX.out]; simp [upd, e8], rfl, HS.out, Below.refl _ _⟩
        · intro u W hS hd hp
          have HS := Lib.hid hS
          clear hS
          rw [HFX.out]
          clear hd hp 
          go_wp2_with fail
          exact ⟨_, by rw [HFX.out]; simp [upd], rfl, HS.out, Below.refl _ _⟩
        · intro u W hS hd hp
          have HS := Lib.hid hS
          clear hS
          obtain ⟨d9, d10, -⟩ := hd
          have e9 : u 9 = .slice (some ⟨g, off, none⟩) rs.length c3 := d9 rfl
          have e10 : u 10 = .int .i64 (k : Int) := d10 rfl
          rw [HFX.out]
          simp only [e9, e10]
          clear hp d9 d10
          go_wp2_with fail
          exact ⟨_, by rw [HFX.out]; simp [upd, e9, e10], rfl, HS.out, Below.refl _ _⟩
        · intro u W hS hd hp
          have HS := Lib.hid hS
          clear hS
          obtain ⟨d11, -⟩ := hd
          have e11 : u 11 = .pointer (some ⟨g, off + k * 2, none⟩) := d11 rfl
          rw [HFX.out]
          simp only [e11]
          clear hp d11
          go_wp2_with fail
          exact ⟨_, by rw [HFX.out]; simp [upd, e11], rfl, HS.out, Below.refl _ _⟩
        · intro u W hS hd hp
          have HS := Lib.hid hS
          clear hS
          obtain ⟨d12, -⟩ := hd
          have e12 : u 12 = .pointer (some ⟨g, off + k * 2 + 1, none⟩) := d12 rfl
          rw [HFX.out]
          simp only [e12]
          clear hp d12
          obtain ⟨c0, c1⟩ := HCC.out W HS.out.1
          go_wp2_with fail
          exact ⟨_, by rw [HFX.out]; simp [upd, e12], rfl, HS.out, Below.refl _ _⟩
        · intro u W hS hd hp
          have HS := Lib.hid hS
          clear hS
          obtain ⟨d13, -⟩ := hd
          have e13 : u 13 = .int .i64 d := d13 rfl
          rw [HFX.out]
          simp only [e13]
          clear hp d13
          go_wp2_with fail
          exact ⟨_, by rw [HFX.out]; simp [upd, e13], ⟨W.heap.size, rfl, HS.out.1.size, Blk.new W 3 #[.int .i64 d]⟩, ⟨HS.out.1.alloc HS.out.1.size _, HS.out.2.alloc _⟩, below_self_alloc _ _⟩
        · intro u W hS hd hp
          have HS := Lib.hid hS
          clear hS
          obtain ⟨d7, d14, -⟩ := hd
          obtain ⟨g7, e7, gb7, gk7⟩ : (rowV w.heap.size 9 #[.string ⟨#[114, 105, 103, 104, 116]⟩, .string nm] 2 2).p (u 7) (u 7) W := d7 rfl
          obtain ⟨g14, e14, gb14, gk14⟩ : (rowV w.heap.size 3 #[.int .i64 d] 1 1).p (u 14) (u 14) W := d14 rfl
          rw [HFX.out]
          simp only [e7, e14]
          clear hp d7 d14
          go_wp2_with fail
          refine (HLR.out W g7 g14 gk7 gk14).mono ?_
          rintro e W2 ⟨rfl, rfl⟩
          go_wp2_with fail
          exact ⟨_, by rw [HFX.out]; simp [upd, e7, e14], rfl, HS.out, Below.refl _ _⟩
        · intro u W hS hd hp
          have HS := Lib.hid hS
          clear hS
          obtain ⟨d0, d15, -⟩ := hd
          have e0 : u 0 = .string T := d0 rfl
          have e15 : u 15 = .string LR := d15 rfl
          rw [HFX.out]
          simp only [e0, e15]
          clear hp d0 d15
          go_wp2_with fail
          exact ⟨_, by rw [HFX.out]; simp [upd, e0, e15], rfl, HS.out, Below.refl _ _⟩
        · intro u W hS hd hp
          have HS := Lib.hid hS
          clear hS
          obtain ⟨d16, -⟩ := hd
          have e16 : u 16 = .string T2 := d16 rfl
          rw [HFX.out]
          simp only [e16]
          clear hp d16
          go_wp2_with fail
          exact ⟨_, by rw [HFX.out]; simp [upd, e16], rfl, HS.out, Below.refl _ _⟩
        intro u W hS hf
        have e17 : u 17 = .string T2 := hf 17 (by decide)
        rw [HFX.out]
        simp only [e17]
        have HBN := Lib.hid hS.1
        have KN := Lib.hid hS.2
        clear hf HFX F hS e17 HLR HCC hs2 HBr KR
        go_wp2
        go_roundw
        case rel => exact ⟨k + 1, T2, by omega, by go_num, rfl, HT2, HBN, KN⟩
        case measure => simp [intOf]; omega
      · obtain rfl : k = rs.length := by omega
        have hy := HT.out
        rw [List.take_length] at hy
        obtain ⟨Y, hY⟩ : ∃ Y, X ++ rtsL rs = Y := ⟨_, rfl⟩
        have hyl : Y.length ≤ 110000 := by
          have h1 := rtsL_len rs F9.out.1
          have h2 := F9.out.2.2
          rw [← hY, List.length_append]
          omega
        rw [hY] at hy
        have HY := Lib.hid hY
        have HY2 := Lib.hid hy
        clear hy hY HT
        obtain ⟨Wr, rfl⟩ : ∃ q, q = wr := ⟨wr, rfl⟩
        go_wp2_with fail
        go_loopg [4, 6] (ls.length) (fun nn v i wr => ∃ (k : Nat) (T : ByteArray), k + nn = ls.length ∧ i = .int .i64 (k : Int) ∧ v = .string T ∧ Hid (bs (Y ++ lmsL (ls.take k)) = T) ∧ Hid (Below w.heap.size w wr) ∧ Hid (Blk wr w.heap.size 27 #[.string id, .int .i64 o, .slice a1 cs.length c1, .string pr, .int .i64 st, .slice a2 mv.length c2, .slice a3 rs.length c3, .slice a4 ls.length c4]))
        case atStart => exact ⟨0, T, Nat.zero_add _, rfl, rfl, Lib.hid (by simpa [lmsL] using HY2.out), HBr, KR⟩
        case round =>
          clear t0 t1 t2 HBr KR HY2
          obtain ⟨k, T, hk, rfl, rfl, HT, HB0, KX⟩ := hrel
          obtain ⟨og, rfl⟩ : ∃ q, q = gk := ⟨gk, rfl⟩
          obtain ⟨t0, t1, t2⟩ := KX.out.all
          by_cases hlt : k < ls.length
          · obtain ⟨⟨⟨lid, n, uu, f, S⟩, Aj, cj⟩, hx⟩ : ∃ x, lv[k]? = some x := ⟨_, List.getElem?_eq_getElem (by have := H.out.len; simp only at this; omega)⟩
            have hxl : ls[k]? = some ⟨lid, n, uu, f, S⟩ := by
              have e := H.out.lv
              simp only at e
              rw [← e, List.getElem?_map, hx]
              rfl
            have hls : LmsAt w B a4 lv := H.out.ls
            obtain ⟨g, off, hA, hg, dc0, dc1, dc2, dc3, dc4, hLm⟩ := (hls.below (HB0.out.mono HBB.out)) k _ hx
            have hpr := F10.out.1 _ (List.mem_of_getElem? hxl)
            have nl := name_len (s := lid) (prB_iff.1 hpr).1
            have hS := (prB_iff.1 hpr).2.2.2.1
            have hps := limI_pos hpr
            have hwf := limI_wf hpr
            have tk := lmsL_take hxl
            have tl := lmsL_len (ls.take k) (fun r hr => F10.out.1 r (List.mem_of_mem_take hr))
            have tl2 : (ls.take k).length ≤ 60 := Nat.le_trans (List.length_take_le' _ _) F10.out.2.2
            have hln := limI_len ⟨lid, n, uu, f, S⟩
            simp only at dc0 dc1 dc2 dc3 dc4 nl tk hS hwf hps hln
            have q0 := below_self_alloc wr (.cells #[.string lid, .int .i64 n, .int .i64 uu, .int .i64 f, .slice Aj S.length cj] 65)
            have q1 := below_self_alloc (wr.alloc (.cells #[.string lid, .int .i64 n, .int .i64 uu, .int .i64 f, .slice Aj S.length cj] 65)) (.cells #[.int .i64 n, .int .i64 uu, .int .i64 f] 3)
            have kr := Blk.new wr 65 #[.string lid, .int .i64 n, .int .i64 uu, .int .i64 f, .slice Aj S.length cj]
            have kr2 := kr.alloc (.cells #[.int .i64 n, .int .i64 uu, .int .i64 f] 3)
            have hs1 : (wr.alloc (.cells #[.string lid, .int .i64 n, .int .i64 uu, .int .i64 f, .slice Aj S.length cj] 65)).heap.size = wr.heap.size + 1 := by simp
            have hs2 : ((wr.alloc (.cells #[.string lid, .int .i64 n, .int .i64 uu, .int .i64 f, .slice Aj S.length cj] 65)).alloc (.cells #[.int .i64 n, .int .i64 uu, .int .i64 f] 3)).heap.size = wr.heap.size + 2 := by simp
            have own0 := World.ownsRow_lit (base := wr.heap.size) (e := 3) (size := 1) (wr.alloc (.cells #[.string lid, .int .i64 n, .int .i64 uu, .int .i64 f, .slice Aj S.length cj] 65)) #[.int .i64 n, .int .i64 uu, .int .i64 f] 3 (by omega) (by unfold maxLen; omega) rfl
            rw [hs1] at own0
            have BZ := q0.trans (q1.mono q0.size)
            obtain ⟨wz, hwz⟩ : ∃ q, q = wr := ⟨wr, rfl⟩
            obtain ⟨zs, hzs⟩ : ∃ q, q = wr.heap.size := ⟨_, rfl⟩
            have OW0 : Hid (((wr.alloc (.cells #[.string lid, .int .i64 n, .int .i64 uu, .int .i64 f, .slice Aj S.length cj] 65)).alloc (.cells #[.int .i64 n, .int .i64 uu, .int .i64 f] 3)).ownsRow zs 3 1 (.slice (some ⟨zs + 1, 0, none⟩) 3 3) 3 (intCells ([n, uu, f] ++ (S.take 0).flatMap fun s => [s.1, s.2]))) := Lib.hid (hzs ▸ own0)
            have KR2 := Lib.hid (hzs ▸ kr2 : Blk ((wr.alloc (.cells #[.string lid, .int .i64 n, .int .i64 uu, .int .i64 f, .slice Aj S.length cj] 65)).alloc (.cells #[.int .i64 n, .int .i64 uu, .int .i64 f] 3)) zs 65 #[.string lid, .int .i64 n, .int .i64 uu, .int .i64 f, .slice Aj S.length cj])
            have HBZ : Hid (Below zs wz ((wr.alloc (.cells #[.string lid, .int .i64 n, .int .i64 uu, .int .i64 f, .slice Aj S.length cj] 65)).alloc (.cells #[.int .i64 n, .int .i64 uu, .int .i64 f] 3))) := Lib.hid (by rw [hwz, hzs]; exact BZ)
            have HLM : Hid (LmAt wz B Aj ⟨lid, n, uu, f, S⟩) := Lib.hid (by rw [hwz]; exact hLm)
            have HBz : Hid (Below w.heap.size w wz) := Lib.hid (by rw [hwz]; exact HB0.out)
            have KXz : Hid (Blk wz w.heap.size 27 #[.string id, .int .i64 o, .slice a1 cs.length c1, .string pr, .int .i64 st, .slice a2 mv.length c2, .slice a3 rs.length c3, .slice a4 ls.length c4]) := Lib.hid (by rw [hwz]; exact KX.out)
            have hzq : Hid (wz.heap.size = zs) := Lib.hid (by rw [hwz, hzs])
            have TK := Lib.hid tk
            have HPR := Lib.hid hpr
            have HWF := Lib.hid hwf
            have HPS := Lib.hid hps
            have ib0 : (0 : Int) ≤ (k : Int) := by omega
            have ib1 : (k : Int) < (ls.length : Int) := by omega
            obtain ⟨x0, x1, x2⟩ := kr.all
            obtain ⟨y0, y1, y2⟩ := kr2.all
            subst hA
            clear BZ own0 q0 q1 kr kr2 HB0 KX tk hx hxl hls hpr hLm hwf hps
            have HZS := Lib.hid hzs
            clear hzs hwz
            go_wp2_with fail
            rw [← HZS.out]
            go_loopg [8, 9] (S.length) (fun nn v i wr => ∃ (j : Nat) (A' : Option Addr) (cap N : Nat), j + nn = S.length ∧ Hid (N = 3 + j * 2) ∧ i = .int .i64 (j : Int) ∧ v = .slice A' N cap ∧ Hid (wr.ownsRow zs 3 1 (.slice A' N cap) N (intCells ([n, uu, f] ++ (S.take j).flatMap fun s => [s.1, s.2]))) ∧ Hid (Blk wr zs 65 #[.string lid, .int .i64 n, .int .i64 uu, .int .i64 f, .slice Aj S.length cj]) ∧ Hid (Below zs wz wr))
            case atStart => exact ⟨0, _, _, 3, Nat.zero_add _, Lib.hid rfl, rfl, rfl, OW0, KR2, HBZ⟩
            case round =>
              clear x0 x1 x2 y0 y1 y2 OW0 KR2 HBZ dc0 dc1 dc2 dc3 dc4 t0 t1 t2
              obtain ⟨j, A', cap, N, hj, HN, rfl, rfl, OW, KR, HBZ⟩ := hrel
              obtain ⟨x0, x1, x2⟩ := KR.out.all
              have hszr := HBZ.out.size
              have hzq' := hzq.out
              have hNb : N ≤ 130 := by have := HN.out; omega
              have HBr : Below wz.heap.size wz wr := by rw [hzq']; exact HBZ.out
              by_cases hlt2 : j < S.length
              · obtain ⟨⟨p, q⟩, hss⟩ : ∃ s, S[j]? = some s := ⟨_, List.getElem?_eq_getElem hlt2⟩
                obtain ⟨gs, os, hAs, hgs, e0, e1⟩ := HLM.out.1 j _ hss
                simp only at hAs e0 e1
                subst hAs
                have hcs : ∀ V, Below zs wz V → V.cell? ⟨gs, os + j * 2, none⟩ = some (.int .i64 p) ∧ V.cell? ⟨gs, os + j * 2 + 1, none⟩ = some (.int .i64 q) := fun V hV => by
                  have hgl : gs < zs := by have := HBz.out.size; have := HBB.out; omega
                  exact ⟨(hV.cell (p := ⟨gs, os + j * 2, none⟩) hgl).trans e0, (hV.cell (p := ⟨gs, os + j * 2 + 1, none⟩) hgl).trans e1⟩
                have HCS := Lib.hid hcs
                have TK2 := Lib.hid (limI_take hss)
                have jb0 : (0 : Int) ≤ (j : Int) := by omega
                have jb1 : (j : Int) < (S.length : Int) := by omega
                clear hcs e0 e1 hss HBr
                go_upto_region 16 with fail
                clear x0 x1 x2
                refine wp_region_hold (fun V => Blk V zs 65 #[.string lid, .int .i64 n, .int .i64 uu, .int .i64 f, .slice (some ⟨gs, os, none⟩) S.length cj] ∧ Below zs wz V) [0, 1, 2, 3, 4, 5, 6, 7, 8, 9, 10, 11, 12] [13] [14, 15] (by kernel_rfl) (by kernel_rfl) (fun _ d _ _ _ h => by cases d <;> exact h) ⟨KR.out.drew, HBZ.out.drew⟩ ?_
                simp only [pick, List.drop_succ_cons, List.drop_zero, List.head?_cons, Option.toList_some, List.cons_append, List.nil_append, List.append_nil]
                repeat (refine wpHeld_step ?_ rfl ?_ ?_; rotate_left; · (intro V hV; obtain ⟨v0, v1, v2⟩ := hV.1.all; obtain ⟨c0, c1⟩ := HCS.out V hV.2; go_simp; with_reducible rfl))
                refine wpHeld_nil ?_
                simp only [wpEarly]
                have KRd := KR.out.drew
                have HBd := HBZ.out.drew
                have OWd : (wr.drew).ownsRow zs 3 1 (.slice A' N cap) N (intCells ([n, uu, f] ++ (S.take j).flatMap fun s => [s.1, s.2])) := (Only.of_below (below_drew0 wr) (fun _ => False)).owns OW.out (fun _ _ h => h)
                clear OW KR HBZ
                generalize wr.drew = Wd at *
                have kn := Blk.new Wd 3 #[.int .i64 p, .int .i64 q]
                have own1 := OWd.alloc (.cells #[.int .i64 p, .int .i64 q] 3)
                have KR1 := Lib.hid (KRd.alloc (.cells #[.int .i64 p, .int .i64 q] 3))
                have HBZ1 := Lib.hid (HBd.alloc (by have := HBd.size; omega) (.cells #[.int .i64 p, .int .i64 q] 3))
                have hszd := HBZ1.out.size
                clear OWd KRd HBd
                go_wp2_with fail
                refine ⟨⟨KR1.out, HBZ1.out⟩, ?_⟩
                go_wp2_with (at_builtin; refine wpList_append_lies _ rfl _ _ 22 rfl zs 3 i0 _ 1 8 Tryz.underlying22 hi0 hz0 hz1 hz2 rfl (by omega) (.slice A' N cap) N _ rfl own1 ⟨Wd.heap.size, 0, none⟩ 2 2 [.int .i64 p, .int .i64 q] rfl rfl (World.news_of_block kn) (intCells_one [p, q]) (by omega) (by unfold maxLen; omega) (by omega) (by omega) _ rfl ?_; intro gz cz Y9 own9 gr9 l9 z9)
                have kr9 := KR1.out.grown gr9 (fun e => own_blk_ne own1 KR1.out (by decide) e.symm)
                have hb9 := HBZ1.out.grown gr9 (by omega) (fun k e => (World.ownsRow.lt own1 k e).1)
                have OW9 := Lib.hid own9
                have KR9 := Lib.hid kr9
                have HB9 := Lib.hid hb9
                clear own1 own9 gr9 l9 z9 kr9 hb9 kn KR1 HBZ1 HCS
                go_wp2
                go_roundg (gk - 1)
                case rel => exact ⟨j + 1, _, _, N + 2, by omega, Lib.hid (by have := HN.out; omega), by go_num, rfl, Lib.hid (by rw [TK2.out, ← List.append_assoc, intCells_app _ [p, q]]; exact OW9.out), KR9, HB9⟩
                case measure => omega
              · obtain rfl : j = S.length := by omega
                obtain ⟨wm, rfl⟩ : ∃ q, q = wr := ⟨wr, rfl⟩
                have own1 := OW.out
                rw [List.take_length] at own1
                obtain ⟨I, hI⟩ : ∃ I, limI ⟨lid, n, uu, f, S⟩ = I := ⟨_, rfl⟩
                have hI2 : [n, uu, f] ++ S.flatMap (fun s => [s.1, s.2]) = I := hI
                have hIl : I.length = N := by rw [← hI, hln, HN.out]; omega
                have hwfI := HWF.out
                have hpsI := HPS.out
                have tkI := TK.out
                rw [hI] at hwfI tkI hpsI
                rw [hI2] at own1
                have HBw := Lib.hid (HBz.out.trans (HBr.mono HBz.out.size))
                have KXw := Lib.hid (KXz.out.below HBr KXz.out.lt)
                have kn := Blk.new wm 9 #[.string ⟨#[108, 105, 109, 105, 116]⟩, .string lid]
                have HB8 := Lib.hid (HBw.out.alloc HBw.out.size (.cells #[.string ⟨#[108, 105, 109, 105, 116]⟩, .string lid] 9))
                have KX8 := Lib.hid (KXw.out.alloc (.cells #[.string ⟨#[108, 105, 109, 105, 116]⟩, .string lid] 9))
                have own2 := own1.alloc (.cells #[.string ⟨#[108, 105, 109, 105, 116]⟩, .string lid] 9)
                have hll := lineL_len (f := limitL ++ sL lid) (l := I) hwfI
                have e6 : limitL.length = 6 := rfl
                rw [List.length_append, hIl] at hll
                obtain ⟨LR, hLR⟩ : ∃ L, bs (lineL (limitL ++ sL lid) I) = L := ⟨_, rfl⟩
                obtain ⟨T2, hT2⟩ : ∃ L, bs (Y ++ lmsL (ls.take (k + 1))) = L := ⟨_, rfl⟩
                have hla : Calls Tryz.prog 37 #[.slice (some ⟨wm.heap.size, 0, none⟩) 2 2, .slice A' N cap] (wm.alloc (.cells #[.string ⟨#[108, 105, 109, 105, 116]⟩, .string lid] 9)) fun e w' => e = .returned (.string LR) ∧ (wm.alloc (.cells #[.string ⟨#[108, 105, 109, 105, 116]⟩, .string lid] 9)) = w' := by
                  have h := rline2_any _ _ (some ⟨wm.heap.size, 0, none⟩) [limitW, sL lid] 2 2 rfl (strs_blk kn _ rfl) A' I cap N hIl (IntsAt.of_row hIl own2) (fun x hx => ⟨hpsI x hx, (hwfI x hx).2⟩) (by simp [wjF, limitW]; omega) (by decide) (by omega)
                  have e : wj [limitW, sL lid] = limitL ++ sL lid := by simp [wj, wjF, limitL, limitW]
                  rw [e, hLR] at h
                  exact h
                have hs2 : ∀ W, (Op.stringOp .add T LR).run Tryz.prog W = .ok (.string T2) W := fun W => by
                  rw [← HT.out, ← hLR, ← hT2, tkI, ← List.append_assoc]
                  exact sum_bs _ _ (by rw [List.length_append]; omega) W
                have HLA := Lib.hid hla
                have HT2 := Lib.hid hT2
                clear hla own1 own2 OW hI hI2 hwfI tkI HBr hT2 hLR hll hpsI kn HBw KXw HN HT
                go_wp2_with fail
                generalize wm.alloc (.cells #[.string ⟨#[108, 105, 109, 105, 116]⟩, .string lid] 9) = W8 at *
                refine HLA.out.mono ?_
                rintro e w9 ⟨rfl, rfl⟩
                clear x0 x1 x2 HLA KR HBZ
                go_wp2
                go_roundg (og - 1)
                case rel => exact ⟨k + 1, T2, by omega, by go_num, rfl, HT2, HB8, KX8⟩
                case measure => omega
          · obtain rfl : k = ls.length := by omega
            have hfin := HT.out
            rw [List.take_length, ← HY.out, ← HX2.out] at hfin
            have e : textL ⟨id, o, cs, pr, st, mv, rs, ls⟩ = (lineL (headL ⟨id, o, cs, pr, st, mv, rs, ls⟩) [st] ++ (lineL caseL cs ++ lineL movedL mv) ++ rtsL rs) ++ lmsL ls := by simp [textL]
            rw [← e] at hfin
            have HFIN := Lib.hid hfin
            clear hfin e HT
            go_wp2
            go_ret2
            exact ⟨by rw [HFIN.out]; rfl, HB0.out⟩
end Go.Proofs.YtgfahifdmacmhaaGreatDoor
