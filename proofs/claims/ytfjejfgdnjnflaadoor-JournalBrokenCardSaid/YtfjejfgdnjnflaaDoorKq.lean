/- JournalBroken's walk. -/
import Derived.Test.YtfjejfgdnjnflaaDoorKo
namespace Go.Proofs.YtfjejfgdnjnflaaDoor
open Go.RowKit Go.Shelf

def aL : List (List UInt8) := [[97]]
theorem a_pieces (b : UInt8) : (piecesL (textR [[b]])).length = 1 := by
  have e : textR [[b]] = [c8 1, 58, b] := text_one (r := [b]) (by simp)
  rw [pieces_one (by rw [e]; simp) (by rw [e]; simp)]
  rfl
theorem writes_off {d : Dk} (ho : d.off = true) {c : Nat} {ps : List (List UInt8)} (hp : ps.length = 1) : d.steps (writesS c ps) = (d, 25) := by
  have hw : ∀ s t, d.write s t = (d, 25) := fun s t => by unfold Dk.write; rw [if_pos ho]
  unfold writesS
  rw [hp]
  have e : d.puts (2 + c) (List.replicate 1 zeroL) = (d, 25) := by
    show d.puts (2 + c) [zeroL] = (d, 25)
    unfold Dk.puts
    rw [hw, if_neg (by simp)]
  unfold Dk.steps
  rw [e, if_neg (by simp)]
/-- A power failure, and Appends after it. -/
theorem broken_facts {d : Dk} {x : Jn} {n : Nat} (h : Rest d x n) (y z : Int) :
    (d.fail y z).q = [] ∧ openS (d.fail y z) = (d.fail y z, none, 25) ∧
      ((n = x.cnt + 2 ∧ appendS (d.fail y z) x aL = (d.fail y z, x, 27) ∧ appendS (d.fail y z).start x aL = ((d.fail y z).start, x, 27)) ∨
        (x.cnt + 2 < n ∧ appendS (d.fail y z) x aL = (d.fail y z, { x with broken := true }, 25) ∧ appendS (d.fail y z).start { x with broken := true } aL = ((d.fail y z).start, { x with broken := true }, 12))) := by
  have hs := h.size
  obtain ⟨_, _, hoff, hq, _, _⟩ := Dk.fail_cr h.on.ok h.on.off y z
  have ha : (aL.any fun r => decide (20000 < r.length)) = false := by decide
  have hp : (piecesL (textR aL)).length = 1 := a_pieces 97
  refine ⟨hq, openS_off hoff, ?_⟩
  by_cases hn : n = x.cnt + 2
  · left
    have key : ∀ D : Dk, appendS D x aL = (D, x, 27) := fun D => by
      unfold appendS
      rw [if_neg (by simp [hs.2.2.2]), ha, if_neg (by decide), hp, if_pos (by omega)]
    exact ⟨hn, key _, key _⟩
  · right
    refine ⟨by omega, ?_, ?_⟩
    · unfold appendS
      rw [if_neg (by simp [hs.2.2.2]), ha, if_neg (by decide), hp, if_neg (by omega), if_neg (by decide), writes_off hoff hp]
      rfl
    · unfold appendS
      rw [if_pos rfl]

set_option maxRecDepth 100000 in
set_option maxHeartbeats 8000000 in
theorem broken_walk (w : World) (ht : Tbs w) (s : Int) (_ws : (Lit.int .i64 s).wf = true) (A : Option Addr) (c : Nat) (l : List OpJ) (h : OpsAt w w.heap.size A l) (y : Int) (_wy : (Lit.int .i64 y).wf = true) (z : Int) (_wz : (Lit.int .i64 z).wf = true) :
    Calls Tryd.prog 4 #[.int .i64 s, .slice A l.length c, .int .i64 y, .int .i64 z] w fun e w' => e = .returned (.bool true) ∧ Below w.heap.size w w' := by
  have HO := Lib.hid h
  have HT := Lib.hid ht
  clear h ht _ws _wy _wz
  go_enter Tryd.func4, Tryd.ntmps4
  go_wp2_with fail
  refine (head_any w HT.out).mono ?_
  rintro e w1 ⟨rfl, b1⟩
  have HL := Lib.hid (light_any w1 s A c l (HO.out.later b1))
  go_wp2_with fail
  refine HL.out.mono ?_
  rintro e w2 ⟨lt, rfl, hlt, b2⟩
  have hb2 := b1.trans (b2.mono b1.size)
  clear HL b1 b2
  cases lt with
  | false =>
    clear hlt
    go_wp2
    go_ret
    exact ⟨rfl, hb2⟩
  | true =>
    obtain ⟨h40, h16, h20⟩ := hlt rfl
    have HF := Lib.hid (filled_any w2 (HT.out.below hb2) s A c l (HO.out.later hb2) h40 h16 h20)
    have HTW := Lib.hid (HT.out.below hb2)
    clear hlt h16 h20 HO
    go_wp2_with fail
    refine HF.out.mono ?_
    rintro e w3 ⟨b3, hpost⟩
    clear HF
    rcases hpost with ⟨h3, v, rfl⟩ | ⟨h3, a, j, d, x, Ao, co, rfl, S3, o3, hR, hxl⟩
    · have hb3 := hb2.trans (b3.mono hb2.size)
      clear b3 hb2 h3
      go_wp2
      go_ret
      exact ⟨rfl, hb3⟩
    · have hsz := hR.size
      have HR := Lib.hid hR
      have HBF := Lib.hid (broken_facts hR y z)
      have hn1 : x.n ≤ 1000 := by omega
      have hc1 : x.cnt ≤ 1000 := by omega
      have hx1 : x.rs.length ≤ 1000000 := by omega
      have hxn : x.n = s.toNat := hsz.1
      clear hR b3
      have P4 := Lib.hid (S3.room (by omega) (by omega))
      go_wp2_with fail
      refine P4.out.mono ?_
      rintro e w4 ⟨rfl, b4⟩
      have S4 := S3.same b4
      have o4 := o3.below b4
      have P6 := Lib.hid (S4.lift fun F hF => fail_any hF y z)
      clear P4 S3 o3 b4
      go_wp2_with fail
      refine P6.out.mono ?_
      rintro e w6 ⟨rfl, S6, k6⟩
      have o6 := o4.keep k6 fun i hi => .inr hi
      have HR2 := Lib.hid (HR.out.fail y z)
      have b7 : Below w6.heap.size w6 (w6.alloc (.cells #[.string ⟨#[97]⟩] 9)) := (Below.refl _ w6).alloc (Nat.le_refl _) _
      have S7 := S6.more b7 (L := fun i => (i < w2.heap.size ∨ (Value.slice Ao x.rs.length co).ownBlock = some i) ∨ i = w6.heap.size) (fun i hi => hi.imp id (fun h => by subst h; simp))
      have i7 : StrsIn (w6.alloc (.cells #[.string ⟨#[97]⟩] 9)) (fun i => (i < w2.heap.size ∨ (Value.slice Ao x.rs.length co).ownBlock = some i) ∨ i = w6.heap.size) (some ⟨w6.heap.size, 0, none⟩) aL := lit_in w6 aL _
      have o7 := o6.below b7
      have hKo : ∀ i, (Value.slice Ao x.rs.length co).ownBlock = some i → (fun i => (i < w2.heap.size ∨ (Value.slice Ao x.rs.length co).ownBlock = some i) ∨ i = w6.heap.size) i := fun i hi => .inl (.inr hi)
      have P7 := Lib.hid (S7.append HTW.out _ 1 aL i7 hn1 hc1 (by decide) (by decide) hx1 (by rw [HBF.out.1]; exact Nat.zero_le _))
      generalize (fun i => (i < w2.heap.size ∨ (Value.slice Ao x.rs.length co).ownBlock = some i) ∨ i = w6.heap.size) = K1 at *
      clear P6 S4 o4 k6 HR S6 o6 S7 i7 b7
      go_wp2_with fail
      refine P7.out.mono ?_
      rintro e w8 ⟨rfl, S8, k8⟩
      have o8 := o7.keep k8 hKo
      clear P7 k8 o7
      rcases HBF.out.2.2 with ⟨hroom, ap1, ap2⟩ | ⟨hroom, ap1, ap2⟩
      · have AP2 := Lib.hid ap2
        have O1 := Lib.hid HBF.out.2.1
        have Q1 := Lib.hid HBF.out.1
        rw [ap1] at S8
        rw [ap1]
        simp only at S8 ⊢
        have er : (((x.n : Int) - 2 - (x.cnt : Int)) == 0) = true := by simp; omega
        clear HBF ap1 ap2 hroom
        generalize d.fail y z = d1 at *
        obtain ⟨J, L8, jat, hJ⟩ := S8.split
        have P9 := Lib.hid (L8.open_none HTW.out (by rw [Q1.out]; exact Nat.zero_le _) O1.out)
        go_wp2_with fail
        refine P9.out.mono ?_
        rintro e w9 ⟨rfl, L9, k9⟩
        have o9 := o8.keep k9 fun i hi => .inl (hKo i hi)
        have S9 : Ses w2 w9 a d1 j x K1 := ⟨J, L9, jat.keep k9 (fun i hi => .inr hi), hJ⟩
        have P10 := Lib.hid (S9.lift fun F hF => startany hF)
        clear P9 L8 jat hJ S8 o8 L9 k9 S9 Q1
        go_wp2_with fail
        refine P10.out.mono ?_
        rintro e w10 ⟨rfl, S10, k10⟩
        have o10 := o9.keep k10 hKo
        have b11 : Below w10.heap.size w10 (w10.alloc (.cells #[.string ⟨#[97]⟩] 9)) := (Below.refl _ w10).alloc (Nat.le_refl _) _
        have S11 := S10.more b11 (L := fun i => K1 i ∨ i = w10.heap.size) (fun i hi => hi.imp id (fun h => by subst h; simp))
        have i11 : StrsIn (w10.alloc (.cells #[.string ⟨#[97]⟩] 9)) (fun i => K1 i ∨ i = w10.heap.size) (some ⟨w10.heap.size, 0, none⟩) aL := lit_in w10 aL _
        have o11 := o10.below b11
        have hKo2 : ∀ i, (Value.slice Ao x.rs.length co).ownBlock = some i → (fun i => K1 i ∨ i = w10.heap.size) i := fun i hi => .inl (hKo i hi)
        generalize hD : d1.start = D at *
        have p11 := S11.append HTW.out _ 1 aL i11 hn1 hc1 (by decide) (by decide) hx1 (by rw [HR2.out.q]; exact Nat.zero_le _)
        rw [AP2.out] at p11
        have P11 := Lib.hid p11
        generalize (fun i => K1 i ∨ i = w10.heap.size) = K2 at *
        clear P10 o9 k10 S10 o10 b11 S11 i11 p11 hD
        go_wp2_with fail
        refine P11.out.mono ?_
        rintro e w12 ⟨rfl, S12, k12⟩
        have o12 := o11.keep k12 hKo2
        have P13 := Lib.hid (S12.live.open_some HTW.out (by rw [HR2.out.q]; exact Nat.zero_le _) HR2.out.open)
        clear P11 k12 o11 S12
        go_wp2_with fail
        refine P13.out.mono ?_
        rintro e w13 ⟨jk, Ag, cg, Bg, rfl, S13, og, hBg, k13⟩
        have o13 := o12.keep k13 hKo2
        have hb13 : Below w2.heap.size w2 w13 := S13.live.below
        have P14 := Lib.hid (same_yes w13 Ag Ao cg co x.rs og.strsAt o13.strsAt hx1)
        clear P13 S13 hBg k13 o12 og o13
        go_wp2_with fail
        refine P14.out.mono ?_
        rintro e w14 ⟨rfl, b14⟩
        have hb14 := hb2.trans ((hb13.trans (b14.mono hb13.size)).mono hb2.size)
        clear P14 b14 hb13 hb2
        go_wp2
        go_ret
        exact ⟨rfl, hb14⟩
      · have AP2 := Lib.hid ap2
        have O1 := Lib.hid HBF.out.2.1
        have Q1 := Lib.hid HBF.out.1
        rw [ap1] at S8
        rw [ap1]
        simp only at S8 ⊢
        have er : (((x.n : Int) - 2 - (x.cnt : Int)) == 0) = false := by simp; omega
        clear HBF ap1 ap2
        generalize d.fail y z = d1 at *
        obtain ⟨J, L8, jat, hJ⟩ := S8.split
        have P9 := Lib.hid (L8.open_none HTW.out (by rw [Q1.out]; exact Nat.zero_le _) O1.out)
        go_wp2_with fail
        refine P9.out.mono ?_
        rintro e w9 ⟨rfl, L9, k9⟩
        have o9 := o8.keep k9 fun i hi => .inl (hKo i hi)
        have S9 : Ses w2 w9 a d1 j { x with broken := true } K1 := ⟨J, L9, jat.keep k9 (fun i hi => .inr hi), hJ⟩
        have P10 := Lib.hid (S9.lift fun F hF => startany hF)
        clear P9 L8 jat hJ S8 o8 L9 k9 S9 Q1
        go_wp2_with fail
        refine P10.out.mono ?_
        rintro e w10 ⟨rfl, S10, k10⟩
        have o10 := o9.keep k10 hKo
        have b11 : Below w10.heap.size w10 (w10.alloc (.cells #[.string ⟨#[97]⟩] 9)) := (Below.refl _ w10).alloc (Nat.le_refl _) _
        have S11 := S10.more b11 (L := fun i => K1 i ∨ i = w10.heap.size) (fun i hi => hi.imp id (fun h => by subst h; simp))
        have i11 : StrsIn (w10.alloc (.cells #[.string ⟨#[97]⟩] 9)) (fun i => K1 i ∨ i = w10.heap.size) (some ⟨w10.heap.size, 0, none⟩) aL := lit_in w10 aL _
        have o11 := o10.below b11
        have hKo2 : ∀ i, (Value.slice Ao x.rs.length co).ownBlock = some i → (fun i => K1 i ∨ i = w10.heap.size) i := fun i hi => .inl (hKo i hi)
        generalize hD : d1.start = D at *
        have p11 := S11.append HTW.out _ 1 aL i11 hn1 hc1 (by decide) (by decide) hx1 (by rw [HR2.out.q]; exact Nat.zero_le _)
        rw [AP2.out] at p11
        have P11 := Lib.hid p11
        generalize (fun i => K1 i ∨ i = w10.heap.size) = K2 at *
        clear P10 o9 k10 S10 o10 b11 S11 i11 p11 hD
        go_wp2_with fail
        refine P11.out.mono ?_
        rintro e w12 ⟨rfl, S12, k12⟩
        have o12 := o11.keep k12 hKo2
        obtain ⟨J, L12, jat, hJ⟩ := S12.split
        have P13 := Lib.hid (L12.open_some HTW.out (by rw [HR2.out.q]; exact Nat.zero_le _) HR2.out.open)
        clear P11 k12 o11 S12 hJ
        go_wp2_with fail
        refine P13.out.mono ?_
        rintro e w13 ⟨jk, Ag, cg, Bg, rfl, S13, og, hBg, k13⟩
        have o13 := o12.keep k13 fun i hi => .inl (hKo2 i hi)
        have jat13 := jat.keep k13 fun i hi => .inr hi
        have hb13 : Below w2.heap.size w2 w13 := S13.live.below
        have P14 := Lib.hid (records_any w13 _ a j J { x with broken := true } jat13 hx1)
        clear P13 S13 hBg k13 o12 jat
        go_wp2_with fail
        refine P14.out.mono ?_
        rintro e w14 ⟨v, rfl, or, b14⟩
        obtain ⟨Ar, cr, rfl⟩ := or.form
        have o14 := o13.below b14
        have og14 := og.below b14
        have jat14 := jat13.below b14
        have hb14 := hb13.trans (b14.mono hb13.size)
        have P15 := Lib.hid (same_yes w14 Ar Ao cr co x.rs or.strsAt o14.strsAt hx1)
        simp only at *
        clear P14 b14 hb13 o13 og jat13 or
        go_wp2_with fail
        refine P15.out.mono ?_
        rintro e w15 ⟨rfl, b15⟩
        have o15 := o14.below b15
        have og15 := og14.below b15
        have hb15 := hb14.trans (b15.mono hb14.size)
        have P16 := Lib.hid (room_at w15 _ a j J { x with broken := true } (jat14.below b15) (by simp only; omega) (by simp only; omega))
        simp only at *
        clear P15 b15 hb14 o14 og14 jat14
        go_wp2_with fail
        refine P16.out.mono ?_
        rintro e w16 ⟨rfl, b16⟩
        have hb16 := hb15.trans (b16.mono hb15.size)
        have P17 := Lib.hid (same_yes w16 Ag Ao cg co x.rs (og15.below b16).strsAt (o15.below b16).strsAt hx1)
        clear P16 b16 hb15 o15 og15
        go_wp2_with fail
        refine P17.out.mono ?_
        rintro e w17 ⟨rfl, b17⟩
        have hb17 := hb2.trans ((hb16.trans (b17.mono hb16.size)).mono hb2.size)
        clear P17 b17 hb16 hb2
        go_wp2
        go_ret
        exact ⟨rfl, hb17⟩
end Go.Proofs.YtfjejfgdnjnflaaDoor
