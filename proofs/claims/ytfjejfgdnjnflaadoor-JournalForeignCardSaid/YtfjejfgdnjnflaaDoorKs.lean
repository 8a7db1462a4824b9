/- JournalForeign's walk. -/
import Derived.Test.YtfjejfgdnjnflaaDoorKo
namespace Go.Proofs.YtfjejfgdnjnflaaDoor
open Go.RowKit Go.Shelf

theorem JOn.opens {d : Dk} {x : Jn} (h : JOn d x) (ha : d.arm = none) : openS d = (d, some x, 0) := by
  rcases open_on h.ok h.off h.good with ⟨d', h1, _, _, _, _, h6⟩ | ⟨_, _, h1, _⟩
  · rw [h6 h.heads] at h1
    rw [h1]
    have hn := h.n
    have hf := h.fine
    obtain ⟨a, b, c, e⟩ := x
    simp only at hn hf ⊢
    rw [hn, hf]
  · exact absurd ha h1
theorem Dk.steps_q : ∀ (L : List (Nat × List (List UInt8))) (d : Dk), (∀ x ∈ L, x.2.length = 1) → (d.steps L).1.q.length ≤ d.q.length + L.length
  | [], d, _ => Nat.le_refl _
  | (p, l) :: L, d, h => by
    have h1 := Dk.puts_q l d p
    have h2 : l.length = 1 := h (p, l) List.mem_cons_self
    unfold Dk.steps
    split
    · have := Dk.steps_q L (d.puts p l).1 fun x hx => h x (List.mem_cons_of_mem _ hx)
      simp only [List.length_cons]
      omega
    · simp only [List.length_cons]
      omega
theorem mendL_one {p c : Nat} {v : List UInt8} : (∀ x ∈ mendL p v c, x.2.length = 1) ∧ (mendL p v c).length ≤ 2 := by
  unfold mendL
  split
  · exact ⟨by simp, by simp⟩
  · split
    · refine ⟨fun x hx => ?_, by simp⟩
      simp only [List.mem_cons, List.not_mem_nil, or_false] at hx
      rcases hx with rfl | rfl <;> rfl
    · refine ⟨fun x hx => ?_, by simp⟩
      simp only [List.mem_cons, List.not_mem_nil, or_false] at hx
      subst hx
      rfl
theorem mendsL_q (d : Dk) (f : Nat → List UInt8) (c : Nat) : (d.steps (mendsL f c)).1.q.length ≤ d.q.length + 4 := by
  have h0 := mendL_one (p := 0) (c := c) (v := f 0)
  have h1 := mendL_one (p := 1) (c := c) (v := f 1)
  have := Dk.steps_q (mendsL f c) d fun x hx => (List.mem_append.1 hx).elim (h0.1 x) (h1.1 x)
  have e : (mendsL f c).length ≤ 4 := by unfold mendsL; rw [List.length_append]; omega
  omega
theorem Good.rows {n c : Nat} {f : Nat → List UInt8} {rs : List (List UInt8)} (h : Good n f c rs) : rs.length ≤ 46 * n := by
  have hle := h.le
  obtain ⟨T, h1, h2⟩ := h.body
  have h3 := foundP_len _ _ _ h1
  have h4 := textR_rows rs
  rw [← (parse_some h2).1] at h4
  have : (listF c fun i => f (2 + i)).length = c := by simp [listF]
  rw [this] at h3
  omega
/-- A disk that is on and cannot fail, some writes pending. -/
structure Wr (d : Dk) (n k : Nat) : Prop where
  ok : d.Ok
  off : d.off = false
  arm : d.arm = none
  n : d.n = n
  q : d.q.length = k
theorem Wr.write {d : Dk} {n k : Nat} (h : Wr d n k) {t : List UInt8} (hk : k < n) (ht : t.length = 64) : (d.write (k : Int) (bs t)).2 = 0 ∧ Wr (d.write (k : Int) (bs t)).1 n (k + 1) := by
  rcases Dk.write_on h.ok h.off (p := k) (x := t) (by rw [h.n]; exact hk) ht with ⟨h1, h2, h3, h4, _, h6, h7⟩ | ⟨_, h1, _⟩
  · refine ⟨h1, h2, h3, h7 h.arm, h4.trans h.n, ?_⟩
    have := congrArg List.length h6
    simp only [toW, List.length_map, List.length_append, List.length_singleton] at this
    rw [this, h.q]
  · exact absurd h.arm h1
/-- What Open finds on such a disk. -/
theorem Wr.open {d : Dk} {n k : Nat} (h : Wr d n k) (hn : 3 ≤ n) (hk : k ≤ 100) : openS d = (d, none, 26) ∨ ∃ d' x, openS d = (d', some x, 0) ∧ JOn d' x ∧ d'.arm = none ∧ d'.q.length ≤ 200 ∧ d'.n = n ∧ x.rs.length ≤ 46 * n := by
  by_cases hg : ∃ c rs, Good d.n d.vw c rs
  · right
    obtain ⟨c, rs, hg⟩ := hg
    have hq := mendsL_q d d.vw c
    have hkq := h.q
    have e := openS_good h.off hg
    rcases open_on h.ok h.off hg with ⟨d', h1, h2, h3, h4, _, _⟩ | ⟨_, _, h1, _⟩
    · refine ⟨d', _, h1, h2, h4 h.arm, ?_, h3.trans h.n, ?_⟩
      · rw [h1] at e
        split at e
        · injection e with e _
          rw [e]
          omega
        · injection e with _ e
          injection e with e _
          cases e
      · have := hg.rows
        rw [h.n] at this
        exact this
    · exact absurd h.arm h1
  · exact .inl (openS_bad h.off (by rw [h.n]; exact hn) fun c rs hc => hg ⟨c, rs, hc⟩)
def xL : List (List UInt8) := [[120]]
theorem x_pieces : (piecesL (textR xL)).length = 1 := by
  have e : textR xL = [c8 1, 58, 120] := text_one (r := [120]) (by simp)
  rw [pieces_one (by rw [e]; simp) (by rw [e]; simp)]
  rfl
/-- One more record. -/
theorem add_one {d : Dk} {x : Jn} {n : Nat} (h : JOn d x) (ha : d.arm = none) (hn : d.n = n) (hp : (piecesL (textR xL)).length = 1) :
    (n = x.cnt + 2 ∧ appendS d x xL = (d, x, 27)) ∨ (x.cnt + 2 < n ∧ ∃ d' x', appendS d x xL = (d', x', 0) ∧ JOn d' x' ∧ d'.arm = none ∧ d'.q.length ≤ 200 ∧ x'.rs = x.rs ++ xL) := by
  have hle := h.good.le
  have hxn := h.n
  rcases append_on h xL with ⟨⟨r, hr, h1⟩, _⟩ | ⟨_, ⟨h1, e⟩ | ⟨h2, ⟨h1, _⟩ | ⟨_, ⟨d', e, h3, h4, h5, h6, _⟩ | ⟨_, _, h1, _⟩⟩⟩⟩
  · exfalso
    rw [List.mem_singleton.1 hr] at h1
    exact absurd h1 (by decide)
  · rw [hp] at h1
    exact .inl ⟨by omega, e⟩
  · exact absurd h1 (by decide)
  · rw [hp] at h2
    exact .inr ⟨by omega, d', _, e, h3, h5 ha, by rw [h6]; exact Nat.zero_le _, rfl⟩
  · exact absurd ha h1

theorem refZero_any (w : World) : Calls Tryd.prog 19 #[] w fun e w' => e = .returned (.string (bs zeroL)) ∧ Below w.heap.size w w' := by
  have hz : Calls Tryd.prog 47 #[.int .i64 64] w fun e w' => e = .returned (.string (bs zeroL)) ∧ Below w.heap.size w w' := by
    have mk : (Instr.makeSlice 52 (.int .i64 64) (.int .i64 64)).run Tryd.prog w = .ok (.slice (some ⟨w.heap.size, 0, none⟩) 64 64) (w.alloc (.cells (List.replicate 64 (.int .u8 0)).toArray 5)) := zeros_make 64 (by omega) w
    have kn := Blk.new w 5 (List.replicate 64 (.int .u8 0)).toArray
    have hb := (Below.refl w.heap.size w).alloc (Nat.le_refl _) (.cells (List.replicate 64 (.int .u8 0)).toArray 5)
    have cv : (convert 52 9 (.slice (some ⟨w.heap.size, 0, none⟩) 64 64)).run Tryd.prog (w.alloc (.cells (List.replicate 64 (.int .u8 0)).toArray 5)) = .ok (.string (bs zeroL)) _ := zeros_text 64 _ _ kn
    clear kn
    generalize w.alloc (.cells (List.replicate 64 (.int .u8 0)).toArray 5) = w2 at *
    generalize zeroL = Z at *
    go_enter Tryd.func47, Tryd.ntmps47
    go_wp2
    go_ret
    exact ⟨rfl, hb⟩
  generalize zeroL = Z at *
  go_enter Tryd.func19, Tryd.ntmps19
  go_wp2_with fail
  refine hz.mono ?_
  rintro e w1 ⟨rfl, b1⟩
  go_wp2
  go_ret
  exact ⟨rfl, b1⟩

set_option maxRecDepth 100000 in
set_option maxHeartbeats 8000000 in
theorem foreign_walk (w : World) (ht : Tbs w) (A : Option Addr) (c : Nat) (l : List (List UInt8)) (h : StrsAt w w.heap.size A l ∧ l.length ≤ 9223372036854775807) :
    Calls Tryd.prog 5 #[.slice A l.length c] w fun e w' => e = .returned (.bool true) ∧ Below w.heap.size w w' := by
  obtain ⟨h, hl63⟩ := h
  obtain ⟨i0, hi0, hz0, hz1, hz2⟩ := info_parts Tryd.infoStr
  have HS := Lib.hid h
  have HT := Lib.hid ht
  clear h ht
  by_cases h3 : l.length < 3
  · have d1 : decide ((l.length : Int) < 3) = true := decide_eq_true (by omega)
    clear h3
    go_enter Tryd.func5, Tryd.ntmps5
    go_wp2_with fail
    refine (head_any w HT.out).mono ?_
    rintro e w1 ⟨rfl, b1⟩
    go_wp2
    go_ret
    exact ⟨rfl, b1⟩
  have d1 : decide ((l.length : Int) < 3) = false := decide_eq_false (by omega)
  by_cases h40 : 40 < l.length
  · have d2 : decide (40 < (l.length : Int)) = true := decide_eq_true (by omega)
    clear h3 h40
    go_enter Tryd.func5, Tryd.ntmps5
    go_wp2_with fail
    refine (head_any w HT.out).mono ?_
    rintro e w1 ⟨rfl, b1⟩
    go_wp2
    go_ret
    exact ⟨rfl, b1⟩
  have d2 : decide (40 < (l.length : Int)) = false := decide_eq_false (by omega)
  go_enter Tryd.func5, Tryd.ntmps5
  go_wp2_with fail
  refine (head_any w HT.out).mono ?_
  rintro e w1 ⟨rfl, b1⟩
  have P := Lib.hid (new_yes w1 l.length (by omega) (by omega))
  go_wp2_with fail
  refine P.out.mono ?_
  rintro e w2 ⟨a, rfl, b2, ga, hD⟩
  have L2 : Live w w2 a (Dk.new l.length) (fun _ => False) := Live.of_new b1 b2 hD
  have W2 := Lib.hid (show Wr (Dk.new l.length) l.length 0 from ⟨new_ok (by omega) (by omega), rfl, rfl, rfl, rfl⟩)
  clear P b2 ga hD b1
  go_wp2_with fail
  go_loopw [5] (fun v wr => ∃ (k : Nat) (d : Dk), k ≤ l.length ∧ v = .int .i64 (k : Int) ∧ Live w wr a d (fun _ => False) ∧ Hid (Wr d l.length k)) (fun v _ => l.length - (intOf v).toNat)
  case atStart => exact ⟨0, _, Nat.zero_le _, rfl, L2, W2⟩
  case round =>
    clear L2 W2
    obtain ⟨k, d, hk, rfl, L, HW⟩ := hrel
    by_cases hlt : k < l.length
    · obtain ⟨s, hs⟩ : ∃ s, l[k]? = some s := ⟨_, List.getElem?_eq_getElem hlt⟩
      obtain ⟨g, off, rfl, hg, hc0⟩ := HS.out k s hs
      have hcell := (L.below.cell (p := ⟨g, off + k, none⟩) hg).trans hc0
      have hki : (k : Int) < (l.length : Int) := by omega
      have hk0 : (0 : Int) ≤ (k : Int) := by omega
      have hsz := bs_size s
      clear hc0 hs
      by_cases h100 : 100 < s.length
      · have d3 : decide (100 < (s.length : Int)) = true := decide_eq_true (by omega)
        have hb := L.below
        clear h100
        go_wp2
        go_ret
        exact ⟨rfl, hb⟩
      · have d3 : decide (100 < (s.length : Int)) = false := decide_eq_false (by omega)
        have hzl := zeroL_len
        have hsum := sum_bs s zeroL (by omega)
        have hsl : ∀ W : World, (Instr.slice 9 (.string (bs (s ++ zeroL))) none (some (.int .i64 64)) none).run Tryd.prog W = .ok (.string (bs ((s ++ zeroL).take 64))) W := fun W => sl_to (s ++ zeroL) 64 (by rw [List.length_append]; omega) W
        have htl : ((s ++ zeroL).take 64).length = 64 := by rw [List.length_take, List.length_append]; omega
        have hwr := HW.out.write hlt htl
        have hkq := HW.out.q
        have hrz := fun W => refZero_any W
        go_upto_region 10 with fail
        go_cut [6] from 41 to 46 (fun v wx => v = .string (bs (s ++ zeroL)) ∧ Below wr.heap.size wr wx)
        case first =>
          generalize zeroL = Z at *
          refine wp_region_hold (fun W => W.cell? ⟨g, off + k, none⟩ = some (.string (bs s))) [0, 1, 2, 3] [4] [5, 6] (by kernel_rfl) (by kernel_rfl) (fun _ d _ _ _ h => by cases d <;> exact h) hcell ?_
          simp only [pick, List.drop_succ_cons, List.drop_zero, List.head?_cons, Option.toList_some, List.cons_append, List.nil_append, List.append_nil]
          repeat (refine wpHeld_step ?_ rfl ?_ ?_; rotate_left; · (intro W hW; go_simp; with_reducible rfl))
          refine wpHeld_nil ?_
          simp only [wpEarly]
          go_wp2_with fail
          refine (hrz _).mono ?_
          rintro e w3 ⟨rfl, b3⟩
          have hb3 : Below wr.heap.size wr w3 := below_drew b3
          have hc3 := (hb3.cell (p := ⟨g, off + k, none⟩) (World.block_lt_of_cell? _ _ hcell)).trans hcell
          clear b3 hcell
          go_wp2_with fail
          refine ⟨hc3, ?_⟩
          go_wp2_with fail
          go_meet
          exact ⟨rfl, hb3⟩
        case rest =>
          obtain ⟨rfl, hbx⟩ := hcut
          have Lx := L.same hbx
          generalize hT : (s ++ zeroL).take 64 = T at *
          generalize s ++ zeroL = X at *
          have PW := Lib.hid (Lx.lift fun F hF => write_any hF (show d.q.length < 4096 by omega) (k : Int) (bs T))
          generalize d.write (k : Int) (bs T) = r at *
          obtain ⟨d2, e2⟩ := r
          obtain ⟨he, hW2⟩ := hwr
          simp only at he hW2
          subst he
          have HW2 := Lib.hid hW2
          clear hW2 HW L hbx Lx hT htl hsum hrz
          go_wp2_with fail
          refine PW.out.mono ?_
          rintro e w4 ⟨rfl, L4, k4⟩
          clear PW
          go_wp2
          go_roundw
          case rel => exact ⟨k + 1, d2, by omega, by go_num, L4, HW2⟩
          case measure => simp [intOf]; omega
    · obtain rfl : k = l.length := by omega
      have hq := HW.out.q
      rcases HW.out.open (by omega) (by omega) with hop | ⟨d', x, hop, hJ, ha, hq', hn', hrl⟩
      · have P := Lib.hid (L.open_none (HT.out) (by omega) hop)
        clear hop HW L
        go_wp2_with fail
        refine P.out.mono ?_
        rintro e w3 ⟨rfl, L3, k3⟩
        have hb := L3.below
        clear P L3 k3
        go_wp2
        go_ret
        exact ⟨rfl, hb⟩
      · have P := Lib.hid (L.open_some HT.out (by omega) hop)
        have hle := hJ.good.le
        have hxn := hJ.n
        have HA := Lib.hid (add_one hJ ha hn' x_pieces)
        have HJ := Lib.hid (And.intro hJ ha)
        clear hop HW L hq hJ
        go_wp2_with fail
        refine P.out.mono ?_
        rintro e w3 ⟨j, Al, cl, B, rfl, S3, o3, hB, k3⟩
        have P4 := Lib.hid (S3.room (by omega) (by omega))
        have hKo : ∀ i, (Value.slice Al x.rs.length cl).ownBlock = some i → (fun i => False ∨ (B ≤ i ∧ i < w3.heap.size)) i := fun i hi => .inr (World.ownsRow.lt o3 i hi)
        generalize (fun i => False ∨ (B ≤ i ∧ i < w3.heap.size)) = K1 at *
        clear P k3
        go_wp2_with fail
        refine P4.out.mono ?_
        rintro e w4 ⟨rfl, b4⟩
        have S4 := S3.same b4
        have o4 := o3.below b4
        have b5 : Below w4.heap.size w4 (w4.alloc (.cells #[.string ⟨#[120]⟩] 9)) := (Below.refl _ w4).alloc (Nat.le_refl _) _
        have S5 := S4.more b5 (L := fun i => K1 i ∨ i = w4.heap.size) (fun i hi => hi.imp id (fun h => by subst h; simp))
        have i5 : StrsIn (w4.alloc (.cells #[.string ⟨#[120]⟩] 9)) (fun i => K1 i ∨ i = w4.heap.size) (some ⟨w4.heap.size, 0, none⟩) xL := lit_in w4 xL _
        have o5 := o4.below b5
        have hKo2 : ∀ i, (Value.slice Al x.rs.length cl).ownBlock = some i → (fun i => K1 i ∨ i = w4.heap.size) i := fun i hi => .inl (hKo i hi)
        generalize (fun i => K1 i ∨ i = w4.heap.size) = K2 at *
        have p5 := S5.append HT.out _ 1 xL i5 (by omega) (by omega) (by decide) (by decide) (by omega) (by omega)
        have hx1 : x.rs.length ≤ 1000000 := by omega
        clear P4 S3 o3 S4 b4 o4 i5 b5 S5
        rcases HA.out with ⟨hroom, ap⟩ | ⟨hroom, d2, x2, ap, hJ2, ha2, hq2, hrs2⟩
        · rw [ap] at p5
          have P5 := Lib.hid p5
          have er : decide (0 < (x.n : Int) - 2 - (x.cnt : Int)) = false := decide_eq_false (by omega)
          clear p5 HA ap
          go_wp2_with fail
          refine P5.out.mono ?_
          rintro e w6 ⟨rfl, S6, k6⟩
          have o6 := o5.keep k6 hKo2
          have P7 := Lib.hid (S6.live.open_some HT.out (by omega) (HJ.out.1.opens HJ.out.2))
          clear P5 o5 k6 S6
          go_wp2_with fail
          refine P7.out.mono ?_
          rintro e w7 ⟨j2, Am, cm, B2, rfl, S7, o7, hB2, k7⟩
          have oo7 := o6.keep k7 hKo2
          have hb7 := S7.live.below
          have P8 := Lib.hid (same_yes w7 Al Am cl cm x.rs oo7.strsAt o7.strsAt hx1)
          clear P7 S7 hB2 k7 o6 o7 oo7
          go_wp2_with fail
          refine P8.out.mono ?_
          rintro e w8 ⟨rfl, b8⟩
          have hb8 := hb7.trans (b8.mono hb7.size)
          clear P8 b8 hb7
          go_wp2
          go_ret
          exact ⟨rfl, hb8⟩
        · rw [ap] at p5
          have P5 := Lib.hid p5
          have er : decide (0 < (x.n : Int) - 2 - (x.cnt : Int)) = true := decide_eq_true (by omega)
          have HJ2 := Lib.hid (And.intro hJ2 ha2)
          have HRS := Lib.hid hrs2
          clear p5 HA ap hJ2 HJ hrs2
          go_wp2_with fail
          refine P5.out.mono ?_
          rintro e w6 ⟨rfl, S6, k6⟩
          have o6 := o5.keep k6 hKo2
          clear P5 o5 k6
          have own0 : (w6.alloc (.cells #[] 9)).ownsRow w6.heap.size 9 1 (.slice (some ⟨w6.heap.size, 0, none⟩) 0 0) 0 [] := World.ownsRow_lit w6 #[] 0 (Nat.le_refl _) (by unfold maxLen; omega) rfl
          have b7 : Below w6.heap.size w6 (w6.alloc (.cells #[] 9)) := (Below.refl _ w6).alloc (Nat.le_refl _) _
          have o7 := o6.below b7
          have hnews : ∀ (i : Nat) (u : Value), (x.rs.map sv)[i]? = some u → ∃ ad, Al = some ad ∧ (w6.alloc (.cells #[] 9)).cell? (ad.add i) = some u := fun i u hu => by
            rw [List.getElem?_map, Option.map_eq_some_iff] at hu
            obtain ⟨s', hs', rfl⟩ := hu
            obtain ⟨g', off', h1, h2, h3⟩ := o7.strsAt i s' hs'
            refine ⟨_, h1, ?_⟩
            have hadd : (⟨g', off', none⟩ : Addr).add i = ⟨g', off' + i, none⟩ := by unfold Addr.add; split <;> simp_all
            rw [hadd]
            exact h3
          have HNW := Lib.hid hnews
          clear hnews
          go_wp2_with (first | (at_builtin; refine wpList_append_any rfl _ _ 27 rfl w6.heap.size 9 i0 _ 1 16 Tryd.underlying27 hi0 hz0 hz1 hz2 rfl (by omega) (.slice (some ⟨w6.heap.size, 0, none⟩) 0 0) 0 [] rfl own0 Al x.rs.length cl (x.rs.map sv) rfl (by simp) HNW.out (sv_one x.rs) (by unfold maxLen; omega) (by omega) (by simp) ?_; intro v4 w8 own4 gr4 l) | (have own5 := World.ownsRow.alloc own4 (.cells #[.string ⟨#[120]⟩] 9); have kn := Blk.new w8 9 #[sv [120]]; at_builtin; refine wpList_append_lies _ rfl _ _ 27 rfl w6.heap.size 9 i0 _ 1 16 Tryd.underlying27 hi0 hz0 hz1 hz2 rfl (by omega) v4 (0 + x.rs.length) ([] ++ x.rs.map sv) rfl own5 ⟨w8.heap.size, 0, none⟩ 1 1 [sv [120]] rfl rfl (World.news_of_block kn) (sv_one [[120]]) (by omega) (by unfold maxLen; omega) (by omega) (by have h1 := b7.size; have h2 := gr4.size; simp at h1 h2 ⊢; omega) (w8.heap.size + 1) (by simp) ?_; intro gz cz Y own9 gr9 l9 z9))
          have b8 : Below w6.heap.size w6 w8 := b7.grown gr4 b7.size (fun y hy => (own0.lt y hy).1)
          have b9 := b8.alloc b8.size (.cells #[.string ⟨#[120]⟩] 9)
          have b10 : Below w6.heap.size w6 Y := b9.grown gr9 b9.size (fun y hy => (own5.lt y hy).1)
          have hlen : x2.rs.length = x.rs.length + 1 := by rw [HRS.out, List.length_append]; rfl
          have oY : OwnStrs Y w6.heap.size (.slice (some ⟨gz, 0, none⟩) x2.rs.length cz) x2.rs := by
            unfold OwnStrs
            rw [hlen, HRS.out, List.map_append]
            rw [Nat.zero_add, List.nil_append] at own9
            exact own9
          have S7 := S6.more b10 (L := fun i => K2 i ∨ (w6.heap.size ≤ i ∧ i < Y.heap.size)) (fun i hi => hi)
          have hKY : ∀ i, (Value.slice (some ⟨gz, 0, none⟩) x2.rs.length cz).ownBlock = some i → (fun i => K2 i ∨ (w6.heap.size ≤ i ∧ i < Y.heap.size)) i := fun i hi => .inr (World.ownsRow.lt oY i hi)
          generalize (fun i => K2 i ∨ (w6.heap.size ≤ i ∧ i < Y.heap.size)) = K3 at *
          have p7 := S7.live.open_some HT.out (by omega) (HJ2.out.1.opens HJ2.out.2)
          rw [hlen] at p7
          have P7 := Lib.hid p7
          clear p7 b8 b9 b10 own0 own4 gr4 own5 kn own9 gr9 l9 z9 S6 S7 o6 o7 HNW b7
          go_wp2_with fail
          refine P7.out.mono ?_
          rintro e w9 ⟨j2, Am, cm, B2, rfl, S9, om, hB2, k9⟩
          have oY9 := oY.keep k9 hKY
          have hb9 := S9.live.below
          have p8 := same_yes w9 (some ⟨gz, 0, none⟩) Am cz cm x2.rs oY9.strsAt om.strsAt (by omega)
          rw [hlen] at p8
          have P8 := Lib.hid p8
          clear p8 P7 S9 hB2 k9 om oY oY9 hKY
          go_wp2_with fail
          refine P8.out.mono ?_
          rintro e w10 ⟨rfl, b10⟩
          have hb10 := hb9.trans (b10.mono hb9.size)
          clear P8 b10 hb9
          go_wp2
          go_ret
          exact ⟨rfl, hb10⟩
end Go.Proofs.YtfjejfgdnjnflaaDoor
