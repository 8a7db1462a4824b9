/- Part 5 of what the laws of this seat stand on: Jy, Ka, Kc. -/
import Derived.Test.YtieicjjmkedgaaaGreatDoorY4
import Derived.RegionTactic
import Derived.Deep.CutRange
import Derived.Deep.DeepCutAuto
import Derived.Deep.RegionHeld3

/- A journal in memory; Append's walk. -/
namespace Go.Proofs.YtieicjjmkedgaaaGreatDoor
open Go.RowKit Go.Shelf

theorem StrsIn.at {w : World} {G : Foot} {A : Option Addr} {l : List (List UInt8)} (h : StrsIn w G A l) {B : Nat} (hG : ∀ i, G i → i < B) : StrsAt w B A l := fun i s hi => by
  obtain ⟨g, off, hA, hg, hc⟩ := h i s hi
  exact ⟨g, off, hA, hG g hg, hc⟩

theorem JAt.keep {w w' : World} {base a j : Nat} {J : Foot} {x : Jn} {K : Foot} (h : JAt w base a j J x) (hk : Keep K w w') (hJ : ∀ i, J i → K i) : JAt w' base a j J x := by
  obtain ⟨A, c, hb, ho, hj, hr⟩ := h
  exact ⟨A, c, hb.keep hk (hJ _ hj), ho.keepb fun b e => hk.block b (hJ _ (hr b e).1), hj, hr⟩
theorem OwnStrs.mono {w : World} {base base' : Nat} {v : Value} {l : List (List UInt8)} (h : OwnStrs w base v l) (hb : base' ≤ base) : OwnStrs w base' v l := by
  refine ⟨h.1, ?_⟩
  rcases h.2 with h0 | ⟨g, cap, cur, rfl, h1, h2⟩
  · exact .inl h0
  · exact .inr ⟨g, cap, cur, rfl, Nat.le_trans hb h1, h2⟩
/-- Where nothing has turned. -/
theorem JAt.rest {w0 w w' : World} {a : Nat} {d : Dk} {G J : Foot} {j : Nat} {x : Jn} (L : Live w0 w a d G) (hJ : JAt w w0.heap.size a j J x) (hJG : ∀ i, J i → G i) (hb : Below w.heap.size w w') :
    ∃ J', JAt w' w0.heap.size a j J' x ∧ Live w0 w' a d (fun i => G i ∨ J' i) ∧ Keep (fun i => G i ∧ ¬ J i) w w' ∧ (∀ i, J' i → J i ∨ w.heap.size ≤ i) :=
  ⟨J, hJ.keep (Keep.of_below hb L.lt) hJG, L.more hb (fun _ hi => .inl (hi.elim id (hJG _))), Keep.of_below hb (fun i hi => L.lt i hi.1), fun _ hi => .inl hi⟩

theorem stay {w0 W wz : World} {a p : Nat} {D : Dk} {GG : Foot} (L : Live w0 W a D GG) (hk : Keep (fun i => GG i ∧ i ≠ p) wz W) (hp : GG p) (hp0 : w0.heap.size ≤ p) (v : Value) :
    Live w0 (W.setCell ⟨p, 0, none⟩ v) a D GG ∧ Keep (fun i => GG i ∧ i ≠ p) wz (W.setCell ⟨p, 0, none⟩ v) :=
  ⟨L.only ((Only.refl (fun i => i = p) W).setCell (p := ⟨p, 0, none⟩) (.inl rfl) v) (fun i hi => by subst hi; exact ⟨hp, hp0⟩),
    ⟨Nat.le_trans hk.size (by simp [World.setCell]), fun i hi => (Below.heap_setCell W ⟨p, 0, none⟩ v i hi.2).trans (hk.block i hi)⟩⟩
/-- The end of an Append that failed. -/
theorem endBad {w0 w wz W : World} {a j p : Nat} {d D : Dk} {G J GG : Foot} {x : Jn} (L : Live w0 w a d G) (hJ : JAt w w0.heap.size a j J x) (hJG : ∀ i, J i → G i) (hJ0 : ∀ i, J i → w0.heap.size ≤ i)
    (hbz : Below w.heap.size w wz) (hGG : ∀ i, G i → GG i) (hp : w.heap.size ≤ p) (L2 : Live w0 W a D GG) (hk : Keep (fun i => GG i ∧ i ≠ p) wz W) (b : Bool) :
    ∃ J', JAt (W.setCell ⟨j, 4, none⟩ (.bool b)) w0.heap.size a j J' { x with broken := b } ∧ Live w0 (W.setCell ⟨j, 4, none⟩ (.bool b)) a D (fun i => G i ∨ J' i) ∧ Keep (fun i => G i ∧ ¬ J i) w (W.setCell ⟨j, 4, none⟩ (.bool b)) ∧ (∀ i, J' i → J i ∨ w.heap.size ≤ i) := by
  obtain ⟨A, c, hb, ho, hj, hr⟩ := hJ
  have hkw : ∀ i, G i → W.heap[i]? = w.heap[i]? := fun i hi => (hk.block i ⟨hGG i hi, by have := L.lt i hi; omega⟩).trans (hbz.block i (L.lt i hi))
  have hkj : ∀ i, G i → i ≠ j → (W.setCell ⟨j, 4, none⟩ (.bool b)).heap[i]? = w.heap[i]? := fun i hi hn => (Below.heap_setCell W ⟨j, 4, none⟩ _ i hn).trans (hkw i hi)
  have hbW : Blk W j _ _ := (hkw j (hJG j hj)).trans hb
  refine ⟨J, ⟨A, c, hbW.set_ 4 (.bool b), ho.keepb fun g e => hkj g (hJG g (hr g e).1) (hr g e).2, hj, hr⟩, ?_, ⟨?_, fun i hi => hkj i hi.1 (fun e => hi.2 (by rw [e]; exact hj))⟩, fun i hi => .inl hi⟩
  · exact (L2.only ((Only.refl (fun i => i = j) W).setCell (p := ⟨j, 4, none⟩) (.inl rfl) _) (fun i hi => by subst hi; exact ⟨hGG _ (hJG _ hj), hJ0 _ hj⟩)).less (fun i hi => hGG i (hi.elim id (hJG i)))
  · refine Nat.le_trans hbz.size (Nat.le_trans hk.size ?_)
    simp [World.setCell]

set_option maxRecDepth 100000 in
set_option maxHeartbeats 2000000 in
theorem append_any {w0 w : World} {a : Nat} {d : Dk} {G J H : Foot} {j : Nat} {x : Jn} (L : Live w0 w a d G) (ht : Tbs w0) (hJ : JAt w w0.heap.size a j J x)
    (hJG : ∀ i, J i → G i) (hJ0 : ∀ i, J i → w0.heap.size ≤ i) (hHG : ∀ i, H i → G i ∧ ¬ J i)
    (A : Option Addr) (c : Nat) (rs : List (List UInt8)) (hs : StrsIn w H A rs) (hn : x.n ≤ 1000) (hc : x.cnt ≤ 1000) (hrl : rs.length ≤ 1000) (htot : total rs ≤ 500000) (hxl : x.rs.length ≤ 1000000) (hq : d.q.length ≤ 1000) :
    Calls Tryz.prog 25 #[.pointer (some ⟨j, 0, none⟩), .slice A rs.length c] w fun e w' =>
      e = .returned (.int .i64 (appendS d x rs).2.2) ∧ ∃ J', JAt w' w0.heap.size a j J' (appendS d x rs).2.1 ∧ Live w0 w' a (appendS d x rs).1 (fun i => G i ∨ J' i) ∧ Keep (fun i => G i ∧ ¬ J i) w w' ∧ (∀ i, J' i → J i ∨ w.heap.size ≤ i) := by
  obtain ⟨n, cnt, xrs, br⟩ := x
  have HJ0 := Lib.hid hJ
  obtain ⟨AR, cR, hb, hoR, hj, hrJ⟩ := hJ
  simp only at *
  have htw := ht.below L.below
  have hmf : ∀ (fn : Fn) (first cap : Array Value) (w : World), (Instr.makeFunc fn first cap).run Tryz.prog w = .ok (.func fn first cap) w := fun _ _ _ _ => rfl
  obtain ⟨x0, x1, x2⟩ := hb.all
  have HJB := Lib.hid hb
  cases br with
  | true =>
    unfold appendS
    simp only [if_pos]
    go_enter_defers Tryz.func25, Tryz.ntmps25
    go_wp2
    have hbel : Below w.heap.size w ((w.alloc (.cells #[.pointer (some ⟨j, 0, none⟩)] 29)).alloc (.cells #[.int .i64 12] 31)) := ((Below.refl _ w).alloc (Nat.le_refl _) _).alloc (by simp) _
    have hpost := HJ0.out.rest L hJG hbel
    simp [bodyPostD, Leaves, results, Tryz.results25, go_sem]
    exact hpost
  | false =>
    have hbel2 : ∀ v : Value, Below w.heap.size w ((w.alloc (.cells #[.pointer (some ⟨j, 0, none⟩)] 29)).alloc (.cells #[v] 31)) := fun v => ((Below.refl _ w).alloc (Nat.le_refl _) _).alloc (by simp) _
    have HC := Lib.hid (contains_any ((w.alloc (.cells #[.pointer (some ⟨j, 0, none⟩)] 29)).alloc (.cells #[.int .i64 0] 31)) H A c rs (hs.keep (Keep.of_below (hbel2 _) (fun i hi => L.lt i (hHG i hi).1))) (by omega))
    have hsW : ∀ W, Below w.heap.size w W → StrsAt W W.heap.size A rs := fun W hW => (hs.keep (Keep.of_below hW (fun i hi => L.lt i (hHG i hi).1))).at (fun i hi => Nat.lt_of_lt_of_le (L.lt i (hHG i hi).1) hW.size)
    have htl := textR_len rs (by omega)
    obtain ⟨ps, hps⟩ : ∃ ps, piecesL (textR rs) = ps := ⟨_, rfl⟩
    obtain ⟨lg, hlg⟩ : ∃ b, rs.any (fun r => decide (20000 < r.length)) = b := ⟨_, rfl⟩
    rw [hlg] at HC
    have hT : ∀ W, Below w.heap.size w W → Calls Tryz.prog 55 #[.slice A rs.length c] W fun e w' => e = .returned (.string (bs (textR rs))) ∧ Below W.heap.size W w' := fun W hW => text_any W (htw.below hW) W.heap.size A rs c (hsW W hW) (Nat.le_refl _) (by omega) (by omega)
    have hS : ∀ W, Calls Tryz.prog 54 #[.string (bs (textR rs))] W fun e w' => ∃ v, e = .returned v ∧ OwnStrs w' W.heap.size v ps ∧ Below W.heap.size W w' := fun W => by
      have := split_any W (textR rs) (by omega)
      rwa [hps] at this
    have hR : ∀ W, Below w.heap.size w W → Calls Tryz.prog 13 #[.pointer (some ⟨j, 0, none⟩)] W fun e w' => e = .returned (.int .i64 ((n : Int) - 2 - cnt)) ∧ ∃ q, w' = W.drewN q := fun W hW =>
      room_any W w0.heap.size a j J _ (HJ0.out.keep (Keep.of_below hW L.lt) hJG) (by simp only; omega) (by simp only; omega)
    obtain ⟨r, hr⟩ : ∃ r, appendS d ⟨n, cnt, xrs, false⟩ rs = r := ⟨_, rfl⟩
    rw [hr]
    unfold appendS at hr
    simp only [Bool.false_eq_true, if_false] at hr
    rw [hlg, hps] at hr
    have HAP := Lib.hid hr
    have HT := Lib.hid hT
    have HS := Lib.hid hS
    have HR := Lib.hid hR
    have HB2 := Lib.hid hbel2
    have HPS := Lib.hid hps
    have HSW := Lib.hid hsW
    have HOR := Lib.hid hoR
    have HSI := Lib.hid hs
    clear hT hS hR hbel2 hps hsW hoR hs htl hlg hr
    go_enter_defers Tryz.func25, Tryz.ntmps25
    go_wp2_with fail
    refine HC.out.mono ?_
    rintro e w2 ⟨rfl, hw2⟩
    have hsz2 : w2.heap.size = w.heap.size + 2 := by rw [hw2]; simp
    have hb2 : Below w.heap.size w w2 := by rw [hw2]; exact HB2.out _
    have k2 : Blk w2 w.heap.size 29 #[.pointer (some ⟨j, 0, none⟩)] := by rw [hw2]; exact (Blk.new w _ _).alloc _
    have k4 : Blk w2 (w.heap.size + 1) 31 #[.int .i64 0] := by rw [hw2]; exact Blk.new1 w _ _ _
    clear hw2 HC HB2
    cases lg with
    | true =>
      obtain rfl : (d, _, 2) = r := by have := HAP.out; rwa [if_pos rfl] at this
      obtain ⟨c4, f4, l4⟩ := k4.all
      go_wp2
      have hpost := HJ0.out.rest L hJG (hb2.setCell (p := ⟨w.heap.size + 1, 0, none⟩) (by show _ ≤ w.heap.size + 1; omega) (.int .i64 2))
      simp [bodyPostD, Leaves, results, Tryz.results25, go_sem, c4]
      exact hpost
    | false =>
      go_wp2_with fail
      refine (HT.out w2 hb2).mono ?_
      rintro e w3 ⟨rfl, hb3⟩
      go_wp2_with fail
      refine (HS.out w3).mono ?_
      rintro e w4 ⟨v5, rfl, o5, hb4⟩
      obtain ⟨A5, c5, rfl⟩ := o5.form
      have hb24 : Below w2.heap.size w2 w4 := hb3.trans (hb4.mono hb3.size)
      have hbw4 : Below w.heap.size w w4 := hb2.trans (hb24.mono hb2.size)
      have k2' := k2.below hb24 k2.lt
      have k4' := k4.below hb24 k4.lt
      have hb3s := hb3.size
      clear k2 k4 hb2 hb3 hb4 hb24 HT HS
      obtain ⟨c2, f2, l2⟩ := k2'.all
      go_wp2_with fail
      refine (HR.out w4 hbw4).mono ?_
      rintro e w5 ⟨rfl, q, hw5⟩
      have hb45 : Below w4.heap.size w4 w5 := by rw [hw5]; exact below_dN (Below.refl _ _) q
      have hbw5 : Below w.heap.size w w5 := hbw4.trans (hb45.mono hbw4.size)
      have k2 := k2'.below hb45 k2'.lt
      have k4 := k4'.below hb45 k4'.lt
      have p5 : OwnStrs w5 w.heap.size (.slice A5 ps.length c5) ps := (o5.keepb fun b e => hb45.block b (World.ownsRow.lt o5 b e).2).mono (by omega)
      clear hw5 hb45 hbw4 k2' k4' c2 f2 l2 HR o5
      obtain ⟨c2, f2, l2⟩ := k2.all
      obtain ⟨c4, f4, l4⟩ := k4.all
      by_cases hroom : (n : Int) - 2 - cnt < (ps.length : Int)
      · obtain rfl : (d, _, 27) = r := by have := HAP.out; rwa [if_neg (by decide), if_pos hroom] at this
        have e1 : decide ((n : Int) - 2 - cnt < (ps.length : Int)) = true := by simpa using hroom
        go_wp2
        have hpost := HJ0.out.rest L hJG (hbw5.setCell (p := ⟨w.heap.size + 1, 0, none⟩) (by show _ ≤ w.heap.size + 1; omega) (.int .i64 27))
        simp [bodyPostD, Leaves, results, Tryz.results25, go_sem, c4]
        exact hpost
      · have hr2 := HAP.out
        rw [if_neg (by decide), if_neg hroom] at hr2
        have e1 : decide ((n : Int) - 2 - cnt < (ps.length : Int)) = false := by simpa using hroom
        by_cases hrs : rs = []
        · subst hrs
          rw [if_pos rfl] at hr2
          subst hr2
          simp only [List.length_nil, if_pos] at *
          go_wp2
          have hpost := HJ0.out.rest L hJG (hbw5.setCell (p := ⟨w.heap.size + 1, 0, none⟩) (by show _ ≤ w.heap.size + 1; omega) (.int .i64 0))
          simp [bodyPostD, Leaves, results, Tryz.results25, go_sem, c4]
          exact hpost
        · rw [if_neg hrs] at hr2
          have HAQ := Lib.hid hr2
          clear hr2 HAP
          have hrl0 : 0 < rs.length := List.length_pos_iff.2 hrs
          have kj := hb.below hbw5 x2
          obtain ⟨y0, y1, y2⟩ := kj.all
          have hps1 : ps.length ≤ 1000 := by omega
          have e0 : ((rs.length : Int) == 0) = false := by simp; omega
          have hsm : ∀ p ∈ ps, p.length ≤ 46 := fun p hp => (pieces_small (textR rs) p (by rw [HPS.out]; exact hp)).2
          have HSM := Lib.hid hsm
          have HTW := Lib.hid htw
          clear x0 x1 hrs HPS HSW htw hsm
          go_upto_region 13 with fail
          clear hroom e1
          go_cut [6, 7] from 37 to 48 (fun s6 s7 wx => ∃ p6 p7, s6 = .pointer (some ⟨p6, 0, none⟩) ∧ s7 = .pointer (some ⟨p7, 0, none⟩) ∧ Blk wx p6 3 #[.int .i64 ((2 + cnt : Nat) : Int)] ∧ Blk wx p7 3 #[.int .i64 ((cnt + ps.length : Nat) : Int)] ∧ w5.heap.size ≤ p6 ∧ w5.heap.size ≤ p7 ∧ Below w5.heap.size w5 wx)
          case first =>
            have h2 : w5.cell? ⟨w.heap.size, 0, none⟩ = some (.pointer (some ⟨j, 0, none⟩)) := c2 0
            have h3 : w5.cell? ⟨j, 2, none⟩ = some (.int .i64 (cnt : Int)) := y0 2
            have n1 : w.heap.size ≠ w5.heap.size := by omega
            have n2 : w.heap.size ≠ w5.heap.size + 1 := by omega
            have n3 : j ≠ w5.heap.size := by omega
            have n4 : j ≠ w5.heap.size + 1 := by omega
            have a1 : IntKind.i64.wrap (2 + (cnt : Int)) = 2 + (cnt : Int) := by rw [IntKind.wrap_i64]; omega
            have a2 : IntKind.i64.wrap ((cnt : Int) + (ps.length : Int)) = (cnt : Int) + (ps.length : Int) := by rw [IntKind.wrap_i64]; omega
            clear c2 f2 c4 f4 y0 y1
            go_region_held3 (fun w' => w'.cell? ⟨w.heap.size, 0, none⟩ = some (.pointer (some ⟨j, 0, none⟩)) ∧ w'.cell? ⟨j, 2, none⟩ = some (.int .i64 (cnt : Int))) (go_keep) (fail)
            all_goals (go_wp2_with fail; go_meet)
            · refine ⟨w5.heap.size, w5.heap.size + 1, rfl, rfl, (Blk.new w5 _ _).alloc _, Blk.new1 w5 _ _ _, Nat.le_refl _, Nat.le_succ _, ?_⟩
              exact (((Below.refl _ w5).alloc (Nat.le_refl _) _).alloc (by simp) _).drew
            · refine ⟨w5.heap.size + 1, w5.heap.size, rfl, rfl, Blk.new1 w5 _ _ _, (Blk.new w5 _ _).alloc _, Nat.le_succ _, Nat.le_refl _, ?_⟩
              exact (((Below.refl _ w5).alloc (Nat.le_refl _) _).alloc (by simp) _).drew
          case rest =>
            obtain ⟨p6, p7, rfl, rfl, k6, k7, g6, g7, hb6⟩ := hcut
            obtain ⟨wq, rfl⟩ : ∃ q : World, q = wc := ⟨wc, rfl⟩
            have hbwc : Below w.heap.size w wq := hbw5.trans (hb6.mono hbw5.size)
            have b5s := hbw5.size
            have b6s := hb6.size
            obtain ⟨at_, hat⟩ : ∃ q, 2 + cnt = q := ⟨_, rfl⟩
            obtain ⟨nx, hnx⟩ : ∃ q, cnt + ps.length = q := ⟨_, rfl⟩
            rw [hat] at k6
            rw [hnx] at k7
            have l6 := k6.lt
            have l7 := k7.lt
            have p0 : Ph w ((wq.alloc (.cells #[.slice none 0 0] 30)).alloc (.cells #[.slice none 0 0] 30)) j w.heap.size (w.heap.size + 1) p6 p7 wq.heap.size (wq.heap.size + 1) at_ nx (.slice A5 ps.length c5) ps [] [] none 0 none 0 :=
              ⟨(hbwc.alloc (by omega) _).alloc (by simp; omega) _, ((k2.below hb6 k2.lt).alloc _).alloc _, ((k4.below hb6 k4.lt).alloc _).alloc _, (k6.alloc _).alloc _, (k7.alloc _).alloc _, (Blk.new wq _ _).alloc _, Blk.new1 wq _ _ _,
                p5.keepb fun b e => (Below.heap_alloc _ _ _ (by have := (World.ownsRow.lt p5 b e).2; simp; omega)).trans ((Below.heap_alloc _ _ _ (by have := (World.ownsRow.lt p5 b e).2; omega)).trans (hb6.block b (World.ownsRow.lt p5 b e).2)),
                OwnStrs.nil _ _, OwnStrs.nil _ _, ⟨by omega, by omega, by omega, by omega, by omega, by omega⟩, by omega, fun g e => by simp [Value.ownBlock] at e, fun g e => by simp [Value.ownBlock] at e, fun g e => by simp [Value.ownBlock] at e⟩
            have HP0 := Lib.hid p0
            have l4w : w.heap.size + 1 < w5.heap.size := l4
            clear p0 k2 k4 c2 f2 l2 c4 f4 l4 kj y0 y1 y2 p5 k6 k7 hb6 hbwc e0
            go_wp2_with fail
            go_loopw [51] (fun i wr => ∃ (k : Nat) (Az : Option Addr) (cz : Nat) (Af : Option Addr) (cf : Nat), k ≤ ps.length ∧ i = .int .i64 (k : Int) ∧ Hid (Ph w wr j w.heap.size (w.heap.size + 1) p6 p7 wq.heap.size (wq.heap.size + 1) at_ nx (.slice A5 ps.length c5) ps (List.replicate k zeroL) (fullS at_ (ps.take k)) Az cz Af cf)) (fun i _ => ps.length - (intOf i).toNat)
            case atStart => exact ⟨0, none, 0, none, 0, Nat.zero_le _, rfl, by rw [List.take_zero]; exact HP0⟩
            case round =>
              clear HP0
              obtain ⟨k, Az, cz, Af, cf, hkl, rfl, HPh⟩ := hrel
              by_cases hlt : k < ps.length
              · obtain ⟨sp, hss⟩ : ∃ sp, ps[k]? = some sp := ⟨_, List.getElem?_eq_getElem hlt⟩
                have hsp := HSM.out sp (List.mem_of_getElem? hss)
                obtain ⟨A5', c5', hv5, hst, _⟩ := HPh.out.o5.at
                obtain ⟨rfl, -, rfl⟩ : A5 = A5' ∧ ps.length = ps.length ∧ c5 = c5' := by simpa using hv5
                obtain ⟨g5, off5, rfl, hg5, hcell⟩ := hst k sp hss
                clear hv5 hst
                have hz1 : List.replicate (k + 1) zeroL = List.replicate k zeroL ++ [zeroL] := List.replicate_succ'
                have hf1 : fullS at_ (ps.take (k + 1)) = fullS at_ (ps.take k) ++ [secL (at_ + k) sp] := by
                  rw [List.take_add_one, hss]
                  simp only [Option.toList_some]
                  rw [fullS_app, List.length_take, Nat.min_eq_left hkl]
                  rfl
                have HZ1 := Lib.hid hz1
                have HF1 := Lib.hid hf1
                have hzl : (List.replicate k zeroL).length = k := by simp
                have hfl : (fullS at_ (ps.take k)).length = k := by rw [fullS_len, List.length_take, Nat.min_eq_left hkl]
                generalize List.replicate k zeroL = z at *
                generalize fullS at_ (ps.take k) = f at *
                have HZL := Lib.hid hzl
                have HFL := Lib.hid hfl
                clear hz1 hf1 hss hzl hfl
                have hi0 : (0 : Int) ≤ (k : Int) := by omega
                have hi1 : (k : Int) < (ps.length : Int) := by omega
                obtain ⟨i0, hi0', hz0, hz1, hz2⟩ := info_parts Tryz.infoStr
                go_upto_region 18 with fail
                go_cut [] from 52 to 68 (fun wx => ∃ (Az' : Option Addr) (cz' : Nat), Hid (Ph w wx j w.heap.size (w.heap.size + 1) p6 p7 wq.heap.size (wq.heap.size + 1) at_ nx (.slice (some ⟨g5, off5, none⟩) ps.length c5) ps (z ++ [zeroL]) f Az' cz' Af cf))
                case first =>
                  obtain ⟨c8, f8, l8⟩ := HPh.out.b8.all
                  go_region_law (first | (refine step_append_lies _ ?_ (.tmp 56) (.tmp 58) 30 ?_ w.heap.size 9 i0 _ 1 16 Tryz.underlying30 hi0' hz0 hz1 hz2 ?_ ?_ (.slice Az z.length cz) z.length (z.map sv) ?_ ?_ ⟨w1.heap.size, 0, none⟩ 1 1 [sv zeroL] ?_ ?_ ?_ ?_ ?_ ?_ ?_ ?_ (w1.heap.size + 1) ?_ ?_; rfl; rfl; rfl; omega; rfl; exact h2.oz; rfl; rfl; exact World.news_of_block (Blk.new w1 _ _); exact sv_one [zeroL]; omega; (have := HZL.out; unfold maxLen; omega); (have := HZL.out; omega); exact h2.below.size; simp; intro g cap w3 o3 g3 l3 z3; obtain ⟨c8y, f8y, l8y⟩ := (h2.b8.grown g3 (h2.oz.ne h2.b8 (by decide))).all) | (go_simp; go_at_call 38; refine (zero_any _).mono ?_; rintro e w1 ⟨rfl, b1⟩; have h1 := HPh.out.drew.same b1; have h2 := h1.same ((Below.refl _ w1).alloc (Nat.le_refl _) (.cells #[.string (bs zeroL)] 9)); obtain ⟨c8a, f8a, l8a⟩ := h1.b8.all; obtain ⟨c8b, f8b, l8b⟩ := h2.b8.all))
                  all_goals (go_wp2_with fail; go_meet)
                  all_goals exact ⟨_, _, Lib.hid (h2.push zeroL o3 g3 l3 (by simp))⟩
                case rest =>
                  obtain ⟨Az', cz', HPh2⟩ := hcut
                  have hsec : ∀ W, Tbs W → Calls Tryz.prog 33 #[.int .i64 ((at_ : Int) + (k : Int)), .string (bs sp)] W fun e w' => e = .returned (.string (bs (secL (at_ + k) sp))) ∧ Below W.heap.size W w' := fun W hW => by
                    rw [show ((at_ : Int) + (k : Int)) = ((at_ + k : Nat) : Int) by omega]
                    exact sector_any W hW (at_ + k) (by omega) sp hsp
                  have HSEC := Lib.hid hsec
                  have a3 : IntKind.i64.wrap ((at_ : Int) + (k : Int)) = (at_ : Int) + (k : Int) := by rw [IntKind.wrap_i64]; omega
                  clear hsec
                  generalize secL (at_ + k) sp = sc at *
                  go_upto_region 19 with fail
                  obtain ⟨c9, f9, l9⟩ := HPh2.out.b9.all
                  obtain ⟨c6, f6, l6'⟩ := HPh2.out.b6.all
                  refine wp_region_noPanic ?_
                  go_region_law (first | (refine step_append_lies _ ?_ (.tmp 60) (.tmp 66) 30 ?_ w.heap.size 9 i0 _ 1 16 Tryz.underlying30 hi0' hz0 hz1 hz2 ?_ ?_ (.slice Af f.length cf) f.length (f.map sv) ?_ ?_ ⟨w1.heap.size, 0, none⟩ 1 1 [sv sc] ?_ ?_ ?_ ?_ ?_ ?_ ?_ ?_ (w1.heap.size + 1) ?_ ?_; rfl; rfl; rfl; omega; rfl; exact h2.of; rfl; rfl; exact World.news_of_block (Blk.new w1 _ _); exact sv_one [sc]; omega; (have := HFL.out; unfold maxLen; omega); (have := HFL.out; omega); exact h2.below.size; simp; intro g cap w3 o3 g3 l3 z3; obtain ⟨c9y, f9y, l9y⟩ := (h2.b9.grown g3 (h2.of.ne h2.b9 (by decide))).all) | (go_simp; go_at_call 33; refine (HSEC.out _ (HTW.out.below HPh2.out.drew.below)).mono ?_; rintro e w1 ⟨rfl, b1⟩; have h1 := HPh2.out.drew.same b1; have h2 := h1.same ((Below.refl _ w1).alloc (Nat.le_refl _) (.cells #[.string (bs sc)] 9)); obtain ⟨c9a, f9a, l9a⟩ := h1.b9.all; obtain ⟨c9b, f9b, l9b⟩ := h2.b9.all))
                  all_goals refine NoPanic.normal ?_
                  all_goals (go_wp2_with fail; go_roundw)
                  all_goals first
                    | (simp [intOf]; omega)
                    | exact ⟨k + 1, _, _, _, _, by omega, by go_num, by have q := Lib.hid (h2.swap.push sc o3 g3 l3 (by simp)).swap; rw [← HZ1.out, ← HF1.out] at q; exact q⟩
              · obtain rfl : k = ps.length := by omega
                obtain ⟨we, rfl⟩ : ∃ q : World, q = wr := ⟨wr, rfl⟩
                rw [List.take_length] at HPh
                have hws : writesS cnt ps = [(at_, List.replicate ps.length zeroL), (at_, fullS at_ ps), (1, [headL 1 nx]), (0, [headL 0 nx])] := by unfold writesS; rw [hat, hnx]
                have hzl : (List.replicate ps.length zeroL).length = ps.length := by simp
                have hfl := fullS_len ps at_
                obtain ⟨RR, hRR⟩ : ∃ q, d.steps (writesS cnt ps) = q := ⟨_, rfl⟩
                rw [hRR] at HAQ
                rw [hws] at hRR
                generalize List.replicate ps.length zeroL = z at *
                generalize fullS at_ ps = f at *
                obtain ⟨wz, hwz⟩ : ∃ q, we.alloc (.cells #[.func (Fn.func 57) #[] #[.pointer (some ⟨w.heap.size, 0, none⟩), .pointer (some ⟨p6, 0, none⟩), .pointer (some ⟨wq.heap.size, 0, none⟩)], .func (Fn.func 58) #[] #[.pointer (some ⟨w.heap.size, 0, none⟩), .pointer (some ⟨p6, 0, none⟩), .pointer (some ⟨wq.heap.size + 1, 0, none⟩)], .func (Fn.func 59) #[] #[.pointer (some ⟨w.heap.size, 0, none⟩), .pointer (some ⟨p7, 0, none⟩)], .func (Fn.func 60) #[] #[.pointer (some ⟨w.heap.size, 0, none⟩), .pointer (some ⟨p7, 0, none⟩)]] 95) = q := ⟨_, rfl⟩
                have hcl := Blk.new we 95 #[.func (Fn.func 57) #[] #[.pointer (some ⟨w.heap.size, 0, none⟩), .pointer (some ⟨p6, 0, none⟩), .pointer (some ⟨wq.heap.size, 0, none⟩)], .func (Fn.func 58) #[] #[.pointer (some ⟨w.heap.size, 0, none⟩), .pointer (some ⟨p6, 0, none⟩), .pointer (some ⟨wq.heap.size + 1, 0, none⟩)], .func (Fn.func 59) #[] #[.pointer (some ⟨w.heap.size, 0, none⟩), .pointer (some ⟨p7, 0, none⟩)], .func (Fn.func 60) #[] #[.pointer (some ⟨w.heap.size, 0, none⟩), .pointer (some ⟨p7, 0, none⟩)]]
                have hbz : Below we.heap.size we wz := by rw [← hwz]; exact (Below.refl _ we).alloc (Nat.le_refl _) _
                have hzs : wz.heap.size = we.heap.size + 1 := by rw [← hwz]; simp
                rw [hwz] at hcl
                have hPz := HPh.out.same hbz
                have hHz : ∃ GG : Foot, GG = fun i => G i ∨ (w.heap.size ≤ i ∧ i < wz.heap.size) := ⟨_, rfl⟩
                obtain ⟨GG, hGG⟩ := hHz
                have hLz : Live w0 wz a d GG := by rw [hGG]; exact L.more hPz.below (fun i hi => hi)
                have HPZ := Lib.hid hPz
                have HCL := Lib.hid hcl
                have HGG := Lib.hid hGG
                have HLZ := Lib.hid hLz
                have HRR := Lib.hid hRR
                have hwr4 : w.heap.size + 1 < we.heap.size := HPh.out.b4.lt
                clear hcl hbz hPz hGG hLz hRR hws HPh
                go_wp2_with fail
                go_loopw [75] (fun i wv => ∃ (m : Nat) (d' : Dk), m ≤ 4 ∧ i = .int .i64 (m : Int) ∧ Live w0 wv a d' GG ∧ Keep (fun i => GG i ∧ i ≠ w.heap.size + 1) wz wv ∧ Blk wv (w.heap.size + 1) 31 #[.int .i64 0] ∧ d'.q.length ≤ 1000 + 1000 * m ∧ Hid (d'.steps (([(at_, z), (at_, f), (1, [headL 1 nx]), (0, [headL 0 nx])] : List (Nat × List (List UInt8))).drop m) = RR)) (fun i _ => 4 - (intOf i).toNat)
                case atStart => exact ⟨0, d, by omega, rfl, HLZ.out, Keep.refl _ _, HPZ.out.b4, by omega, HRR⟩
                case round =>
                  obtain ⟨m, d', hm4, rfl, L3, hk3, kp4, hq3, HD⟩ := hrel
                  clear hwz HLZ HRR
                  by_cases hm : m < 4
                  · have hG0 : ∀ i, G i → GG i := fun i hi => by rw [HGG.out]; exact .inl hi
                    have hGn : ∀ i, w.heap.size ≤ i → i < we.heap.size + 1 → GG i := fun i h1 h2 => by rw [HGG.out]; exact .inr ⟨h1, by omega⟩
                    have hst := HPZ.out
                    have hkj := (HJB.out.below hst.below x2).keep hk3 ⟨hG0 j (hJG j hj), by omega⟩
                    have hk2 := hst.b2.keep hk3 ⟨hGn _ (Nat.le_refl _) (by omega), by omega⟩
                    have hb8l := hst.b8.lt
                    have hb9l := hst.b9.lt
                    have q6 : p6 ≠ w.heap.size + 1 := by omega
                    have q7 : p7 ≠ w.heap.size + 1 := by omega
                    have hk6 := hst.b6.keep hk3 ⟨hGn _ (by omega) (by omega), q6⟩
                    have hk7 := hst.b7.keep hk3 ⟨hGn _ (by omega) (by omega), q7⟩
                    have hk8 := hst.b8.keep hk3 ⟨hGn _ (by omega) (by omega), by omega⟩
                    have hk9 := hst.b9.keep hk3 ⟨hGn _ (by omega) (by omega), by omega⟩
                    have hrow : ∀ (B : Option Addr) (cB : Nat) (lB : List (List UInt8)), OwnStrs wz w.heap.size (.slice B lB.length cB) lB → StrsIn wr GG B lB := by
                      intro B cB lB ho i s' hi
                      obtain ⟨B', cB', hvB, hsB, hlB, hoB⟩ := ho.at
                      obtain ⟨rfl, -, rfl⟩ : B = B' ∧ lB.length = lB.length ∧ cB = cB' := by simpa using hvB
                      obtain ⟨g, off, rfl, hg, hcl⟩ := hsB i s' hi
                      obtain ⟨h1, h2⟩ := hlB g rfl
                      have h3 : GG g := hGn g h1 (by omega)
                      have h4 : g ≠ w.heap.size + 1 := fun e => ho.ne hst.b4 (by decide) (by rw [← e]; rfl)
                      exact ⟨g, off, rfl, h3, (World.cell?_of_block (a := ⟨g, off + i, none⟩) (hk3.block g ⟨h3, h4⟩)).trans hcl⟩
                    have hsz' := hrow Az cz z hst.oz
                    have hsf' := hrow Af cf f hst.of
                    have hkc := HCL.out.keep hk3 ⟨hGn _ (by omega) (by omega), by omega⟩
                    obtain ⟨fn, cap, pl, ll, eg, hcell, hcall, hdrop, hlen⟩ : ∃ (fn : FuncId) (cap : Array Value) (pl : Nat) (ll : List (List UInt8)), (∀ args w, (callFunc fn args).run Tryz.prog w = .ok (.enter fn args) w) ∧ wr.cell? ⟨we.heap.size, m, none⟩ = some (.func (Fn.func fn) #[] cap) ∧
                        Calls Tryz.prog fn cap wr (fun e w' => e = .returned (.int .i64 (d'.puts pl ll).2) ∧ Live w0 w' a (d'.puts pl ll).1 GG ∧ Keep GG wr w') ∧
                        (([(at_, z), (at_, f), (1, [headL 1 nx]), (0, [headL 0 nx])] : List (Nat × List (List UInt8))).drop m = (pl, ll) :: ([(at_, z), (at_, f), (1, [headL 1 nx]), (0, [headL 0 nx])] : List (Nat × List (List UInt8))).drop (m + 1)) ∧ ll.length ≤ 1000 := by
                      rcases (show m = 0 ∨ m = 1 ∨ m = 2 ∨ m = 3 by omega) with rfl | rfl | rfl | rfl
                      · exact ⟨_, _, at_, z, enters_of Tryz.func57 (by kernel_rfl) rfl, hkc.cell 0, put3_any L3 j _ _ _ _ hkj (hG0 j (hJG j hj)) _ _ _ at_ (by omega) Az z cz hsz' (by omega) (hk2.cell 0) (hk6.cell 0) (hk8.cell 0), rfl, by omega⟩
                      · exact ⟨_, _, at_, f, enters_of Tryz.func58 (by kernel_rfl) rfl, hkc.cell 1, put4_any L3 j _ _ _ _ hkj (hG0 j (hJG j hj)) _ _ _ at_ (by omega) Af f cf hsf' (by omega) (hk2.cell 0) (hk6.cell 0) (hk9.cell 0), rfl, by omega⟩
                      · exact ⟨_, _, 1, [headL 1 nx], enters_of Tryz.func59 (by kernel_rfl) rfl, hkc.cell 2, put5_any L3 ht j _ _ _ _ hkj (hG0 j (hJG j hj)) _ _ nx (by omega) (by omega) (hk2.cell 0) (hk7.cell 0), rfl, by simp⟩
                      · exact ⟨_, _, 0, [headL 0 nx], enters_of Tryz.func60 (by kernel_rfl) rfl, hkc.cell 3, put6_any L3 ht j _ _ _ _ hkj (hG0 j (hJG j hj)) _ _ nx (by omega) (by omega) (hk2.cell 0) (hk7.cell 0), rfl, by simp⟩
                    have hpq := Dk.puts_q ll d' pl
                    have hdd := HD.out
                    rw [hdrop] at hdd
                    unfold Dk.steps at hdd
                    obtain ⟨E, hE⟩ : ∃ E, (d'.puts pl ll).2 = E := ⟨_, rfl⟩
                    rw [hE] at hcall hdd
                    have HE := Lib.hid hE
                    have HCALL := Lib.hid hcall
                    have HDD := Lib.hid hdd
                    have hm0 : (0 : Int) ≤ (m : Int) := by omega
                    have hm1 : (m : Int) < 4 := by omega
                    clear hrow hsz' hsf' hkc hk6 hk7 hk8 hk9 hcall hdd hdrop hE HD hst hb8l hb9l
                    have hp4G : GG (w.heap.size + 1) := hGn _ (by omega) (by omega)
                    have hGj := hG0 j (hJG j hj)
                    go_wp2_with fail
                    refine HCALL.out.mono ?_
                    rintro e w3 ⟨rfl, L4, k4⟩
                    have kq4 := kp4.keep k4 hp4G
                    have kqj := hkj.keep k4 hGj
                    have kq2 := hk2.keep k4 (hGn _ (Nat.le_refl _) (by omega))
                    have hk5 := hk3.trans (k4.mono fun i hi => hi.1)
                    obtain ⟨c4, f4, l4⟩ := kq4.all
                    clear HCALL L3 hk3 k4 kp4 hkj hk2 hcell eg
                    by_cases hz : E = 0
                    · have hdd := HDD.out
                      rw [if_pos hz] at hdd
                      have HN := Lib.hid hdd
                      subst hz
                      obtain ⟨L5, k5⟩ := stay L4 hk5 hp4G (by have := L.below.size; omega) (.int .i64 0)
                      have b5 : Blk (w3.setCell ⟨w.heap.size + 1, 0, none⟩ (.int .i64 0)) (w.heap.size + 1) 31 #[.int .i64 0] := kq4.set_ 0 _
                      clear HDD hdd
                      go_wp2_with fail
                      go_roundw
                      case rel => exact ⟨m + 1, _, by omega, by go_num, L5, k5, b5, by omega, HN⟩
                      case measure => simp [intOf]; omega
                    · have e1 : (E == 0) = false := by simpa using hz
                      have hdd := HDD.out
                      rw [if_neg hz] at hdd
                      subst hdd
                      have hrr := HAQ.out
                      rw [HE.out, if_neg hz] at hrr
                      subst hrr
                      obtain ⟨L5, k5⟩ := stay L4 hk5 hp4G (by have := L.below.size; omega) (.int .i64 E)
                      obtain ⟨L6, k6⟩ := stay L5 k5 hp4G (by have := L.below.size; omega) (.int .i64 E)
                      have b5 : Blk (w3.setCell ⟨w.heap.size + 1, 0, none⟩ (.int .i64 E)) (w.heap.size + 1) 31 #[.int .i64 E] := kq4.set_ 0 _
                      have b6 : Blk ((w3.setCell ⟨w.heap.size + 1, 0, none⟩ (.int .i64 E)).setCell ⟨w.heap.size + 1, 0, none⟩ (.int .i64 E)) (w.heap.size + 1) 31 #[.int .i64 E] := b5.set_ 0 _
                      have hfin := endBad L HJ0.out hJG hJ0 HPZ.out.below hG0 (by omega) L6 k6 true
                      have k6j : Blk ((w3.setCell ⟨w.heap.size + 1, 0, none⟩ (.int .i64 E)).setCell ⟨w.heap.size + 1, 0, none⟩ (.int .i64 E)) j _ _ := (kqj.far (by show j ≠ w.heap.size + 1; omega) _).far (by show j ≠ w.heap.size + 1; omega) _
                      have k62 : Blk ((w3.setCell ⟨w.heap.size + 1, 0, none⟩ (.int .i64 E)).setCell ⟨w.heap.size + 1, 0, none⟩ (.int .i64 E)) w.heap.size _ _ := (kq2.far (by show w.heap.size ≠ w.heap.size + 1; omega) _).far (by show w.heap.size ≠ w.heap.size + 1; omega) _
                      have hbr := broke_any .returning _ j (w.heap.size + 1) w.heap.size _ _ _ _ _ E k6j (b6.cell 0) (k62.cell 0)
                      have e2 : (E != 0) = true := by simpa using hz
                      rw [e2] at hbr
                      have b7 := b6.far (p := ⟨j, 4, none⟩) (by show w.heap.size + 1 ≠ j; omega) (.bool true)
                      have HBR := Lib.hid hbr
                      have HFIN := Lib.hid hfin
                      have c7 := b7.cell 0
                      have C7 := Lib.hid c7
                      clear hbr hfin b7 c7 k6j k62 b5 b6 L5 L6 k5 k6
                      go_wp2_with fail
                      refine leaves_cons (f := 56) (args := #[.pointer (some ⟨w.heap.size + 1, 0, none⟩), .pointer (some ⟨w.heap.size, 0, none⟩)]) (by simp) (by simp [go_sem]) ?_
                      refine HBR.out.mono ?_
                      rintro e u' w'' ⟨rfl, rfl, rfl⟩
                      have c7 := C7.out
                      simp [Leaves, settle, results, Tryz.results25, go_sem, c7]
                      exact HFIN.out
                  · obtain rfl : m = 4 := by omega
                    have hdd := HD.out
                    obtain rfl : (d', 0) = RR := hdd
                    have hrr := HAQ.out
                    rw [if_pos rfl, hnx] at hrr
                    subst hrr
                    have hG0 : ∀ i, G i → GG i := fun i hi => by rw [HGG.out]; exact .inl hi
                    have hGn : ∀ i, w.heap.size ≤ i → i < we.heap.size + 1 → GG i := fun i h1 h2 => by rw [HGG.out]; exact .inr ⟨h1, by omega⟩
                    have hst := HPZ.out
                    have hGj := hG0 j (hJG j hj)
                    have hkj := (HJB.out.below hst.below x2).keep hk3 ⟨hGj, by omega⟩
                    have hk2 := hst.b2.keep hk3 ⟨hGn _ (Nat.le_refl _) (by omega), by omega⟩
                    have hb8l := hst.b8.lt
                    have hk7 := hst.b7.keep hk3 ⟨hGn _ (by omega) (by omega), by omega⟩
                    have hp4G : GG (w.heap.size + 1) := hGn _ (by omega) (by omega)
                    obtain ⟨c2, f2, l2⟩ := hk2.all
                    obtain ⟨c7, f7, l7'⟩ := hk7.all
                    obtain ⟨cj, fj, lj⟩ := hkj.all
                    have kp4j : (w.heap.size + 1) ≠ j := by omega
                    obtain ⟨W2, hW2⟩ : ∃ q, wr.setCell ⟨j, 2, none⟩ (.int .i64 (nx : Int)) = q := ⟨_, rfl⟩
                    have hkW : ∀ i, G i → i ≠ j → W2.heap[i]? = w.heap[i]? := fun i hi hn => by
                      rw [← hW2]
                      exact (Below.heap_setCell wr ⟨j, 2, none⟩ _ i hn).trans ((hk3.block i ⟨hG0 i hi, by have := L.lt i hi; omega⟩).trans (HPZ.out.below.block i (L.lt i hi)))
                    have j2 : Blk W2 j 58 #[.pointer (some ⟨a, 0, none⟩), .int .i64 (n : Int), .int .i64 (nx : Int), .slice AR xrs.length cR, .bool false] := by rw [← hW2]; exact hkj.set_ 2 _
                    have q2 : Blk W2 w.heap.size 29 #[.pointer (some ⟨j, 0, none⟩)] := by rw [← hW2]; exact hk2.far (by show w.heap.size ≠ j; omega) _
                    have q4 : Blk W2 (w.heap.size + 1) 31 #[.int .i64 0] := by rw [← hW2]; exact kp4.far kp4j _
                    have oR2 : OwnStrs W2 w0.heap.size (.slice AR xrs.length cR) xrs := HOR.out.keepb fun b e => hkW b (hJG b (hrJ b e).1) (hrJ b e).2
                    have sR2 : StrsIn W2 H A rs := fun i s' hi => by
                      obtain ⟨g, off, hA, hg, hc⟩ := HSI.out i s' hi
                      exact ⟨g, off, hA, hg, (World.cell?_of_block (a := ⟨g, off + i, none⟩) (hkW g (hHG g hg).1 (fun e => (hHG g hg).2 (by rw [e]; exact hj)))).trans hc⟩
                    obtain ⟨gA, offA, hAA, -, -⟩ := sR2 0 (rs[0]'hrl0) (List.getElem?_eq_getElem hrl0)
                    subst hAA
                    have hnews : ∀ (i : Nat) (u : Value), (rs.map sv)[i]? = some u → W2.cell? ((⟨gA, offA, none⟩ : Addr).add i) = some u := fun i u hu => by
                      rw [List.getElem?_map, Option.map_eq_some_iff] at hu
                      obtain ⟨s', hs', rfl⟩ := hu
                      obtain ⟨g, off, hA, hg, hc⟩ := sR2 i s' hs'
                      obtain ⟨rfl, rfl⟩ : gA = g ∧ offA = off := by simpa using hA
                      have hadd : (⟨gA, offA, none⟩ : Addr).add i = ⟨gA, offA + i, none⟩ := by unfold Addr.add; split <;> simp_all
                      rw [hadd]
                      exact hc
                    have hjr : some j ≠ (Value.slice AR xrs.length cR).ownBlock := fun e => (hrJ j e.symm).2 rfl
                    have h4r : some (w.heap.size + 1) ≠ (Value.slice AR xrs.length cR).ownBlock := oR2.ne q4 (by decide)
                    have h2r : some w.heap.size ≠ (Value.slice AR xrs.length cR).ownBlock := oR2.ne q2 (by decide)
                    have hW0 : w0.heap.size ≤ W2.heap.size := by have h1 := L3.below.size; rw [← hW2]; simpa [World.setCell] using h1
                    have LW2 : Live w0 W2 a d' GG := by rw [← hW2]; exact L3.only ((Only.refl (fun i => i = j) wr).setCell (p := ⟨j, 2, none⟩) (.inl rfl) _) (fun i hi => by subst hi; exact ⟨hGj, hJ0 _ hj⟩)
                    obtain ⟨i0, hi0', hz0, hz1, hz2⟩ := info_parts Tryz.infoStr
                    have HNW := Lib.hid hnews
                    have HKW := Lib.hid hkW
                    have HG0 := Lib.hid hG0
                    have HGN := Lib.hid hGn
                    clear hst hnews hkW hG0 hGn sR2
                    go_wp2_with fail
                    obtain ⟨cj2, fj2, lj2⟩ := j2.all
                    obtain ⟨cq2, fq2, lq2⟩ := q2.all
                    clear cj fj c2 f2 c7 f7
                    refine wp_region_noPanic ?_
                    go_region_law (refine step_append_lies _ ?_ (.tmp 93) (.tmp 94) 30 ?_ w0.heap.size 9 i0 _ 1 16 Tryz.underlying30 hi0' hz0 hz1 hz2 ?_ ?_ (.slice AR xrs.length cR) xrs.length (xrs.map sv) ?_ ?_ ⟨gA, offA, none⟩ rs.length c (rs.map sv) ?_ ?_ ?_ ?_ ?_ ?_ ?_ ?_ W2.heap.size ?_ ?_; rfl; rfl; rfl; omega; rfl; exact oR2; rfl; simp; exact HNW.out; exact sv_one rs; exact hrl0; (unfold maxLen; omega); omega; exact hW0; rfl; intro g9 cap9 w9 o9 gr9 l9 z9; obtain ⟨cj9, fj9, lj9⟩ := (j2.drew.grown gr9 hjr).all; obtain ⟨cq9, fq9, lq9⟩ := (q2.drew.grown gr9 h2r).all)
                    all_goals refine NoPanic.normal ?_
                    all_goals
                      have hfin := endGood (b := false) L hj hrJ hJG hJ0 HG0.out (Nat.le_succ _) hp4G LW2 HKW.out (Nat.le_of_lt lq2) j2 q4 (by decide) h4r o9 gr9 l9 (.int .i64 0)
                      have p9 := q4.drew.grown gr9 h4r
                      have q9 := q2.drew.grown gr9 h2r
                      have j9 := j2.drew.grown gr9 hjr
                      have pA := p9.far (p := ⟨j, 3, none⟩) kp4j (.slice (some ⟨g9, 0, none⟩) (xrs.length + rs.length) cap9)
                      obtain ⟨cpA, fpA, lpA⟩ := pA.all
                      have pB := pA.set_ 0 (.int .i64 0)
                      have jB := (j9.set_ 3 (.slice (some ⟨g9, 0, none⟩) (xrs.length + rs.length) cap9)).far (p := ⟨w.heap.size + 1, 0, none⟩) (fun e => kp4j e.symm) (.int .i64 0)
                      have qB := (q9.far (p := ⟨j, 3, none⟩) (by show w.heap.size ≠ j; omega) (.slice (some ⟨g9, 0, none⟩) (xrs.length + rs.length) cap9)).far (p := ⟨w.heap.size + 1, 0, none⟩) (by show w.heap.size ≠ w.heap.size + 1; omega) (.int .i64 0)
                      have hbr := broke_any .returning _ j (w.heap.size + 1) w.heap.size _ _ _ _ _ 0 jB (pB.cell 0) (qB.cell 0)
                      have HBR := Lib.hid hbr
                      have HFIN := Lib.hid hfin
                      have C7 := Lib.hid ((pB.far (p := ⟨j, 4, none⟩) kp4j (.bool ((0 : Int) != 0))).cell 0)
                      clear hbr hfin pB jB qB p9 q9 j9 pA
                      go_wp2_with fail
                      refine leaves_cons (f := 56) (args := #[.pointer (some ⟨w.heap.size + 1, 0, none⟩), .pointer (some ⟨w.heap.size, 0, none⟩)]) (by simp) (by simp [go_sem]) ?_
                      refine HBR.out.mono ?_
                      rintro e u' w'' ⟨rfl, rfl, rfl⟩
                      have c7 := C7.out
                      simp [Leaves, settle, results, Tryz.results25, go_sem] at c7 ⊢
                      simp [c7]
                      exact HFIN.out
end Go.Proofs.YtieicjjmkedgaaaGreatDoor

/- A journal in memory; Open in plain words. No program in sight. -/
namespace Go.Proofs.YtieicjjmkedgaaaGreatDoor

/-- What a sector shows. -/
def Dk.vw (d : Dk) (i : Nat) : List UInt8 := (d.view i).data.toList
theorem Dk.vw_bs (d : Dk) (i : Nat) : d.view i = bs (d.vw i) := rfl
theorem lastOf_mem {q : List (Nat × ByteArray)} {i : Nat} {t : ByteArray} (h : lastOf q i = some t) : ∃ p ∈ q, p.2 = t := by
  unfold lastOf at h
  obtain ⟨p, hp, rfl⟩ := Option.map_eq_some_iff.1 h
  exact ⟨p, List.mem_reverse.1 (List.mem_of_find?_eq_some hp), rfl⟩
theorem Dk.vw_len {d : Dk} (h : d.Ok) {i : Nat} (hi : i < d.n) : (d.vw i).length = 64 := by
  unfold Dk.vw Dk.view
  cases hl : lastOf d.q i with
  | some t =>
    obtain ⟨p, hp, rfl⟩ := lastOf_mem hl
    have := (h.q p hp).2
    simp only [Option.getD_some, Array.length_toList]
    exact this
  | none =>
    simp only [Option.getD_none]
    show (d.sec i).length = 64
    unfold Dk.sec
    rw [List.length_take, List.length_drop, h.st]
    omega
/-- All sectors. -/
def Dk.vws (d : Dk) : List (List UInt8) := (List.range d.n).map d.vw
/-- The texts of the pieces, from a place on. -/
def foundP : Nat → List (List UInt8) → Option (List UInt8)
  | _, [] => some []
  | p, s :: r => (pieceOf p s).bind fun t => (foundP (p + 1) r).map fun u => t ++ u
/-- A head that is not in order is written anew. -/
def Dk.mend (d : Dk) (p : Nat) (v : List UInt8) (c : Nat) : Dk × Int :=
  if v = headL p c ∨ (c = 0 ∧ v = zeroL) then (d, 0)
  else if (d.puts p [zeroL]).2 = 0 ∧ 0 < c then (d.puts p [zeroL]).1.puts p [headL p c] else d.puts p [zeroL]
def cntM (a b : List UInt8) (room : Nat) : Int := max (cntL 0 a room) (cntL 1 b room)
/-- What the disk's sectors say: the journal's count and records. -/
noncomputable def readS (l : List (List UInt8)) : Option (Nat × List (List UInt8)) :=
  if cntM (l.getD 0 []) (l.getD 1 []) (l.length - 2) < 0 then none
  else (foundP 2 ((l.drop 2).take (cntM (l.getD 0 []) (l.getD 1 []) (l.length - 2)).toNat)).bind fun t => (parseR t).map fun rs => ((cntM (l.getD 0 []) (l.getD 1 []) (l.length - 2)).toNat, rs)
/-- The two heads mended. -/
def Dk.mends (d : Dk) (c : Nat) : Dk × Int :=
  if (d.mend 0 (d.vw 0) c).2 = 0 then (d.mend 0 (d.vw 0) c).1.mend 1 (d.vw 1) c else d.mend 0 (d.vw 0) c
/-- Open. -/
noncomputable def openS (d : Dk) : Dk × Option Jn × Int :=
  if d.off then (d, none, 25)
  else if d.n < 3 then (d, none, 1)
  else match readS d.vws with
    | none => (d, none, 26)
    | some (c, rs) => if (d.mends c).2 = 0 then ((d.mends c).1, some ⟨d.n, c, rs, false⟩, 0) else ((d.mends c).1, none, (d.mends c).2)

theorem foundP_app : ∀ (a b : List (List UInt8)) (p : Nat), foundP p (a ++ b) = (foundP p a).bind fun t => (foundP (p + a.length) b).map fun u => t ++ u
  | [], b, p => by
    simp only [List.nil_append, foundP, Option.bind_some, List.length_nil, Nat.add_zero]
    cases foundP p b <;> rfl
  | s :: r, b, p => by
    simp only [List.cons_append, foundP, foundP_app r b (p + 1), List.length_cons]
    rw [show p + 1 + r.length = p + (r.length + 1) by omega]
    cases pieceOf p s with
    | none => rfl
    | some t =>
      simp only [Option.bind_some]
      cases foundP (p + 1) r with
      | none => rfl
      | some u =>
        simp only [Option.bind_some, Option.map_some]
        cases foundP (p + (r.length + 1)) b with
        | none => rfl
        | some x => simp
theorem foundP_len : ∀ (a : List (List UInt8)) (p : Nat) (t : List UInt8), foundP p a = some t → t.length ≤ 46 * a.length
  | [], _, t, h => by injection h with h; subst h; simp
  | s :: r, p, t, h => by
    simp only [foundP] at h
    cases hp : pieceOf p s with
    | none => rw [hp] at h; cases h
    | some u =>
      rw [hp, Option.bind_some] at h
      cases hf : foundP (p + 1) r with
      | none => rw [hf] at h; cases h
      | some x =>
        rw [hf] at h
        injection h with h
        subst h
        have h1 := foundP_len r (p + 1) x hf
        have h2 := (pieceOf_some hp).2.1
        simp
        omega
theorem foundP_bad {p i : Nat} {l : List (List UInt8)} {s : List UInt8} (h : l[i]? = some s) (hn : pieceOf (p + i) s = none) : foundP p l = none := by
  obtain ⟨h1, h2⟩ := List.getElem?_eq_some_iff.1 h
  rw [← List.take_append_drop i l, foundP_app, List.length_take, Nat.min_eq_left (by omega), List.drop_eq_getElem_cons h1, h2]
  simp only [foundP, hn, Option.bind_none, Option.map_none]
  cases foundP p (l.take i) <;> rfl
theorem foundP_next {p i : Nat} {l : List (List UInt8)} {s t T : List UInt8} (h : l[i]? = some s) (hT : foundP p (l.take i) = some T) (hp : pieceOf (p + i) s = some t) : foundP p (l.take (i + 1)) = some (T ++ t) := by
  obtain ⟨h1, h2⟩ := List.getElem?_eq_some_iff.1 h
  rw [List.take_succ_eq_append_getElem h1, h2, foundP_app, hT, List.length_take, Nat.min_eq_left (by omega)]
  simp [foundP, hp]
theorem pieceOf_none {p : Nat} {s : List UInt8} (h : Lib.atoi ((s.drop 16).take 2) = none) : pieceOf p s = none := by unfold pieceOf; rw [h]
theorem pieceOf_at {p : Nat} {s : List UInt8} {n : Int} (h : Lib.atoi ((s.drop 16).take 2) = some n) : pieceOf p s = if 1 ≤ n ∧ n ≤ 46 ∧ secL p ((s.drop 18).take n.toNat) = s then some ((s.drop 18).take n.toNat) else none := by unfold pieceOf; rw [h]
theorem textR_rows : ∀ (l : List (List UInt8)), l.length ≤ (textR l).length
  | [] => Nat.le_refl _
  | r :: l => by
    have e : textR (r :: l) = recL r ++ textR l := by simp [textR]
    have := textR_rows l
    rw [e, List.length_append, List.length_cons]
    have e3 : 1 ≤ (recL r).length := by unfold recL; simp; omega
    omega
theorem cntM_le (a b : List UInt8) (room : Nat) : cntM a b room ≤ room := by
  unfold cntM
  have h1 : cntL 0 a room ≤ room := by rcases cntL_spec 0 a room with h | ⟨_, h⟩ | ⟨n, hn, _, h⟩ <;> omega
  have h2 : cntL 1 b room ≤ room := by rcases cntL_spec 1 b room with h | ⟨_, h⟩ | ⟨n, hn, _, h⟩ <;> omega
  omega
theorem Dk.vws_len (d : Dk) : d.vws.length = d.n := by simp [Dk.vws]
theorem Dk.vws_at (d : Dk) {i : Nat} (h : i < d.n) : d.vws[i]? = some (d.vw i) := by simp [Dk.vws, h]
end Go.Proofs.YtieicjjmkedgaaaGreatDoor

/- A disk as sectors: what writes, synchronizations and a failure of the power leave. No program in sight. -/
namespace Go.Proofs.YtieicjjmkedgaaaGreatDoor

theorem splice_far {α : Type} {L t : List α} {i j : Nat} (ht : t.length ≤ 64) (hij : i ≠ j) (hL : 64 * j + 64 ≤ L.length) : ((splice L (64 * j) t).drop (64 * i)).take 64 = (L.drop (64 * i)).take 64 := by
  apply List.ext_getElem?
  intro k
  by_cases hk : k < 64
  · rw [List.getElem?_take_of_lt hk, List.getElem?_take_of_lt hk, List.getElem?_drop, List.getElem?_drop]
    unfold splice
    rcases Nat.lt_or_gt_of_ne hij with h | h
    · rw [List.getElem?_append_left (by simp; omega), List.getElem?_take_of_lt (by omega)]
    · rw [List.getElem?_append_right (by simp; omega), List.getElem?_append_right (by simp; omega), List.getElem?_drop]
      congr 1
      simp
      omega
  · rw [List.getElem?_eq_none (by simp; omega), List.getElem?_eq_none (by simp; omega)]
theorem splice_same {α : Type} {L t : List α} {i : Nat} (ht : t.length ≤ 64) (hL : 64 * i + 64 ≤ L.length) : ((splice L (64 * i) t).drop (64 * i)).take 64 = t ++ (((L.drop (64 * i)).take 64).drop t.length) := by
  apply List.ext_getElem?
  intro k
  by_cases hk : k < 64
  · rw [List.getElem?_take_of_lt hk, List.getElem?_drop]
    unfold splice
    by_cases h : k < t.length
    · rw [List.getElem?_append_right (by simp; omega), List.getElem?_append_left (by simp; omega), List.getElem?_append_left h]
      congr 1; simp; omega
    · rw [List.getElem?_append_right (by simp; omega), List.getElem?_append_right (by simp; omega), List.getElem?_append_right (by omega), List.getElem?_drop, List.getElem?_drop, List.getElem?_take_of_lt (by omega), List.getElem?_drop]
      congr 1; simp; omega
  · rw [List.getElem?_eq_none (by simp; omega), List.getElem?_eq_none (by simp; omega)]
theorem Dk.sec_len {d : Dk} (h : d.Ok) {i : Nat} (hi : i < d.n) : (d.sec i).length = 64 := by
  unfold Dk.sec
  rw [List.length_take, List.length_drop, h.st]
  omega
def Dk.sel (d : Dk) (i : Nat) : List UInt8 := (d.el.drop (64 * i)).take 64
theorem Dk.sel_len {d : Dk} (h : d.Ok) {i : Nat} (hi : i < d.n) : (d.sel i).length = 64 := by
  unfold Dk.sel
  rw [List.length_take, List.length_drop, h.el]
  omega
theorem Dk.set_sec {d : Dk} (h : d.Ok) {i j : Nat} {t : List UInt8} (hj : j < d.n) (ht : t.length ≤ 64) : (d.set_ j t).sec i = if i = j then t ++ (d.sec i).drop t.length else d.sec i := by
  split
  · rename_i e
    subst e
    exact splice_same ht (by rw [h.st]; omega)
  · rename_i e
    exact splice_far ht e (by rw [h.st]; omega)
theorem Dk.set_sel {d : Dk} (h : d.Ok) {i j : Nat} {t : List UInt8} (hj : j < d.n) : (d.set_ j t).sel i = if i = j then d.sec i else d.sel i := by
  have hl := Dk.sec_len h hj
  split
  · rename_i e
    subst e
    show ((splice d.el (64 * i) (d.sec i)).drop (64 * i)).take 64 = _
    rw [splice_same (by omega) (by rw [h.el]; omega), List.drop_of_length_le (by rw [List.length_take, List.length_drop, h.el]; omega), List.append_nil]
  · rename_i e
    show ((splice d.el (64 * j) (d.sec j)).drop (64 * i)).take 64 = _
    exact splice_far (by omega) e (by rw [h.el]; omega)

/-- Sectors, and what each contained before it was last changed. -/
structure Ss where
  f : Nat → List UInt8
  e : Nat → List UInt8
def Ss.put (S : Ss) (p : Nat × List UInt8) : Ss := ⟨fun i => if i = p.1 then p.2 else S.f i, fun i => if i = p.1 then S.f i else S.e i⟩
def Ss.puts (S : Ss) (l : List (Nat × List UInt8)) : Ss := l.foldl Ss.put S
def tornF (f : Nat → List UInt8) (p : Nat × List UInt8) (m : Nat) : Nat → List UInt8 := fun i => if i = p.1 then p.2.take m ++ (f i).drop m else f i
/-- What a failure of the power may leave of writes. -/
def Cr (n : Nat) (S : Ss) : List (Nat × List UInt8) → (Nat → List UInt8) → Prop
  | [], g => ∀ i, i < n → g i = S.f i
  | p :: r, g => (∃ m, m ≤ 64 ∧ ∀ i, i < n → g i = tornF S.f p m i) ∨ Cr n (S.put p) r g
theorem Ss.puts_app (S : Ss) (a b : List (Nat × List UInt8)) : S.puts (a ++ b) = (S.puts a).puts b := by unfold Ss.puts; rw [List.foldl_append]
theorem Ss.puts_far {i : Nat} : ∀ (l : List (Nat × List UInt8)) (S : Ss), (∀ p ∈ l, p.1 ≠ i) → (S.puts l).f i = S.f i ∧ (S.puts l).e i = S.e i
  | [], _, _ => ⟨rfl, rfl⟩
  | p :: r, S, h => by
    have h1 := Ss.puts_far r (S.put p) (fun q hq => h q (List.mem_cons_of_mem _ hq))
    have h2 : i ≠ p.1 := fun e => h p List.mem_cons_self e.symm
    refine ⟨h1.1.trans (if_neg h2), h1.2.trans (if_neg h2)⟩
theorem Cr.app {n : Nat} {g : Nat → List UInt8} : ∀ {a b : List (Nat × List UInt8)} {S : Ss}, Cr n S (a ++ b) g → Cr n S a g ∨ Cr n (S.puts a) b g
  | [], _, _, h => .inr h
  | p :: r, b, S, h => by
    rcases h with h | h
    · exact .inl (.inl h)
    · rcases Cr.app (a := r) h with h1 | h1
      · exact .inl (.inr h1)
      · exact .inr h1
theorem Cr.left {n : Nat} {g : Nat → List UInt8} : ∀ {a b : List (Nat × List UInt8)} {S : Ss}, (∀ p ∈ a ++ b, p.2.length = 64) → Cr n S a g → Cr n S (a ++ b) g
  | [], b, S, _, h => by
    cases b with
    | nil => exact h
    | cons p r =>
      refine .inl ⟨0, by omega, fun i hi => (h i hi).trans ?_⟩
      unfold tornF
      split <;> simp
  | p :: r, b, S, hl, h => by
    rcases h with h | h
    · exact .inl h
    · exact .inr (Cr.left (fun q hq => hl q (List.mem_cons_of_mem _ hq)) h)
theorem Cr.right {n : Nat} {g : Nat → List UInt8} : ∀ {a b : List (Nat × List UInt8)} {S : Ss}, Cr n (S.puts a) b g → Cr n S (a ++ b) g
  | [], _, _, h => h
  | _ :: r, _, _, h => .inr (Cr.right (a := r) h)
theorem Cr.far {n i : Nat} {g : Nat → List UInt8} (hi : i < n) : ∀ {l : List (Nat × List UInt8)} {S : Ss}, Cr n S l g → (∀ p ∈ l, p.1 ≠ i) → g i = S.f i
  | [], _, h, _ => h i hi
  | p :: r, S, h, hf => by
    have h2 : i ≠ p.1 := fun e => hf p List.mem_cons_self e.symm
    rcases h with ⟨m, _, h⟩ | h
    · rw [h i hi]; exact if_neg h2
    · rw [Cr.far hi h (fun q hq => hf q (List.mem_cons_of_mem _ hq))]; exact if_neg h2

/-! The disk. -/
def toW (q : List (Nat × ByteArray)) : List (Nat × List UInt8) := q.map fun p => (p.1, p.2.data.toList)
def Dk.ss (d : Dk) : Ss := ⟨d.sec, d.sel⟩
/-- Alike on the first n sectors. -/
def Alike (n : Nat) (S T : Ss) : Prop := ∀ i, i < n → S.f i = T.f i ∧ S.e i = T.e i
theorem Alike.refl (n : Nat) (S : Ss) : Alike n S S := fun _ _ => ⟨rfl, rfl⟩
theorem Alike.trans {n : Nat} {S T U : Ss} (h : Alike n S T) (k : Alike n T U) : Alike n S U := fun i hi => ⟨(h i hi).1.trans (k i hi).1, (h i hi).2.trans (k i hi).2⟩
theorem Alike.put {n : Nat} {S T : Ss} (h : Alike n S T) (p : Nat × List UInt8) : Alike n (S.put p) (T.put p) := fun i hi => by
  unfold Ss.put
  simp only
  rw [(h i hi).1, (h i hi).2]
  exact ⟨rfl, rfl⟩
theorem Alike.puts {n : Nat} (l : List (Nat × List UInt8)) : ∀ {S T : Ss}, Alike n S T → Alike n (S.puts l) (T.puts l) := by
  induction l with
  | nil => exact fun h => h
  | cons p r ih => exact fun h => ih (h.put p)
theorem Cr.alike {n : Nat} {g : Nat → List UInt8} : ∀ {l : List (Nat × List UInt8)} {S T : Ss}, Alike n S T → Cr n T l g → Cr n S l g
  | [], _, _, h, k => fun i hi => (k i hi).trans (h i hi).1.symm
  | p :: r, S, T, h, k => by
    rcases k with ⟨m, hm, k⟩ | k
    · refine .inl ⟨m, hm, fun i hi => (k i hi).trans ?_⟩
      unfold tornF
      rw [(h i hi).1]
    · exact .inr (Cr.alike (h.put p) k)
theorem bal (t : ByteArray) : t.data.toList.length = t.size := by simp
theorem Dk.set_put {d : Dk} (h : d.Ok) {p : Nat × ByteArray} (hp : p.1 < d.n) (ht : p.2.size = 64) : Alike d.n (d.set_ p.1 p.2.data.toList).ss (d.ss.put (p.1, p.2.data.toList)) := fun i hi => by
  have hl := bal p.2
  have hs := Dk.sec_len h hi
  refine ⟨?_, ?_⟩
  · show (d.set_ p.1 p.2.data.toList).sec i = _
    rw [Dk.set_sec h hp (by omega), List.drop_of_length_le (by omega), List.append_nil]
    rfl
  · show (d.set_ p.1 p.2.data.toList).sel i = _
    rw [Dk.set_sel h hp]
    rfl
theorem Dk.settle_puts : ∀ (q : List (Nat × ByteArray)) {d : Dk}, d.Ok → (∀ p ∈ q, p.1 < d.n ∧ p.2.size = 64) → Alike d.n (d.settle q).ss (d.ss.puts (toW q))
  | [], _, _, _ => Alike.refl _ _
  | p :: r, d, h, hq => by
    have hp := hq p List.mem_cons_self
    have hl := bal p.2
    have h1 := Dk.settle_puts r (d := d.set_ p.1 p.2.data.toList) (Dk.set_ok h hp.1 (by omega)) (fun x hx => hq x (List.mem_cons_of_mem _ hx))
    exact h1.trans (Alike.puts (toW r) (Dk.set_put h hp.1 hp.2))
theorem lastOf_cons (p : Nat × ByteArray) (l : List (Nat × ByteArray)) (i : Nat) : lastOf (p :: l) i = (lastOf l i).or (if p.1 = i then some p.2 else none) := by
  unfold lastOf
  rw [List.reverse_cons, List.find?_append]
  cases h2 : l.reverse.find? (fun p => p.1 == i) with
  | some q => simp
  | none =>
    simp only [Option.none_or, List.find?_cons, List.find?_nil, Option.map_none]
    by_cases h3 : p.1 = i
    · simp [h3]
    · have : (p.1 == i) = false := by simpa using h3
      simp [this, h3]
theorem last_puts (i : Nat) : ∀ (q : List (Nat × ByteArray)) (S : Ss), (S.puts (toW q)).f i = ((lastOf q i).map fun t => t.data.toList).getD (S.f i)
  | [], _ => rfl
  | p :: r, S => by
    have h1 := last_puts i r (S.put (p.1, p.2.data.toList))
    refine h1.trans ?_
    rw [lastOf_cons]
    cases h2 : lastOf r i with
    | some q => rfl
    | none =>
      simp only [Option.none_or, Option.map_none, Option.getD_none]
      by_cases h3 : p.1 = i
      · rw [if_pos h3]; exact if_pos h3.symm
      · rw [if_neg h3]; exact if_neg fun e => h3 e.symm
/-- What the sectors show: the pending writes, too. -/
theorem Dk.vw_puts (d : Dk) (i : Nat) : d.vw i = (d.ss.puts (toW d.q)).f i := by
  rw [last_puts]
  unfold Dk.vw Dk.view
  cases lastOf d.q i <;> rfl
theorem toW_take (q : List (Nat × ByteArray)) (k : Nat) : toW (q.take k) = (toW q).take k := by simp [toW, List.map_take]
theorem cr_take {n : Nat} {g : Nat → List UInt8} {m : Nat} (hm : m ≤ 64) : ∀ (k : Nat) {l : List (Nat × List UInt8)} {S : Ss}, (∀ p ∈ l, p.2.length = 64) →
    (∀ i, i < n → g i = match l[k]? with | some p => tornF (S.puts (l.take k)).f p m i | none => (S.puts (l.take k)).f i) → Cr n S l g
  | k, [], S, _, h => fun i hi => by simpa [Ss.puts] using h i hi
  | 0, p :: r, S, _, h => .inl ⟨m, hm, fun i hi => h i hi⟩
  | k + 1, p :: r, S, hl, h => .inr (cr_take hm k (fun q hq => hl q (List.mem_cons_of_mem _ hq)) fun i hi => h i hi)
/-- A failure of the power. -/
theorem Dk.fail_cr {d : Dk} (h : d.Ok) (ho : d.off = false) (x y : Int) : Cr d.n d.ss (toW d.q) (d.fail x y).sec ∧ (d.fail x y).Ok ∧ (d.fail x y).off = true ∧ (d.fail x y).q = [] ∧ (d.fail x y).n = d.n ∧ (d.fail x y).arm = none := by
  obtain ⟨k, hk⟩ : ∃ k, clamp x d.q.length = k := ⟨_, rfl⟩
  obtain ⟨m, hm⟩ : ∃ m, clamp y 64 = m := ⟨_, rfl⟩
  have hm64 : m ≤ 64 := by rw [← hm]; unfold clamp; omega
  have hq : ∀ p ∈ d.q.take k, p.1 < d.n ∧ p.2.size = 64 := fun p hp => h.q p (List.mem_of_mem_take hp)
  have h1 := Dk.settle_puts (d.q.take k) h hq
  have h2 := Dk.settle_ok (d.q.take k) h hq
  have h3 := (Dk.settle_same (d.q.take k) d).1
  have hf : d.fail x y = { (((d.settle (d.q.take k)).torn d.q[k]? m)) with q := [], off := true, arm := none } := by
    unfold Dk.fail
    rw [if_neg (by simp [ho]), hk, hm]
  have hlen : ∀ p ∈ toW d.q, p.2.length = 64 := fun p hp => by
    obtain ⟨t, ht, rfl⟩ := List.mem_map.1 hp
    exact (bal _).trans (h.q t ht).2
  have hto : (((d.settle (d.q.take k)).torn d.q[k]? m)).Ok ∧ ((d.settle (d.q.take k)).torn d.q[k]? m).n = d.n ∧
      ∀ i, i < d.n → ((d.settle (d.q.take k)).torn d.q[k]? m).sec i = match (toW d.q)[k]? with | some p => tornF (d.ss.puts ((toW d.q).take k)).f p m i | none => (d.ss.puts ((toW d.q).take k)).f i := by
    rw [toW_take] at h1
    have hm2 : (toW d.q)[k]? = d.q[k]?.map fun p => (p.1, p.2.data.toList) := by simp [toW]
    rw [hm2]
    cases hp : d.q[k]? with
    | none => exact ⟨h2, h3, fun i hi => (h1 i hi).1⟩
    | some p =>
      obtain ⟨hp1, hp2⟩ := h.q p (List.mem_of_getElem? hp)
      have hl := bal p.2
      unfold Dk.torn
      simp only [Option.map_some]
      split
      · have ht : (p.2.data.toList.take m).length = m := by rw [List.length_take]; omega
        refine ⟨Dk.set_ok h2 (by rw [h3]; exact hp1) (by omega), h3, fun i hi => ?_⟩
        rw [Dk.set_sec h2 (by rw [h3]; exact hp1) (by omega), ht]
        have := (h1 i hi).1
        unfold tornF
        rw [← this]
        rfl
      · obtain rfl : m = 0 := by omega
        refine ⟨h2, h3, fun i hi => ?_⟩
        have := (h1 i hi).1
        unfold tornF
        rw [← this]
        simp only [List.take_zero, List.nil_append, List.drop_zero]
        split <;> rfl
  rw [hf]
  obtain ⟨k1, k2, k3⟩ := hto
  exact ⟨cr_take hm64 k hlen k3, ⟨k1.n1, k1.n2, k1.st, k1.el, by simp, by simp⟩, rfl, rfl, k2, rfl⟩


/-- The disk is off; of the writes ws a failure of the power has left some. -/
structure Dead (n : Nat) (S : Ss) (ws : List (Nat × List UInt8)) (d : Dk) : Prop where
  ok : d.Ok
  off : d.off = true
  q : d.q = []
  nn : d.n = n
  arm : d.arm = none
  cr : Cr n S ws d.sec
def sizes (n : Nat) (ws : List (Nat × List UInt8)) : Prop := ∀ p ∈ ws, p.1 < n ∧ p.2.length = 64
theorem Dk.Ok.sizes {d : Dk} (h : d.Ok) : sizes d.n (toW d.q) := fun p hp => by
  obtain ⟨t, ht, rfl⟩ := List.mem_map.1 hp
  exact ⟨(h.q t ht).1, (bal _).trans (h.q t ht).2⟩
theorem sizes.app {n : Nat} {a b : List (Nat × List UInt8)} (h : sizes n a) (k : sizes n b) : sizes n (a ++ b) := fun p hp => (List.mem_append.1 hp).elim (h p) (k p)
theorem Dead.left {n : Nat} {S : Ss} {a b : List (Nat × List UInt8)} {d : Dk} (h : Dead n S a d) (hs : Go.Proofs.YtieicjjmkedgaaaGreatDoor.sizes n (a ++ b)) : Dead n S (a ++ b) d :=
  ⟨h.ok, h.off, h.q, h.nn, h.arm, h.cr.left fun p hp => (hs p hp).2⟩

/-- What counting a call does. -/
theorem Dk.count_on {d : Dk} (h : d.Ok) (ho : d.off = false) :
    (d.count.2 = 0 ∧ d.count.1.Ok ∧ d.count.1.off = false ∧ d.count.1.n = d.n ∧ d.count.1.ss = d.ss ∧ d.count.1.q = d.q ∧ (d.arm = none → d.count.1.arm = none)) ∨ (d.count.2 = 25 ∧ d.arm ≠ none ∧ Dead d.n d.ss (toW d.q) d.count.1) := by
  cases ha : d.arm with
  | none =>
    have e : d.count = (d, 0) := by unfold Dk.count; rw [ha]
    rw [e]
    exact .inl ⟨rfl, h, ho, rfl, rfl, rfl, fun _ => ha⟩
  | some x =>
    obtain ⟨a, y, z⟩ := x
    by_cases h0 : 0 < a
    · have e : d.count = ({ d with arm := some (a - 1, y, z) }, 0) := by unfold Dk.count; rw [ha]; simp only; rw [if_pos h0]
      rw [e]
      have hx := h.arm _ ha
      refine .inl ⟨rfl, ⟨h.n1, h.n2, h.st, h.el, h.q, fun x hx2 => ?_⟩, ho, rfl, rfl, rfl, fun h => by cases h⟩
      obtain rfl : (a - 1, y, z) = x := by simpa using hx2
      simp only at hx ⊢
      omega
    · have e : d.count = (d.fail y z, 25) := by unfold Dk.count; rw [ha]; simp only; rw [if_neg h0]
      rw [e]
      obtain ⟨h1, h2, h3, h4, h5, h6⟩ := Dk.fail_cr h ho y z
      exact .inr ⟨rfl, by simp, h2, h3, h4, h5, h6, h1⟩
theorem Dk.write_on {d : Dk} (h : d.Ok) (ho : d.off = false) {p : Nat} {x : List UInt8} (hp : p < d.n) (hx : x.length = 64) :
    ((d.write p (bs x)).2 = 0 ∧ (d.write p (bs x)).1.Ok ∧ (d.write p (bs x)).1.off = false ∧ (d.write p (bs x)).1.n = d.n ∧ (d.write p (bs x)).1.ss = d.ss ∧ toW (d.write p (bs x)).1.q = toW d.q ++ [(p, x)] ∧ (d.arm = none → (d.write p (bs x)).1.arm = none)) ∨
      ((d.write p (bs x)).2 = 25 ∧ d.arm ≠ none ∧ Dead d.n d.ss (toW d.q ++ [(p, x)]) (d.write p (bs x)).1) := by
  have hhas : d.has (p : Int) = true := by simp [Dk.has]; omega
  have e : d.write p (bs x) = Dk.count { d with q := d.q ++ [(p, bs x)] } := by
    unfold Dk.write
    rw [if_neg (by simp [ho]), if_neg (by simp [hhas]), if_neg (by rw [bs_size, hx]; simp)]
    simp
  rw [e]
  have hq : toW (d.q ++ [(p, bs x)]) = toW d.q ++ [(p, x)] := by simp [toW, bs]
  have hok : Dk.Ok { d with q := d.q ++ [(p, bs x)] } := ⟨h.n1, h.n2, h.st, h.el, fun y hy => by
    rcases List.mem_append.1 hy with hy | hy
    · exact h.q y hy
    · obtain rfl : y = (p, bs x) := by simpa using hy
      exact ⟨hp, by rw [bs_size, hx]⟩, h.arm⟩
  rcases Dk.count_on hok ho with ⟨h1, h2, h3, h4, h5, h6, h7⟩ | ⟨h1, h2, h3⟩
  · exact .inl ⟨h1, h2, h3, h4, h5, by rw [h6]; exact hq, h7⟩
  · refine .inr ⟨h1, h2, ?_⟩
    rw [← hq]
    exact h3
theorem Dk.sync_on {d : Dk} (h : d.Ok) (ho : d.off = false) :
    (d.sync.2 = 0 ∧ d.sync.1.Ok ∧ d.sync.1.off = false ∧ d.sync.1.n = d.n ∧ Alike d.n d.sync.1.ss (d.ss.puts (toW d.q)) ∧ d.sync.1.q = [] ∧ (d.arm = none → d.sync.1.arm = none)) ∨
      (d.sync.2 = 25 ∧ d.arm ≠ none ∧ Dead d.n d.ss (toW d.q) d.sync.1) := by
  rcases Dk.count_on h ho with ⟨h1, h2, h3, h4, h5, h6, h7⟩ | ⟨h1, h2, h3⟩
  · have e : d.sync = ({ d.count.1.settle d.count.1.q with q := [] }, 0) := by unfold Dk.sync; rw [if_neg (by simp [ho]), if_pos h1]
    rw [e]
    have hs := Dk.settle_same d.count.1.q d.count.1
    have hp := Dk.settle_puts d.count.1.q h2 (fun p hp => h2.q p hp)
    have hk := Dk.settle_ok d.count.1.q h2 (fun p hp => h2.q p hp)
    rw [h4, h5, h6] at hp
    refine .inl ⟨rfl, ⟨hk.n1, hk.n2, hk.st, hk.el, by simp, hk.arm⟩, hs.2.2.1.trans h3, hs.1.trans h4, ?_, rfl, fun ha => hs.2.2.2.trans (h7 ha)⟩
    rw [h6]
    exact hp
  · have e : d.sync = d.count := by unfold Dk.sync; rw [if_neg (by simp [ho]), if_neg (by rw [h1]; decide)]
    rw [e]
    exact .inr ⟨h1, h2, h3⟩
/-- The writes of sectors from a place on. -/
def enumW : Nat → List (List UInt8) → List (Nat × List UInt8)
  | _, [] => []
  | p, s :: r => (p, s) :: enumW (p + 1) r
theorem enumW_mem : ∀ {l : List (List UInt8)} {p : Nat} {x : Nat × List UInt8}, x ∈ enumW p l → p ≤ x.1 ∧ x.1 < p + l.length ∧ x.2 ∈ l
  | [], _, _, h => by simp [enumW] at h
  | s :: r, p, x, h => by
    rcases List.mem_cons.1 h with rfl | h
    · exact ⟨Nat.le_refl _, by simp, List.mem_cons_self⟩
    · obtain ⟨h1, h2, h3⟩ := enumW_mem h
      exact ⟨by omega, by simp only [List.length_cons]; omega, List.mem_cons_of_mem _ h3⟩
theorem enumW_sizes {n p : Nat} {l : List (List UInt8)} (h : p + l.length ≤ n) (hl : ∀ s ∈ l, s.length = 64) : sizes n (enumW p l) := fun x hx => by
  obtain ⟨h1, h2, h3⟩ := enumW_mem hx
  exact ⟨by omega, hl _ h3⟩
theorem Dk.puts_on : ∀ (l : List (List UInt8)) {d : Dk} {p : Nat}, d.Ok → d.off = false → p + l.length ≤ d.n → (∀ s ∈ l, s.length = 64) →
    ((d.puts p l).2 = 0 ∧ (d.puts p l).1.Ok ∧ (d.puts p l).1.off = false ∧ (d.puts p l).1.n = d.n ∧ Alike d.n (d.puts p l).1.ss (d.ss.puts (toW d.q ++ enumW p l)) ∧ (d.puts p l).1.q = [] ∧ (d.arm = none → (d.puts p l).1.arm = none)) ∨
      ((d.puts p l).2 = 25 ∧ d.arm ≠ none ∧ Dead d.n d.ss (toW d.q ++ enumW p l) (d.puts p l).1)
  | [], d, p, h, ho, _, _ => by
    simp only [enumW, List.append_nil]
    exact Dk.sync_on h ho
  | s :: r, d, p, h, ho, hp, hl => by
    simp only [List.length_cons] at hp
    rcases Dk.write_on h ho (p := p) (x := s) (by omega) (hl s List.mem_cons_self) with ⟨h1, h2, h3, h4, h5, h6, h7⟩ | ⟨h1, h2, h3⟩
    · have e : d.puts p (s :: r) = (d.write p (bs s)).1.puts (p + 1) r := by simp only [Dk.puts]; rw [if_pos h1]
      rw [e]
      have e2 : toW d.q ++ enumW p (s :: r) = toW (d.write p (bs s)).1.q ++ enumW (p + 1) r := by rw [h6, enumW, List.append_assoc]; rfl
      rw [e2]
      rcases Dk.puts_on r h2 h3 (p := p + 1) (by omega) (fun x hx => hl x (List.mem_cons_of_mem _ hx)) with ⟨k1, k2, k3, k4, k5, k6, k7⟩ | ⟨k1, k2, k3⟩
      · rw [h4, h5] at k5
        exact .inl ⟨k1, k2, k3, k4.trans h4, k5, k6, fun ha => k7 (h7 ha)⟩
      · rw [h4, h5] at k3
        exact .inr ⟨k1, fun ha => k2 (h7 ha), k3⟩
    · have e : d.puts p (s :: r) = d.write p (bs s) := by simp only [Dk.puts]; rw [if_neg (by rw [h1]; decide)]
      rw [e]
      refine .inr ⟨h1, h2, ?_⟩
      have e2 : toW d.q ++ enumW p (s :: r) = (toW d.q ++ [(p, s)]) ++ enumW (p + 1) r := by rw [enumW, List.append_assoc]; rfl
      rw [e2]
      refine h3.left ?_
      rw [← e2]
      exact h.sizes.app (enumW_sizes hp hl)
/-- All writes of some steps. -/
def flatW (L : List (Nat × List (List UInt8))) : List (Nat × List UInt8) := (L.map fun x => enumW x.1 x.2).flatten
theorem flatW_cons (x : Nat × List (List UInt8)) (L : List (Nat × List (List UInt8))) : flatW (x :: L) = enumW x.1 x.2 ++ flatW L := by simp [flatW]
theorem flatW_app (a b : List (Nat × List (List UInt8))) : flatW (a ++ b) = flatW a ++ flatW b := by simp [flatW]
def stepsOk (n : Nat) (L : List (Nat × List (List UInt8))) : Prop := ∀ x ∈ L, x.1 + x.2.length ≤ n ∧ ∀ s ∈ x.2, s.length = 64
theorem flatW_sizes {n : Nat} : ∀ {L : List (Nat × List (List UInt8))}, stepsOk n L → sizes n (flatW L)
  | [], _ => fun p hp => by simp [flatW] at hp
  | x :: L, h => by
    rw [flatW_cons]
    exact (enumW_sizes (h x List.mem_cons_self).1 (h x List.mem_cons_self).2).app (flatW_sizes fun y hy => h y (List.mem_cons_of_mem _ hy))
theorem Dk.steps_on : ∀ (L : List (Nat × List (List UInt8))) {d : Dk}, d.Ok → d.off = false → stepsOk d.n L →
    ((d.steps L).2 = 0 ∧ (d.steps L).1.Ok ∧ (d.steps L).1.off = false ∧ (d.steps L).1.n = d.n ∧ Alike d.n ((d.steps L).1.ss.puts (toW (d.steps L).1.q)) (d.ss.puts (toW d.q ++ flatW L)) ∧ (L ≠ [] ∨ d.q = [] → (d.steps L).1.q = []) ∧ (d.arm = none → (d.steps L).1.arm = none)) ∨
      ((d.steps L).2 = 25 ∧ d.arm ≠ none ∧ Dead d.n d.ss (toW d.q ++ flatW L) (d.steps L).1)
  | [], d, h, ho, _ => by
    refine .inl ⟨rfl, h, ho, rfl, ?_, fun hq => ?_, fun ha => ha⟩
    · simp only [flatW, List.map_nil, List.flatten_nil, List.append_nil]
      exact Alike.refl _ _
    · rcases hq with hq | hq
      · exact absurd rfl hq
      · exact hq
  | (p, l) :: L, d, h, ho, hL => by
    have hx := hL (p, l) List.mem_cons_self
    have hL2 : stepsOk d.n L := fun y hy => hL y (List.mem_cons_of_mem _ hy)
    rw [flatW_cons, ← List.append_assoc]
    rcases Dk.puts_on l h ho hx.1 hx.2 with ⟨h1, h2, h3, h4, h5, h6, h7⟩ | ⟨h1, h2, h3⟩
    · have e : d.steps ((p, l) :: L) = (d.puts p l).1.steps L := by simp only [Dk.steps]; rw [if_pos h1]
      rw [e]
      rcases Dk.steps_on L h2 h3 (by rw [h4]; exact hL2) with ⟨k1, k2, k3, k4, k5, k6, k7⟩ | ⟨k1, k2, k3⟩
      · rw [h4, h6] at k5
        refine .inl ⟨k1, k2, k3, k4.trans h4, ?_, fun _ => k6 (.inr h6), fun ha => k7 (h7 ha)⟩
        rw [Ss.puts_app]
        exact k5.trans (h5.puts (flatW L))
      · rw [h4, h6] at k3
        exact .inr ⟨k1, fun ha => k2 (h7 ha), k3.ok, k3.off, k3.q, k3.nn, k3.arm, Cr.right (Cr.alike (fun i hi => ⟨(h5 i hi).1.symm, (h5 i hi).2.symm⟩) k3.cr)⟩
    · have e : d.steps ((p, l) :: L) = d.puts p l := by simp only [Dk.steps]; rw [if_neg (by rw [h1]; decide)]
      rw [e]
      exact .inr ⟨h1, h2, h3.left ((h.sizes.app (enumW_sizes hx.1 hx.2)).app (flatW_sizes hL2))⟩
theorem Dk.steps_app : ∀ (a b : List (Nat × List (List UInt8))) (d : Dk), d.steps (a ++ b) = if (d.steps a).2 = 0 then (d.steps a).1.steps b else d.steps a
  | [], b, d => by simp [Dk.steps]
  | (p, l) :: a, b, d => by
    simp only [List.cons_append, Dk.steps]
    split
    · exact Dk.steps_app a b _
    · rfl


theorem hexc_ne (n : Nat) (h : n < 16) : hexc n ≠ 0 := by
  intro e
  have h2 := congrArg UInt8.toNat e
  unfold hexc at h2
  split at h2
  · rw [UInt8.toNat_ofNat'] at h2
    simp at h2
    omega
  · rw [UInt8.toNat_ofNat'] at h2
    simp at h2
    omega
theorem sum_byte (l : List UInt8) {i : Nat} (hi : i < 16) : ∃ b, (sumL l)[i]? = some b ∧ b ≠ 0 := by
  unfold sumL hexL
  rw [List.getElem?_map, List.getElem?_range hi]
  exact ⟨_, rfl, hexc_ne _ (Nat.mod_lt _ (by decide))⟩
theorem seal_byte (place : Nat) (c : List UInt8) {i : Nat} (hi : i < 16) : ∃ b, (sealL place c)[i]? = some b ∧ b ≠ 0 := by
  unfold sealL
  rw [List.getElem?_append_left (by rw [sumL_len]; exact hi)]
  exact sum_byte _ hi
theorem zero_byte {i : Nat} (hi : i < 64) : zeroL[i]? = some 0 := by unfold zeroL; rw [List.getElem?_replicate, if_pos hi]
theorem seal_drop (place : Nat) (c : List UInt8) : (sealL place c).drop 16 = padL 48 c := by
  unfold sealL
  rw [← sumL_len (lastD 8 place ++ padL 48 c), List.drop_left]
theorem seal_take (place : Nat) (c : List UInt8) : (sealL place c).take 16 = sumL (lastD 8 place ++ padL 48 c) := by
  unfold sealL
  rw [← sumL_len (lastD 8 place ++ padL 48 c), List.take_left]
theorem zeroL_len : zeroL.length = 64 := by simp [zeroL]
theorem head_pad (n : Nat) : padL 48 (lastD 8 n) = lastD 8 n ++ List.replicate 40 0 := by
  rw [padL_short (by rw [lastD_len]; decide), lastD_len]
theorem head_content {p a b : Nat} (ha : a < 100000000) (hb : b < 100000000) (h : (headL p a).drop 16 = (headL p b).drop 16) : a = b := by
  unfold headL at h
  rw [seal_drop, seal_drop, head_pad, head_pad] at h
  exact lastD_inj ha hb (List.append_inj h (by rw [lastD_len, lastD_len])).1
theorem head_digest {p a b : Nat} (ha : a < 100000000) (hb : b < 100000000) (h : (headL p a).take 16 = (headL p b).take 16) : a = b := by
  unfold headL at h
  rw [seal_take, seal_take, head_pad, head_pad] at h
  have e := sumL_block (j := 1) (lastD_len 8 p) (lastD_len 8 a) (lastD_len 8 b) (by simp only [List.length_append, lastD_len, List.length_replicate]; decide) h
  exact lastD_inj ha hb e
theorem head_zero_content {p a : Nat} : (headL p a).drop 16 ≠ zeroL.drop 16 := by
  intro h
  have h1 := headL_digits p a
  rw [h] at h1
  have h2 := congrArg (fun l => l[7]?) h1
  have h3 := c8_nat (Nat.mod_lt a (show 0 < 10 by decide))
  have e1 : ((zeroL.drop 16).take 8)[7]? = some (0 : UInt8) := by decide
  have e2 : (lastD 8 a)[7]? = some (c8 (a % 10)) := by
    rw [lastD, List.getElem?_append_right (by rw [lastD_len]; exact Nat.le_refl _), lastD_len]
    rfl
  simp only [e1, e2] at h2
  injection h2 with h2
  rw [← h2] at h3
  simp at h3
  omega
/-- What a head may be that a journal's count of c wrote. -/
def Hd1 (p c : Nat) (v : List UInt8) : Prop := v = headL p c ∨ (c = 0 ∧ v = zeroL)
theorem torn_get {a b : List UInt8} {m i : Nat} (ha : a.length = 64) (him : i < m) (h64 : i < 64) : (a.take m ++ b.drop m)[i]? = a[i]? := by
  rw [List.getElem?_append_left (by rw [List.length_take]; omega), List.getElem?_take_of_lt him]
theorem torn_zero {a b : List UInt8} : a.take 0 ++ b.drop 0 = b := by simp
theorem torn_drop {a b : List UInt8} {m : Nat} (ha : a.length = 64) (hm : m ≤ 16) : (a.take m ++ b.drop m).drop 16 = b.drop 16 := by
  rw [List.drop_append, List.drop_of_length_le (by rw [List.length_take]; omega), List.nil_append, List.drop_drop, List.length_take]
  congr 1
  omega
theorem torn_take {a b : List UInt8} {m : Nat} (ha : a.length = 64) (hm : 16 ≤ m) (hm2 : m ≤ 64) : (a.take m ++ b.drop m).take 16 = a.take 16 := by
  rw [List.take_append_of_le_length (by rw [List.length_take]; omega), List.take_take]
  congr 1
  omega
/-- A head that was torn while a new one was written over it. -/
theorem torn_head {p c k m room : Nat} {old : List UInt8} (ho : old = headL p c ∨ old = zeroL) (hc : c < 100000000) (hk : k < 100000000) (hr : room < 100000000) (hm : m ≤ 64) :
    (headL p k).take m ++ old.drop m = old ∨ (headL p k).take m ++ old.drop m = headL p k ∨ cntL p ((headL p k).take m ++ old.drop m) room = -1 := by
  have hl := headL_len p k
  rcases Nat.eq_zero_or_pos m with rfl | hm0
  · exact .inl torn_zero
  obtain ⟨v, hv⟩ : ∃ v, (headL p k).take m ++ old.drop m = v := ⟨_, rfl⟩
  rw [hv]
  rcases cntL_spec p v room with h | ⟨h, _⟩ | ⟨e, he, h, _⟩
  · exact .inr (.inr h)
  · exfalso
    obtain ⟨b, hb, hb0⟩ := seal_byte p (lastD 8 k) (i := 0) (by decide)
    have h1 := torn_get (b := old) hl hm0 (by decide)
    rw [hv, h, zero_byte (by decide)] at h1
    have h2 : (headL p k)[0]? = some b := hb
    rw [h2] at h1
    injection h1 with h1
    exact hb0 h1.symm
  · by_cases h16 : m ≤ 16
    · have h1 := torn_drop (b := old) hl h16
      rw [hv, h] at h1
      rcases ho with rfl | rfl
      · have := head_content (by omega) hc h1
        subst this
        exact .inl h
      · exact absurd h1 head_zero_content
    · have h1 := torn_take (b := old) hl (by omega) hm
      rw [hv, h] at h1
      have := head_digest (by omega) hk h1
      subst this
      exact .inr (.inl h)
/-- A sector that was torn while it was cleared. -/
theorem torn_clear {p m room : Nat} {old : List UInt8} (hm : m ≤ 64) : zeroL.take m ++ old.drop m = old ∨ zeroL.take m ++ old.drop m = zeroL ∨ cntL p (zeroL.take m ++ old.drop m) room = -1 := by
  rcases Nat.eq_zero_or_pos m with rfl | hm0
  · exact .inl torn_zero
  obtain ⟨v, hv⟩ : ∃ v, zeroL.take m ++ old.drop m = v := ⟨_, rfl⟩
  rw [hv]
  rcases cntL_spec p v room with h | ⟨h, _⟩ | ⟨e, he, h, _⟩
  · exact .inr (.inr h)
  · exact .inr (.inl h)
  · exfalso
    obtain ⟨b, hb, hb0⟩ := seal_byte p (lastD 8 e) (i := 0) (by decide)
    have h1 := torn_get (a := zeroL) (b := old) zeroL_len hm0 (by decide)
    rw [hv, h, zero_byte (by decide)] at h1
    have h2 : (headL p e)[0]? = some b := hb
    rw [h2] at h1
    injection h1 with h1
    exact hb0 h1
/-- Two sealed sectors never part in one byte alone. -/
theorem seal_rot {place : Nat} {c c' : List UInt8} {i : Nat} {b : UInt8} (hi : i < 64) (h : sealL place c' = (sealL place c).set i b) : sealL place c' = sealL place c := by
  have hl := padL_len 48 c
  have hl' := padL_len 48 c'
  have hs := seal_drop place c
  have hs' := seal_drop place c'
  have ht := seal_take place c
  have ht' := seal_take place c'
  have hC : padL 48 c' = padL 48 c := by
    by_cases h16 : i < 16
    · rw [← hs, ← hs', h, List.drop_set_of_lt h16]
    · have hd : padL 48 c' = (padL 48 c).set (i - 16) b := by
        rw [← hs, ← hs', h, List.drop_set, if_neg (by omega)]
      have hd2 : sumL (lastD 8 place ++ padL 48 c') = sumL (lastD 8 place ++ padL 48 c) := by
        rw [← ht, ← ht', h, List.take_set_of_le (by omega)]
      obtain ⟨k, hk⟩ : ∃ k, i - 16 = k := ⟨_, rfl⟩
      rw [hk] at hd
      have hk48 : k < 48 := by omega
      generalize padL 48 c = C at *
      generalize padL 48 c' = C' at *
      obtain ⟨j, hj⟩ : ∃ j, k / 8 = j := ⟨_, rfl⟩
      have e1 : C = C.take (8 * j) ++ ((C.drop (8 * j)).take 8 ++ C.drop (8 * j + 8)) := by
        rw [← List.drop_drop, List.take_append_drop, List.take_append_drop]
      have e2 : C' = C.take (8 * j) ++ ((C'.drop (8 * j)).take 8 ++ C.drop (8 * j + 8)) := by
        have a1 : C'.take (8 * j) = C.take (8 * j) := by rw [hd, List.take_set_of_le (by omega)]
        have a2 : C'.drop (8 * j + 8) = C.drop (8 * j + 8) := by rw [hd, List.drop_set_of_lt (by omega)]
        rw [← a1, ← a2, ← List.drop_drop, List.take_append_drop, List.take_append_drop]
      have hlx : ((C.drop (8 * j)).take 8).length = 8 := by rw [List.length_take, List.length_drop]; omega
      have hly : ((C'.drop (8 * j)).take 8).length = 8 := by rw [List.length_take, List.length_drop]; omega
      have hp : (lastD 8 place ++ C.take (8 * j)).length = 8 * (j + 1) := by rw [List.length_append, lastD_len, List.length_take]; omega
      have hx : (C'.drop (8 * j)).take 8 = (C.drop (8 * j)).take 8 := by
        refine sumL_block (j := j + 1) (p := lastD 8 place ++ C.take (8 * j)) (s := C.drop (8 * j + 8)) hp hly hlx ?_ ?_
        · simp only [List.length_append, hp, hly, List.length_drop]
          unfold two64
          omega
        · rw [List.append_assoc, List.append_assoc, ← e1, ← e2]
          exact hd2
      rw [e2, hx, ← e1]
  unfold sealL
  rw [hC]
/-- A head one byte of which rots. -/
theorem rot_head {p c room i : Nat} {v : List UInt8} {b x : UInt8} (hv : Hd1 p c v) (hi : i < 64) (hx : v[i]? = some x) (hb : b ≠ x) : cntL p (v.set i b) room = -1 := by
  have hne : v.set i b ≠ v := fun e => by
    have h1 := congrArg (fun l => l[i]?) e
    simp only [List.getElem?_set_self (List.getElem?_eq_some_iff.1 hx).1, hx] at h1
    injection h1 with h1
    exact hb h1
  rcases cntL_spec p (v.set i b) room with h | ⟨h, _⟩ | ⟨e, he, h, _⟩
  · exact h
  · exfalso
    rcases hv with rfl | ⟨_, rfl⟩
    · obtain ⟨j, hj, hji⟩ : ∃ j, j < 16 ∧ i ≠ j := by
        by_cases h0 : i = 0
        · exact ⟨1, by decide, by omega⟩
        · exact ⟨0, by decide, h0⟩
      obtain ⟨y, hy, hy0⟩ := seal_byte p (lastD 8 c) hj
      have h1 := congrArg (fun l => l[j]?) h
      simp only [List.getElem?_set_ne hji] at h1
      have h2 : (headL p c)[j]? = some y := hy
      rw [h2, zero_byte (by omega)] at h1
      injection h1 with h1
      exact hy0 h1
    · exact hne h
  · exfalso
    rcases hv with rfl | ⟨_, rfl⟩
    · have h1 : headL p e = headL p c := seal_rot hi h.symm
      exact hne (h.trans h1)
    · by_cases h16 : i < 16
      · have h1 : (zeroL.set i b).drop 16 = zeroL.drop 16 := List.drop_set_of_lt h16
        rw [h] at h1
        exact head_zero_content h1
      · obtain ⟨y, hy, hy0⟩ := seal_byte p (lastD 8 e) (i := 0) (by decide)
        have h1 := congrArg (fun l => l[0]?) h
        simp only [List.getElem?_set_ne (show i ≠ 0 by omega)] at h1
        have h2 : (headL p e)[0]? = some y := hy
        rw [h2, zero_byte (by decide)] at h1
        injection h1 with h1
        exact hy0 h1.symm
/-- A piece's sector one byte of which rots. -/
theorem rot_piece {p i : Nat} {t : List UInt8} {b x : UInt8} (hi : i < 64) (hx : (secL p t)[i]? = some x) (hb : b ≠ x) : pieceOf p ((secL p t).set i b) = none := by
  cases h : pieceOf p ((secL p t).set i b) with
  | none => rfl
  | some u =>
    exfalso
    have h1 := (pieceOf_some h).2.2
    have h2 : secL p u = secL p t := seal_rot hi h1.symm
    have h3 := congrArg (fun l => l[i]?) (h1.trans h2)
    simp only [List.getElem?_set_self (List.getElem?_eq_some_iff.1 hx).1, hx] at h3
    injection h3 with h3
    exact hb h3
theorem pieceOf_zero (p : Nat) : pieceOf p zeroL = none := by
  cases h : pieceOf p zeroL with
  | none => rfl
  | some u =>
    exfalso
    have h1 := (pieceOf_some h).2.2
    obtain ⟨y, hy, hy0⟩ := seal_byte p (lastD 2 u.length ++ u) (i := 0) (by decide)
    have h2 := congrArg (fun l => l[0]?) h1
    have h3 : (secL p u)[0]? = some y := hy
    simp only [h3, zero_byte (show 0 < 64 by decide)] at h2
    injection h2 with h2
    exact hy0 h2.symm
end Go.Proofs.YtieicjjmkedgaaaGreatDoor
