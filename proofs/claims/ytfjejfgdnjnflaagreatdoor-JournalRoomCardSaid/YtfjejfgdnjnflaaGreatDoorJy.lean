/- A journal in memory; Append's walk. -/
import Derived.Test.YtfjejfgdnjnflaaGreatDoorJz
import Derived.RegionTactic
import Derived.Deep.CutRange
import Derived.Deep.DeepCutAuto
import Derived.Deep.RegionHeld3
namespace Go.Proofs.YtfjejfgdnjnflaaGreatDoor
open Go.RowKit Go.Shelf

theorem StrsIn.at {w : World} {G : Foot} {A : Option Addr} {l : List (List UInt8)} (h : StrsIn w G A l) {B : Nat} (hG : ∀ i, G i → i < B) : StrsAt w B A l := fun i s hi => by
  obtain ⟨g, off, hA, hg, hc⟩ := h i s hi
  exact ⟨g, off, hA, hG g hg, hc⟩

theorem JAt.keep {w w' : World} {base a j : Nat} {J : Foot} {x : Jn} {K : Foot} (h : JAt w base a j J x) (hk : Keep K w w') (hJ : ∀ i, J i → K i) : JAt w' base a j J x := by
  obtain ⟨A, c, hb, ho, hj, hr⟩ := h
  exact ⟨A, c, hb.keep hk (hJ _ hj), ho.keepb fun b e => hk.block b (hJ _ (hr b e).1), hj, hr⟩
theorem OwnStrs.mono {w : World} {base base' : Nat} {v : Value} {l : List (List UInt8)} (h : OwnStrs w base v l) (hb : base' ≤ base) : OwnStrs w base' v l := by
  refine ⟨h.1, ?_⟩
  rcases h.2 with h0 | ⟨g, cap, cur, rfl, h1, h2⟩
  · exact .inl h0
  · exact .inr ⟨g, cap, cur, rfl, Nat.le_trans hb h1, h2⟩
/-- Where nothing has turned. -/
theorem JAt.rest {w0 w w' : World} {a : Nat} {d : Dk} {G J : Foot} {j : Nat} {x : Jn} (L : Live w0 w a d G) (hJ : JAt w w0.heap.size a j J x) (hJG : ∀ i, J i → G i) (hb : Below w.heap.size w w') :
    ∃ J', JAt w' w0.heap.size a j J' x ∧ Live w0 w' a d (fun i => G i ∨ J' i) ∧ Keep (fun i => G i ∧ ¬ J i) w w' ∧ (∀ i, J' i → J i ∨ w.heap.size ≤ i) :=
  ⟨J, hJ.keep (Keep.of_below hb L.lt) hJG, L.more hb (fun _ hi => .inl (hi.elim id (hJG _))), Keep.of_below hb (fun i hi => L.lt i hi.1), fun _ hi => .inl hi⟩

theorem stay {w0 W wz : World} {a p : Nat} {D : Dk} {GG : Foot} (L : Live w0 W a D GG) (hk : Keep (fun i => GG i ∧ i ≠ p) wz W) (hp : GG p) (hp0 : w0.heap.size ≤ p) (v : Value) :
    Live w0 (W.setCell ⟨p, 0, none⟩ v) a D GG ∧ Keep (fun i => GG i ∧ i ≠ p) wz (W.setCell ⟨p, 0, none⟩ v) :=
  ⟨L.only ((Only.refl (fun i => i = p) W).setCell (p := ⟨p, 0, none⟩) (.inl rfl) v) (fun i hi => by subst hi; exact ⟨hp, hp0⟩),
    ⟨Nat.le_trans hk.size (by simp [World.setCell]), fun i hi => (Below.heap_setCell W ⟨p, 0, none⟩ v i hi.2).trans (hk.block i hi)⟩⟩
/-- The end of an Append that failed. -/
theorem endBad {w0 w wz W : World} {a j p : Nat} {d D : Dk} {G J GG : Foot} {x : Jn} (L : Live w0 w a d G) (hJ : JAt w w0.heap.size a j J x) (hJG : ∀ i, J i → G i) (hJ0 : ∀ i, J i → w0.heap.size ≤ i)
    (hbz : Below w.heap.size w wz) (hGG : ∀ i, G i → GG i) (hp : w.heap.size ≤ p) (L2 : Live w0 W a D GG) (hk : Keep (fun i => GG i ∧ i ≠ p) wz W) (b : Bool) :
    ∃ J', JAt (W.setCell ⟨j, 4, none⟩ (.bool b)) w0.heap.size a j J' { x with broken := b } ∧ Live w0 (W.setCell ⟨j, 4, none⟩ (.bool b)) a D (fun i => G i ∨ J' i) ∧ Keep (fun i => G i ∧ ¬ J i) w (W.setCell ⟨j, 4, none⟩ (.bool b)) ∧ (∀ i, J' i → J i ∨ w.heap.size ≤ i) := by
  obtain ⟨A, c, hb, ho, hj, hr⟩ := hJ
  have hkw : ∀ i, G i → W.heap[i]? = w.heap[i]? := fun i hi => (hk.block i ⟨hGG i hi, by have := L.lt i hi; omega⟩).trans (hbz.block i (L.lt i hi))
  have hkj : ∀ i, G i → i ≠ j → (W.setCell ⟨j, 4, none⟩ (.bool b)).heap[i]? = w.heap[i]? := fun i hi hn => (Below.heap_setCell W ⟨j, 4, none⟩ _ i hn).trans (hkw i hi)
  have hbW : Blk W j _ _ := (hkw j (hJG j hj)).trans hb
  refine ⟨J, ⟨A, c, hbW.set_ 4 (.bool b), ho.keepb fun g e => hkj g (hJG g (hr g e).1) (hr g e).2, hj, hr⟩, ?_, ⟨?_, fun i hi => hkj i hi.1 (fun e => hi.2 (by rw [e]; exact hj))⟩, fun i hi => .inl hi⟩
  · exact (L2.only ((Only.refl (fun i => i = j) W).setCell (p := ⟨j, 4, none⟩) (.inl rfl) _) (fun i hi => by subst hi; exact ⟨hGG _ (hJG _ hj), hJ0 _ hj⟩)).less (fun i hi => hGG i (hi.elim id (hJG i)))
  · refine Nat.le_trans hbz.size (Nat.le_trans hk.size ?_)
    simp [World.setCell]

set_option maxRecDepth 100000 in
set_option maxHeartbeats 2000000 in
theorem append_any {w0 w : World} {a : Nat} {d : Dk} {G J H : Foot} {j : Nat} {x : Jn} (L : Live w0 w a d G) (ht : Tbs w0) (hJ : JAt w w0.heap.size a j J x)
    (hJG : ∀ i, J i → G i) (hJ0 : ∀ i, J i → w0.heap.size ≤ i) (hHG : ∀ i, H i → G i ∧ ¬ J i)
    (A : Option Addr) (c : Nat) (rs : List (List UInt8)) (hs : StrsIn w H A rs) (hn : x.n ≤ 1000) (hc : x.cnt ≤ 1000) (hrl : rs.length ≤ 1000) (htot : total rs ≤ 500000) (hxl : x.rs.length ≤ 1000000) (hq : d.q.length ≤ 1000) :
    Calls Tryz.prog 13 #[.pointer (some ⟨j, 0, none⟩), .slice A rs.length c] w fun e w' =>
      e = .returned (.int .i64 (appendS d x rs).2.2) ∧ ∃ J', JAt w' w0.heap.size a j J' (appendS d x rs).2.1 ∧ Live w0 w' a (appendS d x rs).1 (fun i => G i ∨ J' i) ∧ Keep (fun i => G i ∧ ¬ J i) w w' ∧ (∀ i, J' i → J i ∨ w.heap.size ≤ i) := by
  obtain ⟨n, cnt, xrs, br⟩ := x
  have HJ0 := Lib.hid hJ
  obtain ⟨AR, cR, hb, hoR, hj, hrJ⟩ := hJ
  simp only at *
  have htw := ht.below L.below
  have hmf : ∀ (fn : Fn) (first cap : Array Value) (w : World), (Instr.makeFunc fn first cap).run Tryz.prog w = .ok (.func fn first cap) w := fun _ _ _ _ => rfl
  obtain ⟨x0, x1, x2⟩ := hb.all
  have HJB := Lib.hid hb
  cases br with
  | true =>
    unfold appendS
    simp only [if_pos]
    go_enter_defers Tryz.func13, Tryz.ntmps13
    go_wp2
    have hbel : Below w.heap.size w ((w.alloc (.cells #[.pointer (some ⟨j, 0, none⟩)] 25)).alloc (.cells #[.int .i64 12] 27)) := ((Below.refl _ w).alloc (Nat.le_refl _) _).alloc (by simp) _
    have hpost := HJ0.out.rest L hJG hbel
    simp [bodyPostD, Leaves, results, Tryz.results13, go_sem]
    exact hpost
  | false =>
    have hbel2 : ∀ v : Value, Below w.heap.size w ((w.alloc (.cells #[.pointer (some ⟨j, 0, none⟩)] 25)).alloc (.cells #[v] 27)) := fun v => ((Below.refl _ w).alloc (Nat.le_refl _) _).alloc (by simp) _
    have HC := Lib.hid (contains_any ((w.alloc (.cells #[.pointer (some ⟨j, 0, none⟩)] 25)).alloc (.cells #[.int .i64 0] 27)) H A c rs (hs.keep (Keep.of_below (hbel2 _) (fun i hi => L.lt i (hHG i hi).1))) (by omega))
    have hsW : ∀ W, Below w.heap.size w W → StrsAt W W.heap.size A rs := fun W hW => (hs.keep (Keep.of_below hW (fun i hi => L.lt i (hHG i hi).1))).at (fun i hi => Nat.lt_of_lt_of_le (L.lt i (hHG i hi).1) hW.size)
    have htl := textR_len rs (by omega)
    obtain ⟨ps, hps⟩ : ∃ ps, piecesL (textR rs) = ps := ⟨_, rfl⟩
    obtain ⟨lg, hlg⟩ : ∃ b, rs.any (fun r => decide (20000 < r.length)) = b := ⟨_, rfl⟩
    rw [hlg] at HC
    have hT : ∀ W, Below w.heap.size w W → Calls Tryz.prog 48 #[.slice A rs.length c] W fun e w' => e = .returned (.string (bs (textR rs))) ∧ Below W.heap.size W w' := fun W hW => text_any W (htw.below hW) W.heap.size A rs c (hsW W hW) (Nat.le_refl _) (by omega) (by omega)
    have hS : ∀ W, Calls Tryz.prog 47 #[.string (bs (textR rs))] W fun e w' => ∃ v, e = .returned v ∧ OwnStrs w' W.heap.size v ps ∧ Below W.heap.size W w' := fun W => by
      have := split_any W (textR rs) (by omega)
      rwa [hps] at this
    have hR : ∀ W, Below w.heap.size w W → Calls Tryz.prog 14 #[.pointer (some ⟨j, 0, none⟩)] W fun e w' => e = .returned (.int .i64 ((n : Int) - 2 - cnt)) ∧ ∃ q, w' = W.drewN q := fun W hW =>
      room_any W w0.heap.size a j J _ (HJ0.out.keep (Keep.of_below hW L.lt) hJG) (by simp only; omega) (by simp only; omega)
    obtain ⟨r, hr⟩ : ∃ r, appendS d ⟨n, cnt, xrs, false⟩ rs = r := ⟨_, rfl⟩
    rw [hr]
    unfold appendS at hr
    simp only [Bool.false_eq_true, if_false] at hr
    rw [hlg, hps] at hr
    have HAP := Lib.hid hr
    have HT := Lib.hid hT
    have HS := Lib.hid hS
    have HR := Lib.hid hR
    have HB2 := Lib.hid hbel2
    have HPS := Lib.hid hps
    have HSW := Lib.hid hsW
    have HOR := Lib.hid hoR
    have HSI := Lib.hid hs
    clear hT hS hR hbel2 hps hsW hoR hs htl hlg hr
    go_enter_defers Tryz.func13, Tryz.ntmps13
    go_wp2_with fail
    refine HC.out.mono ?_
    rintro e w2 ⟨rfl, hw2⟩
    have hsz2 : w2.heap.size = w.heap.size + 2 := by rw [hw2]; simp
    have hb2 : Below w.heap.size w w2 := by rw [hw2]; exact HB2.out _
    have k2 : Blk w2 w.heap.size 25 #[.pointer (some ⟨j, 0, none⟩)] := by rw [hw2]; exact (Blk.new w _ _).alloc _
    have k4 : Blk w2 (w.heap.size + 1) 27 #[.int .i64 0] := by rw [hw2]; exact Blk.new1 w _ _ _
    clear hw2 HC HB2
    cases lg with
    | true =>
      obtain rfl : (d, _, 2) = r := by have := HAP.out; rwa [if_pos rfl] at this
      obtain ⟨c4, f4, l4⟩ := k4.all
      go_wp2
      have hpost := HJ0.out.rest L hJG (hb2.setCell (p := ⟨w.heap.size + 1, 0, none⟩) (by show _ ≤ w.heap.size + 1; omega) (.int .i64 2))
      simp [bodyPostD, Leaves, results, Tryz.results13, go_sem, c4]
      exact hpost
    | false =>
      go_wp2_with fail
      refine (HT.out w2 hb2).mono ?_
      rintro e w3 ⟨rfl, hb3⟩
      go_wp2_with fail
      refine (HS.out w3).mono ?_
      rintro e w4 ⟨v5, rfl, o5, hb4⟩
      obtain ⟨A5, c5, rfl⟩ := o5.form
      have hb24 : Below w2.heap.size w2 w4 := hb3.trans (hb4.mono hb3.size)
      have hbw4 : Below w.heap.size w w4 := hb2.trans (hb24.mono hb2.size)
      have k2' := k2.below hb24 k2.lt
      have k4' := k4.below hb24 k4.lt
      have hb3s := hb3.size
      clear k2 k4 hb2 hb3 hb4 hb24 HT HS
      obtain ⟨c2, f2, l2⟩ := k2'.all
      go_wp2_with fail
      refine (HR.out w4 hbw4).mono ?_
      rintro e w5 ⟨rfl, q, hw5⟩
      have hb45 : Below w4.heap.size w4 w5 := by rw [hw5]; exact below_dN (Below.refl _ _) q
      have hbw5 : Below w.heap.size w w5 := hbw4.trans (hb45.mono hbw4.size)
      have k2 := k2'.below hb45 k2'.lt
      have k4 := k4'.below hb45 k4'.lt
      have p5 : OwnStrs w5 w.heap.size (.slice A5 ps.length c5) ps := (o5.keepb fun b e => hb45.block b (World.ownsRow.lt o5 b e).2).mono (by omega)
      clear hw5 hb45 hbw4 k2' k4' c2 f2 l2 HR o5
      obtain ⟨c2, f2, l2⟩ := k2.all
      obtain ⟨c4, f4, l4⟩ := k4.all
      by_cases hroom : (n : Int) - 2 - cnt < (ps.length : Int)
      · obtain rfl : (d, _, 27) = r := by have := HAP.out; rwa [if_neg (by decide), if_pos hroom] at this
        have e1 : decide ((n : Int) - 2 - cnt < (ps.length : Int)) = true := by simpa using hroom
        go_wp2
        have hpost := HJ0.out.rest L hJG (hbw5.setCell (p := ⟨w.heap.size + 1, 0, none⟩) (by show _ ≤ w.heap.size + 1; omega) (.int .i64 27))
        simp [bodyPostD, Leaves, results, Tryz.results13, go_sem, c4]
        exact hpost
      · have hr2 := HAP.out
        rw [if_neg (by decide), if_neg hroom] at hr2
        have e1 : decide ((n : Int) - 2 - cnt < (ps.length : Int)) = false := by simpa using hroom
        by_cases hrs : rs = []
        · subst hrs
          rw [if_pos rfl] at hr2
          subst hr2
          simp only [List.length_nil, if_pos] at *
          go_wp2
          have hpost := HJ0.out.rest L hJG (hbw5.setCell (p := ⟨w.heap.size + 1, 0, none⟩) (by show _ ≤ w.heap.size + 1; omega) (.int .i64 0))
          simp [bodyPostD, Leaves, results, Tryz.results13, go_sem, c4]
          exact hpost
        · rw [if_neg hrs] at hr2
          have HAQ := Lib.hid hr2
          clear hr2 HAP
          have hrl0 : 0 < rs.length := List.length_pos_iff.2 hrs
          have kj := hb.below hbw5 x2
          obtain ⟨y0, y1, y2⟩ := kj.all
          have hps1 : ps.length ≤ 1000 := by omega
          have e0 : ((rs.length : Int) == 0) = false := by simp; omega
          have hsm : ∀ p ∈ ps, p.length ≤ 46 := fun p hp => (pieces_small (textR rs) p (by rw [HPS.out]; exact hp)).2
          have HSM := Lib.hid hsm
          have HTW := Lib.hid htw
          clear x0 x1 hrs HPS HSW htw hsm
          go_upto_region 13 with fail
          clear hroom e1
          go_cut [6, 7] from 37 to 48 (fun s6 s7 wx => ∃ p6 p7, s6 = .pointer (some ⟨p6, 0, none⟩) ∧ s7 = .pointer (some ⟨p7, 0, none⟩) ∧ Blk wx p6 3 #[.int .i64 ((2 + cnt : Nat) : Int)] ∧ Blk wx p7 3 #[.int .i64 ((cnt + ps.length : Nat) : Int)] ∧ w5.heap.size ≤ p6 ∧ w5.heap.size ≤ p7 ∧ Below w5.heap.size w5 wx)
          case first =>
            have h2 : w5.cell? ⟨w.heap.size, 0, none⟩ = some (.pointer (some ⟨j, 0, none⟩)) := c2 0
            have h3 : w5.cell? ⟨j, 2, none⟩ = some (.int .i64 (cnt : Int)) := y0 2
            have n1 : w.heap.size ≠ w5.heap.size := by omega
            have n2 : w.heap.size ≠ w5.heap.size + 1 := by omega
            have n3 : j ≠ w5.heap.size := by omega
            have n4 : j ≠ w5.heap.size + 1 := by omega
            have a1 : IntKind.i64.wrap (2 + (cnt : Int)) = 2 + (cnt : Int) := by rw [IntKind.wrap_i64]; omega
            have a2 : IntKind.i64.wrap ((cnt : Int) + (ps.length : Int)) = (cnt : Int) + (ps.length : Int) := by rw [IntKind.wrap_i64]; omega
            clear c2 f2 c4 f4 y0 y1
            go_region_held3 (fun w' => w'.cell? ⟨w.heap.size, 0, none⟩ = some (.pointer (some ⟨j, 0, none⟩)) ∧ w'.cell? ⟨j, 2, none⟩ = some (.int .i64 (cnt : Int))) (go_keep) (fail)
            all_goals (go_wp2_with fail; go_meet)
            · refine ⟨w5.heap.size, w5.heap.size + 1, rfl, rfl, (Blk.new w5 _ _).alloc _, Blk.new1 w5 _ _ _, Nat.le_refl _, Nat.le_succ _, ?_⟩
              exact (((Below.refl _ w5).alloc (Nat.le_refl _) _).alloc (by simp) _).drew
            · refine ⟨w5.heap.size + 1, w5.heap.size, rfl, rfl, Blk.new1 w5 _ _ _, (Blk.new w5 _ _).alloc _, Nat.le_succ _, Nat.le_refl _, ?_⟩
              exact (((Below.refl _ w5).alloc (Nat.le_refl _) _).alloc (by simp) _).drew
          case rest =>
            obtain ⟨p6, p7, rfl, rfl, k6, k7, g6, g7, hb6⟩ := hcut
            obtain ⟨wq, rfl⟩ : ∃ q : World, q = wc := ⟨wc, rfl⟩
            have hbwc : Below w.heap.size w wq := hbw5.trans (hb6.mono hbw5.size)
            have b5s := hbw5.size
            have b6s := hb6.size
            obtain ⟨at_, hat⟩ : ∃ q, 2 + cnt = q := ⟨_, rfl⟩
            obtain ⟨nx, hnx⟩ : ∃ q, cnt + ps.length = q := ⟨_, rfl⟩
            rw [hat] at k6
            rw [hnx] at k7
            have l6 := k6.lt
            have l7 := k7.lt
            have p0 : Ph w ((wq.alloc (.cells #[.slice none 0 0] 26)).alloc (.cells #[.slice none 0 0] 26)) j w.heap.size (w.heap.size + 1) p6 p7 wq.heap.size (wq.heap.size + 1) at_ nx (.slice A5 ps.length c5) ps [] [] none 0 none 0 :=
              ⟨(hbwc.alloc (by omega) _).alloc (by simp; omega) _, ((k2.below hb6 k2.lt).alloc _).alloc _, ((k4.below hb6 k4.lt).alloc _).alloc _, (k6.alloc _).alloc _, (k7.alloc _).alloc _, (Blk.new wq _ _).alloc _, Blk.new1 wq _ _ _,
                p5.keepb fun b e => (Below.heap_alloc _ _ _ (by have := (World.ownsRow.lt p5 b e).2; simp; omega)).trans ((Below.heap_alloc _ _ _ (by have := (World.ownsRow.lt p5 b e).2; omega)).trans (hb6.block b (World.ownsRow.lt p5 b e).2)),
                OwnStrs.nil _ _, OwnStrs.nil _ _, ⟨by omega, by omega, by omega, by omega, by omega, by omega⟩, by omega, fun g e => by simp [Value.ownBlock] at e, fun g e => by simp [Value.ownBlock] at e, fun g e => by simp [Value.ownBlock] at e⟩
            have HP0 := Lib.hid p0
            have l4w : w.heap.size + 1 < w5.heap.size := l4
            clear p0 k2 k4 c2 f2 l2 c4 f4 l4 kj y0 y1 y2 p5 k6 k7 hb6 hbwc e0
            go_wp2_with fail
            go_loopw [51] (fun i wr => ∃ (k : Nat) (Az : Option Addr) (cz : Nat) (Af : Option Addr) (cf : Nat), k ≤ ps.length ∧ i = .int .i64 (k : Int) ∧ Hid (Ph w wr j w.heap.size (w.heap.size + 1) p6 p7 wq.heap.size (wq.heap.size + 1) at_ nx (.slice A5 ps.length c5) ps (List.replicate k zeroL) (fullS at_ (ps.take k)) Az cz Af cf)) (fun i _ => ps.length - (intOf i).toNat)
            case atStart => exact ⟨0, none, 0, none, 0, Nat.zero_le _, rfl, by rw [List.take_zero]; exact HP0⟩
            case round =>
              clear HP0
              obtain ⟨k, Az, cz, Af, cf, hkl, rfl, HPh⟩ := hrel
              by_cases hlt : k < ps.length
              · obtain ⟨sp, hss⟩ : ∃ sp, ps[k]? = some sp := ⟨_, List.getElem?_eq_getElem hlt⟩
                have hsp := HSM.out sp (List.mem_of_getElem? hss)
                obtain ⟨A5', c5', hv5, hst, _⟩ := HPh.out.o5.at
                obtain ⟨rfl, -, rfl⟩ : A5 = A5' ∧ ps.length = ps.length ∧ c5 = c5' := by simpa using hv5
                obtain ⟨g5, off5, rfl, hg5, hcell⟩ := hst k sp hss
                clear hv5 hst
                have hz1 : List.replicate (k + 1) zeroL = List.replicate k zeroL ++ [zeroL] := List.replicate_succ'
                have hf1 : fullS at_ (ps.take (k + 1)) = fullS at_ (ps.take k) ++ [secL (at_ + k) sp] := by
                  rw [List.take_add_one, hss]
                  simp only [Option.toList_some]
                  rw [fullS_app, List.length_take, Nat.min_eq_left hkl]
                  rfl
                have HZ1 := Lib.hid hz1
                have HF1 := Lib.hid hf1
                have hzl : (List.replicate k zeroL).length = k := by simp
                have hfl : (fullS at_ (ps.take k)).length = k := by rw [fullS_len, List.length_take, Nat.min_eq_left hkl]
                generalize List.replicate k zeroL = z at *
                generalize fullS at_ (ps.take k) = f at *
                have HZL := Lib.hid hzl
                have HFL := Lib.hid hfl
                clear hz1 hf1 hss hzl hfl
                have hi0 : (0 : Int) ≤ (k : Int) := by omega
                have hi1 : (k : Int) < (ps.length : Int) := by omega
                obtain ⟨i0, hi0', hz0, hz1, hz2⟩ := info_parts Tryz.infoStr
                go_upto_region 18 with fail
                go_cut [] from 52 to 68 (fun wx => ∃ (Az' : Option Addr) (cz' : Nat), Hid (Ph w wx j w.heap.size (w.heap.size + 1) p6 p7 wq.heap.size (wq.heap.size + 1) at_ nx (.slice (some ⟨g5, off5, none⟩) ps.length c5) ps (z ++ [zeroL]) f Az' cz' Af cf))
                case first =>
                  obtain ⟨c8, f8, l8⟩ := HPh.out.b8.all
                  go_region_law (first | (refine step_append_lies _ ?_ (.tmp 56) (.tmp 58) 26 ?_ w.heap.size 9 i0 _ 1 16 Tryz.underlying26 hi0' hz0 hz1 hz2 ?_ ?_ (.slice Az z.length cz) z.length (z.map sv) ?_ ?_ ⟨w1.heap.size, 0, none⟩ 1 1 [sv zeroL] ?_ ?_ ?_ ?_ ?_ ?_ ?_ ?_ (w1.heap.size + 1) ?_ ?_; rfl; rfl; rfl; omega; rfl; exact h2.oz; rfl; rfl; exact World.news_of_block (Blk.new w1 _ _); exact sv_one [zeroL]; omega; (have := HZL.out; unfold maxLen; omega); (have := HZL.out; omega); exact h2.below.size; simp; intro g cap w3 o3 g3 l3 z3; obtain ⟨c8y, f8y, l8y⟩ := (h2.b8.grown g3 (h2.oz.ne h2.b8 (by decide))).all) | (go_simp; go_at_call 41; refine (zero_any _).mono ?_; rintro e w1 ⟨rfl, b1⟩; have h1 := HPh.out.drew.same b1; have h2 := h1.same ((Below.refl _ w1).alloc (Nat.le_refl _) (.cells #[.string (bs zeroL)] 9)); obtain ⟨c8a, f8a, l8a⟩ := h1.b8.all; obtain ⟨c8b, f8b, l8b⟩ := h2.b8.all))
                  all_goals (go_wp2_with fail; go_meet)
                  all_goals exact ⟨_, _, Lib.hid (h2.push zeroL o3 g3 l3 (by simp))⟩
                case rest =>
                  obtain ⟨Az', cz', HPh2⟩ := hcut
                  have hsec : ∀ W, Tbs W → Calls Tryz.prog 36 #[.int .i64 ((at_ : Int) + (k : Int)), .string (bs sp)] W fun e w' => e = .returned (.string (bs (secL (at_ + k) sp))) ∧ Below W.heap.size W w' := fun W hW => by
                    rw [show ((at_ : Int) + (k : Int)) = ((at_ + k : Nat) : Int) by omega]
                    exact sector_any W hW (at_ + k) (by omega) sp hsp
                  have HSEC := Lib.hid hsec
                  have a3 : IntKind.i64.wrap ((at_ : Int) + (k : Int)) = (at_ : Int) + (k : Int) := by rw [IntKind.wrap_i64]; omega
                  clear hsec
                  generalize secL (at_ + k) sp = sc at *
                  go_upto_region 19 with fail
                  obtain ⟨c9, f9, l9⟩ := HPh2.out.b9.all
                  obtain ⟨c6, f6, l6'⟩ := HPh2.out.b6.all
                  refine wp_region_noPanic ?_
                  go_region_law (first | (refine step_append_lies _ ?_ (.tmp 60) (.tmp 66) 26 ?_ w.heap.size 9 i0 _ 1 16 Tryz.underlying26 hi0' hz0 hz1 hz2 ?_ ?_ (.slice Af f.length cf) f.length (f.map sv) ?_ ?_ ⟨w1.heap.size, 0, none⟩ 1 1 [sv sc] ?_ ?_ ?_ ?_ ?_ ?_ ?_ ?_ (w1.heap.size + 1) ?_ ?_; rfl; rfl; rfl; omega; rfl; exact h2.of; rfl; rfl; exact World.news_of_block (Blk.new w1 _ _); exact sv_one [sc]; omega; (have := HFL.out; unfold maxLen; omega); (have := HFL.out; omega); exact h2.below.size; simp; intro g cap w3 o3 g3 l3 z3; obtain ⟨c9y, f9y, l9y⟩ := (h2.b9.grown g3 (h2.of.ne h2.b9 (by decide))).all) | (go_simp; go_at_call 36; refine (HSEC.out _ (HTW.out.below HPh2.out.drew.below)).mono ?_; rintro e w1 ⟨rfl, b1⟩; have h1 := HPh2.out.drew.same b1; have h2 := h1.same ((Below.refl _ w1).alloc (Nat.le_refl _) (.cells #[.string (bs sc)] 9)); obtain ⟨c9a, f9a, l9a⟩ := h1.b9.all; obtain ⟨c9b, f9b, l9b⟩ := h2.b9.all))
                  all_goals refine NoPanic.normal ?_
                  all_goals (go_wp2_with fail; go_roundw)
                  all_goals first
                    | (simp [intOf]; omega)
                    | exact ⟨k + 1, _, _, _, _, by omega, by go_num, by have q := Lib.hid (h2.swap.push sc o3 g3 l3 (by simp)).swap; rw [← HZ1.out, ← HF1.out] at q; exact q⟩
              · obtain rfl : k = ps.length := by omega
                obtain ⟨we, rfl⟩ : ∃ q : World, q = wr := ⟨wr, rfl⟩
                rw [List.take_length] at HPh
                have hws : writesS cnt ps = [(at_, List.replicate ps.length zeroL), (at_, fullS at_ ps), (1, [headL 1 nx]), (0, [headL 0 nx])] := by unfold writesS; rw [hat, hnx]
                have hzl : (List.replicate ps.length zeroL).length = ps.length := by simp
                have hfl := fullS_len ps at_
                obtain ⟨RR, hRR⟩ : ∃ q, d.steps (writesS cnt ps) = q := ⟨_, rfl⟩
                rw [hRR] at HAQ
                rw [hws] at hRR
                generalize List.replicate ps.length zeroL = z at *
                generalize fullS at_ ps = f at *
                obtain ⟨wz, hwz⟩ : ∃ q, we.alloc (.cells #[.func (Fn.func 50) #[] #[.pointer (some ⟨w.heap.size, 0, none⟩), .pointer (some ⟨p6, 0, none⟩), .pointer (some ⟨wq.heap.size, 0, none⟩)], .func (Fn.func 51) #[] #[.pointer (some ⟨w.heap.size, 0, none⟩), .pointer (some ⟨p6, 0, none⟩), .pointer (some ⟨wq.heap.size + 1, 0, none⟩)], .func (Fn.func 52) #[] #[.pointer (some ⟨w.heap.size, 0, none⟩), .pointer (some ⟨p7, 0, none⟩)], .func (Fn.func 53) #[] #[.pointer (some ⟨w.heap.size, 0, none⟩), .pointer (some ⟨p7, 0, none⟩)]] 76) = q := ⟨_, rfl⟩
                have hcl := Blk.new we 76 #[.func (Fn.func 50) #[] #[.pointer (some ⟨w.heap.size, 0, none⟩), .pointer (some ⟨p6, 0, none⟩), .pointer (some ⟨wq.heap.size, 0, none⟩)], .func (Fn.func 51) #[] #[.pointer (some ⟨w.heap.size, 0, none⟩), .pointer (some ⟨p6, 0, none⟩), .pointer (some ⟨wq.heap.size + 1, 0, none⟩)], .func (Fn.func 52) #[] #[.pointer (some ⟨w.heap.size, 0, none⟩), .pointer (some ⟨p7, 0, none⟩)], .func (Fn.func 53) #[] #[.pointer (some ⟨w.heap.size, 0, none⟩), .pointer (some ⟨p7, 0, none⟩)]]
                have hbz : Below we.heap.size we wz := by rw [← hwz]; exact (Below.refl _ we).alloc (Nat.le_refl _) _
                have hzs : wz.heap.size = we.heap.size + 1 := by rw [← hwz]; simp
                rw [hwz] at hcl
                have hPz := HPh.out.same hbz
                have hHz : ∃ GG : Foot, GG = fun i => G i ∨ (w.heap.size ≤ i ∧ i < wz.heap.size) := ⟨_, rfl⟩
                obtain ⟨GG, hGG⟩ := hHz
                have hLz : Live w0 wz a d GG := by rw [hGG]; exact L.more hPz.below (fun i hi => hi)
                have HPZ := Lib.hid hPz
                have HCL := Lib.hid hcl
                have HGG := Lib.hid hGG
                have HLZ := Lib.hid hLz
                have HRR := Lib.hid hRR
                have hwr4 : w.heap.size + 1 < we.heap.size := HPh.out.b4.lt
                clear hcl hbz hPz hGG hLz hRR hws HPh
                go_wp2_with fail
                go_loopw [75] (fun i wv => ∃ (m : Nat) (d' : Dk), m ≤ 4 ∧ i = .int .i64 (m : Int) ∧ Live w0 wv a d' GG ∧ Keep (fun i => GG i ∧ i ≠ w.heap.size + 1) wz wv ∧ Blk wv (w.heap.size + 1) 27 #[.int .i64 0] ∧ d'.q.length ≤ 1000 + 1000 * m ∧ Hid (d'.steps (([(at_, z), (at_, f), (1, [headL 1 nx]), (0, [headL 0 nx])] : List (Nat × List (List UInt8))).drop m) = RR)) (fun i _ => 4 - (intOf i).toNat)
                case atStart => exact ⟨0, d, by omega, rfl, HLZ.out, Keep.refl _ _, HPZ.out.b4, by omega, HRR⟩
                case round =>
                  obtain ⟨m, d', hm4, rfl, L3, hk3, kp4, hq3, HD⟩ := hrel
                  clear hwz HLZ HRR
                  by_cases hm : m < 4
                  · have hG0 : ∀ i, G i → GG i := fun i hi => by rw [HGG.out]; exact .inl hi
                    have hGn : ∀ i, w.heap.size ≤ i → i < we.heap.size + 1 → GG i := fun i h1 h2 => by rw [HGG.out]; exact .inr ⟨h1, by omega⟩
                    have hst := HPZ.out
                    have hkj := (HJB.out.below hst.below x2).keep hk3 ⟨hG0 j (hJG j hj), by omega⟩
                    have hk2 := hst.b2.keep hk3 ⟨hGn _ (Nat.le_refl _) (by omega), by omega⟩
                    have hb8l := hst.b8.lt
                    have hb9l := hst.b9.lt
                    have q6 : p6 ≠ w.heap.size + 1 := by omega
                    have q7 : p7 ≠ w.heap.size + 1 := by omega
                    have hk6 := hst.b6.keep hk3 ⟨hGn _ (by omega) (by omega), q6⟩
                    have hk7 := hst.b7.keep hk3 ⟨hGn _ (by omega) (by omega), q7⟩
                    have hk8 := hst.b8.keep hk3 ⟨hGn _ (by omega) (by omega), by omega⟩
                    have hk9 := hst.b9.keep hk3 ⟨hGn _ (by omega) (by omega), by omega⟩
                    have hrow : ∀ (B : Option Addr) (cB : Nat) (lB : List (List UInt8)), OwnStrs wz w.heap.size (.slice B lB.length cB) lB → StrsIn wr GG B lB := by
                      intro B cB lB ho i s' hi
                      obtain ⟨B', cB', hvB, hsB, hlB, hoB⟩ := ho.at
                      obtain ⟨rfl, -, rfl⟩ : B = B' ∧ lB.length = lB.length ∧ cB = cB' := by simpa using hvB
                      obtain ⟨g, off, rfl, hg, hcl⟩ := hsB i s' hi
                      obtain ⟨h1, h2⟩ := hlB g rfl
                      have h3 : GG g := hGn g h1 (by omega)
                      have h4 : g ≠ w.heap.size + 1 := fun e => ho.ne hst.b4 (by decide) (by rw [← e]; rfl)
                      exact ⟨g, off, rfl, h3, (World.cell?_of_block (a := ⟨g, off + i, none⟩) (hk3.block g ⟨h3, h4⟩)).trans hcl⟩
                    have hsz' := hrow Az cz z hst.oz
                    have hsf' := hrow Af cf f hst.of
                    have hkc := HCL.out.keep hk3 ⟨hGn _ (by omega) (by omega), by omega⟩
                    obtain ⟨fn, cap, pl, ll, eg, hcell, hcall, hdrop, hlen⟩ : ∃ (fn : FuncId) (cap : Array Value) (pl : Nat) (ll : List (List UInt8)), (∀ args w, (callFunc fn args).run Tryz.prog w = .ok (.enter fn args) w) ∧ wr.cell? ⟨we.heap.size, m, none⟩ = some (.func (Fn.func fn) #[] cap) ∧
                        Calls Tryz.prog fn cap wr (fun e w' => e = .returned (.int .i64 (d'.puts pl ll).2) ∧ Live w0 w' a (d'.puts pl ll).1 GG ∧ Keep GG wr w') ∧
                        (([(at_, z), (at_, f), (1, [headL 1 nx]), (0, [headL 0 nx])] : List (Nat × List (List UInt8))).drop m = (pl, ll) :: ([(at_, z), (at_, f), (1, [headL 1 nx]), (0, [headL 0 nx])] : List (Nat × List (List UInt8))).drop (m + 1)) ∧ ll.length ≤ 1000 := by
                      rcases (show m = 0 ∨ m = 1 ∨ m = 2 ∨ m = 3 by omega) with rfl | rfl | rfl | rfl
                      · exact ⟨_, _, at_, z, enters_of Tryz.func50 (by kernel_rfl) rfl, hkc.cell 0, put3_any L3 j _ _ _ _ hkj (hG0 j (hJG j hj)) _ _ _ at_ (by omega) Az z cz hsz' (by omega) (hk2.cell 0) (hk6.cell 0) (hk8.cell 0), rfl, by omega⟩
                      · exact ⟨_, _, at_, f, enters_of Tryz.func51 (by kernel_rfl) rfl, hkc.cell 1, put4_any L3 j _ _ _ _ hkj (hG0 j (hJG j hj)) _ _ _ at_ (by omega) Af f cf hsf' (by omega) (hk2.cell 0) (hk6.cell 0) (hk9.cell 0), rfl, by omega⟩
                      · exact ⟨_, _, 1, [headL 1 nx], enters_of Tryz.func52 (by kernel_rfl) rfl, hkc.cell 2, put5_any L3 ht j _ _ _ _ hkj (hG0 j (hJG j hj)) _ _ nx (by omega) (by omega) (hk2.cell 0) (hk7.cell 0), rfl, by simp⟩
                      · exact ⟨_, _, 0, [headL 0 nx], enters_of Tryz.func53 (by kernel_rfl) rfl, hkc.cell 3, put6_any L3 ht j _ _ _ _ hkj (hG0 j (hJG j hj)) _ _ nx (by omega) (by omega) (hk2.cell 0) (hk7.cell 0), rfl, by simp⟩
                    have hpq := Dk.puts_q ll d' pl
                    have hdd := HD.out
                    rw [hdrop] at hdd
                    unfold Dk.steps at hdd
                    obtain ⟨E, hE⟩ : ∃ E, (d'.puts pl ll).2 = E := ⟨_, rfl⟩
                    rw [hE] at hcall hdd
                    have HE := Lib.hid hE
                    have HCALL := Lib.hid hcall
                    have HDD := Lib.hid hdd
                    have hm0 : (0 : Int) ≤ (m : Int) := by omega
                    have hm1 : (m : Int) < 4 := by omega
                    clear hrow hsz' hsf' hkc hk6 hk7 hk8 hk9 hcall hdd hdrop hE HD hst hb8l hb9l
                    have hp4G : GG (w.heap.size + 1) := hGn _ (by omega) (by omega)
                    have hGj := hG0 j (hJG j hj)
                    go_wp2_with fail
                    refine HCALL.out.mono ?_
                    rintro e w3 ⟨rfl, L4, k4⟩
                    have kq4 := kp4.keep k4 hp4G
                    have kqj := hkj.keep k4 hGj
                    have kq2 := hk2.keep k4 (hGn _ (Nat.le_refl _) (by omega))
                    have hk5 := hk3.trans (k4.mono fun i hi => hi.1)
                    obtain ⟨c4, f4, l4⟩ := kq4.all
                    clear HCALL L3 hk3 k4 kp4 hkj hk2 hcell eg
                    by_cases hz : E = 0
                    · have hdd := HDD.out
                      rw [if_pos hz] at hdd
                      have HN := Lib.hid hdd
                      subst hz
                      obtain ⟨L5, k5⟩ := stay L4 hk5 hp4G (by have := L.below.size; omega) (.int .i64 0)
                      have b5 : Blk (w3.setCell ⟨w.heap.size + 1, 0, none⟩ (.int .i64 0)) (w.heap.size + 1) 27 #[.int .i64 0] := kq4.set_ 0 _
                      clear HDD hdd
                      go_wp2_with fail
                      go_roundw
                      case rel => exact ⟨m + 1, _, by omega, by go_num, L5, k5, b5, by omega, HN⟩
                      case measure => simp [intOf]; omega
                    · have e1 : (E == 0) = false := by simpa using hz
                      have hdd := HDD.out
                      rw [if_neg hz] at hdd
                      subst hdd
                      have hrr := HAQ.out
                      rw [HE.out, if_neg hz] at hrr
                      subst hrr
                      obtain ⟨L5, k5⟩ := stay L4 hk5 hp4G (by have := L.below.size; omega) (.int .i64 E)
                      obtain ⟨L6, k6⟩ := stay L5 k5 hp4G (by have := L.below.size; omega) (.int .i64 E)
                      have b5 : Blk (w3.setCell ⟨w.heap.size + 1, 0, none⟩ (.int .i64 E)) (w.heap.size + 1) 27 #[.int .i64 E] := kq4.set_ 0 _
                      have b6 : Blk ((w3.setCell ⟨w.heap.size + 1, 0, none⟩ (.int .i64 E)).setCell ⟨w.heap.size + 1, 0, none⟩ (.int .i64 E)) (w.heap.size + 1) 27 #[.int .i64 E] := b5.set_ 0 _
                      have hfin := endBad L HJ0.out hJG hJ0 HPZ.out.below hG0 (by omega) L6 k6 true
                      have k6j : Blk ((w3.setCell ⟨w.heap.size + 1, 0, none⟩ (.int .i64 E)).setCell ⟨w.heap.size + 1, 0, none⟩ (.int .i64 E)) j _ _ := (kqj.far (by show j ≠ w.heap.size + 1; omega) _).far (by show j ≠ w.heap.size + 1; omega) _
                      have k62 : Blk ((w3.setCell ⟨w.heap.size + 1, 0, none⟩ (.int .i64 E)).setCell ⟨w.heap.size + 1, 0, none⟩ (.int .i64 E)) w.heap.size _ _ := (kq2.far (by show w.heap.size ≠ w.heap.size + 1; omega) _).far (by show w.heap.size ≠ w.heap.size + 1; omega) _
                      have hbr := broke_any .returning _ j (w.heap.size + 1) w.heap.size _ _ _ _ _ E k6j (b6.cell 0) (k62.cell 0)
                      have e2 : (E != 0) = true := by simpa using hz
                      rw [e2] at hbr
                      have b7 := b6.far (p := ⟨j, 4, none⟩) (by show w.heap.size + 1 ≠ j; omega) (.bool true)
                      have HBR := Lib.hid hbr
                      have HFIN := Lib.hid hfin
                      have c7 := b7.cell 0
                      have C7 := Lib.hid c7
                      clear hbr hfin b7 c7 k6j k62 b5 b6 L5 L6 k5 k6
                      go_wp2_with fail
                      refine leaves_cons (f := 49) (args := #[.pointer (some ⟨w.heap.size + 1, 0, none⟩), .pointer (some ⟨w.heap.size, 0, none⟩)]) (by simp) (by simp [go_sem]) ?_
                      refine HBR.out.mono ?_
                      rintro e u' w'' ⟨rfl, rfl, rfl⟩
                      have c7 := C7.out
                      simp [Leaves, settle, results, Tryz.results13, go_sem, c7]
                      exact HFIN.out
                  · obtain rfl : m = 4 := by omega
                    have hdd := HD.out
                    obtain rfl : (d', 0) = RR := hdd
                    have hrr := HAQ.out
                    rw [if_pos rfl, hnx] at hrr
                    subst hrr
                    have hG0 : ∀ i, G i → GG i := fun i hi => by rw [HGG.out]; exact .inl hi
                    have hGn : ∀ i, w.heap.size ≤ i → i < we.heap.size + 1 → GG i := fun i h1 h2 => by rw [HGG.out]; exact .inr ⟨h1, by omega⟩
                    have hst := HPZ.out
                    have hGj := hG0 j (hJG j hj)
                    have hkj := (HJB.out.below hst.below x2).keep hk3 ⟨hGj, by omega⟩
                    have hk2 := hst.b2.keep hk3 ⟨hGn _ (Nat.le_refl _) (by omega), by omega⟩
                    have hb8l := hst.b8.lt
                    have hk7 := hst.b7.keep hk3 ⟨hGn _ (by omega) (by omega), by omega⟩
                    have hp4G : GG (w.heap.size + 1) := hGn _ (by omega) (by omega)
                    obtain ⟨c2, f2, l2⟩ := hk2.all
                    obtain ⟨c7, f7, l7'⟩ := hk7.all
                    obtain ⟨cj, fj, lj⟩ := hkj.all
                    have kp4j : (w.heap.size + 1) ≠ j := by omega
                    obtain ⟨W2, hW2⟩ : ∃ q, wr.setCell ⟨j, 2, none⟩ (.int .i64 (nx : Int)) = q := ⟨_, rfl⟩
                    have hkW : ∀ i, G i → i ≠ j → W2.heap[i]? = w.heap[i]? := fun i hi hn => by
                      rw [← hW2]
                      exact (Below.heap_setCell wr ⟨j, 2, none⟩ _ i hn).trans ((hk3.block i ⟨hG0 i hi, by have := L.lt i hi; omega⟩).trans (HPZ.out.below.block i (L.lt i hi)))
                    have j2 : Blk W2 j 53 #[.pointer (some ⟨a, 0, none⟩), .int .i64 (n : Int), .int .i64 (nx : Int), .slice AR xrs.length cR, .bool false] := by rw [← hW2]; exact hkj.set_ 2 _
                    have q2 : Blk W2 w.heap.size 25 #[.pointer (some ⟨j, 0, none⟩)] := by rw [← hW2]; exact hk2.far (by show w.heap.size ≠ j; omega) _
                    have q4 : Blk W2 (w.heap.size + 1) 27 #[.int .i64 0] := by rw [← hW2]; exact kp4.far kp4j _
                    have oR2 : OwnStrs W2 w0.heap.size (.slice AR xrs.length cR) xrs := HOR.out.keepb fun b e => hkW b (hJG b (hrJ b e).1) (hrJ b e).2
                    have sR2 : StrsIn W2 H A rs := fun i s' hi => by
                      obtain ⟨g, off, hA, hg, hc⟩ := HSI.out i s' hi
                      exact ⟨g, off, hA, hg, (World.cell?_of_block (a := ⟨g, off + i, none⟩) (hkW g (hHG g hg).1 (fun e => (hHG g hg).2 (by rw [e]; exact hj)))).trans hc⟩
                    obtain ⟨gA, offA, hAA, -, -⟩ := sR2 0 (rs[0]'hrl0) (List.getElem?_eq_getElem hrl0)
                    subst hAA
                    have hnews : ∀ (i : Nat) (u : Value), (rs.map sv)[i]? = some u → W2.cell? ((⟨gA, offA, none⟩ : Addr).add i) = some u := fun i u hu => by
                      rw [List.getElem?_map, Option.map_eq_some_iff] at hu
                      obtain ⟨s', hs', rfl⟩ := hu
                      obtain ⟨g, off, hA, hg, hc⟩ := sR2 i s' hs'
                      obtain ⟨rfl, rfl⟩ : gA = g ∧ offA = off := by simpa using hA
                      have hadd : (⟨gA, offA, none⟩ : Addr).add i = ⟨gA, offA + i, none⟩ := by unfold Addr.add; split <;> simp_all
                      rw [hadd]
                      exact hc
                    have hjr : some j ≠ (Value.slice AR xrs.length cR).ownBlock := fun e => (hrJ j e.symm).2 rfl
                    have h4r : some (w.heap.size + 1) ≠ (Value.slice AR xrs.length cR).ownBlock := oR2.ne q4 (by decide)
                    have h2r : some w.heap.size ≠ (Value.slice AR xrs.length cR).ownBlock := oR2.ne q2 (by decide)
                    have hW0 : w0.heap.size ≤ W2.heap.size := by have h1 := L3.below.size; rw [← hW2]; simpa [World.setCell] using h1
                    have LW2 : Live w0 W2 a d' GG := by rw [← hW2]; exact L3.only ((Only.refl (fun i => i = j) wr).setCell (p := ⟨j, 2, none⟩) (.inl rfl) _) (fun i hi => by subst hi; exact ⟨hGj, hJ0 _ hj⟩)
                    obtain ⟨i0, hi0', hz0, hz1, hz2⟩ := info_parts Tryz.infoStr
                    have HNW := Lib.hid hnews
                    have HKW := Lib.hid hkW
                    have HG0 := Lib.hid hG0
                    have HGN := Lib.hid hGn
                    clear hst hnews hkW hG0 hGn sR2
                    go_wp2_with fail
                    obtain ⟨cj2, fj2, lj2⟩ := j2.all
                    obtain ⟨cq2, fq2, lq2⟩ := q2.all
                    clear cj fj c2 f2 c7 f7
                    refine wp_region_noPanic ?_
                    go_region_law (refine step_append_lies _ ?_ (.tmp 93) (.tmp 94) 26 ?_ w0.heap.size 9 i0 _ 1 16 Tryz.underlying26 hi0' hz0 hz1 hz2 ?_ ?_ (.slice AR xrs.length cR) xrs.length (xrs.map sv) ?_ ?_ ⟨gA, offA, none⟩ rs.length c (rs.map sv) ?_ ?_ ?_ ?_ ?_ ?_ ?_ ?_ W2.heap.size ?_ ?_; rfl; rfl; rfl; omega; rfl; exact oR2; rfl; simp; exact HNW.out; exact sv_one rs; exact hrl0; (unfold maxLen; omega); omega; exact hW0; rfl; intro g9 cap9 w9 o9 gr9 l9 z9; obtain ⟨cj9, fj9, lj9⟩ := (j2.drew.grown gr9 hjr).all; obtain ⟨cq9, fq9, lq9⟩ := (q2.drew.grown gr9 h2r).all)
                    all_goals refine NoPanic.normal ?_
                    all_goals
                      have hfin := endGood (b := false) L hj hrJ hJG hJ0 HG0.out (Nat.le_succ _) hp4G LW2 HKW.out (Nat.le_of_lt lq2) j2 q4 (by decide) h4r o9 gr9 l9 (.int .i64 0)
                      have p9 := q4.drew.grown gr9 h4r
                      have q9 := q2.drew.grown gr9 h2r
                      have j9 := j2.drew.grown gr9 hjr
                      have pA := p9.far (p := ⟨j, 3, none⟩) kp4j (.slice (some ⟨g9, 0, none⟩) (xrs.length + rs.length) cap9)
                      obtain ⟨cpA, fpA, lpA⟩ := pA.all
                      have pB := pA.set_ 0 (.int .i64 0)
                      have jB := (j9.set_ 3 (.slice (some ⟨g9, 0, none⟩) (xrs.length + rs.length) cap9)).far (p := ⟨w.heap.size + 1, 0, none⟩) (fun e => kp4j e.symm) (.int .i64 0)
                      have qB := (q9.far (p := ⟨j, 3, none⟩) (by show w.heap.size ≠ j; omega) (.slice (some ⟨g9, 0, none⟩) (xrs.length + rs.length) cap9)).far (p := ⟨w.heap.size + 1, 0, none⟩) (by show w.heap.size ≠ w.heap.size + 1; omega) (.int .i64 0)
                      have hbr := broke_any .returning _ j (w.heap.size + 1) w.heap.size _ _ _ _ _ 0 jB (pB.cell 0) (qB.cell 0)
                      have HBR := Lib.hid hbr
                      have HFIN := Lib.hid hfin
                      have C7 := Lib.hid ((pB.far (p := ⟨j, 4, none⟩) kp4j (.bool ((0 : Int) != 0))).cell 0)
                      clear hbr hfin pB jB qB p9 q9 j9 pA
                      go_wp2_with fail
                      refine leaves_cons (f := 49) (args := #[.pointer (some ⟨w.heap.size + 1, 0, none⟩), .pointer (some ⟨w.heap.size, 0, none⟩)]) (by simp) (by simp [go_sem]) ?_
                      refine HBR.out.mono ?_
                      rintro e u' w'' ⟨rfl, rfl, rfl⟩
                      have c7 := C7.out
                      simp [Leaves, settle, results, Tryz.results13, go_sem] at c7 ⊢
                      simp [c7]
                      exact HFIN.out
end Go.Proofs.YtfjejfgdnjnflaaGreatDoor
