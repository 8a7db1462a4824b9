/- Part 11 of what the laws of this seat stand on: Nl, Nm. -/
import Derived.Test.YtieicjjmkedgaaaGreatDoorY10

/- The reference's journal: Append, walked. -/
namespace Go.Proofs.YtieicjjmkedgaaaGreatDoor
open Go.RowKit Go.Shelf

/-- What Append leaves of the reference's journal. -/
def RApp (w w' : World) (base b k : Nat) (e' : Dk) (y' : Jn) (H : Foot) : Prop := ∃ H' : Foot, RSes w' base b k e' y' H' ∧ Only H w w' ∧ ∀ i, H' i → H i ∨ w.heap.size ≤ i
theorem RSes.below {w w' : World} {base b k : Nat} {e : Dk} {y : Jn} {H : Foot} (h : RSes w base b k e y H) (hb : Below w.heap.size w w') : RSes w' base b k e y H := by
  obtain ⟨G, lv, h1, h2, h3, h4, h5, h6, h7⟩ := h.body
  exact ⟨⟨G, lv, h1.below hb, h2, h3.below hb h3.lt, h4, h5, h6.keepb fun g hg => hb.block g (World.ownsRow.lt h6 g hg).2, h7⟩, fun i hi => ⟨(h.low i hi).1, Nat.lt_of_lt_of_le (h.low i hi).2 hb.size⟩⟩
theorem RApp.same {w w' : World} {base b k : Nat} {e : Dk} {y : Jn} {H : Foot} (h : RSes w base b k e y H) (hb : Below w.heap.size w w') : RApp w w' base b k e y H := ⟨H, h.below hb, Only.of_below hb _, fun _ hi => .inl hi⟩

theorem rapp_end {w W W6 : World} {base b k : Nat} {e e' : Dk} {y y' : Jn} {H G G4 : Foot} {cs : Array Value} {lv' : Value} (hR : RSes w base b k e y H) (hGH : ∀ i, G i → H i) (hk : Blk w k 75 cs) (hHk : H k) (hGk : ¬ G k)
    (ho : Only G w W) (hG4 : ∀ i, G4 i → G i ∨ w.heap.size ≤ i) (h4 : RefAt W b e' G4) (o6 : Only (fun i => i = k) W W6) (k6 : Blk W6 k 75 #[.pointer (some ⟨b, 0, none⟩), .int .i64 (y'.n : Int), .int .i64 (y'.cnt : Int), lv', .bool y'.broken])
    (l6 : OwnStrs W6 base lv' y'.rs) (l7 : ∀ g, lv'.ownBlock = some g → (H g ∧ ¬ G g) ∨ W.heap.size ≤ g) (hbase : base ≤ w.heap.size) : RApp w W6 base b k e' y' H := by
  have hs1 := ho.size
  have hs2 := o6.size
  have hkl := hk.lt
  have h4k : ¬ G4 k := fun hg => (hG4 k hg).elim hGk fun e => by omega
  refine ⟨fun i => H i ∨ G4 i ∨ lv'.ownBlock = some i, ⟨⟨G4, lv', h4.keep o6 (fun i hi e => h4k (e ▸ hi)), fun i hi => .inr (.inl hi), k6, .inl hHk, h4k, l6, fun g hg => ⟨.inr (.inr hg), fun h5 => ?_⟩⟩, fun i hi => ?_⟩, ?_, fun i hi => ?_⟩
  · rcases l7 g hg with h6 | h6
    · have := (hR.low g h6.1).2
      exact (hG4 g h5).elim h6.2 fun e => by omega
    · have := h4.lt g h5
      omega
  · rcases hi with hi | hi | hi
    · have := hR.low i hi
      omega
    · have h5 := h4.lt i hi
      rcases hG4 i hi with h6 | h6
      · have := hR.low i (hGH i h6)
        omega
      · omega
    · exact ⟨(World.ownsRow.lt l6 i hi).1, (World.ownsRow.lt l6 i hi).2⟩
  · exact (ho.mono hGH).trans o6 fun i hi => .inl (hi ▸ hHk)
  · rcases hi with hi | hi | hi
    · exact .inl hi
    · exact (hG4 i hi).imp (hGH i) id
    · exact (l7 i hi).imp (fun h => h.1) fun e => by omega
theorem own_run {w : World} {base p n cap : Nat} {A : Option Addr} {G : Foot} (h : w.ownsRow base 3 1 (.slice A n cap) n (runV p n)) (hG : ∀ i, G i → i < base) : RunAt w A p n G := fun i hi => by
  rcases h.2 with ⟨_, h0⟩ | ⟨g, cp, cur, hv, hb, hh, _⟩
  · omega
  · injection hv with hA _ _
    subst hA
    have hc := World.ownsRow.cells h (g := g) rfl i (.int .i64 ((p + i : Nat) : Int)) (by unfold runV; rw [List.getElem?_map, List.getElem?_range hi]; rfl)
    refine ⟨g, 0, rfl, ?_, fun hg => by have := hG g hg; omega, (World.ownsRow.lt h g rfl).2⟩
    have ea : (⟨g, 0, none⟩ : Addr).add i = ⟨g, 0 + i, none⟩ := by
      unfold Addr.add
      split <;> simp_all
    rw [ea] at hc
    exact hc
theorem own_txt {w : World} {base n cap : Nat} {A : Option Addr} {l : List (List UInt8)} {G : Foot} (h : OwnStrs w base (.slice A n cap) l) (hG : ∀ i, G i → i < base) : TxtAt w A l G := fun i s hi => by
  obtain ⟨A', c', hv, h1, h2, h3⟩ := h.at
  obtain ⟨rfl, -, -⟩ : A = A' ∧ n = l.length ∧ cap = c' := by simpa using hv
  obtain ⟨g, off, hA, hg, hc⟩ := h1 i s hi
  exact ⟨g, off, hA, hc, fun hf => by have := hG g hf; have := (h2 g (h3 g off none hA)).1; omega, hg⟩

theorem txt_news {w : World} {A : Option Addr} {l : List (List UInt8)} {G : Foot} (h : TxtAt w A l G) (j : Nat) (u : Value) (hj : (l.map sv)[j]? = some u) : ∃ ad, A = some ad ∧ w.cell? (ad.add j) = some u := by
  rw [List.getElem?_map, Option.map_eq_some_iff] at hj
  obtain ⟨t, ht, rfl⟩ := hj
  obtain ⟨g, off, hA, hc, _, _⟩ := h j t ht
  refine ⟨_, hA, ?_⟩
  have ea : (⟨g, off, none⟩ : Addr).add j = ⟨g, off + j, none⟩ := by
    unfold Addr.add
    split <;> simp_all
  rw [ea]
  exact hc
theorem own_two {w : World} {base : Nat} {v : Value} {l m : List (List UInt8)} (h : w.ownsRow base 9 1 v (0 + l.length + m.length) ([] ++ l.map sv ++ m.map sv)) : OwnStrs w base v (l ++ m) := by
  unfold OwnStrs
  rw [List.length_append, List.map_append]
  rwa [Nat.zero_add, List.nil_append] at h
theorem rapp_bad {w wr W : World} {base b k : Nat} {e e' : Dk} {y : Jn} {H G : Foot} {lv : Value} (hR : RSes w base b k e y H) (hGH : ∀ i, G i → H i) (hk : Blk w k 75 #[.pointer (some ⟨b, 0, none⟩), .int .i64 (y.n : Int), .int .i64 (y.cnt : Int), lv, .bool y.broken]) (hHk : H k) (hGk : ¬ G k)
    (hlv : OwnStrs w base lv y.rs) (hlvH : ∀ g, lv.ownBlock = some g → H g ∧ ¬ G g) (bw : Below w.heap.size w wr) (p : RPost wr W b e' G) (hbase : base ≤ w.heap.size) : RApp w (W.setCell ⟨k, 4, none⟩ (.bool true)) base b k e' { y with broken := true } H := by
  obtain ⟨G4, ho, hG, h4⟩ := p
  have ho2 : Only G w W := (Only.of_below bw G).trans ho fun i hi => .inl hi
  have o6 : Only (fun i => i = k) W (W.setCell ⟨k, 4, none⟩ (.bool true)) := (Only.refl (fun i => i = k) W).setCell (p := ⟨k, 4, none⟩) (.inl rfl) _
  have kW := ho2.blk hk hGk
  refine rapp_end hR hGH hk hHk hGk ho2 (fun i hi => (hG i hi).imp id fun h => Nat.le_trans bw.size h) h4 o6 (kW.set_ 4 (.bool true)) (lv' := lv) ?_ (fun g hg => .inl (hlvH g hg)) hbase
  have h1 := ho2.owns hlv fun g hg => (hlvH g hg).2
  exact o6.owns h1 fun g hg e => (hlvH g hg).2 (by
    exfalso
    obtain ⟨cs, h2⟩ := row_in hlv hg
    exact absurd (blk_kind (e ▸ h2) hk) (by decide))
theorem rjwrite_one (w : World) {b k : Nat} {e : Dk} {G : Foot} (h : RefAt w b e G) {v1 v2 v3 v4 : Value} (hk : Blk w k 75 #[.pointer (some ⟨b, 0, none⟩), v1, v2, v3, v4]) (hGk : ¬ G k) (p : Nat) (t : List UInt8) (g1 g2 : Nat)
    (h1 : Blk w g1 3 #[.int .i64 (p : Int)]) (h2 : Blk w g2 9 #[sv t]) (n1 : ¬ G g1) (n2 : ¬ G g2) (hp : p ≤ 10) (hq : e.q.length ≤ 4000) :
    Calls Tryz.prog 46 #[.pointer (some ⟨k, 0, none⟩), .slice (some ⟨g1, 0, none⟩) 1 1, .slice (some ⟨g2, 0, none⟩) 1 1] w fun r w' => r = .returned (.int .i64 (e.puts p [t]).2) ∧ RPost w w' b (e.puts p [t]).1 G :=
  rjwrite_any w h hk hGk p [t] _ _ 1 1 (fun i hi => by
    obtain rfl : i = 0 := by simpa using hi
    exact ⟨g1, 0, rfl, h1.cell 0, n1, h1.lt⟩) (fun i s hi => by
    match i, hi with
    | 0, hi =>
      obtain rfl : t = s := by simpa using hi
      exact ⟨g2, 0, rfl, h2.cell 0, n2, h2.lt⟩) (by simp; omega) (by simp; omega)
theorem RPost.after {w wr wv W : World} {b : Nat} {e' : Dk} {G G2 : Foot} (o : Only G w wr) (hG : ∀ i, G2 i → G i ∨ w.heap.size ≤ i) (hb : Below wr.heap.size wr wv) (h : RPost wv W b e' G2) : RPost w W b e' G :=
  RPost.trans (o.trans (Only.of_below hb fun _ => False) fun _ h => h.elim) hG h

set_option maxRecDepth 100000 in
set_option maxHeartbeats 8000000 in
theorem rappend_any (w : World) {base b k : Nat} {e : Dk} {y : Jn} {H : Foot} (h : RSes w base b k e y H) (hbase : base ≤ w.heap.size) (A : Option Addr) (c : Nat) (rs : List (List UInt8)) (hs : StrsAt w w.heap.size A rs) (hsH : TxtAt w A rs H)
    (hn : y.n ≤ 1000) (hc : y.cnt ≤ 1000) (hrl : rs.length ≤ 1000) (htot : total rs ≤ 500000) (hxl : y.rs.length ≤ 1000000) (hq : e.q.length ≤ 1000) :
    Calls Tryz.prog 26 #[.pointer (some ⟨k, 0, none⟩), .slice A rs.length c] w fun r w' => r = .returned (.int .i64 (appendS e y rs).2.2) ∧ RApp w w' base b k (appendS e y rs).1 (appendS e y rs).2.1 H := by
  obtain ⟨i0, hi0, hz0, hz1, hz2⟩ := info_parts Tryz.infoStr
  obtain ⟨i1, hj0, hk0, hk1, hk2⟩ := info_parts Tryz.infoInt46
  have HS0 := Lib.hid h
  have HSA := Lib.hid hs
  have HSH := Lib.hid hsH
  obtain ⟨G, lv, hR, hGH, hk, hHk, hGk, hlv, hlvH⟩ := h.body
  obtain ⟨Al, cl, rfl⟩ := hlv.form
  obtain ⟨R, hRR⟩ : ∃ R, appendS e y rs = R := ⟨_, rfl⟩
  rw [hRR]
  unfold appendS at hRR
  have HK := Lib.hid hk
  have k4 : w.cell? ⟨k, 4, none⟩ = some (.bool y.broken) := hk.cell 4
  by_cases hbr : y.broken = true
  · rw [if_pos hbr] at hRR
    subst hRR
    rw [hbr] at k4
    clear hs hsH h
    go_enter Tryz.func26, Tryz.ntmps26
    go_wp2_with fail
    go_ret
    exact ⟨rfl, RApp.same HS0.out (Below.refl _ _)⟩
  · have hbf : y.broken = false := by simpa using hbr
    rw [if_neg hbr] at hRR
    rw [hbf] at k4
    have PL := Lib.hid (rlong_any w w.heap.size A c rs hs (by omega))
    obtain ⟨L, hL⟩ : ∃ L, (rs.any fun r => decide (20000 < r.length)) = L := ⟨_, rfl⟩
    rw [hL] at hRR PL
    cases L with
    | true =>
      rw [if_pos rfl] at hRR
      subst hRR
      clear hs hsH h hL
      go_enter Tryz.func26, Tryz.ntmps26
      go_wp2_with (go_at_call 61; refine PL.out.mono ?_; rintro r w1 ⟨rfl, h9⟩; have h9 := h9.symm; subst h9)
      go_ret
      exact ⟨rfl, RApp.same HS0.out (Below.refl _ _)⟩
    | false =>
      rw [if_neg (by simp)] at hRR
      have htl := textR_len rs (by omega)
      have PT := Lib.hid (rtext_any w w.heap.size A rs c hs (Nat.le_refl _) (by omega) (by omega))
      have PP := Lib.hid (fun W => rpieces_any W (textR rs) (by omega))
      have hsm := pieces_small (textR rs)
      obtain ⟨P, hP⟩ : ∃ P, piecesL (textR rs) = P := ⟨_, rfl⟩
      have hPl : P.length ≤ 600000 := by have := pieces_le (textR rs); rw [hP] at this; omega
      rw [hP] at hRR PP hsm
      have HSM := Lib.hid hsm
      have HRR := Lib.hid hRR
      obtain ⟨T, hT⟩ : ∃ T, textR rs = T := ⟨_, rfl⟩
      rw [hT] at PT PP
      clear hs hsH h hL htl hsm hRR hT hP
      have PRM := Lib.hid (fun W (hW : RSes W base b k e y H) => rroom_any W hW (by omega) (by omega))
      go_enter Tryz.func26, Tryz.ntmps26
      go_upto_region 8 with (first | (go_at_call 61; refine PL.out.mono ?_; rintro r w1 ⟨rfl, h9⟩; have h9 := h9.symm; subst h9) | (go_at_call 63; refine PT.out.mono ?_; rintro r w2 ⟨rfl, b2⟩) | (go_at_call 62; refine (PP.out _).mono ?_; rintro r w3 ⟨v5, rfl, own5, b3⟩))
      have B2 := Lib.hid b2
      have B3 := Lib.hid b3
      have O5 := Lib.hid own5
      have S3 := Lib.hid ((HS0.out.below b2).below b3)
      obtain ⟨A5, c5, rfl⟩ := own5.form
      obtain ⟨N, hN⟩ : ∃ N, P.length = N := ⟨_, rfl⟩
      rw [hN]
      rw [hN] at hPl O5
      have HN := Lib.hid hN
      clear own5 b2 b3 k4 PL PT PP hN
      by_cases hroom : (y.n : Int) - 2 - y.cnt < (N : Int)
      · have hrr := HRR.out
        rw [if_pos (by rw [HN.out]; exact hroom)] at hrr
        subst hrr
        have e1 : decide ((y.n : Int) - 2 - y.cnt < (N : Int)) = true := by simpa using hroom
        clear hroom
        go_wp2_with (go_at_call 14; refine (PRM.out _ S3.out).mono ?_; rintro r w4 ⟨rfl, q, h9⟩; subst h9)
        go_ret
        exact ⟨rfl, RApp.same HS0.out (below_dN (B2.out.trans (B3.out.mono B2.out.size)) q)⟩
      · have hrr := HRR.out
        rw [if_neg (by rw [HN.out]; exact hroom)] at hrr
        have e1 : decide ((y.n : Int) - 2 - y.cnt < (N : Int)) = false := by simpa using hroom
        by_cases hrs : rs = []
        · rw [if_pos hrs] at hrr
          subst hrr
          have e0 : ((rs.length : Int) == 0) = true := by rw [hrs]; rfl
          clear hroom hrs
          go_wp2_with (go_at_call 14; refine (PRM.out _ S3.out).mono ?_; rintro r w4 ⟨rfl, q, h9⟩; subst h9)
          go_ret
          exact ⟨rfl, RApp.same HS0.out (below_dN (B2.out.trans (B3.out.mono B2.out.size)) q)⟩
        · rw [if_neg hrs] at hrr
          have e0 : ((rs.length : Int) == 0) = false := by have := List.length_pos_iff.2 hrs; simp; omega
          have hN1 : N ≤ 1000 := by omega
          have HRL := Lib.hid (show 0 < rs.length from List.length_pos_iff.2 hrs)
          have HR2 := Lib.hid hrr
          clear hroom hrs hrr HRR hPl
          go_upto_region 15 with (first | (go_at_call 14; refine (PRM.out _ S3.out).mono ?_; rintro r w4 ⟨rfl, q, h9⟩; subst h9))
          have hbw := Lib.hid (below_dN B3.out q)
          have S4 := Lib.hid (S3.out.below (below_dN (Below.refl _ w3) q))
          have o54 := Lib.hid (O5.out.below (below_dN (Below.refl _ w3) q))
          have bw4 := Lib.hid (below_dN (B2.out.trans (B3.out.mono B2.out.size)) q)
          have KB2 := Lib.hid (HK.out.below B2.out HK.out.lt)
          clear O5 S3 B3 PRM
          generalize w3.drewN q = w4 at *
          have KB4 := Lib.hid (HK.out.below bw4.out HK.out.lt)
          have hsec := fun (i : Nat) (hi : i < N) (pc : List UInt8) (hpc : P[i]? = some pc) (W : World) => rsector_any W (2 + y.cnt + i) (by omega) pc (HSM.out pc (List.mem_of_getElem? hpc)).2
          have HSEC := Lib.hid hsec
          have KM := Lib.hid hk
          clear hsec
          go_wp2_with fail
          go_loopw [6, 7, 8, 9] (fun pv zv fv v wr => ∃ (i : Nat) (AP AZ AF : Option Addr) (cp cz cf : Nat), i ≤ N ∧ v = .int .i64 (i : Int) ∧ pv = .slice AP i cp ∧ zv = .slice AZ i cz ∧ fv = .slice AF i cf ∧ Hid (Bl w2 wr (.slice A5 N c5) (.slice AP i cp) (.slice AZ i cz) (.slice AF i cf) P (List.replicate i zeroL) (fullS (2 + y.cnt) (P.take i)) (runV (2 + y.cnt) i) i) ∧ Hid (Below w4.heap.size w4 wr ∨ True)) (fun _ _ _ v _ => N - (intOf v).toNat)
          case atStart => exact ⟨0, none, none, none, 0, 0, 0, Nat.zero_le _, rfl, rfl, rfl, rfl, Lib.hid ⟨hbw.out, o54.out, World.ownsRow_nil _ _ _ _, OwnStrs.nil _ _, OwnStrs.nil _ _, fun _ h => (by cases h), fun _ h => (by cases h), fun _ h => (by cases h)⟩, Lib.hid (.inr trivial)⟩
          case round =>
            obtain ⟨i, AP, AZ, AF, cp, cz, cf, hi, rfl, rfl, rfl, rfl, BL, _⟩ := hrel
            by_cases hiN : i < N
            · obtain ⟨pc, hpc⟩ : ∃ pc, P[i]? = some pc := ⟨_, List.getElem?_eq_getElem (by rw [HN.out]; exact hiN)⟩
              have hii : (i : Int) < (N : Int) := by omega
              have PS := HSEC.out i hiN pc hpc
              rw [show ((2 + y.cnt + i : Nat) : Int) = 2 + (y.cnt : Int) + (i : Int) by omega] at PS
              have hpt : P.take (i + 1) = P.take i ++ [pc] := by rw [List.take_add_one, hpc]; rfl
              have hful : fullS (2 + y.cnt) (P.take (i + 1)) = fullS (2 + y.cnt) (P.take i) ++ [secL (2 + y.cnt + i) pc] := by
                rw [hpt, fullS_app, List.length_take, Nat.min_eq_left (by rw [HN.out]; exact hi)]
                rfl
              have HF := Lib.hid hful
              have HPC := Lib.hid hpc
              have HPS := Lib.hid PS
              have KR := KB2.out.below BL.out.below KB2.out.lt
              have k2 : wr.cell? ⟨k, 2, none⟩ = some (.int .i64 (y.cnt : Int)) := KR.cell 2
              have HI := Lib.hid hiN
              clear KR hiN
              clear hful hpt hpc PS
              have own2 : (wr.alloc (.cells #[.int .i64 (2 + (y.cnt : Int) + (i : Int))] 3)).ownsRow w2.heap.size 3 1 (.slice AP i cp) i (runV (2 + y.cnt) i) := World.ownsRow.alloc BL.out.op _
              have kn := Blk.new wr 3 #[.int .i64 (2 + (y.cnt : Int) + (i : Int))]
              go_upto_region 20 with (at_builtin; refine wpList_append_lies _ rfl _ _ 77 rfl w2.heap.size 3 i1 _ 1 8 Tryz.underlying77 hj0 hk0 hk1 hk2 rfl (by omega) (.slice AP i cp) i (runV (2 + y.cnt) i) rfl own2 ⟨wr.heap.size, 0, none⟩ 1 1 [.int .i64 (2 + (y.cnt : Int) + (i : Int))] rfl rfl (World.news_of_block kn) (by simp [Value.oneCell']) (by omega) (by unfold maxLen; omega) (by omega) (by have := BL.out.below.size; simp; omega) (wr.heap.size + 1) (by simp) ?_; intro g1 c1 Y1 ow1 gr1 l1 z1)
              have e1 : runV (2 + y.cnt) i ++ [.int .i64 (2 + (y.cnt : Int) + (i : Int))] = runV (2 + y.cnt) (i + 1) := by
                rw [runV_succ]
                congr 3
              rw [e1] at ow1
              have BL1 := Lib.hid ((BL.out.same (show Below wr.heap.size wr (wr.alloc (.cells #[.int .i64 (2 + (y.cnt : Int) + (i : Int))] 3)) from (Below.refl _ _).alloc (Nat.le_refl _) _)).pushP ow1 gr1)
              clear e1 ow1 gr1 l1 z1 own2 kn k2 BL
              go_upto_region 21 with (first | (at_builtin; refine wpList_append_lies _ rfl _ _ 30 rfl w2.heap.size 9 i0 _ 1 16 Tryz.underlying30 hi0 hz0 hz1 hz2 rfl (by omega) (.slice AZ i cz) i ((List.replicate i zeroL).map sv) rfl own4 ⟨w5.heap.size, 0, none⟩ 1 1 [sv zeroL] rfl rfl (World.news_of_block kn2) (sv_one [zeroL]) (by omega) (by unfold maxLen; omega) (by omega) (by have := BL2.out.below.size; simp; omega) (w5.heap.size + 1) (by simp) ?_; intro g2 c2 Y2 ow2 gr2 l2 z2) | (go_at_call 45; refine (rZero_any _).mono ?_; rintro r w5 ⟨rfl, b5⟩; have BL2 := Lib.hid (BL1.out.same b5); have own4 : OwnStrs (w5.alloc (.cells #[sv zeroL] 9)) w2.heap.size (.slice AZ i cz) (List.replicate i zeroL) := World.ownsRow.alloc BL2.out.oz _; unfold OwnStrs at own4; rw [List.length_replicate] at own4; have kn2 := Blk.new w5 9 #[sv zeroL]))
              have own5 : OwnStrs Y2 w2.heap.size (.slice (some ⟨g2, 0, none⟩) (i + 1) c2) (List.replicate (i + 1) zeroL) := by
                unfold OwnStrs
                rw [List.length_replicate, show List.replicate (i + 1) zeroL = List.replicate i zeroL ++ [zeroL] from List.replicate_succ' .., List.map_append]
                exact ow2
              have BL3 := Lib.hid ((BL2.out.same (show Below w5.heap.size w5 (w5.alloc (.cells #[sv zeroL] 9)) from (Below.refl _ _).alloc (Nat.le_refl _) _)).pushZ own5 gr2 (fun g hg => by
                have hg : g2 = g := by simpa [Value.ownBlock] using hg
                rcases l2 with h | h
                · exact .inl (hg ▸ h)
                · right
                  simp
                  omega))
              have o5c := BL3.out.o5.strsAt i pc HPC.out
              obtain ⟨g5, of5, hA5, _, hc5⟩ := o5c
              subst hA5
              clear ow2 gr2 l2 z2 own4 own5 kn2 BL1 BL2 b5
              have hil : (P.take i).length = i := by rw [List.length_take, Nat.min_eq_left (by rw [HN.out]; exact hi)]
              have hil2 : (fullS (2 + y.cnt) (P.take i)).length = i := by rw [fullS_len, hil]
              have hii0 : (0 : Int) ≤ (i : Int) := by omega
              go_wp2_with (first | (at_builtin; refine wpList_append_lies _ rfl _ _ 30 rfl w2.heap.size 9 i0 _ 1 16 Tryz.underlying30 hi0 hz0 hz1 hz2 rfl (by omega) (.slice AF i cf) i ((fullS (2 + y.cnt) (P.take i)).map sv) rfl own6 ⟨w6.heap.size, 0, none⟩ 1 1 [sv (secL (2 + y.cnt + i) pc)] rfl rfl (World.news_of_block kn3) (sv_one [secL (2 + y.cnt + i) pc]) (by omega) (by unfold maxLen; omega) (by omega) (by have := BL4.out.below.size; simp; omega) (w6.heap.size + 1) (by simp) ?_; intro g3 c3 Y3 ow3 gr3 l3 z3) | (go_at_call 64; refine (HPS.out _).mono ?_; rintro r w6 ⟨rfl, b6⟩; have BL4 := Lib.hid (BL3.out.same b6); have own6 : OwnStrs (w6.alloc (.cells #[sv (secL (2 + y.cnt + i) pc)] 9)) w2.heap.size (.slice AF i cf) (fullS (2 + y.cnt) (P.take i)) := World.ownsRow.alloc BL4.out.of _; unfold OwnStrs at own6; rw [hil2] at own6; have kn3 := Blk.new w6 9 #[sv (secL (2 + y.cnt + i) pc)]))
              have own7 : OwnStrs Y3 w2.heap.size (.slice (some ⟨g3, 0, none⟩) (i + 1) c3) (fullS (2 + y.cnt) (P.take (i + 1))) := by
                unfold OwnStrs
                rw [HF.out, List.map_append, List.length_append, hil2]
                exact ow3
              have BL5 := Lib.hid ((BL4.out.same (show Below w6.heap.size w6 (w6.alloc (.cells #[sv (secL (2 + y.cnt + i) pc)] 9)) from (Below.refl _ _).alloc (Nat.le_refl _) _)).pushF own7 gr3 (fun g hg => by
                have hg : g3 = g := by simpa [Value.ownBlock] using hg
                rcases l3 with h | h
                · exact .inl (hg ▸ h)
                · right
                  simp
                  omega))
              go_roundw
              case rel => exact ⟨i + 1, _, _, _, _, _, _, HI.out, by go_num, rfl, rfl, rfl, BL5, Lib.hid (.inr trivial)⟩
              case measure => have := HI.out; simp [intOf]; omega
            · have hiN2 : i = N := by omega
              have hii : ¬ (i : Int) < (N : Int) := by omega
              subst hiN2
              have KR := Lib.hid (KB2.out.below BL.out.below KB2.out.lt)
              have k2 : wr.cell? ⟨k, 2, none⟩ = some (.int .i64 (y.cnt : Int)) := KR.out.cell 2
              have BW := Lib.hid (B2.out.trans (BL.out.below.mono B2.out.size))
              have HG2 := Lib.hid (show ∀ i, G i → i < w2.heap.size from fun i hi => Nat.lt_of_lt_of_le (HS0.out.low i (hGH i hi)).2 B2.out.size)
              have RA := Lib.hid (own_run BL.out.op HG2.out)
              have TZ := Lib.hid (own_txt BL.out.oz HG2.out)
              have TF := Lib.hid (own_txt BL.out.of HG2.out)
              have R0 := Lib.hid (hR.below BW.out)
              have HP0 := HN.out
              have hfp : fullS (2 + y.cnt) (P.take i) = fullS (2 + y.cnt) P := by rw [List.take_of_length_le (by omega)]
              rw [hfp] at TF
              clear hiN
              have HGK := Lib.hid hGk
              have HLV := Lib.hid hlv
              have HLH := Lib.hid (show ∀ g, (Value.slice Al y.rs.length cl).ownBlock = some g → H g ∧ ¬ G g from hlvH)
              have PH1 : Hid (∀ W, Calls Tryz.prog 44 #[.int .i64 1, .int .i64 ((y.cnt : Int) + (i : Int))] W fun e w' => e = .returned (.string (bs (headL 1 (y.cnt + i)))) ∧ Below W.heap.size W w') := Lib.hid fun W => by
                have := rHead_any W 1 (y.cnt + i) (by omega) (by omega)
                rwa [Int.natCast_add, Int.natCast_one] at this
              have PH0 : Hid (∀ W, Calls Tryz.prog 44 #[.int .i64 0, .int .i64 ((y.cnt : Int) + (i : Int))] W fun e w' => e = .returned (.string (bs (headL 0 (y.cnt + i)))) ∧ Below W.heap.size W w') := Lib.hid fun W => by
                have := rHead_any W 0 (y.cnt + i) (by omega) (by omega)
                rwa [Int.natCast_add, Int.natCast_zero] at this
              have W1c := rjwrite_any wr R0.out KR.out hGk (2 + y.cnt) (List.replicate i zeroL) AP AZ cp cz (by rw [List.length_replicate]; exact RA.out) TZ.out (by rw [List.length_replicate]; omega) (by rw [List.length_replicate]; omega)
              rw [List.length_replicate] at W1c
              have HQ1 := Lib.hid (Dk.puts_q (List.replicate i zeroL) e (2 + y.cnt))
              obtain ⟨D1, hD1⟩ : ∃ D, e.puts (2 + y.cnt) (List.replicate i zeroL) = D := ⟨_, rfl⟩
              rw [hD1] at W1c HQ1
              have HD1 := Lib.hid hD1
              have HW1 := Lib.hid W1c
              clear hD1 W1c hGk hlv BL
              go_upto_region 24 with (go_at_call 46; refine HW1.out.mono ?_; rintro r W1 ⟨rfl, p1⟩)
              have P1 := Lib.hid p1
              clear p1
              by_cases hz : D1.2 = 0
              · obtain ⟨Gm2, O1, F1, R1⟩ := P1.out
                have K1 := Lib.hid (O1.blk KR.out HGK.out)
                have Gk1 := Lib.hid (show ¬ Gm2 k from fun hf => (F1 k hf).elim HGK.out fun h => by have := KR.out.lt; omega)
                have W2c := rjwrite_any W1 R1 K1.out Gk1.out (2 + y.cnt) (fullS (2 + y.cnt) P) AP AF cp cf (by rw [fullS_len, HN.out]; exact RA.out.keep O1 F1) (TF.out.keep O1 F1) (by rw [fullS_len, HN.out]; omega) (by rw [fullS_len, HN.out]; have := HQ1.out; rw [List.length_replicate] at this; omega)
                rw [fullS_len, HN.out] at W2c
                have HQ2 := Lib.hid (Dk.puts_q (fullS (2 + y.cnt) P) D1.1 (2 + y.cnt))
                obtain ⟨D2, hD2⟩ : ∃ D, D1.1.puts (2 + y.cnt) (fullS (2 + y.cnt) P) = D := ⟨_, rfl⟩
                rw [hD2] at W2c HQ2
                have HD2 := Lib.hid hD2
                have HW2 := Lib.hid W2c
                have Oh1 := Lib.hid O1
                have Fh1 := Lib.hid F1
                have HZ1 := Lib.hid hz
                have hq0 : (D1.2 == 0) = true := by simpa using hz
                clear hD2 W2c O1 F1 R1 hz
                go_upto_region 26 with (go_at_call 46; refine HW2.out.mono ?_; rintro r W2 ⟨rfl, p2⟩)
                have P2 := Lib.hid (RPost.trans Oh1.out Fh1.out p2)
                clear p2 hq0
                by_cases hz : D2.2 = 0
                · have hz0 := hz
                  obtain ⟨Gm3, O2, F2, R2⟩ := P2.out
                  have K2 := Lib.hid (O2.blk KR.out HGK.out)
                  have Gk2 := Lib.hid (show ¬ Gm3 k from fun hf => (F2 k hf).elim HGK.out fun h => by have := KR.out.lt; omega)
                  have Gl2 := Lib.hid R2.lt
                  have Oh2 := Lib.hid O2
                  have Fh2 := Lib.hid F2
                  have Rh2 := Lib.hid R2
                  clear O2 F2 R2
                  obtain ⟨x0, x1, x2⟩ := K2.out.all
                  have hq0 : (D2.2 == 0) = true := by simpa using hz
                  clear x0 x1
                  go_upto_region 28 with (first | (go_at_call 44; refine (PH1.out _).mono ?_; rintro r v3 ⟨rfl, b3⟩; have bv3 := Lib.hid (((Below.refl W2.heap.size W2).alloc (Nat.le_refl _) (.cells #[.int .i64 1] 3)).trans (b3.mono (by simp))); have kn3 := Blk.new W2 3 #[.int .i64 1]; have kp3 := Lib.hid ((kn3.below b3 kn3.lt).alloc (.cells #[sv (headL 1 (y.cnt + i))] 9)); have ks3 := Lib.hid (Blk.new v3 9 #[sv (headL 1 (y.cnt + i))]); have bz3 := Lib.hid (bv3.out.alloc bv3.out.size (.cells #[sv (headL 1 (y.cnt + i))] 9)); clear b3 kn3) | (go_at_call 46; refine (rjwrite_one _ (Rh2.out.below bz3.out) (K2.out.below bz3.out K2.out.lt) Gk2.out 1 (headL 1 (y.cnt + i)) W2.heap.size v3.heap.size kp3.out ks3.out (fun h => by have := Gl2.out _ h; omega) (fun h => by have := Gl2.out _ h; have := bv3.out.size; omega) (by omega) (by have := HQ1.out; have := HQ2.out; simp only [List.length_replicate, fullS_len, HN.out] at *; omega)).mono ?_; rintro r W3 ⟨rfl, p3⟩))
                  have P3 := Lib.hid (RPost.after Oh2.out Fh2.out bz3.out p3)
                  have HQ3 := Lib.hid (Dk.puts_q [headL 1 (y.cnt + i)] D2.1 1)
                  obtain ⟨D3, hD3⟩ : ∃ D, D2.1.puts 1 [headL 1 (y.cnt + i)] = D := ⟨_, rfl⟩
                  rw [hD3] at P3 HQ3 ⊢
                  have HD3 := Lib.hid hD3
                  have HZ2 := Lib.hid hz0
                  clear hD3 p3 hz hz0 hq0 kp3 ks3 bz3 bv3
                  by_cases hz : D3.2 = 0
                  · have hz0 := hz
                    obtain ⟨Gm4, O3, F3, R3⟩ := P3.out
                    have K3 := Lib.hid (O3.blk KR.out HGK.out)
                    have Gk3 := Lib.hid (show ¬ Gm4 k from fun hf => (F3 k hf).elim HGK.out fun h => by have := KR.out.lt; omega)
                    have Gl3 := Lib.hid R3.lt
                    have Oh3 := Lib.hid O3
                    have Fh3 := Lib.hid F3
                    have Rh3 := Lib.hid R3
                    clear O3 F3 R3
                    obtain ⟨x0, x1, x2⟩ := K3.out.all
                    have hq0 : (D3.2 == 0) = true := by simpa using hz
                    clear x0 x1
                    go_upto_region 30 with (first | (go_at_call 44; refine (PH0.out _).mono ?_; rintro r v4 ⟨rfl, b4⟩; have bv4 := Lib.hid (((Below.refl W3.heap.size W3).alloc (Nat.le_refl _) (.cells #[.int .i64 0] 3)).trans (b4.mono (by simp))); have kn4 := Blk.new W3 3 #[.int .i64 0]; have kp4 := Lib.hid ((kn4.below b4 kn4.lt).alloc (.cells #[sv (headL 0 (y.cnt + i))] 9)); have ks4 := Lib.hid (Blk.new v4 9 #[sv (headL 0 (y.cnt + i))]); have bz4 := Lib.hid (bv4.out.alloc bv4.out.size (.cells #[sv (headL 0 (y.cnt + i))] 9)); clear b4 kn4) | (go_at_call 46; refine (rjwrite_one _ (Rh3.out.below bz4.out) (K3.out.below bz4.out K3.out.lt) Gk3.out 0 (headL 0 (y.cnt + i)) W3.heap.size v4.heap.size kp4.out ks4.out (fun h => by have := Gl3.out _ h; omega) (fun h => by have := Gl3.out _ h; have := bv4.out.size; omega) (by omega) (by have := HQ1.out; have := HQ2.out; have := HQ3.out; simp only [List.length_replicate, List.length_singleton, fullS_len, HN.out] at *; omega)).mono ?_; rintro r W4 ⟨rfl, p4⟩))
                    have P4 := Lib.hid (RPost.after Oh3.out Fh3.out bz4.out p4)
                    have HQ4 := Lib.hid (Dk.puts_q [headL 0 (y.cnt + i)] D3.1 0)
                    obtain ⟨D4, hD4⟩ : ∃ D, D3.1.puts 0 [headL 0 (y.cnt + i)] = D := ⟨_, rfl⟩
                    rw [hD4] at P4 HQ4 ⊢
                    have HD4 := Lib.hid hD4
                    have HZ3 := Lib.hid hz0
                    clear hD4 p4 hz hz0 hq0 kp4 ks4 bz4 bv4
                    by_cases hz : D4.2 = 0
                    · have hS : e.steps (writesS y.cnt P) = (D4.1, 0) := by rw [writesS, Dk.steps, HN.out, HD1.out, if_pos HZ1.out, Dk.steps, HD2.out, if_pos HZ2.out, Dk.steps, HD3.out, if_pos HZ3.out, Dk.steps, HD4.out, if_pos hz, Dk.steps]
                      have hrr := HR2.out
                      rw [hS, if_pos rfl] at hrr
                      subst hrr
                      obtain ⟨GX, OX, FX, RX⟩ := P4.out
                      have ho4 := Lib.hid ((Only.of_below BW.out G).trans OX fun i hi => .inl hi)
                      have FX4 := Lib.hid (show ∀ i, GX i → G i ∨ w1.heap.size ≤ i from fun i hi => (FX i hi).imp id fun h => Nat.le_trans BW.out.size h)
                      have RX4 := Lib.hid RX
                      have K4 := Lib.hid (OX.blk KR.out HGK.out)
                      obtain ⟨x0, x1, x2⟩ := K4.out.all
                      have hq1 : (D4.2 != 0) = false := by simpa using hz
                      have hb4 := Lib.hid (show base ≤ W4.heap.size from Nat.le_trans hbase ho4.out.size)
                      clear hS OX FX RX hz
                      go_upto_region 34 with fail
                      obtain ⟨W5, hW5⟩ : ∃ W5, W4.setCell ⟨k, 2, none⟩ (.int .i64 ((y.cnt : Int) + (i : Int))) = W5 := ⟨_, rfl⟩
                      have K5 := Lib.hid (K4.out.set_ 2 (.int .i64 ((y.cnt : Int) + (i : Int))))
                      have o45 := Lib.hid ((Only.refl (fun i => i = k) W4).setCell (p := ⟨k, 2, none⟩) (.inl rfl) (.int .i64 ((y.cnt : Int) + (i : Int))))
                      try rw [hW5] at K5 o45 ⊢
                      clear x0 x1
                      have K5 : Hid (Blk W5 k 75 #[.pointer (some ⟨b, 0, none⟩), .int .i64 (y.n : Int), .int .i64 ((y.cnt : Int) + (i : Int)), .slice Al y.rs.length cl, .bool y.broken]) := K5
                      have hb5 := Lib.hid (Nat.le_trans hb4.out o45.out.size)
                      have OL4 := ho4.out.owns HLV.out fun g hg => (HLH.out g hg).2
                      have OL5 := o45.out.owns OL4 fun g hg e => by
                        exfalso
                        obtain ⟨cs, h2⟩ := row_in HLV.out hg
                        exact absurd (blk_kind (e ▸ h2) HK.out) (by decide)
                      have OL6 := Lib.hid (show OwnStrs (W5.alloc (.cells #[] 9)) base (.slice Al y.rs.length cl) y.rs from World.ownsRow.alloc OL5 _)
                      have hn6 : ∀ (j : Nat) (u : Value), (y.rs.map sv)[j]? = some u → ∃ ad, Al = some ad ∧ (W5.alloc (.cells #[] 9)).cell? (ad.add j) = some u := fun j u hj => by
                        rw [List.getElem?_map, Option.map_eq_some_iff] at hj
                        obtain ⟨t, ht, rfl⟩ := hj
                        obtain ⟨g, off, hA, _, hc⟩ := OL6.out.strsAt j t ht
                        refine ⟨_, hA, ?_⟩
                        have ea : (⟨g, off, none⟩ : Addr).add j = ⟨g, off + j, none⟩ := by
                          unfold Addr.add
                          split <;> simp_all
                        rw [ea]
                        exact hc
                      have h06 : (W5.alloc (.cells #[] 9)).ownsRow base 9 1 (.slice (some ⟨W5.heap.size, 0, none⟩) 0 0) 0 [] := ⟨rfl, .inr ⟨W5.heap.size, 0, #[], rfl, hb5.out, Blk.new W5 _ _, Nat.le_refl _, by decide, rfl, rfl⟩⟩
                      have o16 := Lib.hid (((ho4.out.mono hGH).trans o45.out fun j hj => .inl (hj ▸ hHk)).alloc (.cells #[] 9))
                      have T6 := Lib.hid (HSH.out.keep o16.out fun j hj => .inl hj)
                      have K6 := Lib.hid (K5.out.alloc (.cells #[] 9))
                      have HH6 := Lib.hid h06
                      have HN6 := Lib.hid hn6
                      have o56 := Lib.hid (show Below W5.heap.size W5 (W5.alloc (.cells #[] 9)) from (Below.refl _ _).alloc (Nat.le_refl _) _)
                      clear OL4 OL5 h06 hn6 hW5
                      obtain ⟨x0, x1, x2⟩ := K6.out.all
                      obtain ⟨y0, y1, y2⟩ := K5.out.all
                      go_wp2_with (first | (at_builtin; refine wpList_append_any rfl (.tmp 106) (.tmp 110) 30 rfl base 9 i0 _ 1 16 Tryz.underlying30 hi0 hz0 hz1 hz2 rfl (by omega) (.slice (some ⟨W5.heap.size, 0, none⟩) 0 0) 0 [] rfl HH6.out Al y.rs.length cl (y.rs.map sv) rfl (by simp) HN6.out (sv_one y.rs) (by unfold maxLen; omega) (by omega) (by have := hb5.out; simp; omega) ?_; intro v1 Y1 ow1 gr1 l1; have o67 := Lib.hid (show Only (fun j => j = W5.heap.size) (W5.alloc (.cells #[] 9)) Y1 from (Only.of_grown gr1).mono fun j hj => by simpa [Value.ownBlock, eq_comm] using hj); have o17 := Lib.hid (o16.out.trans o67.out fun j hj => .inr (hj ▸ Nat.le_trans ho4.out.size o45.out.size)); have o57 := Lib.hid (show Below W5.heap.size W5 Y1 from o56.out.grown gr1 o56.out.size fun j hj => by (have : W5.heap.size = j := by simpa [Value.ownBlock] using hj); omega); have T7 := Lib.hid (HSH.out.keep o17.out fun j hj => .inl hj); have K7 := Lib.hid (K5.out.below o57.out K5.out.lt); (have HN7 : Hid (∀ (j : Nat) (u : Value), (rs.map sv)[j]? = some u → ∃ ad, A = some ad ∧ Y1.cell? (ad.add j) = some u) := Lib.hid (txt_news T7.out)); obtain ⟨z0, z1, z2⟩ := K7.out.all) | (at_builtin; refine wpList_append_any rfl (.tmp 111) (.tmp 112) 30 rfl base 9 i0 _ 1 16 Tryz.underlying30 hi0 hz0 hz1 hz2 rfl (by omega) v1 (0 + y.rs.length) ([] ++ y.rs.map sv) rfl ow1 A rs.length c (rs.map sv) rfl (by simp) HN7.out (sv_one rs) (by unfold maxLen; omega) (by omega) (by have := hb5.out; have := o57.out.size; omega) ?_; intro v2 Y2 ow2 gr2 l2; have own9 := own_two ow2; obtain ⟨A9, c9, rfl⟩ := own9.form; have lv1 := Lib.hid (show ∀ j, v1.ownBlock = some j → W5.heap.size ≤ j from fun j hj => (l1.elim (fun h => by (have : W5.heap.size = j := by rw [h] at hj; simpa [Value.ownBlock] using hj); omega) fun h => by (have e9 := hj.symm.trans h; injection e9 with e9; simp at e9; omega))); have o58 := Lib.hid (show Below W5.heap.size W5 Y2 from o57.out.grown gr2 o57.out.size lv1.out); have K8 := Lib.hid (K5.out.below o58.out K5.out.lt); have l9 := Lib.hid l2; have OW9 := Lib.hid own9; clear z0 z1 x0 x1 y0 y1 ow2 gr2 l1 gr1 l2 own9; obtain ⟨z0, z1, z2⟩ := K8.out.all))
                      go_ret
                      have hll : (y.rs ++ rs).length = y.rs.length + rs.length := List.length_append
                      have OW9 := Lib.hid (hll ▸ OW9.out : OwnStrs Y2 base (.slice A9 (y.rs.length + rs.length) c9) (y.rs ++ rs))
                      have o49 := (o45.out.trans (Only.of_below o58.out (fun j => j = k)) fun j hj => .inl hj).setCell (p := ⟨k, 3, none⟩) (.inl rfl) (.slice A9 (y.rs.length + rs.length) c9)
                      refine ⟨rfl, rapp_end HS0.out hGH HK.out hHk HGK.out ho4.out FX4.out RX4.out o49 (y' := { n := y.n, cnt := y.cnt + i, rs := y.rs ++ rs, broken := false }) (lv' := .slice A9 (y.rs.length + rs.length) c9) ?_ ?_ ?_ hbase⟩
                      · have := K8.out.set_ 3 (.slice A9 (y.rs.length + rs.length) c9)
                        rw [hbf] at this
                        exact this
                      · exact (((Only.refl (fun j => j = k) Y2).setCell (p := ⟨k, 3, none⟩) (.inl rfl) (.slice A9 (y.rs.length + rs.length) c9)).owns OW9.out fun g hg e => by
                          obtain ⟨cs, h2⟩ := row_in OW9.out hg
                          exact absurd (blk_kind (e ▸ h2) K8.out) (by decide))
                      · intro g hg
                        right
                        have := o45.out.size
                        have hg9 : (Value.slice A9 (y.rs ++ rs).length c9).ownBlock = some g := by rw [hll]; exact hg
                        rcases l9.out with h | h
                        · have := lv1.out g (h.symm.trans hg9)
                          omega
                        · have e9 := hg9.symm.trans h
                          injection e9 with e9
                          have := o57.out.size
                          omega
                    · skip
                      have hS : e.steps (writesS y.cnt P) = D4 := by rw [writesS, Dk.steps, HN.out, HD1.out, if_pos HZ1.out, Dk.steps, HD2.out, if_pos HZ2.out, Dk.steps, HD3.out, if_pos HZ3.out, Dk.steps, HD4.out, if_neg hz]
                      have hrr := HR2.out
                      rw [hS, if_neg hz] at hrr
                      subst hrr
                      obtain ⟨GX, OX, FX, RX⟩ := P4.out
                      have KX := OX.blk KR.out HGK.out
                      obtain ⟨x0, x1, x2⟩ := KX.all
                      have hq0 : (D4.2 == 0) = false := by simpa using hz
                      have hq1 : (D4.2 != 0) = true := by simpa using hz
                      clear hS hz OX FX RX KX
                      go_wp2_with fail
                      go_ret
                      exact ⟨rfl, rapp_bad HS0.out hGH HK.out hHk HGK.out HLV.out HLH.out BW.out P4.out hbase⟩
                  · skip
                    have hS : e.steps (writesS y.cnt P) = D3 := by rw [writesS, Dk.steps, HN.out, HD1.out, if_pos HZ1.out, Dk.steps, HD2.out, if_pos HZ2.out, Dk.steps, HD3.out, if_neg hz]
                    have hrr := HR2.out
                    rw [hS, if_neg hz] at hrr
                    subst hrr
                    obtain ⟨GX, OX, FX, RX⟩ := P3.out
                    have KX := OX.blk KR.out HGK.out
                    obtain ⟨x0, x1, x2⟩ := KX.all
                    have hq0 : (D3.2 == 0) = false := by simpa using hz
                    have hq1 : (D3.2 != 0) = true := by simpa using hz
                    clear hS hz OX FX RX KX
                    go_wp2_with fail
                    go_ret
                    exact ⟨rfl, rapp_bad HS0.out hGH HK.out hHk HGK.out HLV.out HLH.out BW.out P3.out hbase⟩
                · skip
                  have hS : e.steps (writesS y.cnt P) = D2 := by rw [writesS, Dk.steps, HN.out, HD1.out, if_pos HZ1.out, Dk.steps, HD2.out, if_neg hz]
                  have hrr := HR2.out
                  rw [hS, if_neg hz] at hrr
                  subst hrr
                  obtain ⟨GX, OX, FX, RX⟩ := P2.out
                  have KX := OX.blk KR.out HGK.out
                  obtain ⟨x0, x1, x2⟩ := KX.all
                  have hq0 : (D2.2 == 0) = false := by simpa using hz
                  have hq1 : (D2.2 != 0) = true := by simpa using hz
                  clear hS hz OX FX RX KX
                  go_wp2_with fail
                  go_ret
                  exact ⟨rfl, rapp_bad HS0.out hGH HK.out hHk HGK.out HLV.out HLH.out BW.out P2.out hbase⟩
              · skip
                have hS : e.steps (writesS y.cnt P) = D1 := by rw [writesS, Dk.steps, HN.out, HD1.out, if_neg hz]
                have hrr := HR2.out
                rw [hS, if_neg hz] at hrr
                subst hrr
                obtain ⟨GX, OX, FX, RX⟩ := P1.out
                have KX := OX.blk KR.out HGK.out
                obtain ⟨x0, x1, x2⟩ := KX.all
                have hq0 : (D1.2 == 0) = false := by simpa using hz
                have hq1 : (D1.2 != 0) = true := by simpa using hz
                clear hS hz OX FX RX KX
                go_wp2_with fail
                go_ret
                exact ⟨rfl, rapp_bad HS0.out hGH HK.out hHk HGK.out HLV.out HLH.out BW.out P1.out hbase⟩
end Go.Proofs.YtieicjjmkedgaaaGreatDoor

/- The reference's journal: Open. -/
namespace Go.Proofs.YtieicjjmkedgaaaGreatDoor
open Go.RowKit Go.Shelf

theorem Dk.steps_q : ∀ (L : List (Nat × List (List UInt8))) (d : Dk), (∀ x ∈ L, x.2.length = 1) → (d.steps L).1.q.length ≤ d.q.length + L.length
  | [], d, _ => Nat.le_refl _
  | (p, l) :: L, d, h => by
    have h1 := Dk.puts_q l d p
    have h2 : l.length = 1 := h (p, l) List.mem_cons_self
    unfold Dk.steps
    split
    · have := Dk.steps_q L (d.puts p l).1 fun x hx => h x (List.mem_cons_of_mem _ hx)
      simp only [List.length_cons]
      omega
    · simp only [List.length_cons]
      omega
theorem mendL_one {p c : Nat} {v : List UInt8} : (∀ x ∈ mendL p v c, x.2.length = 1) ∧ (mendL p v c).length ≤ 2 := by
  unfold mendL
  split
  · exact ⟨by simp, by simp⟩
  · split
    · refine ⟨fun x hx => ?_, by simp⟩
      simp only [List.mem_cons, List.not_mem_nil, or_false] at hx
      rcases hx with rfl | rfl <;> rfl
    · refine ⟨fun x hx => ?_, by simp⟩
      simp only [List.mem_cons, List.not_mem_nil, or_false] at hx
      subst hx
      rfl
/-- The disk while Open mends the heads of the places before q. -/
structure MSt (d : Dk) (c q : Nat) (x : Dk) : Prop where
  ok : x.Ok
  off : x.off = false
  n : x.n = d.n
  vw : ∀ i, q ≤ i → i < d.n → x.vw i = d.vw i
  ql : x.q.length ≤ d.q.length + 2 * q
  at0 : q = 0 → x = d
  at1 : q = 1 → (d.mend 0 (d.vw 0) c).2 = 0 ∧ x = (d.mend 0 (d.vw 0) c).1
  at2 : q = 2 → (d.mends c).2 = 0 ∧ x = (d.mends c).1
theorem MSt.start {d : Dk} (h : d.Ok) (ho : d.off = false) (c : Nat) : MSt d c 0 d := ⟨h, ho, rfl, fun _ _ _ => rfl, by omega, fun _ => rfl, by simp, by simp⟩
theorem MSt.mends {d x : Dk} {c q : Nat} (h : MSt d c q x) (hq : q < 2) : (q = 0 ∧ x.mend q (d.vw q) c = d.mend 0 (d.vw 0) c) ∨ (q = 1 ∧ x.mend q (d.vw q) c = d.mends c) := by
  match q, hq with
  | 0, _ =>
    left
    rw [h.at0 rfl]
    exact ⟨rfl, rfl⟩
  | 1, _ =>
    right
    obtain ⟨h1, h2⟩ := h.at1 rfl
    refine ⟨rfl, ?_⟩
    rw [h2]
    unfold Dk.mends
    rw [if_pos h1]
theorem MSt.fail {d x : Dk} {c q : Nat} (h : MSt d c q x) (hq : q < 2) (hm : (x.mend q (d.vw q) c).2 ≠ 0) : d.mends c = x.mend q (d.vw q) c := by
  rcases h.mends hq with ⟨_, e⟩ | ⟨_, e⟩
  · rw [e] at hm ⊢
    unfold Dk.mends
    rw [if_neg hm]
  · exact e.symm
theorem MSt.step {d x : Dk} {c q : Nat} (h : MSt d c q x) (hq : q < 2) (h3 : 3 ≤ d.n) (hm : (x.mend q (d.vw q) c).2 = 0) : MSt d c (q + 1) (x.mend q (d.vw q) c).1 := by
  have hv : x.vw q = d.vw q := h.vw q (Nat.le_refl _) (by omega)
  have hl := @mendL_one q c (d.vw q)
  have h4 := Dk.steps_q (mendL q (d.vw q) c) x hl.1
  have ms := Dk.mend_steps x q (d.vw q) c
  rcases Dk.steps_on (mendL q (d.vw q) c) h.ok h.off (mendL_ok (by rw [h.n]; omega)) with ⟨k1, k2, k3, k4, k5, _, _⟩ | ⟨k1, _⟩
  · rw [← ms] at k1 k2 k3 k4 k5 h4
    refine ⟨k2, k3, k4.trans h.n, fun i hi hin => ?_, by have := h.ql; have := hl.2; omega, by simp, fun h1 => ?_, fun h2 => ?_⟩
    · have e1 := (k5 i (by rw [h.n]; exact hin)).1
      rw [← Dk.vw_puts, Ss.puts_app] at e1
      rw [e1, ← h.vw i (by omega) hin, Dk.vw_puts x i]
      have e2 : d.vw q = (x.ss.puts (toW x.q)).f q := by rw [← Dk.vw_puts]; exact hv.symm
      rw [e2]
      exact mend_done.2 i (by omega)
    · rcases h.mends hq with ⟨_, e⟩ | ⟨h0, _⟩
      · rw [e] at hm ⊢
        exact ⟨hm, rfl⟩
      · omega
    · rcases h.mends hq with ⟨h0, _⟩ | ⟨_, e⟩
      · omega
      · rw [e] at hm ⊢
        exact ⟨hm, rfl⟩
  · rw [← ms, hm] at k1
    cases k1
/-- What the reference's Open leaves. -/
def ROpen (w : World) (base b : Nat) (G : Foot) (r : Dk × Option Jn × Int) (e : Ending) (w' : World) : Prop :=
  match r.2.1 with
  | none => e = .returned (.tuple #[.pointer none, .slice none 0 0, .int .i64 r.2.2]) ∧ RPost w w' b r.1 G
  | some x => ∃ (k : Nat) (A : Option Addr) (c : Nat) (H : Foot), e = .returned (.tuple #[.pointer (some ⟨k, 0, none⟩), .slice A x.rs.length c, .int .i64 r.2.2]) ∧ RSes w' base b k r.1 x H ∧ Only G w w' ∧ (∀ i, H i → G i ∨ w.heap.size ≤ i) ∧
      OwnStrs w' w.heap.size (.slice A x.rs.length c) x.rs ∧ ∀ g, (Value.slice A x.rs.length c).ownBlock = some g → ¬ H g
theorem RPost.same {w w' : World} {b : Nat} {d : Dk} {G : Foot} (h : RefAt w b d G) (hb : Below w.heap.size w w') : RPost w w' b d G := (RStp.same h hb).post
theorem own_below {B : Nat} {e : TypeId} {v : Value} {n : Nat} {xs : List Value} {W0 w w' : World} (h : Lib.OwnBuf B e v n xs W0 w) (hb : Below w.heap.size w w') : Lib.OwnBuf B e v n xs W0 w' := by
  have hg : w.grownBy w' none := ⟨hb.os, hb.tape, hb.output, hb.size, fun k hk _ => hb.block k hk⟩
  refine h.grown (World.ownsRowF.kept h.1 hg ?_) (hg.but _)
  cases v.ownBlock with
  | none => exact .inl rfl
  | some g => exact .inr (by simp)
theorem RPost.wide {w w7 W : World} {b : Nat} {e' : Dk} {G : Foot} (hb : Below w.heap.size w w7) (h : RPost w7 W b e' G) : RPost w W b e' G := by
  obtain ⟨G4, ho, hG, h4⟩ := h
  exact ⟨G4, (Only.of_below hb G).trans ho fun i hi => .inl hi, fun i hi => (hG i hi).imp id fun h => Nat.le_trans hb.size h, h4⟩
theorem jread_off {d : Dk} (h : d.off = true) (s : Int) : d.read s = (ByteArray.empty, 25) := by unfold Dk.read; rw [if_pos h]
theorem jread_in {d : Dk} (h : d.off = false) {k : Nat} (hk : k < d.n) : d.read (k : Int) = (bs (d.vw k), 0) := by
  have hhas : d.has (k : Int) = true := by simp [Dk.has]; omega
  unfold Dk.read
  rw [if_neg (by simp [h]), if_neg (by simp [hhas])]
  rfl
theorem jread_end {d : Dk} (h : d.off = false) : d.read (d.n : Int) = (ByteArray.empty, 1) := by
  have hhas : d.has (d.n : Int) = false := by simp [Dk.has]
  unfold Dk.read
  rw [if_neg (by simp [h]), if_pos hhas]

set_option maxRecDepth 100000 in
set_option maxHeartbeats 8000000 in
theorem ropen_any (w : World) {base b : Nat} {d : Dk} {G : Foot} (h : RefAt w b d G) (hG : ∀ i, G i → base ≤ i) (hbase : base ≤ w.heap.size) (hq : d.q.length ≤ 1000) :
    Calls Tryz.prog 9 #[.pointer (some ⟨b, 0, none⟩)] w (ROpen w base b G (openS d)) := by
  have hok := h.ok
  have hn1 := hok.n1
  have hn2 := hok.n2
  have hvl : ∀ i, i < d.n → (d.vw i).length = 64 := fun i hi => Dk.vw_len hok hi
  obtain ⟨R, hR⟩ : ∃ R, openS d = R := ⟨_, rfl⟩
  rw [hR]
  have HR := Lib.hid hR
  have HA := Lib.hid h
  have HV := Lib.hid hvl
  have HOK := Lib.hid hok
  have HRD := Lib.hid (fun (wr : World) (s : Int) (hb : Below w.heap.size w wr) => rreadA (h.below hb) s)
  clear hR h hvl hok
  obtain ⟨i0, hi0, hz0, hz1, hz2⟩ := info_parts Tryz.infoStr
  go_enter Tryz.func9, Tryz.ntmps9
  go_wp2_with (go_at_call 28; refine (HRD.out w 0 (Below.refl _ _)).mono ?_; rintro r w1 ⟨rfl, b1⟩)
  go_loopw [5, 7] (fun n v wr => ∃ k : Nat, k ≤ d.n ∧ n = .int .i64 (k : Int) ∧ v = .int .i64 (d.read (k : Int)).2 ∧ Hid (Below w.heap.size w wr)) (fun n _ _ => d.n - (intOf n).toNat)
  case atStart => exact ⟨0, Nat.zero_le _, rfl, rfl, Lib.hid b1⟩
  case round =>
    clear b1
    obtain ⟨k, hk, rfl, rfl, HB⟩ := hrel
    by_cases ho : d.off = true
    · have e1 := jread_off ho (k : Int)
      have hfin : (d, none, 25) = R := by rw [← HR.out]; exact (openS_off ho).symm
      subst hfin
      rw [e1]
      clear ho e1
      go_wp2_with fail
      go_ret3
      exact ⟨rfl, RPost.same HA.out HB.out⟩
    · have ho' : d.off = false := by simpa using ho
      by_cases hlt : k < d.n
      · have e1 := jread_in ho' hlt
        have hrd := HRD.out wr ((k : Int) + 1) HB.out
        rw [e1]
        have HRD2 := Lib.hid hrd
        have HKL := Lib.hid hlt
        clear e1 hrd ho ho' hlt
        go_wp2_with (go_at_call 28; refine HRD2.out.mono ?_; rintro r w2 ⟨rfl, b2⟩)
        go_roundw
        case rel => exact ⟨k + 1, HKL.out, by go_num, by first | rfl | go_num, Lib.hid (HB.out.trans (b2.mono HB.out.size))⟩
        case measure => have := HKL.out; simp [intOf]; omega
      · obtain rfl : k = d.n := by omega
        have e1 := jread_end ho'
        rw [e1]
        have HO := Lib.hid ho'
        clear e1 ho ho' hlt hk
        by_cases h3 : d.n < 3
        · have hfin : (d, none, 1) = R := by rw [← HR.out]; exact (openS_few HO.out h3).symm
          subst hfin
          have e3 : decide ((d.n : Int) < 3) = true := decide_eq_true (by omega)
          clear h3
          go_wp2_with fail
          go_ret3
          exact ⟨rfl, RPost.same HA.out HB.out⟩
        · have h3' : 3 ≤ d.n := by omega
          have e3 : decide ((d.n : Int) < 3) = false := decide_eq_false (by omega)
          have hr := HR.out
          unfold openS at hr
          rw [if_neg (by simp [HO.out]), if_neg h3] at hr
          have HR2 := Lib.hid hr
          clear hr HR h3
          obtain ⟨v0, hv0⟩ : ∃ v, d.vw 0 = v := ⟨_, rfl⟩
          obtain ⟨v1, hv1⟩ : ∃ v, d.vw 1 = v := ⟨_, rfl⟩
          have RD0 : Hid (Calls Tryz.prog 28 #[.pointer (some ⟨b, 0, none⟩), .int .i64 0] wr fun e w' => e = .returned (.tuple #[.string (bs v0), .int .i64 0]) ∧ Below wr.heap.size wr w') := Lib.hid (by
            have := HRD.out wr ((0 : Nat) : Int) HB.out
            rw [jread_in HO.out (by omega), hv0] at this
            exact this)
          have RD1 : Hid (∀ W, Below w.heap.size w W → Calls Tryz.prog 28 #[.pointer (some ⟨b, 0, none⟩), .int .i64 1] W fun e w' => e = .returned (.tuple #[.string (bs v1), .int .i64 0]) ∧ Below W.heap.size W w') := Lib.hid (fun W hW => by
            have := HRD.out W ((1 : Nat) : Int) hW
            rw [jread_in HO.out (by omega), hv1] at this
            exact this)
          have lv0 : v0.length = 64 := by rw [← hv0]; exact HV.out 0 (by omega)
          have lv1 : v1.length = 64 := by rw [← hv1]; exact HV.out 1 (by omega)
          have g0 : d.vws.getD 0 [] = v0 := by rw [List.getD_eq_getElem?_getD, Dk.vws_at d (by omega), hv0]; rfl
          have g1 : d.vws.getD 1 [] = v1 := by rw [List.getD_eq_getElem?_getD, Dk.vws_at d (by omega), hv1]; rfl
          have hln := Dk.vws_len d
          obtain ⟨m0, hm0⟩ : ∃ x, cntL 0 v0 (d.n - 2) = x := ⟨_, rfl⟩
          obtain ⟨m1, hm1⟩ : ∃ x, cntL 1 v1 (d.n - 2) = x := ⟨_, rfl⟩
          obtain ⟨cm, hcm⟩ : ∃ x, x = max m0 m1 := ⟨_, rfl⟩
          have hcM : cntM v0 v1 (d.n - 2) = cm := by unfold cntM; rw [hm0, hm1, ← hcm]
          have hcle : cm ≤ (d.n : Int) - 2 := by have := cntM_le v0 v1 (d.n - 2); rw [hcM] at this; omega
          have q0 := fun W => rjcount_any W 0 (by decide) v0 lv0 (d.n - 2) (by omega)
          have q1 := fun W => rjcount_any W 1 (by decide) v1 lv1 (d.n - 2) (by omega)
          rw [hm0] at q0
          rw [hm1] at q1
          have hsub : ((d.n - 2 : Nat) : Int) = (d.n : Int) - 2 := by omega
          rw [hsub] at q0 q1
          have Q0 : Hid (∀ W, Calls Tryz.prog 41 #[.int .i64 0, .string (bs v0), .int .i64 ((d.n : Int) - 2)] W fun e w' => e = .returned (.int .i64 m0) ∧ Below W.heap.size W w') := Lib.hid q0
          have Q1 : Hid (∀ W, Calls Tryz.prog 41 #[.int .i64 1, .string (bs v1), .int .i64 ((d.n : Int) - 2)] W fun e w' => e = .returned (.int .i64 m1) ∧ Below W.heap.size W w') := Lib.hid q1
          have hmx := run_max2 (P := Tryz.prog) m0 m1 cm hcm
          have hr := HR2.out
          unfold readS at hr
          rw [g0, g1, hln, hcM] at hr
          have HR3 := Lib.hid hr
          have HLN := Lib.hid hln
          have hwr : IntKind.i64.wrap ((d.n : Int) - 2) = (d.n : Int) - 2 := IntWalk.i64_in _ (by omega)
          clear q0 q1 hm0 hm1 hcM g0 g1 hln hv0 hv1 hsub hcm lv0 lv1 hr HR2
          go_upto_region 15 with (first | (go_at_call 28; refine RD0.out.mono ?_; rintro r w2 ⟨rfl, b2⟩; have B2 := Lib.hid (HB.out.trans (b2.mono HB.out.size)); clear b2 RD0) | (go_at_call 28; refine (RD1.out _ B2.out).mono ?_; rintro r w3 ⟨rfl, b3⟩; have B3 := Lib.hid (B2.out.trans (b3.mono B2.out.size)); clear b3 RD1 B2) | (go_at_call 41; refine (Q0.out _).mono ?_; rintro r w4 ⟨rfl, b4⟩; have B4 := Lib.hid (B3.out.trans (b4.mono B3.out.size)); clear b4 Q0 B3) | (go_at_call 41; refine (Q1.out _).mono ?_; rintro r w5 ⟨rfl, b5⟩; have B5 := Lib.hid (B4.out.trans (b5.mono B4.out.size)); clear b5 Q1 B4))
          by_cases hneg : cm < 0
          · have hr := HR3.out
            rw [if_pos hneg] at hr
            simp only at hr
            subst hr
            have d1 : decide (cm < 0) = true := decide_eq_true hneg
            clear HR3 hneg
            go_wp2_with fail
            go_ret3
            exact ⟨rfl, RPost.same HA.out B5.out⟩
          · have d1 : decide (cm < 0) = false := decide_eq_false hneg
            have hr := HR3.out
            rw [if_neg hneg] at hr
            obtain ⟨k, rfl⟩ := Int.eq_ofNat_of_zero_le (Int.not_lt.1 hneg)
            rw [Int.toNat_natCast] at hr
            have hkn : k + 2 ≤ d.n := by omega
            obtain ⟨l, hl⟩ : ∃ l, (d.vws.drop 2).take k = l := ⟨_, rfl⟩
            have hll : l.length = k := by rw [← hl, List.length_take, List.length_drop, HLN.out]; omega
            have hli : ∀ i, i < k → l[i]? = some (d.vw (2 + i)) := fun i hi => by rw [← hl, List.getElem?_take_of_lt hi, List.getElem?_drop, Dk.vws_at d (by omega)]
            rw [hl] at hr
            have HR4 := Lib.hid hr
            have HLL := Lib.hid hll
            have HLI := Lib.hid hli
            clear HR3 hneg hr hcle hll hli hl HLN
            obtain ⟨ib, hib, hzb0, hzb1, hzb2⟩ := info_parts Tryz.infoByte
            have OB0 : Hid (Lib.OwnBuf w5.heap.size 5 (.slice none 0 0) 0 [] w5 w5) := Lib.hid ⟨World.ownsRowF_of (World.ownsRow_nil _ _ _ _), Below.refl _ _, Nat.le_refl _⟩
            go_wp2_with fail
            go_loopw [13, 14] (fun v i wx => ∃ (j : Nat) (T : List UInt8), j ≤ k ∧ i = .int .i64 (j : Int) ∧ Hid (foundP 2 (l.take j) = some T) ∧ Hid (Lib.OwnBuf w5.heap.size 5 v T.length (bc T) w5 wx)) (fun _ i _ => k - (intOf i).toNat)
            case atStart => exact ⟨0, [], Nat.zero_le _, rfl, Lib.hid (by rw [List.take_zero]; rfl), OB0⟩
            case round =>
              clear OB0
              obtain ⟨i, T, hik, rfl, HF, OB⟩ := hrel
              have hbw := Lib.hid (B5.out.trans (OB.out.2.1.mono B5.out.size))
              by_cases hlt : i < k
              · have hsg := HLI.out i hlt
                have hsl2 := HV.out (2 + i) (by omega)
                have hTl := foundP_len _ _ _ HF.out
                rw [List.length_take, HLL.out] at hTl
                have RD : Hid (Calls Tryz.prog 28 #[.pointer (some ⟨b, 0, none⟩), .int .i64 (2 + (i : Int))] wr fun e w' => e = .returned (.tuple #[.string (bs (d.vw (2 + i))), .int .i64 0]) ∧ Below wr.heap.size wr w') := Lib.hid (by
                  have := HRD.out wr ((2 + i : Nat) : Int) hbw.out
                  rwa [jread_in HO.out (by omega), Int.natCast_add] at this)
                generalize d.vw (2 + i) = s at *
                have RP : Hid (∀ W, Calls Tryz.prog 42 #[.int .i64 (2 + (i : Int)), .string (bs s)] W fun e w' => e = .returned (.string (bs (rpcS (2 + i) s))) ∧ Below W.heap.size W w') := Lib.hid (fun W => by
                  have := rpiece_any W (2 + i) (by omega) s hsl2
                  rwa [Int.natCast_add] at this)
                have hi1 : (i : Int) < (k : Int) := by omega
                have hi0 : (0 : Int) ≤ (i : Int) := by omega
                have HSG := Lib.hid hsg
                clear hsg
                rcases @rpc_some (2 + i) s with ⟨hp1, hp2⟩ | ⟨hp1, hp2⟩
                · have hfin : (d, none, 26) = R := by rw [← HR4.out, foundP_bad HSG.out hp2]; rfl
                  subst hfin
                  rw [hp1, show bs [] = (⟨#[]⟩ : ByteArray) from rfl] at RP
                  clear hp1 hp2 hlt hik HF
                  go_wp2_with (first | (go_at_call 28; refine RD.out.mono ?_; rintro r w6 ⟨rfl, b6⟩; have B6 := Lib.hid (hbw.out.trans (b6.mono hbw.out.size)); clear b6) | (go_at_call 42; refine (RP.out _).mono ?_; rintro r w7 ⟨rfl, b7⟩; have B7 := Lib.hid (B6.out.trans (b7.mono B6.out.size)); clear b7))
                  go_ret3
                  exact ⟨rfl, RPost.same HA.out B7.out⟩
                · have HN := Lib.hid (foundP_next HSG.out HF.out hp2)
                  have hpl : (rpcS (2 + i) s).length ≤ 46 := (pieceOf_some hp2).2.1
                  generalize rpcS (2 + i) s = Pc at *
                  have hpe : (bs Pc).toList.isEmpty = false := by
                    rw [Lib.toList_data]
                    cases Pc with
                    | nil => exact absurd rfl hp1
                    | cons x r => rfl
                  have HLT := Lib.hid hlt
                  clear hp1 hp2 hlt
                  go_wp2_with (first | (go_at_call 28; refine RD.out.mono ?_; rintro r w6 ⟨rfl, b6⟩; have OB6 := Lib.hid (own_below OB.out b6); clear b6) | (go_at_call 42; refine (RP.out _).mono ?_; rintro r w7 ⟨rfl, b7⟩; have OB7 := Lib.hid (own_below OB6.out b7); clear b7) | (at_builtin; refine Lib.wpList_append_text rfl _ _ 49 9 rfl w5.heap.size 5 ib Tryz.underlying49 Tryz.underlying9 hib hzb0 hzb1 hzb2 u13 T.length (bc T) rfl w5 OB7.out (bs Pc) rfl (by rw [bs_size]; omega) ?_; intro v8 w8 OB8; rw [bs_size, strCells_bs, ← bc_app] at OB8))
                  have hl1 : (T ++ Pc).length = T.length + Pc.length := List.length_append
                  exact ⟨⟨i + 1, T ++ Pc, HLT.out, by go_num, HN, Lib.hid (by rw [hl1]; exact OB8)⟩, by have := HLT.out; simp [intOf]; omega⟩
              · obtain rfl : i = k := by omega
                have hff := HF.out
                rw [List.take_of_length_le (by rw [HLL.out]; exact Nat.le_refl _)] at hff
                have hr := HR4.out
                rw [hff, Option.bind_some] at hr
                have hTl := foundP_len _ _ _ hff
                rw [HLL.out] at hTl
                have hcv := own_string OB.out
                have hlt2 : ¬ (i : Int) < (i : Int) := by omega
                have HPA := Lib.hid (fun W => rparse_any W T (by omega))
                clear HR4 HF hff HLI HLL OB hlt
                cases hpr : parseR T with
                | none =>
                  rw [hpr] at HPA hr
                  simp only [Option.map_none] at hr
                  subst hr
                  clear hpr
                  go_wp2_with (go_at_call 43; refine (HPA.out _).mono ?_; rintro r w6 ⟨b6, rfl⟩)
                  go_ret3
                  exact ⟨rfl, RPost.same HA.out (hbw.out.trans (b6.mono hbw.out.size))⟩
                | some rs =>
                  rw [hpr] at HPA hr
                  simp only [Option.map_some] at hr
                  have HR5 := Lib.hid hr
                  have hrsl : rs.length ≤ 1000000 := by
                    have q := (parse_some hpr).1
                    have q2 := textR_rows rs
                    rw [← q] at q2
                    omega
                  clear hpr hr
                  go_upto_region 29 with (go_at_call 43; refine (HPA.out _).mono ?_; rintro r w6 ⟨b6, Ar, cr, rfl, or6⟩)
                  have hwj := Lib.hid (hbw.out.trans (b6.mono hbw.out.size))
                  have hwl := hwj.out.size
                  have kj := Blk.new w6 75 #[.pointer (some ⟨b, 0, none⟩), .int .i64 (d.n : Int), .int .i64 (i : Int), .slice Ar rs.length cr, .bool false]
                  have hb7 := Lib.hid (hwj.out.alloc hwl (.cells #[.pointer (some ⟨b, 0, none⟩), .int .i64 (d.n : Int), .int .i64 (i : Int), .slice Ar rs.length cr, .bool false] 75))
                  have or7 := Lib.hid (show OwnStrs (w6.alloc (.cells #[.pointer (some ⟨b, 0, none⟩), .int .i64 (d.n : Int), .int .i64 (i : Int), .slice Ar rs.length cr, .bool false] 75)) wr.heap.size (.slice Ar rs.length cr) rs from World.ownsRow.alloc or6 _)
                  have hor := Lib.hid (show ∀ g, (Value.slice Ar rs.length cr).ownBlock = some g → g < w6.heap.size from fun g hg => (World.ownsRow.lt or6 g hg).2)
                  have hwrs := Lib.hid hbw.out.size
                  have hKG := Lib.hid (show ¬ G w6.heap.size from fun hg => by have := HA.out.lt _ hg; omega)
                  clear or6 b6 hbw hcv HPA
                  go_upto_region 30 with fail
                  generalize w6.alloc (.cells #[.pointer (some ⟨b, 0, none⟩), .int .i64 (d.n : Int), .int .i64 (i : Int), .slice Ar rs.length cr, .bool false] 75) = w7 at *
                  have KJ := Lib.hid kj
                  clear kj
                  generalize w6.heap.size = kj at *
                  have B0 := Lib.hid (hb7.out)
                  obtain ⟨wp, rfl⟩ : ∃ p : World, p = wr := ⟨wr, rfl⟩
                  have O0 := Lib.hid (Only.refl G w7)
                  go_wp2_with fail
                  go_loopw [21] (fun v wx => ∃ (q : Nat) (x : Dk) (Gx : Foot), q ≤ 2 ∧ v = .int .i64 (q : Int) ∧ Hid (MSt d i q x) ∧ Hid (RefAt wx b x Gx) ∧ Hid (Only G w7 wx) ∧ Hid (∀ j, Gx j → G j ∨ w7.heap.size ≤ j)) (fun v _ => 2 - (intOf v).toNat)
                  case atStart => exact ⟨0, d, G, by omega, rfl, Lib.hid (MSt.start HOK.out HO.out i), Lib.hid (HA.out.below hb7.out), O0, Lib.hid fun j hj => .inl hj⟩
                  case round =>
                    clear O0
                    obtain ⟨q, x, Gx, hq2, rfl, MS, RX, OX, FX⟩ := hrel
                    have KX := Lib.hid (OX.out.blk KJ.out hKG.out)
                    by_cases hlt : q < 2
                    · have hqi : (q : Int) < 2 := by omega
                      obtain ⟨V, hV⟩ : ∃ V, d.vw q = V := ⟨_, rfl⟩
                      have RD : Hid (Calls Tryz.prog 28 #[.pointer (some ⟨b, 0, none⟩), .int .i64 (q : Int)] wr fun e w' => e = .returned (.tuple #[.string (bs V), .int .i64 0]) ∧ Below wr.heap.size wr w') := Lib.hid (by
                        have := rreadA RX.out (q : Int)
                        rwa [jread_in MS.out.off (by rw [MS.out.n]; omega), MS.out.vw q (Nat.le_refl _) (by omega), hV] at this)
                      obtain ⟨Hh, hHh⟩ : ∃ v, headL q i = v := ⟨_, rfl⟩
                      have RH : Hid (∀ W, Calls Tryz.prog 44 #[.int .i64 (q : Int), .int .i64 (i : Int)] W fun e w' => e = .returned (.string (bs Hh)) ∧ Below W.heap.size W w') := Lib.hid (fun W => by
                        have := rHead_any W q i (by omega) (by omega)
                        rwa [hHh] at this)
                      have MF : Hid ((x.mend q V i).2 ≠ 0 → d.mends i = x.mend q V i) := Lib.hid (fun h => by
                        have := MS.out.fail hlt
                        rw [hV] at this
                        exact this h)
                      have MN : Hid ((x.mend q V i).2 = 0 → MSt d i (q + 1) (x.mend q V i).1) := Lib.hid (fun h => by
                        have := MS.out.step hlt h3'
                        rw [hV] at this
                        exact this h)
                      have hmd : x.mend q V i = if V = Hh ∨ (i = 0 ∧ V = zeroL) then (x, 0) else if (x.puts q [zeroL]).2 = 0 ∧ 0 < i then (x.puts q [zeroL]).1.puts q [Hh] else x.puts q [zeroL] := by
                        unfold Dk.mend
                        rw [hHh]
                      have HMD := Lib.hid hmd
                      have HQ := Lib.hid hlt
                      clear hmd hV hHh hlt
                      by_cases h1 : V = Hh ∨ (i = 0 ∧ V = zeroL)
                      · have MN2 : Hid (MSt d i (q + 1) x) := Lib.hid (by
                          have := MN.out
                          rw [HMD.out, if_pos h1] at this
                          exact this rfl)
                        by_cases h2 : V = Hh
                        · subst h2
                          clear h1 MN HMD MF
                          go_wp2_with (first | (go_at_call 28; refine RD.out.mono ?_; rintro r w8 ⟨rfl, b8⟩) | (go_at_call 44; refine (RH.out _).mono ?_; rintro r w9 ⟨rfl, b9⟩; have b89 := Lib.hid (b8.trans (b9.mono b8.size))))
                          exact ⟨⟨q + 1, x, Gx, by have := HQ.out; omega, by go_num, MN2, Lib.hid (RX.out.below b89.out), Lib.hid (OX.out.trans (Only.of_below b89.out fun _ => False) fun _ h => h.elim), FX⟩, by have := HQ.out; simp [intOf]; omega⟩
                        · obtain ⟨hi0, hz⟩ := h1.resolve_left h2
                          have hi00 : ((i : Int) == 0) = true := by rw [hi0]; rfl
                          have e1 := beq_bs h2
                          subst hz
                          clear h1 MN HMD MF h2 hi0
                          go_wp2_with (first | (go_at_call 28; refine RD.out.mono ?_; rintro r w8 ⟨rfl, b8⟩) | (go_at_call 44; refine (RH.out _).mono ?_; rintro r w9 ⟨rfl, b9⟩; have b89 := Lib.hid (b8.trans (b9.mono b8.size))) | (go_at_call 45; refine (rZero_any _).mono ?_; rintro r w10 ⟨rfl, b10⟩; have b810 := Lib.hid (b89.out.trans (b10.mono b89.out.size))))
                          exact ⟨⟨q + 1, x, Gx, by have := HQ.out; omega, by go_num, MN2, Lib.hid (RX.out.below b810.out), Lib.hid (OX.out.trans (Only.of_below b810.out fun _ => False) fun _ h => h.elim), FX⟩, by have := HQ.out; simp [intOf]; omega⟩
                      · skip
                        have h2 : V ≠ Hh := fun h => h1 (.inl h)
                        have e1 := beq_bs h2
                        by_cases hi0 : i = 0
                        · have hz0 : V ≠ zeroL := fun h => h1 (.inr ⟨hi0, h⟩)
                          have e2 := beq_bs hz0
                          have hi00 : ((i : Int) == 0) = true := by rw [hi0]; rfl
                          have hi01 : ¬ (0 : Int) < (i : Int) := by omega
                          have hi02 : ¬ 0 < i := by omega
                          have HI := Lib.hid hi02
                          have H1 := Lib.hid h1
                          clear h1 h2 hz0 hi0
                          go_upto_region 35 with (first | (go_at_call 28; refine RD.out.mono ?_; rintro r w8 ⟨rfl, b8⟩) | (go_at_call 44; refine (RH.out _).mono ?_; rintro r w9 ⟨rfl, b9⟩; have b89 := Lib.hid (b8.trans (b9.mono b8.size))) | (go_at_call 45; refine (rZero_any _).mono ?_; rintro r w10 ⟨rfl, b10⟩; have b810 := Lib.hid (b89.out.trans (b10.mono b89.out.size))))
                          have Rb1 := Lib.hid (RX.out.below b810.out)
                          have Kb1 := Lib.hid (KX.out.below b810.out KX.out.lt)
                          have Ob1 := Lib.hid (OX.out.trans (Only.of_below b810.out fun _ => False) fun _ h => h.elim)
                          have Gl1 := Lib.hid Rb1.out.lt
                          have Gk1 := Lib.hid (show ¬ Gx kj from fun hf => (FX.out kj hf).elim hKG.out fun h => by have := KJ.out.lt; omega)
                          have Fb1 := FX
                          go_upto_region 36 with (first | (go_at_call 45; refine (rZero_any _).mono ?_; rintro r v1 ⟨rfl, c1⟩; have bv1 := Lib.hid (((Below.refl w10.heap.size w10).alloc (Nat.le_refl _) (.cells #[.int .i64 (q : Int)] 3)).trans (c1.mono (by simp))); have kn1 := Blk.new w10 3 #[.int .i64 (q : Int)]; have kp1 := Lib.hid ((kn1.below c1 kn1.lt).alloc (.cells #[sv zeroL] 9)); have ks1 := Lib.hid (Blk.new v1 9 #[sv zeroL]); have bz1 := Lib.hid (bv1.out.alloc bv1.out.size (.cells #[sv zeroL] 9)); clear c1 kn1) | (go_at_call 46; refine (rjwrite_one _ (Rb1.out.below bz1.out) (Kb1.out.below bz1.out Kb1.out.lt) Gk1.out q zeroL w10.heap.size v1.heap.size kp1.out ks1.out (fun h => by have := Gl1.out _ h; omega) (fun h => by have := Gl1.out _ h; have := bv1.out.size; omega) (by have := HQ.out; omega) (by have := MS.out.ql; have := HQ.out; omega)).mono ?_; rintro r W1 ⟨rfl, p1⟩))
                          have P1 := Lib.hid (RPost.after Ob1.out Fb1.out bz1.out p1)
                          have HL1 := Lib.hid (Dk.puts_q [zeroL] x q)
                          obtain ⟨D1, hD1⟩ : ∃ D, x.puts q [zeroL] = D := ⟨_, rfl⟩
                          rw [hD1] at P1 HL1 ⊢
                          have HD1 := Lib.hid hD1
                          clear hD1 p1 kp1 ks1 bz1 bv1
                          by_cases hz : D1.2 = 0
                          · skip
                            have hm : x.mend q V i = D1 := by rw [HMD.out, if_neg H1.out, HD1.out, if_neg (fun h => HI.out h.2)]
                            have MN2 := MN.out
                            rw [hm] at MN2
                            have MN3 := Lib.hid (MN2 hz)
                            obtain ⟨G9, O9, F9, R9⟩ := P1.out
                            have hq0 : (D1.2 == 0) = true := by simpa using hz
                            have hq1 : (D1.2 != 0) = false := by simpa using hz
                            have HO9 := Lib.hid O9
                            have HF9 := Lib.hid F9
                            have HR9 := Lib.hid R9
                            clear hz hm MN2 O9 F9 R9
                            go_wp2_with fail
                            exact ⟨⟨q + 1, D1.1, G9, by have := HQ.out; omega, by go_num, MN3, HR9, HO9, HF9⟩, by have := HQ.out; simp [intOf]; omega⟩
                          · skip
                            have hm : x.mend q V i = D1 := by rw [HMD.out, if_neg H1.out, HD1.out, if_neg (fun h => HI.out h.2)]
                            have hmd := MF.out (by rw [hm]; exact hz)
                            rw [hm] at hmd
                            have hr := HR5.out
                            rw [hmd, if_neg hz] at hr
                            subst hr
                            have hq0 : (D1.2 == 0) = false := by simpa using hz
                            have hq1 : (D1.2 != 0) = true := by simpa using hz
                            clear hmd hz hm
                            go_wp2_with fail
                            go_ret3
                            exact ⟨rfl, RPost.wide hb7.out P1.out⟩
                        · have hi00 : ((i : Int) == 0) = false := by simp; omega
                          have hi01 : (0 : Int) < (i : Int) := by omega
                          have HI := Lib.hid (show 0 < i by omega)
                          have H1 := Lib.hid h1
                          clear h1 h2 hi0
                          go_upto_region 35 with (first | (go_at_call 28; refine RD.out.mono ?_; rintro r w8 ⟨rfl, b8⟩) | (go_at_call 44; refine (RH.out _).mono ?_; rintro r w9 ⟨rfl, b9⟩; have b89 := Lib.hid (b8.trans (b9.mono b8.size))))
                          have Rb1 := Lib.hid (RX.out.below b89.out)
                          have Kb1 := Lib.hid (KX.out.below b89.out KX.out.lt)
                          have Ob1 := Lib.hid (OX.out.trans (Only.of_below b89.out fun _ => False) fun _ h => h.elim)
                          have Gl1 := Lib.hid Rb1.out.lt
                          have Gk1 := Lib.hid (show ¬ Gx kj from fun hf => (FX.out kj hf).elim hKG.out fun h => by have := KJ.out.lt; omega)
                          have Fb1 := FX
                          go_upto_region 36 with (first | (go_at_call 45; refine (rZero_any _).mono ?_; rintro r v1 ⟨rfl, c1⟩; have bv1 := Lib.hid (((Below.refl w9.heap.size w9).alloc (Nat.le_refl _) (.cells #[.int .i64 (q : Int)] 3)).trans (c1.mono (by simp))); have kn1 := Blk.new w9 3 #[.int .i64 (q : Int)]; have kp1 := Lib.hid ((kn1.below c1 kn1.lt).alloc (.cells #[sv zeroL] 9)); have ks1 := Lib.hid (Blk.new v1 9 #[sv zeroL]); have bz1 := Lib.hid (bv1.out.alloc bv1.out.size (.cells #[sv zeroL] 9)); clear c1 kn1) | (go_at_call 46; refine (rjwrite_one _ (Rb1.out.below bz1.out) (Kb1.out.below bz1.out Kb1.out.lt) Gk1.out q zeroL w9.heap.size v1.heap.size kp1.out ks1.out (fun h => by have := Gl1.out _ h; omega) (fun h => by have := Gl1.out _ h; have := bv1.out.size; omega) (by have := HQ.out; omega) (by have := MS.out.ql; have := HQ.out; omega)).mono ?_; rintro r W1 ⟨rfl, p1⟩))
                          have P1 := Lib.hid (RPost.after Ob1.out Fb1.out bz1.out p1)
                          have HL1 := Lib.hid (Dk.puts_q [zeroL] x q)
                          obtain ⟨D1, hD1⟩ : ∃ D, x.puts q [zeroL] = D := ⟨_, rfl⟩
                          rw [hD1] at P1 HL1 ⊢
                          have HD1 := Lib.hid hD1
                          clear hD1 p1 kp1 ks1 bz1 bv1
                          by_cases hz : D1.2 = 0
                          · have HZ1 := Lib.hid hz
                            have hq0 : (D1.2 == 0) = true := by simpa using hz
                            obtain ⟨Gm, O2, F2, R2⟩ := P1.out
                            have Kb2 := Lib.hid (O2.blk KJ.out hKG.out)
                            have Gk2 := Lib.hid (show ¬ Gm kj from fun hf => (F2 kj hf).elim hKG.out fun h => by have := KJ.out.lt; omega)
                            have Gl2 := Lib.hid R2.lt
                            have Ob2 := Lib.hid O2
                            have Fb2 := Lib.hid F2
                            have Rb2 := Lib.hid R2
                            clear O2 F2 R2 hz
                            go_upto_region 38 with (first | (go_at_call 44; refine (RH.out _).mono ?_; rintro r v2 ⟨rfl, c2⟩; have bv2 := Lib.hid (((Below.refl W1.heap.size W1).alloc (Nat.le_refl _) (.cells #[.int .i64 (q : Int)] 3)).trans (c2.mono (by simp))); have kn2 := Blk.new W1 3 #[.int .i64 (q : Int)]; have kp2 := Lib.hid ((kn2.below c2 kn2.lt).alloc (.cells #[sv Hh] 9)); have ks2 := Lib.hid (Blk.new v2 9 #[sv Hh]); have bz2 := Lib.hid (bv2.out.alloc bv2.out.size (.cells #[sv Hh] 9)); clear c2 kn2) | (go_at_call 46; refine (rjwrite_one _ (Rb2.out.below bz2.out) (Kb2.out.below bz2.out Kb2.out.lt) Gk2.out q Hh W1.heap.size v2.heap.size kp2.out ks2.out (fun h => by have := Gl2.out _ h; omega) (fun h => by have := Gl2.out _ h; have := bv2.out.size; omega) (by have := HQ.out; omega) (by have := MS.out.ql; have := HQ.out; have := HL1.out; simp only [List.length_singleton] at this; omega)).mono ?_; rintro r W2 ⟨rfl, p2⟩))
                            have P2 := Lib.hid (RPost.after Ob2.out Fb2.out bz2.out p2)
                            have HL2 := Lib.hid (Dk.puts_q [Hh] D1.1 q)
                            obtain ⟨D2, hD2⟩ : ∃ D, D1.1.puts q [Hh] = D := ⟨_, rfl⟩
                            rw [hD2] at P2 HL2 ⊢
                            have HD2 := Lib.hid hD2
                            clear hD2 p2 kp2 ks2 bz2 bv2
                            clear hq0
                            by_cases hz : D2.2 = 0
                            · skip
                              have hm : x.mend q V i = D2 := by rw [HMD.out, if_neg H1.out, HD1.out, if_pos ⟨HZ1.out, HI.out⟩, HD2.out]
                              have MN2 := MN.out
                              rw [hm] at MN2
                              have MN3 := Lib.hid (MN2 hz)
                              obtain ⟨G9, O9, F9, R9⟩ := P2.out
                              have hq0 : (D2.2 == 0) = true := by simpa using hz
                              have hq1 : (D2.2 != 0) = false := by simpa using hz
                              have HO9 := Lib.hid O9
                              have HF9 := Lib.hid F9
                              have HR9 := Lib.hid R9
                              clear hz hm MN2 O9 F9 R9
                              go_wp2_with fail
                              exact ⟨⟨q + 1, D2.1, G9, by have := HQ.out; omega, by go_num, MN3, HR9, HO9, HF9⟩, by have := HQ.out; simp [intOf]; omega⟩
                            · skip
                              have hm : x.mend q V i = D2 := by rw [HMD.out, if_neg H1.out, HD1.out, if_pos ⟨HZ1.out, HI.out⟩, HD2.out]
                              have hmd := MF.out (by rw [hm]; exact hz)
                              rw [hm] at hmd
                              have hr := HR5.out
                              rw [hmd, if_neg hz] at hr
                              subst hr
                              have hq0 : (D2.2 == 0) = false := by simpa using hz
                              have hq1 : (D2.2 != 0) = true := by simpa using hz
                              clear hmd hz hm
                              go_wp2_with fail
                              go_ret3
                              exact ⟨rfl, RPost.wide hb7.out P2.out⟩
                          · skip
                            have hm : x.mend q V i = D1 := by rw [HMD.out, if_neg H1.out, HD1.out, if_neg (fun h => hz h.1)]
                            have hmd := MF.out (by rw [hm]; exact hz)
                            rw [hm] at hmd
                            have hr := HR5.out
                            rw [hmd, if_neg hz] at hr
                            subst hr
                            have hq0 : (D1.2 == 0) = false := by simpa using hz
                            have hq1 : (D1.2 != 0) = true := by simpa using hz
                            clear hmd hz hm
                            go_wp2_with fail
                            go_ret3
                            exact ⟨rfl, RPost.wide hb7.out P1.out⟩
                    · obtain rfl : q = 2 := by omega
                      obtain ⟨hm0, rfl⟩ := MS.out.at2 rfl
                      have hr := HR5.out
                      rw [if_pos hm0] at hr
                      subst hr
                      have hqi : ¬ ((2 : Nat) : Int) < 2 := by omega
                      have hwx := Lib.hid (Nat.le_trans hb7.out.size OX.out.size)
                      have orx : Hid (OwnStrs wr wp.heap.size (.slice Ar rs.length cr) rs) := Lib.hid (OX.out.owns or7.out fun g hg hgg => by
                        have h1 := (World.ownsRow.lt or7.out g hg).1
                        have h2 := HA.out.lt g hgg
                        have h3 := hwrs.out
                        omega)
                      have or8 := Lib.hid (show OwnStrs (wr.alloc (.cells #[] 9)) wp.heap.size (.slice Ar rs.length cr) rs from World.ownsRow.alloc orx.out _)
                      have hn8 : Hid (∀ (j : Nat) (u : Value), (rs.map sv)[j]? = some u → ∃ ad, Ar = some ad ∧ (wr.alloc (.cells #[] 9)).cell? (ad.add j) = some u) := Lib.hid (txt_news (G := fun _ => False) (own_txt or8.out fun _ h => h.elim))
                      have h08 : Hid ((wr.alloc (.cells #[] 9)).ownsRow w.heap.size 9 1 (.slice (some ⟨wr.heap.size, 0, none⟩) 0 0) 0 []) := Lib.hid ⟨rfl, .inr ⟨wr.heap.size, 0, #[], rfl, hwx.out, Blk.new wr _ _, Nat.le_refl _, by decide, rfl, rfl⟩⟩
                      have bl8 := Lib.hid (show Below wr.heap.size wr (wr.alloc (.cells #[] 9)) from (Below.refl _ _).alloc (Nat.le_refl _) _)
                      clear hm0 HR5 MS hlt or7
                      go_wp2_with (first | (at_builtin; refine wpList_append_any rfl (.tmp 152) (.tmp 153) 30 rfl w.heap.size 9 i0 _ 1 16 Tryz.underlying30 hi0 hz0 hz1 hz2 rfl (by omega) (.slice (some ⟨wr.heap.size, 0, none⟩) 0 0) 0 [] rfl h08.out Ar rs.length cr (rs.map sv) rfl (by simp) hn8.out (sv_one rs) (by unfold maxLen; omega) (by omega) (by have := hwx.out; simp; omega) ?_; intro v9 w9 ow9 gr9 l9))
                      have own9 : OwnStrs w9 w.heap.size v9 rs := by
                        unfold OwnStrs
                        rw [Nat.zero_add, List.nil_append] at ow9
                        exact ow9
                      obtain ⟨A9, c9, rfl⟩ := own9.form
                      have bl9 : Below wr.heap.size wr w9 := bl8.out.grown gr9 bl8.out.size fun j hj => by (have : wr.heap.size = j := by simpa [Value.ownBlock] using hj); omega
                      have l9' : ∀ g, (Value.slice A9 rs.length c9).ownBlock = some g → wr.heap.size ≤ g := fun g hg => by
                        rcases l9 with h | h
                        · have e9 := hg.symm.trans h
                          have : g = wr.heap.size := by simpa [Value.ownBlock] using e9
                          omega
                        · have e9 := hg.symm.trans h
                          injection e9 with e9
                          simp at e9
                          omega
                      go_ret3
                      have hkl := KJ.out.lt
                      have hox := OX.out.size
                      have hGk : ¬ Gx kj := fun hf => (FX.out kj hf).elim hKG.out fun h => by omega
                      refine ⟨kj, A9, c9, fun j => Gx j ∨ j = kj ∨ (Value.slice Ar rs.length cr).ownBlock = some j, rfl, ⟨⟨Gx, .slice Ar rs.length cr, RX.out.below bl9, fun j hj => .inl hj, KX.out.below bl9 KX.out.lt, .inr (.inl rfl), hGk, ?_, fun g hg => ⟨.inr (.inr hg), fun hf => ?_⟩⟩, fun j hj => ?_⟩, ?_, fun j hj => ?_, own9, fun g hg hf => ?_⟩
                      · exact (orx.out.below bl9).mono (Nat.le_trans hbase hwrs.out)
                      · have h1 := (World.ownsRow.lt orx.out g hg).1
                        have h2 := hor.out g hg
                        have h3 := hwrs.out
                        rcases FX.out g hf with h4 | h4
                        · have := HA.out.lt g h4; omega
                        · omega
                      · have hs9 := bl9.size
                        rcases hj with hj | rfl | hj
                        · have h5 := RX.out.lt j hj
                          rcases FX.out j hj with h4 | h4
                          · have := hG j h4; omega
                          · have := hb7.out.size; omega
                        · omega
                        · have h1 := (World.ownsRow.lt orx.out j hj)
                          have h3 := hwrs.out
                          omega
                      · exact ((Only.of_below hb7.out G).trans OX.out fun j hj => .inl hj).trans (Only.of_below bl9 fun _ => False) fun _ h => h.elim
                      · rcases hj with hj | rfl | hj
                        · exact (FX.out j hj).imp id fun h => Nat.le_trans hb7.out.size h
                        · exact .inr hwl
                        · have h1 := (World.ownsRow.lt orx.out j hj).1
                          have h3 := hwrs.out
                          exact .inr (by omega)
                      · have h1 := l9' g hg
                        rcases hf with hf | rfl | hf
                        · have := RX.out.lt g hf; omega
                        · omega
                        · have := (World.ownsRow.lt orx.out g hf).2; omega
end Go.Proofs.YtieicjjmkedgaaaGreatDoor
