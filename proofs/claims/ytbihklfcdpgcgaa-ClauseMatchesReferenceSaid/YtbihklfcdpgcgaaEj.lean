/- Join of two pages. -/
import Derived.Test.YtbihklfcdpgcgaaEg
import Derived.Test.YtbihklfcdpgcgaaEs
namespace Go.Proofs.Ytbihklfcdpgcgaa
open Go.RowKit

theorem addAll_app : ∀ (X Y L : List Cl), addAll L (X ++ Y) = (addAll L X).bind fun A => addAll A Y
  | [], Y, L => rfl
  | c :: X, Y, L => by
    show (addS L c).bind (fun L' => addAll L' (X ++ Y)) = ((addS L c).bind fun L' => addAll L' X).bind fun A => addAll A Y
    cases addS L c with
    | none => rfl
    | some A => exact addAll_app X Y A
theorem addS_len {L A : List Cl} {c : Cl} (h : addS L c = some A) : A.length ≤ L.length + 1 := by
  unfold addS at h
  split at h
  · simp only [Option.some.injEq] at h; subst h; simp
  · split at h
    · simp only [Option.some.injEq] at h; subst h; simp [setC]
    · cases h
theorem addAll_len : ∀ {X L A : List Cl}, addAll L X = some A → A.length ≤ L.length + X.length
  | [], L, A, h => by simp only [addAll, Option.some.injEq] at h; subst h; simp
  | c :: X, L, A, h => by
    unfold addAll at h
    cases h1 : addS L c with
    | none => rw [h1] at h; cases h
    | some B =>
      rw [h1] at h
      have := addAll_len (X := X) h
      have := addS_len h1
      simp only [List.length_cons]
      omega
/-- What a round of Join has come to. -/
def JoinRel (L' M' A T : List Cl) : Prop := ∃ X, (X ++ T).Perm M' ∧ addAll L' X = some A
theorem JoinRel.start (L' M' : List Cl) : JoinRel L' M' L' M' := ⟨[], List.Perm.refl _, rfl⟩
theorem JoinRel.uq {L' M' A T : List Cl} (h : JoinRel L' M' A T) (hl : Uq L') (hm : Uq M') : Uq A := by
  obtain ⟨X, h1, h2⟩ := h
  have hX : Uq X := (List.pairwise_append.1 (hm.perm h1.symm)).1
  exact (addAll_some hl hX h2).1
theorem JoinRel.len {L' M' A T : List Cl} (h : JoinRel L' M' A T) : A.length ≤ L'.length + M'.length := by
  obtain ⟨X, h1, h2⟩ := h
  have := addAll_len h2
  have := h1.length_eq
  rw [List.length_append] at this
  omega
theorem JoinRel.next {L' M' A B U V : List Cl} {c : Cl} (h : JoinRel L' M' A (U ++ c :: V)) (hs : addS A c = some B) : JoinRel L' M' B (U ++ V) := by
  obtain ⟨X, h1, h2⟩ := h
  refine ⟨X ++ [c], ?_, ?_⟩
  · refine List.Perm.trans ?_ h1
    rw [List.append_assoc, List.singleton_append]
    exact List.Perm.append_left X List.perm_middle.symm
  · rw [addAll_app, h2]
    simp [addAll, hs]
theorem JoinRel.fail {L M L' M' A U V : List Cl} {c : Cl} (h : JoinRel L' M' A (U ++ c :: V)) (hs : addS A c = none) (hl : Uq L) (hm : Uq M) (p : L'.Perm L) (q : M'.Perm M) : joinS L M = (L, 9) := by
  obtain ⟨X, h1, h2⟩ := h
  have hM2 : (X ++ c :: (U ++ V)).Perm M := ((List.Perm.append_left X List.perm_middle.symm).trans h1).trans q
  have hno : addAll L' (X ++ c :: (U ++ V)) = none := by
    rw [addAll_app, h2]
    simp [addAll, hs]
  have hl' := hl.perm p.symm
  have hm2 := hm.perm hM2.symm
  obtain ⟨t, ht⟩ := (addAll_none hl' hm2).1 hno
  rw [getC_perm hl' p, getC_perm hm2 hM2] at ht
  unfold joinS
  rw [(addAll_none hl hm).2 ⟨t, ht⟩]
theorem JoinRel.done {L M L' M' A : List Cl} (h : JoinRel L' M' A []) (hl : Uq L) (hm : Uq M) (p : L'.Perm L) (q : M'.Perm M) : ∃ B, A.Perm B ∧ joinS L M = if 64 < openN A then (L, 27) else (B, 0) := by
  obtain ⟨X, h1, h2⟩ := h
  rw [List.append_nil] at h1
  have hX := h1.trans q
  have hl' := hl.perm p.symm
  have hm2 := hm.perm hX.symm
  obtain ⟨k1, k2⟩ := addAll_some hl' hm2 h2
  cases hB : addAll L M with
  | none =>
    obtain ⟨t, ht⟩ := (addAll_none hl hm).1 hB
    rw [← getC_perm hl' p, ← getC_perm hm2 hX, (k2 t).1] at ht
    cases ht
  | some B =>
    obtain ⟨k3, k4⟩ := addAll_some hl hm hB
    have pq : A.Perm B := perm_of_getC k1 k3 fun t => by rw [(k2 t).2, (k4 t).2, getC_perm hl' p, getC_perm hm2 hX]
    refine ⟨B, pq, ?_⟩
    unfold joinS
    rw [hB, openN_perm pq]

theorem clone_any (w : World) (b : Nat) (L : List (Value × Value)) (h : MapV w b L) : Calls Try.prog 40 #[.map (some b)] w fun e w' =>
    e = .returned (.map (some w.heap.size)) ∧ MapV w' w.heap.size L ∧ Below w.heap.size w w' ∧ w.heap.size < w'.heap.size := by
  obtain ⟨es, clock, hb, h2, h3⟩ := h
  refine (AnyW.maps_Clone cloneL b es clock w hb).mono ?_
  rintro e w' ⟨he, rfl⟩
  exact ⟨he, ⟨es, clock, (MapKept.heap_alloc w _).1, h2, h3⟩, (Below.refl _ w).alloc (Nat.le_refl _) _, by simp⟩

set_option maxRecDepth 100000 in
set_option maxHeartbeats 16000000 in
theorem join_any (w : World) (p b q d : Nat) (L M : List Cl) (h : PgAt w p b L) (h' : PgAt w q d M) (hu : Uq L) (hu' : Uq M) (hl : L.length ≤ 100000) (hl' : M.length ≤ 100000) :
    Calls Try.prog 19 #[.pointer (some ⟨p, 0, none⟩), .pointer (some ⟨q, 0, none⟩)] w fun e w' => e = .returned (.int .i64 (joinS L M).2) ∧
      (∃ b', PgAt w' p b' (joinS L M).1 ∧ (b' = b ∨ w.heap.size ≤ b')) ∧ Only (fun i => i = p) w w' := by
  have hpb := h.ne
  have hh := h
  obtain ⟨hp, L', hm, hperm⟩ := h
  obtain ⟨hq, M', hm', hperm'⟩ := h'
  have cp : w.cell? ⟨p, 0, none⟩ = some (.map (some b)) := hp.cell 0
  have HCL := Lib.hid (clone_any w b (kvs L') hm)
  obtain ⟨D, hD⟩ : ∃ x, joinS L M = x := ⟨_, rfl⟩
  rw [hD]
  have HD := Lib.hid hD
  have HH := Lib.hid hh
  have hlq := hq.lt
  have hld := hm'.lt
  have hlp := hp.lt
  clear hD hm hh
  go_enter Try.func19, Try.ntmps19
  go_wp2_with fail
  refine HCL.out.mono ?_
  rintro e w1 ⟨rfl, mA, b1, hlt1⟩
  have mD := hm'.below b1 hld
  have cq : w1.cell? ⟨q, 0, none⟩ = some (.map (some d)) := (b1.cell (p := ⟨q, 0, none⟩) hlq).trans (hq.cell 0)
  obtain ⟨o, hr, hI⟩ := mD.range (P := Try.prog) Try.underlying63
  have mA2 := mA.alloc o
  have b2 := b1.alloc b1.size o
  have hsz : (w1.alloc o).heap.size = w1.heap.size + 1 := by simp
  generalize w1.alloc o = w2 at *
  have HA := Lib.hid mA2
  have HI := Lib.hid hI
  have HB := Lib.hid b2
  clear mA mA2 hI b2 HCL hm' mD cp b1
  go_wp2_with fail
  have HHN := Lib.hid (show w.heap.size = w.heap.size from rfl)
  obtain ⟨r, hr0⟩ : ∃ r, w1.heap.size = r := ⟨_, rfl⟩
  obtain ⟨n, hn0⟩ : ∃ n, w.heap.size = n := ⟨_, rfl⟩
  rw [hr0] at HI hr hsz hlt1
  have HN0 := Lib.hid hn0
  have hnr : n < r := by omega
  have hdn : d < n := by omega
  have hpn : p < n := by omega
  rw [hn0] at HA HB
  simp only [hr0, hn0]
  clear HHN hr0 hn0 hr cq
  go_loopw [6] (fun _ wr => ∃ A T : List Cl, MapV wr n (kvs A) ∧ IterV wr d r (kvs M') (kvs T) ∧ Below n w wr ∧ r < wr.heap.size ∧ Hid (JoinRel L' M' A T)) (fun _ wr => iterLeft wr d r)
  case atStart => exact ⟨L', M', HA.out, HI.out, HB.out, by omega, Lib.hid (JoinRel.start L' M')⟩
  case round =>
    clear HA HI HB
    obtain ⟨A, T, mA, I, hb, hrlt, HJ⟩ := hrel
    have hleft := I.left
    have hul' := hu.perm hperm.symm
    have hum' := hu'.perm hperm'.symm
    have hUA := HJ.out.uq hul' hum'
    have hlen := HJ.out.len
    have hlen1 := hperm.length_eq
    have hlen2 := hperm'.length_eq
    rcases I.next (P := Try.prog) 0 with ⟨hT, hnx⟩ | ⟨U, V, x, v, w3, hT, hxv, hnx, hg, I1, hen⟩
    · obtain rfl : T = [] := by simpa [kvs] using hT
      obtain ⟨B, pq, hj⟩ := HJ.out.done hu hu' hperm hperm'
      have HOP := Lib.hid (open_any wr n A mA (by omega))
      have hol : openN A ≤ A.length := List.countP_le_length
      rw [HD.out] at hj
      clear HJ I hT hleft hlen
      have hlt := mA.lt
      go_wp2_with fail
      refine HOP.out.mono ?_
      rintro e w4 ⟨rfl, q2⟩
      have hb4 := hb.trans (q2.mono (by omega))
      have mA4 := mA.below q2 hlt
      have hP4 := HH.out.only (Only.of_below (w' := w4) (by rw [HN0.out]; exact hb4) fun _ => False) id id
      clear HOP mA hb q2
      by_cases h64 : 64 < openN A
      · have hd64 : decide (64 < ((openN A : Nat) : Int)) = true := decide_eq_true (by omega)
        rw [if_pos h64] at hj
        subst hj
        clear HD h64 mA4 pq
        go_wp2
        go_ret
        exact ⟨rfl, ⟨b, hP4, .inl rfl⟩, Only.of_below (by rw [HN0.out]; exact hb4) _⟩
      · have hd64 : decide (64 < ((openN A : Nat) : Int)) = false := decide_eq_false (by omega)
        rw [if_neg h64] at hj
        subst hj
        have cp4 : w4.cell? ⟨p, 0, none⟩ = some (.map (some b)) := hP4.blk.cell 0
        have fp4 := hP4.blk.frozen 0
        have kP5 := hP4.blk.set_ 0 (.map (some n))
        have hO : Only (fun i => i = p) w (w4.setCell ⟨p, 0, none⟩ (.map (some n))) := (Only.of_below (w' := w4) (by rw [HN0.out]; exact hb4) (fun i => i = p)).setCell (.inl rfl) _
        have mA5 : MapV (w4.setCell ⟨p, 0, none⟩ (.map (some n))) n (kvs A) := mA4.of_block (Below.heap_setCell w4 ⟨p, 0, none⟩ (.map (some n)) n (by show n ≠ p; omega))
        clear HD h64 mA4 hP4
        go_wp2
        go_ret
        exact ⟨rfl, ⟨n, ⟨kP5, A, mA5, pq⟩, .inr (by rw [HN0.out]; exact Nat.le_refl _)⟩, hO⟩
    · obtain ⟨U', R, rfl, hA, hR⟩ := List.map_eq_append_iff.1 hT
      obtain ⟨c, V', rfl, hc, hB⟩ := List.map_eq_cons_iff.1 hR
      obtain ⟨rfl, rfl⟩ : x = .agg (stA c.id) ∧ v = .agg (clA c) := by
        have : kvC c = (x, v) := hc
        unfold kvC at this
        exact ⟨(congrArg Prod.fst this).symm, (congrArg Prod.snd this).symm⟩
      have I2 : IterV w3 d r (kvs M') (kvs (U' ++ V')) := by
        rw [← hA, ← hB, ← List.map_append] at I1
        exact I1
      have hb3 : Below n w w3 := hb.grown hg (by have := hb.size; omega) (fun y hy => by injection hy with hy; omega)
      have mA3 := mA.grown hg (by intro e; injection e with e; omega)
      have hen2 : ∀ W : World, W.heap[d]? = w3.heap[d]? → W.heap[r]? = w3.heap[r]? → (Instr.entry (.pointer (some ⟨r, 0, none⟩))).run Try.prog W = .ok (.tuple #[.agg #[.int .i64 c.id.1, .int .i64 c.id.2], .agg (clA c)]) W := hen
      have hent := hen2 w3 rfl rfl
      have hcz := clA_size c
      have hpc := put_cl (w3.alloc (.cells #[.int .i64 c.id.1, .int .i64 c.id.2] 29)) c
      rw [show (w3.alloc (.cells #[.int .i64 c.id.1, .int .i64 c.id.2] 29)).heap.size = w3.heap.size + 1 by simp] at hpc
      have kK : Blk ((w3.alloc (.cells #[.int .i64 c.id.1, .int .i64 c.id.2] 29)).alloc (.cells (clA c) 35)) w3.heap.size 29 #[.int .i64 c.id.1, .int .i64 c.id.2] := (Blk.new w3 _ _).alloc _
      have kV : Blk ((w3.alloc (.cells #[.int .i64 c.id.1, .int .i64 c.id.2] 29)).alloc (.cells (clA c) 35)) (w3.heap.size + 1) 35 (clA c) := Blk.new1 w3 _ _ _
      have mA5 := (mA3.alloc (.cells #[.int .i64 c.id.1, .int .i64 c.id.2] 29)).alloc (.cells (clA c) 35)
      have b35 : Below w3.heap.size w3 ((w3.alloc (.cells #[.int .i64 c.id.1, .int .i64 c.id.2] 29)).alloc (.cells (clA c) 35)) := ((Below.refl _ w3).alloc (Nat.le_refl _) _).alloc (by simp) _
      clear hT hR hc hA hB hxv hen hen2 I I1 mA mA3 hb hg hrlt
      go_upto_region 7 with fail
      clear hpc hent hnx
      generalize (w3.alloc (.cells #[.int .i64 c.id.1, .int .i64 c.id.2] 29)).alloc (.cells (clA c) 35) = w5 at *
      have g0 : w5.cell? ⟨w3.heap.size, 0, none⟩ = some (.int .i64 c.id.1) := kK.cell 0
      have g1 : w5.cell? ⟨w3.heap.size, 1, none⟩ = some (.int .i64 c.id.2) := kK.cell 1
      have hlook := look_any hUA mA5 (List.Perm.refl _) c.id
      have hpc := put_cl w5 (atC A c.id)
      have hca := clA_size (atC A c.id)
      have kO := Blk.new w5 35 (clA (atC A c.id))
      have kK6 := kK.alloc (.cells (clA (atC A c.id)) 35)
      have kV6 := kV.alloc (.cells (clA (atC A c.id)) 35)
      have mA6 := mA5.alloc (.cells (clA (atC A c.id)) 35)
      have b36 := b35.alloc b35.size (.cells (clA (atC A c.id)) 35)
      have h5s := b35.size
      have hltV := kV.lt
      go_upto_region 8 with fail
      clear g0 g1 hlook hpc hca kK kV mA5 b35
      generalize w5.alloc (.cells (clA (atC A c.id)) 35) = w6 at *
      generalize w5.heap.size = go at *
      obtain ⟨k, hk0⟩ : ∃ k, w3.heap.size = k := ⟨_, rfl⟩
      have HK := Lib.hid hk0
      rw [hk0] at kK6 kV6 b36 h5s hltV
      simp only [hk0]
      have hkr : r < k := by rw [← hk0]; exact I2.ltr
      clear hk0
      cases hga : getC A c.id with
      | none =>
        have hadd : addS A c = some (A ++ [c]) := by unfold addS; rw [hga]
        have hJ2 := Lib.hid (HJ.out.next hadd)
        have g0 : w6.cell? ⟨k, 0, none⟩ = some (.int .i64 c.id.1) := kK6.cell 0
        have g1 : w6.cell? ⟨k, 1, none⟩ = some (.int .i64 c.id.2) := kK6.cell 1
        obtain ⟨w7, hrun, hM, -, hgr⟩ := upd_new mA6 (List.Perm.refl _) (c := c) (t := c.id) rfl hga
        have b36 : Below w3.heap.size w3 w6 := by rw [HK.out]; exact b36
        have I7 : IterV w7 d r (kvs M') (kvs (U' ++ V')) := I2.of_blocks ((hgr.block d (Nat.lt_of_lt_of_le I2.map.lt b36.size) (by intro e; injection e with e; omega)).trans (b36.block d I2.map.lt)) ((hgr.block r (Nat.lt_of_lt_of_le I2.ltr b36.size) (by intro e; injection e with e; omega)).trans (b36.block r I2.ltr))
        have hn00 := HN0.out
        have hb7 : Below n w w7 := (hb3.trans (b36.mono (by have := hb3.size; omega))).grown hgr (by have := hb3.size; have := b36.size; omega) (fun y hy => by injection hy with hy; omega)
        have hr7 : r < w7.heap.size := I7.ltr
        have hleft7 := I7.left
        clear hn00
        clear kO hadd HJ mA6 hgr b36 I2 hb3
        go_wp2_with (refine load_cl rfl (x := .tmp 7) rfl rfl kV6 ?_)
        go_roundw
        case rel => exact ⟨A ++ [c], U' ++ V', hM, I7, hb7, hr7, hJ2⟩
        case measure => rw [hleft7, hleft]; simp [kvs]
      | some old =>
        have hat : atC A c.id = old := by unfold atC; rw [hga]; rfl
        rw [hat] at kO
        clear hat
        have HMR := Lib.hid (fun W => merge_any W old c)
        go_wp2_with (first | (refine load_cl rfl (x := .tmp 8) rfl rfl kO ?_) | (refine load_cl rfl (x := .tmp 7) rfl rfl kV6 ?_))
        refine (HMR.out _).mono ?_
        rintro e w8 ⟨rfl, q8⟩
        have hk6 := HK.out
        have b38 : Below k w3 w8 := b36.trans (q8.mono (by have := b36.size; omega))
        have kK8 := kK6.below q8 kK6.lt
        have kV8 := kV6.below q8 kV6.lt
        have mA8 := mA6.below q8 mA6.lt
        clear HMR kO kK6 kV6 mA6 b36 q8
        obtain ⟨same, hsame⟩ : ∃ x, sameC old c = x := ⟨_, rfl⟩
        have hpc := put_cl w8 (mrgC old c)
        have hcm := clA_size (mrgC old c)
        have kN := Blk.new w8 35 (clA (mrgC old c))
        have kK9 := kK8.alloc (.cells (clA (mrgC old c)) 35)
        have kV9 := kV8.alloc (.cells (clA (mrgC old c)) 35)
        have mA9 := mA8.alloc (.cells (clA (mrgC old c)) 35)
        have b39 := b38.alloc (by have := b38.size; omega) (.cells (clA (mrgC old c)) 35)
        have hs8 := kV8.lt
        clear kK8 kV8 mA8 b38 hk6
        unfold TupC
        rw [hsame]
        cases same with
        | false =>
          have hadd : addS A c = none := by unfold addS; rw [hga]; simp only; rw [hsame]; rfl
          have hj := HJ.out.fail hadd hu hu' hperm hperm'
          rw [HD.out] at hj
          subst hj
          have hk9 := HK.out
          subst hk9
          have hb9 := hb3.trans (b39.mono (by have := hb3.size; have := HN0.out; omega))
          have hP9 := HH.out.only (Only.of_below (by rw [HN0.out]; exact hb9) fun _ => False) id id
          clear HD HJ hadd hsame kN kK9 kV9 mA9
          go_wp2
          go_ret
          exact ⟨rfl, ⟨b, hP9, .inl rfl⟩, Only.of_below (by rw [HN0.out]; exact hb9) _⟩
        | true =>
          have hadd : addS A c = some (setC A (mrgC old c)) := by unfold addS; rw [hga]; simp only; rw [hsame]; rfl
          have hJ2 := Lib.hid (HJ.out.next hadd)
          have hid : (mrgC old c).id = c.id := (getC_mem hga).2
          clear HD HJ hadd hsame
          go_upto_region 12 with fail
          clear hpc
          generalize w8.alloc (.cells (clA (mrgC old c)) 35) = w9 at *
          generalize w8.heap.size = gm at *
          have hst := blk_store kV9 hcz (mrgC old c)
          have kV10 := blk_setRow (C := clA (mrgC old c)) kV9
          have kK10 := blk_farRow (C := clA (mrgC old c)) (g' := k + 1) kK9 (by omega)
          have b36 := below_setRow (g := k + 1) (clA (mrgC old c)) b39 (by omega)
          have mA10 : MapV (w9.setRow (k + 1) (clA (mrgC old c))) n (kvs A) := mA9.of_block (by simp [World.setRow, Array.getElem?_modify, show k + 1 ≠ n by omega])
          go_upto_region 13 with (refine load_cl rfl (x := .tmp 10) rfl rfl kN ?_)
          clear hst kV9 kK9 b39 mA9 kN
          generalize w9.setRow (k + 1) (clA (mrgC old c)) = w6 at *
          have g0 : w6.cell? ⟨k, 0, none⟩ = some (.int .i64 c.id.1) := kK10.cell 0
          have g1 : w6.cell? ⟨k, 1, none⟩ = some (.int .i64 c.id.2) := kK10.cell 1
          obtain ⟨w7, hrun, hM, -, hgr⟩ := upd_old hUA mA10 (List.Perm.refl _) (c := mrgC old c) (t := c.id) hid hga
          have b36 : Below w3.heap.size w3 w6 := by rw [HK.out]; exact b36
          have I7 : IterV w7 d r (kvs M') (kvs (U' ++ V')) := I2.of_blocks ((hgr.block d (Nat.lt_of_lt_of_le I2.map.lt b36.size) (by intro e; injection e with e; omega)).trans (b36.block d I2.map.lt)) ((hgr.block r (Nat.lt_of_lt_of_le I2.ltr b36.size) (by intro e; injection e with e; omega)).trans (b36.block r I2.ltr))
          have hn00 := HN0.out
          have hb7 : Below n w w7 := (hb3.trans (b36.mono (by have := hb3.size; omega))).grown hgr (by have := hb3.size; have := b36.size; omega) (fun y hy => by injection hy with hy; omega)
          have hr7 : r < w7.heap.size := I7.ltr
          have hleft7 := I7.left
          clear hn00
          clear mA10 hgr b36 I2 hb3 hid
          go_wp2_with (refine load_cl rfl (x := .tmp 7) rfl rfl kV10 ?_)
          go_roundw
          case rel => exact ⟨setC A (mrgC old c), U' ++ V', hM, I7, hb7, hr7, hJ2⟩
          case measure => rw [hleft7, hleft]; simp [kvs]
end Go.Proofs.Ytbihklfcdpgcgaa
