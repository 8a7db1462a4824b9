/- List. -/
import Derived.Test.YtbihklfcdpgcgaaEn
import Derived.Laws.EntriesVeiled
namespace Go.Proofs.Ytbihklfcdpgcgaa
open Go.RowKit

theorem wk_start {w : World} {base bc bo bw m : Nat} {G : List Grp} {X L : List Cl} (hG : GrAt w base m G) (hR : GrRel X G) (hp : X.Perm L) (cc : Blk w bc 71 #[.map (some m)]) (co : Blk w bo 42 #[.slice none 0 0])
    (cw : Blk w bw 72 #[.func (.func 35) #[] #[.pointer (some ⟨bc, 0, none⟩), .pointer (some ⟨bo, 0, none⟩), .pointer (some ⟨bw, 0, none⟩)]]) (hb : base ≤ bc ∧ base ≤ bo ∧ base ≤ bw ∧ base ≤ m) :
    Wk w base bc bo bw m (G.map fun g => (g.1, g.2.1)) L (grp X) (.slice none 0 0) [] where
  cc := cc
  co := co
  cw := cw
  map := by rw [List.map_map]; exact hG.map
  own p hp := by
    obtain ⟨g, hg, rfl⟩ := List.mem_map.1 hp
    have := hG.own g hg
    rw [hR.list g hg] at this
    exact this
  perm t := hp.filter _
  keys := by rw [List.pairwise_map]; exact hG.apart
  none t ht := by
    have h := hR.none t fun g hg => ht _ (List.mem_map_of_mem (f := fun g : Grp => (g.1, g.2.1)) hg)
    have h2 : (X.filter fun c => decide (c.after = t)).Perm (grp L t) := hp.filter _
    rw [h] at h2
    exact h2.symm.eq_nil
  out := World.ownsRow_nil _ _ _ _
  apO p hp := by
    unfold Apart
    cases h : p.2.ownBlock with
    | none => exact .inl rfl
    | some x => exact .inr (by simp [Value.ownBlock])
  bs := hb
theorem ne_iter {w : World} {base : Nat} {u : Value} {l : List Cl} (h : OwnCls w base u l) {b r : Nat} {K T : List (Value × Value)} (hb : IterV w b r K T) : u.ownBlock ≠ some r := fun e => by
  obtain ⟨c, fz, hc⟩ := Lib.ownsRow_kind h r e
  obtain ⟨es, clock, since, seen, c0, h1, h2, h3, h4, _⟩ := hb
  rw [h4] at hc
  injection hc with hc
  cases hc
theorem gr_new {w w8 : World} {base m : Nat} {G : List Grp} (h : GrAt w base m G) {t : St2} {v' : Value} {l' : List Cl} (hn : ∀ g ∈ G, g.1 ≠ t) (k : Only (fun i => i = m) w w8) (hM : MapV w8 m (G.map grKv ++ [(.agg (stA t), v')])) (ho : OwnCls w8 base v' l') (hf : ∃ g, v'.ownBlock = some g ∧ w.heap.size ≤ g) : GrAt w8 base m (G ++ [(t, v', l')]) := by
  refine ⟨by rw [List.map_append]; exact hM, fun g hg => ?_, ?_⟩
  · rcases List.mem_append.1 hg with hg | hg
    · exact k.owns (h.own g hg) fun i hi e => (h.own g hg).ne_map h.map (by rw [hi, e])
    · simp at hg
      subst hg
      exact ho
  · rw [List.pairwise_append]
    refine ⟨h.apart, by simp, fun a ha b hb => ?_⟩
    simp at hb
    subst hb
    refine ⟨hn a ha, ?_⟩
    obtain ⟨g, hg, hlt⟩ := hf
    unfold Apart
    cases hq : a.2.1.ownBlock with
    | none => exact .inl rfl
    | some x =>
      right
      rw [hg]
      intro e
      injection e with e
      have := ((h.own a ha).lt x hq).2
      omega
theorem gr_same {w w' : World} {base m : Nat} {G : List Grp} (h : GrAt w base m G) (hb : Below w.heap.size w w') : GrAt w' base m G :=
  ⟨h.map.below hb h.map.lt, fun g hg => (Only.of_below hb (fun _ => False)).owns (h.own g hg) (fun _ _ h => h), h.apart⟩
set_option maxRecDepth 100000 in
set_option maxHeartbeats 8000000 in
theorem list_any (w : World) (p b : Nat) (L : List Cl) (h : PgAt w p b L) (ht : Tr L) (hB : ∀ c ∈ L, -4000000 ≤ c.id.1 ∧ c.id.1 ≤ 4000000 ∧ -4000000 ≤ c.id.2 ∧ c.id.2 ≤ 4000000) (hl : L.length ≤ 1000000) :
    Calls Try.prog 17 #[.pointer (some ⟨p, 0, none⟩)] w fun e w' => ∃ v, e = .returned v ∧ OwnCls w' w.heap.size v (walkS L) ∧ Below w.heap.size w w' := by
  obtain ⟨hp, L', hm, hperm⟩ := h
  have hpl := hp.lt
  have hbl := hm.lt
  have hM0 := MapV.made w
  have cc0 := Blk.new1 w (.map #[] 0) 71 #[.map (some w.heap.size)]
  have hM1 := hM0.alloc (.cells #[.map (some w.heap.size)] 71)
  have cp : ((w.alloc (.map #[] 0)).alloc (.cells #[.map (some w.heap.size)] 71)).cell? ⟨p, 0, none⟩ = some (.map (some b)) := ((hp.alloc _).alloc _).cell 0
  have hmm := (hm.alloc (.map #[] 0)).alloc (.cells #[.map (some w.heap.size)] 71)
  obtain ⟨o, hr, hI⟩ := hmm.range (P := Try.prog) Try.underlying63
  rw [show ((w.alloc (.map #[] 0)).alloc (.cells #[.map (some w.heap.size)] 71)).heap.size = w.heap.size + 1 + 1 by simp] at hr hI
  have cc1 := cc0.alloc o
  have hM2 := hM1.alloc o
  have hB1 := Lib.hid ((((Below.refl w.heap.size w).alloc (Nat.le_refl _) (.map #[] 0)).alloc (by simp) (.cells #[.map (some w.heap.size)] 71)).alloc (by simp; omega) o)
  have HI := Lib.hid hI
  have hmm0 := @run_makeMap Try.prog
  have HM2 := Lib.hid hM2
  have HCC := Lib.hid cc1
  have HT := Lib.hid ht
  have HBB := Lib.hid hB
  have HL := Lib.hid hl
  have HPM := Lib.hid hperm
  clear hM0 cc0 hM1 hmm hI cc1 hM2 ht hB hl hperm hm hp
  go_enter Try.func17, Try.ntmps17
  go_upto_region 5 with fail
  clear hmm0 hr cp
  generalize ((w.alloc (.map #[] 0)).alloc (.cells #[.map (some w.heap.size)] 71)).alloc o = w2 at *
  go_loopw [16] (fun _ wr => ∃ (X T : List Cl) (G : List Grp), Hid ((X ++ T).Perm L) ∧ Hid (GrRel X G) ∧ Hid (GrAt wr w.heap.size w.heap.size G) ∧ Blk wr (w.heap.size + 1) 71 #[.map (some w.heap.size)] ∧ IterV wr b (w.heap.size + 1 + 1) (kvs L') (kvs T) ∧ Below w.heap.size w wr) (fun _ wr => iterLeft wr b (w.heap.size + 1 + 1))
  case atStart => exact ⟨[], L', [], HPM, Lib.hid GrRel.nil, Lib.hid ⟨HM2.out, by simp, List.Pairwise.nil⟩, HCC.out, HI.out, hB1.out⟩
  case round =>
    clear HI HM2 HCC hB1
    obtain ⟨X, T, G, HX, HR, HG, hcc, I, hb⟩ := hrel
    have hleft := I.left
    rcases I.next (P := Try.prog) 0 with ⟨hT, hnx⟩ | ⟨U, V, x, v, w3, hT, hxv, hnx, hg, I1, hen⟩
    · obtain rfl : T = [] := by simpa [kvs] using hT
      clear I hT hleft
      have HBw := Lib.hid hb
      have hsz := hb.size
      obtain ⟨FV, hFV⟩ : ∃ FV, Value.func (.func 35) #[] #[.pointer (some ⟨w.heap.size + 1, 0, none⟩), .pointer (some ⟨wr.heap.size, 0, none⟩), .pointer (some ⟨wr.heap.size + 1, 0, none⟩)] = FV := ⟨_, rfl⟩
      have k0 := Blk.new1 wr (.cells #[.slice none 0 0] 42) 72 #[.nilFunc]
      have k7b := Blk.new1 wr (.cells #[.slice none 0 0] 42) 72 #[FV]
      have k6b := (Blk.new wr 42 #[.slice none 0 0]).alloc (.cells #[FV] 72)
      have hbW : Below wr.heap.size wr ((wr.alloc (.cells #[.slice none 0 0] 42)).alloc (.cells #[FV] 72)) :=
        ((Below.refl _ wr).alloc (Nat.le_refl _) _).alloc (by simp) _
      have hccW := hcc.below hbW hcc.lt
      have hpX : X.Perm L := by simpa using HX.out
      have WK := wk_start (gr_same HG.out hbW) HR.out hpX hccW k6b (by rw [hFV]; exact k7b) ⟨by omega, by omega, by omega, by omega⟩
      have c7b : ((wr.alloc (.cells #[.slice none 0 0] 42)).alloc (.cells #[FV] 72)).cell? ⟨wr.heap.size + 1, 0, none⟩ = some FV := k7b.cell 0
      subst hFV
      obtain ⟨c7, f7, l7⟩ := k0.all
      have HWK := Lib.hid WK
      have HBW := Lib.hid hbW
      have HWL := Lib.hid (walk_perm HT.out).length_eq
      clear WK hbW hccW hpX k0 k7b k6b hb hcc HX HG HR
      go_wp2_with fail
      refine (walk_all HT.out HBB.out (L.length + 1) _ z2 (grp X) (.slice none 0 0) [] HWK.out (by have h1 := HWL.out; have h2 := HL.out; unfold walkS at h1; rw [List.length_nil]; omega) (by have h1 := HWL.out; have h2 := HL.out; unfold walkS at h1; omega) (by have := rank_le L z2; omega)).mono ?_
      rintro e w9 ⟨rfl, b9, v9, l9, W9, -⟩
      have c69 : w9.cell? ⟨wr.heap.size, 0, none⟩ = some v9 := W9.co.cell 0
      have HO := Lib.hid (show OwnCls w9 w.heap.size v9 (walkS L) from W9.out)
      have b99 := (HBw.out.trans (HBW.out.mono hsz)).trans b9
      clear W9
      go_wp2
      go_ret
      exact ⟨v9, rfl, HO.out, b99⟩
    · obtain ⟨U', R, rfl, hA, hRR⟩ := List.map_eq_append_iff.1 hT
      obtain ⟨c, V', rfl, hc, hBB⟩ := List.map_eq_cons_iff.1 hRR
      obtain ⟨rfl, rfl⟩ : x = .agg (stA c.id) ∧ v = .agg (clA c) := by
        have : kvC c = (x, v) := hc
        unfold kvC at this
        exact ⟨(congrArg Prod.fst this).symm, (congrArg Prod.snd this).symm⟩
      have I2 : IterV w3 b (w.heap.size + 1 + 1) (kvs L') (kvs (U' ++ V')) := by
        rw [← hA, ← hBB, ← List.map_append] at I1
        exact I1
      have hb3 : Below w.heap.size w w3 := hb.grown hg hb.size (fun y hy => by injection hy with hy; omega)
      have hG3 : GrAt w3 w.heap.size w.heap.size G := HG.out.grown hg (by intro e; injection e with e; omega) fun g hgm => .inr (ne_iter (HG.out.own g hgm) I)
      have hcc3 := hcc.grown hg (by intro e; injection e with e; omega)
      have hent : (Instr.entry (.pointer (some ⟨w.heap.size + 1 + 1, 0, none⟩))).run Try.prog w3 = .ok (.tuple #[.agg #[.int .i64 c.id.1, .int .i64 c.id.2], .agg (clA c)]) w3 := hen w3 rfl rfl
      have hcz := clA_size c
      have hpc := put_cl w3 c
      have k5 := Blk.new w3 35 (clA c)
      have k5b := k5.alloc (.cells (clA c) 35)
      have k6 := Blk.new1 w3 (.cells (clA c) 35) 35 (clA c)
      have ca0 : (w3.alloc (.cells (clA c) 35)).cell? ⟨w3.heap.size, 2, none⟩ = some (.int .i64 c.after.1) := k5.cell 2
      have ca1 : (w3.alloc (.cells (clA c) 35)).cell? ⟨w3.heap.size, 3, none⟩ = some (.int .i64 c.after.2) := k5.cell 3
      have cm0 : (w3.alloc (.cells (clA c) 35)).cell? ⟨w.heap.size + 1, 0, none⟩ = some (.map (some w.heap.size)) := (hcc3.alloc _).cell 0
      have hB6 : Below w3.heap.size w3 ((w3.alloc (.cells (clA c) 35)).alloc (.cells (clA c) 35)) := ((Below.refl _ w3).alloc (Nat.le_refl _) _).alloc (by simp) _
      have hG6 := gr_same hG3 hB6
      have hfo := fold_cl c
      have HK5 := Lib.hid k5
      have HG6 := Lib.hid hG6
      have HB6 := Lib.hid hB6
      have HI2 := Lib.hid I2
      have HB3 := Lib.hid hb3
      have HCC3 := Lib.hid hcc3
      clear hT hRR hc hA hBB hxv hen I I1 hb hg hcc HG hG3 k5 k5b k6 hG6 hB6 I2 hb3 hcc3
      generalize hCC : clA c = CC at *
      have HCC := Lib.hid hCC
      clear hCC
      have hleft2 := HI2.out.left
      have hkeys := HG6.out.keys
      have HXP := Lib.hid (show ((X ++ [c]) ++ (U' ++ V')).Perm L from by
        refine List.Perm.trans ?_ HX.out
        rw [List.append_assoc]
        exact List.Perm.append_left X (by simpa using (List.perm_middle (a := c) (l₁ := U') (l₂ := V')).symm))
      have HXL := Lib.hid (show X.length ≤ 1000000 from by
        have h1 := HX.out.length_eq
        have h2 := HL.out
        rw [List.length_append] at h1
        omega)
      obtain ⟨i0, hi0, hz0, hz1, hz2⟩ := info_parts Try.infoCl
      have HONE := Lib.hid (encC_one c)
      have HENC := Lib.hid (show encC c = CC.toList from by rw [← HCC.out]; rfl)
      rcases HG6.out.find c.after with hn | ⟨G1, G2, v, l, rfl, hd⟩
      · obtain ⟨q, w7, hme0, hg7, hst⟩ := HG6.out.map.entry_none (P := Try.prog) (x := .agg (stA c.after)) (z := .slice none 0 0) kysS Try.underlying71 hkeys ⟨c.after, rfl⟩ (fun p hp => by
          obtain ⟨g, hg, rfl⟩ := List.mem_map.1 hp
          exact fun e => hn g hg (stA_inj e)) (by kernel_rfl)
        have hme : (Instr.mapEntry 71 (.map (some w.heap.size)) (.agg #[.int .i64 c.after.1, .int .i64 c.after.2])).run Try.prog ((w3.alloc (.cells CC 35)).alloc (.cells CC 35)) = .ok (.tuple #[.slice none 0 0, .int .i64 q]) w7 := hme0
        clear hme0
        have hsz3 : w.heap.size ≤ w3.heap.size := HB3.out.size
        have hs7 : w3.heap.size + 2 ≤ w7.heap.size := by have := hg7.size; simp at this; omega
        have HK7 := Lib.hid ((Blk.new1 w3 (.cells CC 35) 35 CC).grown hg7 (by intro e; injection e with e; omega))
        have HG7 := Lib.hid hg7
        have HST := Lib.hid hst
        have HN := Lib.hid hn
        have hml : w.heap.size < w7.heap.size := by omega
        clear hst hn hkeys hg7
        go_wp2_with (first | (refine load_cl (c := c) rfl (x := .tmp 5) rfl rfl (by rw [HCC.out]; exact HK5.out) ?_; rw [HCC.out]) | (at_builtin; refine wpList_append_lies _ rfl _ _ 42 rfl w.heap.size 35 i0 _ 20 248 Try.underlying42 hi0 hz0 hz1 hz2 rfl (by omega) (.slice none 0 0) 0 (cls []) rfl (World.ownsRow_nil _ _ _ _) ⟨w3.heap.size + 1, 0, none⟩ 1 1 (encC c) rfl rfl (by rw [HENC.out]; exact World.news_of_block HK7.out) HONE.out (by omega) (by unfold maxLen; omega) (by omega) (by omega) w7.heap.size rfl ?_; intro g9 cap9 w9 o9 gr9 l9 z9; obtain ⟨w10, hes, hM10, hg10⟩ := HST.out w9 (.slice (some ⟨g9, 0, none⟩) (0 + 1) cap9) (gr9.block _ hml (fun e => by cases e)); have HM10 := Lib.hid hM10; have HG10 := Lib.hid hg10; have HG9 := Lib.hid gr9; have HO9 := Lib.hid o9; have HL9 := Lib.hid l9; clear hM10 hg10 gr9 o9 l9))
        obtain rfl : g9 = w7.heap.size := by
          rcases HL9.out with e | e
          · cases e
          · exact e
        have hcc6 := HCC3.out.below HB6.out HCC3.out.lt
        have hcc10 := ((hcc6.grown HG7.out (by intro e; injection e with e; omega)).grown HG9.out (by intro e; cases e)).grown HG10.out (by intro e; injection e with e; omega)
        have hlt3 := HI2.out.map.lt
        have hlr3 := HI2.out.ltr
        have hs6 := HB6.out.size
        have hs9 := HG9.out.size
        have hs67 := HG7.out.size
        have I10 : IterV w10 b (w.heap.size + 1 + 1) (kvs L') (kvs (U' ++ V')) := HI2.out.of_blocks
          ((HG10.out.block b (by omega) (by intro e; injection e with e; omega)).trans ((HG9.out.block b (by omega) (by intro e; cases e)).trans ((HG7.out.block b (by omega) (by intro e; injection e with e; omega)).trans (HB6.out.block b hlt3))))
          ((HG10.out.block _ (by omega) (by intro e; injection e with e; omega)).trans ((HG9.out.block _ (by omega) (by intro e; cases e)).trans ((HG7.out.block _ (by omega) (by intro e; injection e with e; omega)).trans (HB6.out.block _ hlr3))))
        have hb10 : Below w.heap.size w w10 := (((HB3.out.trans (HB6.out.mono hsz3)).grown HG7.out (by omega) (fun y hy => by injection hy with hy; omega)).grown HG9.out (by omega) (fun y hy => by cases hy)).grown HG10.out (by omega) (fun y hy => by injection hy with hy; omega)
        have hO9 : OwnCls w9 w.heap.size (.slice (some ⟨w7.heap.size, 0, none⟩) (0 + 1) cap9) [c] := own_snoc (OO := []) rfl HO9.out
        have hk10 : Only (fun i => i = w.heap.size) ((w3.alloc (.cells CC 35)).alloc (.cells CC 35)) w10 := (((Only.of_grown HG7.out).mono (fun i hi => by injection hi with hi; exact hi.symm)).trans (Only.of_grown HG9.out) (fun i hi => by cases hi)).trans (Only.of_grown HG10.out) (fun i hi => by injection hi with hi; exact .inl hi.symm)
        have hG10 := gr_new HG6.out HN.out hk10 HM10.out (hO9.grown HG10.out (.inr (by show (some w7.heap.size : Option Nat) ≠ some w.heap.size; intro e; injection e with e; omega))) ⟨w7.heap.size, rfl, hs67⟩
        refine ⟨⟨X ++ [c], U' ++ V', _, HXP, Lib.hid (HR.out.new HN.out), Lib.hid hG10, hcc10, I10, hb10⟩, ?_⟩
        rw [I10.left, hleft]
        simp [kvs]
      · have hmem : (Value.agg (stA c.after), v) ∈ (G1 ++ (c.after, v, l) :: G2).map grKv := List.mem_map.2 ⟨(c.after, v, l), by simp, rfl⟩
        obtain ⟨q, hme0, hst⟩ := HG6.out.map.entry_some (P := Try.prog) kysS Try.underlying71 hkeys hmem
        have hov : OwnCls ((w3.alloc (.cells CC 35)).alloc (.cells CC 35)) w.heap.size v l := HG6.out.own (c.after, v, l) (by simp)
        have hll : l = X.filter fun c' => decide (c'.after = c.after) := HR.out.list (c.after, v, l) (by simp)
        have hll2 : l.length ≤ 1000000 := by rw [hll]; exact Nat.le_trans (List.length_filter_le _ _) HXL.out
        obtain ⟨M, hM⟩ : ∃ M, l.length = M := ⟨_, rfl⟩
        obtain ⟨B1, c1, hve⟩ : ∃ B1 c1, v = .slice B1 M c1 := by
          rcases Joins.ownsRow_forms hov with ⟨h1, h2⟩ | ⟨g, cap, hv⟩
          · exact ⟨none, 0, by rw [h1]; congr 1; omega⟩
          · exact ⟨some ⟨g, 0, none⟩, cap, by rw [hv, hM]⟩
        subst hve
        have HOV := Lib.hid (show ((w3.alloc (.cells CC 35)).alloc (.cells CC 35)).ownsRow w.heap.size 35 20 (.slice B1 M c1) M (cls l) from by
          have := hov
          unfold OwnCls at this
          rw [hM] at this
          exact this)
        have hme : (Instr.mapEntry 71 (.map (some w.heap.size)) (.agg #[.int .i64 c.after.1, .int .i64 c.after.2])).run Try.prog ((w3.alloc (.cells CC 35)).alloc (.cells CC 35)) = .ok (.tuple #[.slice B1 M c1, .int .i64 q]) ((w3.alloc (.cells CC 35)).alloc (.cells CC 35)) := hme0
        clear hme0
        have HST := Lib.hid hst
        have HM := Lib.hid hM
        have HM2 := Lib.hid hll2
        have HNE := Lib.hid (hov.ne_map HG6.out.map)
        have HDD := Lib.hid hd
        have HK6 := Lib.hid (Blk.new1 w3 (.cells CC 35) 35 CC)
        clear hmem hst hov hll hll2 hM hd hkeys
        have hsz3 : w.heap.size ≤ w3.heap.size := HB3.out.size
        have hM6 : M ≤ 1000000 := by rw [← HM.out]; exact HM2.out
        go_wp2_with (first | (refine load_cl (c := c) rfl (x := .tmp 5) rfl rfl (by rw [HCC.out]; exact HK5.out) ?_; rw [HCC.out]) | (at_builtin; refine wpList_append_lies _ rfl _ _ 42 rfl w.heap.size 35 i0 _ 20 248 Try.underlying42 hi0 hz0 hz1 hz2 rfl (by omega) (.slice B1 M c1) M (cls l) rfl HOV.out ⟨w3.heap.size + 1, 0, none⟩ 1 1 (encC c) rfl rfl (by rw [HENC.out]; exact World.news_of_block HK6.out) HONE.out (by omega) (by unfold maxLen; omega) (by omega) (by simp; omega) (w3.heap.size + 2) (by simp) ?_; intro g9 cap9 w9 o9 gr9 l9 z9; obtain ⟨w10, hes, hM10, hg10⟩ := HST.out w9 (.slice (some ⟨g9, 0, none⟩) (M + 1) cap9) (gr9.block _ HG6.out.map.lt (fun e => HNE.out e.symm)); have HM10 := Lib.hid hM10; have HG10 := Lib.hid hg10; have HG9 := Lib.hid gr9; have HO9 := Lib.hid o9; have HL9 := Lib.hid l9; clear hM10 hg10 gr9 o9 l9))
        have hrb : ∀ k, (Value.slice B1 M c1).ownBlock = some k → w.heap.size ≤ k := fun k hk => ((OwnCls.lt (HG6.out.own (c.after, .slice B1 M c1, l) (by simp))) k hk).1
        have hni : (Value.slice B1 M c1).ownBlock ≠ some (w.heap.size + 1 + 1) := by
          have hI6 : IterV ((w3.alloc (.cells CC 35)).alloc (.cells CC 35)) b (w.heap.size + 1 + 1) (kvs L') (kvs (U' ++ V')) := HI2.out.of_blocks (HB6.out.block b HI2.out.map.lt) (HB6.out.block _ HI2.out.ltr)
          exact ne_iter (HG6.out.own (c.after, .slice B1 M c1, l) (by simp)) hI6
        have hcc6 := HCC3.out.below HB6.out HCC3.out.lt
        have hnb : (Value.slice B1 M c1).ownBlock ≠ some (w.heap.size + 1) := OwnCls.ne_blk (HG6.out.own (c.after, .slice B1 M c1, l) (by simp)) hcc6 (by decide)
        have hcc10 := (hcc6.grown HG9.out (fun e => hnb e.symm)).grown HG10.out (by intro e; injection e with e; omega)
        have hlt3 := HI2.out.map.lt
        have hlr3 := HI2.out.ltr
        have hs6 := HB6.out.size
        have hs9 := HG9.out.size
        have I10 : IterV w10 b (w.heap.size + 1 + 1) (kvs L') (kvs (U' ++ V')) := HI2.out.of_blocks
          ((HG10.out.block b (by omega) (by intro e; injection e with e; omega)).trans ((HG9.out.block b (by omega) (fun e => by have := hrb b e.symm; omega)).trans (HB6.out.block b hlt3)))
          ((HG10.out.block _ (by omega) (by intro e; injection e with e; omega)).trans ((HG9.out.block _ (by omega) (fun e => hni e.symm)).trans (HB6.out.block _ hlr3)))
        have hb10 : Below w.heap.size w w10 := ((HB3.out.trans (HB6.out.mono hsz3)).grown HG9.out (by omega) hrb).grown HG10.out (by omega) (fun y hy => by injection hy with hy; omega)
        have hG10 : GrAt w10 w.heap.size w.heap.size (G1 ++ (c.after, .slice (some ⟨g9, 0, none⟩) (M + 1) cap9, l ++ [c]) :: G2) := by
          refine HG6.out.set HG9.out (fun k hk e => HNE.out (by rw [hk, e])) (own_snoc HM.out HO9.out) ?_ ?_ HG10.out ?_ ?_
          · rcases HL9.out with e | e
            · exact .inl e.symm
            · exact .inr (.inr ⟨g9, rfl, by rw [e]; simp⟩)
          · have := HM10.out
            rw [gr_upd (l' := l ++ [c]) HDD.out] at this
            exact this
          · intro k hk e
            obtain rfl : g9 = k := by injection hk
            rcases HL9.out with e' | e'
            · exact HNE.out (by rw [e', e])
            · omega
          · intro g hgm k hk e
            subst e
            refine OwnCls.ne_map (HG6.out.own g ?_) HG6.out.map hk
            rcases List.mem_append.1 hgm with h1 | h1
            · exact List.mem_append_left _ h1
            · exact List.mem_append_right _ (List.mem_cons_of_mem _ h1)
        refine ⟨⟨X ++ [c], U' ++ V', _, HXP, Lib.hid (HR.out.more HDD.out), Lib.hid hG10, hcc10, I10, hb10⟩, ?_⟩
        rw [I10.left, hleft]
        simp [kvs]
end Go.Proofs.Ytbihklfcdpgcgaa
