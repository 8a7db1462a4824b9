/- Part 3 of what the laws of this seat stand on: En, Eo, Ep, Eq, Er, Et, Eu, Ev, Fa, Hp, Hq. -/
import Derived.Test.YtaicbllfkehhjaaY2
import Derived.Lib.SmallJoins
import Derived.Laws.EntriesVeiled

/- List$1: the walk over the groups. -/
namespace Go.Proofs.Ytaicbllfkehhjaa
open Go.RowKit

theorem grp_uq {L : List Cl} (h : Uq L) (t : St2) : Uq (grp L t) := List.Pairwise.filter _ h
theorem sort_grp {L l : List Cl} (h : Uq L) {t : St2} (p : l.Perm (grp L t)) : sortC l = kids L t :=
  sort_one (sortC_sorted ((grp_uq h t).perm p.symm)) (kids_sorted h t) ((sortC_perm l).trans (p.trans (sortC_perm _).symm))
theorem fold_cl (c : Cl) : Array.foldl (fun (cs : Array Value) (x : Value × Nat) => cs.setIfInBounds x.2 x.1) #[.int .i64 0, .int .i64 0, .int .i64 0, .int .i64 0, .int .i64 0, .string ⟨#[]⟩, .string ⟨#[]⟩, .string ⟨#[]⟩, .string ⟨#[]⟩, .int .i64 0, .string ⟨#[]⟩, .string ⟨#[]⟩, .string ⟨#[]⟩, .string ⟨#[]⟩, .string ⟨#[]⟩, .bool false, .int .i64 0, .string ⟨#[]⟩, .string ⟨#[]⟩, .bool false] (clA c).zipIdx 0 20 = clA c := by kernel_rfl
theorem cls_snoc (l : List Cl) (c : Cl) : cls (l ++ [c]) = cls l ++ encC c := by unfold cls; simp
theorem wk_app {w w' : World} {base bc bo bw m : Nat} {KV : List (St2 × Value)} {L : List Cl} {lst : St2 → List Cl} {v v' : Value} {O O' : List Cl} (h : Wk w base bc bo bw m KV L lst v O) (hg : w.grownBy w' v.ownBlock) (ho : OwnCls w' base v' O') (hlie : v'.ownBlock = v.ownBlock ∨ ∃ g, v'.ownBlock = some g ∧ w.heap.size ≤ g) :
    Blk w' bo 41 #[v] ∧ Wk (w'.setCell ⟨bo, 0, none⟩ v') base bc bo bw m KV L lst v' O' := by
  have co := h.co.grown hg (fun e => h.out.ne_blk h.co (by decide) e.symm)
  refine ⟨co, h.push (((Only.of_grown hg).mono fun i hi => .inl hi).setCell (.inl (.inr rfl)) _) ?_ hlie (co.set_ 0 v')⟩
  exact ((Only.refl (fun i => i = bo) w').setCell (p := ⟨bo, 0, none⟩) (.inl rfl) v').owns ho fun g hg' e => by
    subst e
    exact ho.ne_blk co (by decide) hg'
theorem own_snoc {w : World} {base M : Nat} {v : Value} {OO : List Cl} {c : Cl} (hM : OO.length = M) (o : w.ownsRow base 56 20 v (M + 1) (cls OO ++ encC c)) : OwnCls w base v (OO ++ [c]) := by
  subst hM
  unfold OwnCls
  rw [List.length_append, cls_snoc]
  exact o
/-- What the call of the walk does at t. -/
def WalkAt (base bc bo bw m : Nat) (KV : List (St2 × Value)) (L : List Cl) (n : Nat) : Prop :=
  ∀ (w : World) (t : St2) (lst : St2 → List Cl) (v : Value) (O : List Cl), Wk w base bc bo bw m KV L lst v O → O.length + (walkN n L t).length ≤ 500000000 → (walkN n L t).length ≤ 1000000 → rank L t < n →
    Calls Try.prog 54 #[.agg (stA t), .pointer (some ⟨bc, 0, none⟩), .pointer (some ⟨bo, 0, none⟩), .pointer (some ⟨bw, 0, none⟩)] w fun e w' => e = .returned (.tuple #[]) ∧ Below base w w' ∧
      ∃ v' lst', Wk w' base bc bo bw m KV L lst' v' (O ++ walkN n L t) ∧ ∀ s, lst s = kids L s → lst' s = kids L s
theorem kids_le {L : List Cl} {n : Nat} (t : St2) : (kids L t).length ≤ (walkN (n + 1) L t).length := by
  rw [walkN_succ]
  generalize kids L t = K
  induction K with
  | nil => simp
  | cons c K ih => rw [List.flatMap_cons, List.length_append]; simp only [List.length_cons]; omega
def upto (L : List Cl) (n : Nat) (K : List Cl) : List Cl := K.flatMap fun c => c :: walkN n L c.id
theorem upto_take {L K : List Cl} {n k : Nat} {c : Cl} (h : K[k]? = some c) : upto L n (K.take (k + 1)) = (upto L n (K.take k) ++ [c]) ++ walkN n L c.id := by
  unfold upto
  rw [List.take_add_one, h, List.flatMap_append]
  simp
theorem upto_le {L K : List Cl} {n k : Nat} : (upto L n (K.take k)).length ≤ (upto L n K).length := by
  unfold upto
  have := List.take_append_drop k K
  calc ((K.take k).flatMap fun c => c :: walkN n L c.id).length ≤ ((K.take k ++ K.drop k).flatMap fun c => c :: walkN n L c.id).length := by rw [List.flatMap_append, List.length_append]; omega
    _ = _ := by rw [this]
set_option maxRecDepth 100000 in
set_option maxHeartbeats 8000000 in
theorem walk_step {base bc bo bw m n : Nat} {KV : List (St2 × Value)} {L : List Cl} (ht : Tr L) (hB : ∀ c ∈ L, -4000000 ≤ c.id.1 ∧ c.id.1 ≤ 4000000 ∧ -4000000 ≤ c.id.2 ∧ c.id.2 ≤ 4000000) (ih : WalkAt base bc bo bw m KV L n) : WalkAt base bc bo bw m KV L (n + 1) := by
  intro w t lst v O h hl hl2 hr
  obtain ⟨u, hu⟩ := sl_ex KV t
  have hq : ∀ k, (upto L n ((kids L t).take k)).length ≤ (upto L n (kids L t)).length := fun k => upto_le
  have hkl : (kids L t).length ≤ 1000000 := Nat.le_trans (kids_le t) hl2
  obtain ⟨X, hX⟩ : ∃ X, walkN (n + 1) L t = X := ⟨_, rfl⟩
  have hX2 : upto L n (kids L t) = X := hX
  rw [hX] at hl hl2 ⊢
  rw [hX2] at hq
  have hbase : base ≤ w.heap.size := Nat.le_trans h.bs.1 (Nat.le_of_lt h.cc.lt)
  have h1 : Wk (w.alloc (.cells (stA t) 33)) base bc bo bw m KV L lst v O := h.same ((Below.refl _ w).alloc (Nat.le_refl _) _)
  have kI := Blk.new w 33 (stA t)
  have kI0 : (w.alloc (.cells (stA t) 33)).cell? ⟨w.heap.size, 0, none⟩ = some (.int .i64 t.1) := kI.cell 0
  have kI1 : (w.alloc (.cells (stA t) 33)).cell? ⟨w.heap.size, 1, none⟩ = some (.int .i64 t.2) := kI.cell 1
  have cC0 : (w.alloc (.cells (stA t) 33)).cell? ⟨bc, 0, none⟩ = some (.map (some m)) := h1.cc.cell 0
  have hlook := h1.look hu
  have o1 := h1.at hu
  have hgu : Uq (lst t) := (grp_uq ht.uq t).perm (h.perm t).symm
  have hll : (lst t).length = (kids L t).length := by rw [(h.perm t).length_eq]; exact (sortC_perm _).length_eq.symm
  obtain ⟨i0, hi0, hz0, hz1, hz2⟩ := info_parts Try.infoCl
  obtain ⟨N, hN⟩ : ∃ N, (kids L t).length = N := ⟨_, rfl⟩
  obtain ⟨A, cu, hUe, hA⟩ : ∃ A cu, u = .slice A N cu ∧ ∀ k, k < N → ∃ g, A = some ⟨g, 0, none⟩ := by
    rcases Joins.ownsRow_forms o1 with ⟨h1, h2⟩ | ⟨g, cap, hv⟩
    · exact ⟨none, 0, by rw [h1]; congr 1; omega, fun k hk => by omega⟩
    · exact ⟨some ⟨g, 0, none⟩, cap, by rw [hv, hll, hN], fun _ _ => ⟨g, rfl⟩⟩
  subst hUe
  have HN := Lib.hid hN
  have HA := Lib.hid hA
  have HS := Lib.hid (sort_any _ base _ (lst t) (fun c hc => hB c (List.mem_filter.1 ((h.perm t).mem_iff.1 hc)).1) hgu (by omega) o1)
  have HH1 := Lib.hid h1
  have HL := Lib.hid hl
  have HL2 := Lib.hid hl2
  have HR := Lib.hid hr
  have HX := Lib.hid hX2
  have HQ := Lib.hid hq
  have HGU := Lib.hid hgu
  have HU := Lib.hid hu
  have HPM := Lib.hid h.perm
  rw [hN] at hkl
  clear hX hX2 hl hl2 hr hgu hu hll hq h1 h o1 hN hA
  go_enter Try.func54, Try.ntmps54
  go_wp2_with fail
  refine HS.out.mono ?_
  rintro e w1 ⟨rfl, o2, k1⟩
  have h2 := HH1.out.sort HU.out o2 k1
  have HK1 := Lib.hid (show Below base w w1 from ((Below.refl base w).alloc hbase _).trans (k1.below (by simp; omega) fun i hi => (OwnCls.lt o2 i hi).1))
  obtain ⟨lst1, hL1, hL2, hL3⟩ : ∃ l1 : St2 → List Cl, Wk w1 base bc bo bw m KV L l1 v O ∧ l1 t = kids L t ∧ ∀ s, lst s = kids L s → l1 s = kids L s :=
    ⟨_, h2, by simp only [if_pos]; exact sort_grp ht.uq (HPM.out t), fun s hs => by
      show (if s = t then sortC (lst s) else lst s) = _
      split
      · exact sort_grp ht.uq (HPM.out s)
      · exact hs⟩
  have HP := Lib.hid (show ∃ l1 v' , Wk w1 base bc bo bw m KV L l1 v' (O ++ upto L n ((kids L t).take 0)) ∧ l1 t = kids L t ∧ ∀ s, lst s = kids L s → l1 s = kids L s from ⟨lst1, v, by simpa [upto] using hL1, hL2, hL3⟩)
  clear hL1 hL2 hL3 h2 o2 k1 hlook kI kI0 kI1 cC0 HS HH1 hbase
  go_wp2_with fail
  go_loopw [15] (fun i wr => ∃ k : Nat, k ≤ N ∧ i = .int .i64 (k : Int) ∧ Below base w wr ∧ Hid (∃ l1 v' , Wk wr base bc bo bw m KV L l1 v' (O ++ upto L n ((kids L t).take k)) ∧ l1 t = kids L t ∧ ∀ s, lst s = kids L s → l1 s = kids L s)) (fun i _ => N - (intOf i).toNat)
  case atStart => exact ⟨0, Nat.zero_le _, rfl, HK1.out, HP⟩
  case round =>
    obtain ⟨k, hk, rfl, bk, HPk⟩ := hrel
    obtain ⟨l1, v1, W1, hl1, hl3⟩ := HPk.out
    clear HPk HP HK1
    by_cases hkN : k < N
    · obtain ⟨g, rfl⟩ := HA.out k hkN
      obtain ⟨c, hc⟩ : ∃ c, (kids L t)[k]? = some c := ⟨_, List.getElem?_eq_getElem (by rw [HN.out]; exact hkN)⟩
      have oR : wr.ownsRow base 56 20 (.slice (some ⟨g, 0, none⟩) N cu) N (cls (kids L t)) := by
        have := W1.at HU.out
        unfold OwnCls at this
        rw [hl1, HN.out] at this
        exact this
      have e1 : decide ((k : Int) < (N : Int)) = true := decide_eq_true (by omega)
      obtain ⟨OO, hOO⟩ : ∃ OO, O ++ upto L n ((kids L t).take k) = OO := ⟨_, rfl⟩
      rw [hOO] at W1
      obtain ⟨M, hM⟩ : ∃ M, OO.length = M := ⟨_, rfl⟩
      have hM2 : M ≤ 500000000 := by
        have h1 := HQ.out k
        have h2 := HL.out
        rw [← hM, ← hOO, List.length_append]
        omega
      obtain ⟨B1, c1, rfl⟩ : ∃ B1 c1, v1 = .slice B1 M c1 := by
        rcases Joins.ownsRow_forms W1.out with ⟨h1, h2⟩ | ⟨g, cap, hv⟩
        · exact ⟨none, 0, by rw [h1]; congr 1; omega⟩
        · exact ⟨some ⟨g, 0, none⟩, cap, by rw [hv, hM]⟩
      have hpc := put_cl wr c
      have hcz := clA_size c
      have W2 := W1.same ((Below.refl _ wr).alloc (Nat.le_refl _) (.cells (clA c) 56))
      have W3 := W2.same ((Below.refl _ _).alloc (Nat.le_refl _) (.cells (clA c) 56))
      have own3 : ((wr.alloc (.cells (clA c) 56)).alloc (.cells (clA c) 56)).ownsRow base 56 20 (.slice B1 M c1) M (cls OO) := by
        have := W3.out
        unfold OwnCls at this
        rw [hM] at this
        exact this
      have HFO := Lib.hid (fold_cl c)
      have HONE := Lib.hid (encC_one c)
      have HENC := Lib.hid (show encC c = (clA c).toList from rfl)
      have HC := Lib.hid hc
      have HW1 := Lib.hid W1
      have HL1 := Lib.hid hl1
      have HL3 := Lib.hid hl3
      have HOR := Lib.hid oR
      have HKN := Lib.hid hkN
      have HW3 := Lib.hid W3
      have HOWN3 := Lib.hid own3
      have HM := Lib.hid hM
      have HOO := Lib.hid hOO
      have HB3 := Lib.hid ((bk.alloc (Nat.le_trans W1.bs.1 (Nat.le_of_lt W1.cc.lt)) (.cells (clA c) 56)).alloc (Nat.le_trans W2.bs.1 (Nat.le_of_lt W2.cc.lt)) (.cells (clA c) 56))
      have hsz : base ≤ wr.heap.size := Nat.le_trans W1.bs.1 (Nat.le_of_lt W1.cc.lt)
      have kc := Blk.new wr 56 (clA c)
      have kc' := Blk.new1 wr (.cells (clA c) 56) 56 (clA c)
      have kc3 := kc.alloc (.cells (clA c) 56)
      have co0 : (wr.alloc (.cells (clA c) 56)).cell? ⟨bo, 0, none⟩ = some (.slice B1 M c1) := W2.co.cell 0
      have HKC := Lib.hid kc
      have HKC1 := Lib.hid kc'
      have HKC3 := Lib.hid kc3
      clear W1 hl1 hl3 oR hc W2 W3 own3 kc kc' kc3 hM hOO
      generalize hCC : clA c = CC at *
      have HCC := Lib.hid hCC
      clear hCC
      go_wp2_with (first | (refine load_row rfl (x := .tmp 17) rfl rfl HOR.out HN.out HC.out ?_; rw [HCC.out]) | (refine load_cl (c := c) rfl (x := .tmp 7) rfl rfl (by rw [HCC.out]; exact HKC.out) ?_; rw [HCC.out]) | (at_builtin; rw [HFO.out]; refine wpList_append_lies _ rfl _ _ 41 rfl base 56 i0 _ 20 248 Try.underlying41 hi0 hz0 hz1 hz2 rfl (by omega) (.slice B1 M c1) M (cls OO) rfl HOWN3.out ⟨wr.heap.size + 1, 0, none⟩ 1 1 (encC c) rfl rfl (by rw [HENC.out]; exact World.news_of_block HKC1.out) HONE.out (by omega) (by unfold maxLen; omega) (by omega) (by simp; omega) (wr.heap.size + 2) (by simp) ?_; intro g9 cap9 w9 o9 gr9 l9 z9; obtain ⟨co9, W10⟩ := wk_app HW3.out gr9 (own_snoc HM.out o9) (by rcases l9 with l9 | l9; exact .inl l9.symm; exact .inr ⟨g9, rfl, by rw [l9]; simp⟩); obtain ⟨cy9, fy9, ly9⟩ := co9.all; have kd := (HKC3.out.grown gr9 (by intro e; have := OwnCls.lt HW1.out.out _ e.symm; omega)).far (p := ⟨bo, 0, none⟩) (by have := HW1.out.co.lt; show wr.heap.size ≠ bo; omega) (.slice (some ⟨g9, 0, none⟩) (M + 1) cap9); have kd0 : (w9.setCell ⟨bo, 0, none⟩ (.slice (some ⟨g9, 0, none⟩) (M + 1) cap9)).cell? ⟨wr.heap.size, 0, none⟩ = some (.int .i64 c.id.1) := (by rw [Blk.cell kd 0, ← HCC.out]; rfl); have kd1 : (w9.setCell ⟨bo, 0, none⟩ (.slice (some ⟨g9, 0, none⟩) (M + 1) cap9)).cell? ⟨wr.heap.size, 1, none⟩ = some (.int .i64 c.id.2) := (by rw [Blk.cell kd 1, ← HCC.out]; rfl); have cw10 : (w9.setCell ⟨bo, 0, none⟩ (.slice (some ⟨g9, 0, none⟩) (M + 1) cap9)).cell? ⟨bw, 0, none⟩ = some _ := W10.cw.cell 0; have HW10 := Lib.hid W10; have HG9 := Lib.hid gr9; clear W10 gr9 l9 kd))
      have hcm : c ∈ kids L t := List.mem_of_getElem? HC.out
      have hup := upto_take (L := L) (n := n) HC.out
      have hlen := HQ.out (k + 1)
      rw [hup, List.length_append, List.length_append] at hlen
      have hO2 : O.length + (upto L n ((kids L t).take k)).length = M := by rw [← HM.out, ← HOO.out, List.length_append]
      have hXl := HL.out
      have hXl2 := HL2.out
      have hrk := rank_kid ht hcm
      have hrn := HR.out
      refine (ih _ c.id l1 _ _ HW10.out (by rw [List.length_append, HM.out]; simp only [List.length_cons, List.length_nil] at *; omega) (by omega) (by omega)).mono ?_
      rintro e w11 ⟨rfl, b11, v2, l2, W11, hk2⟩
      have b12 : Below base w w11 := ((HB3.out.grown HG9.out (by simp; omega) (fun y hy => (OwnCls.lt HW1.out.out y hy).1)).setCell (p := ⟨bo, 0, none⟩) HW1.out.bs.2.1 _).trans b11
      have HP2 := Lib.hid (show ∃ l1 v', Wk w11 base bc bo bw m KV L l1 v' (O ++ upto L n ((kids L t).take (k + 1))) ∧ l1 t = kids L t ∧ ∀ s, lst s = kids L s → l1 s = kids L s from ⟨l2, v2, by rw [hup, ← List.append_assoc, ← List.append_assoc, HOO.out]; exact W11, hk2 t HL1.out, fun s hs => hk2 s (HL3.out s hs)⟩)
      clear hup hlen hO2 hXl hXl2 hrk hrn W11 hk2 HW10 HG9 hcm
      go_wp2_with fail
      go_roundw
      case rel => exact ⟨k + 1, HKN.out, by go_num, b12, HP2⟩
      case measure => simp [intOf]; have := HKN.out; omega
    · obtain rfl : k = N := by omega
      have e1 : decide ((k : Int) < (k : Int)) = false := decide_eq_false (by omega)
      have HR2 := Lib.hid (show ∃ v' lst', Wk wr base bc bo bw m KV L lst' v' (O ++ X) ∧ ∀ s, lst s = kids L s → lst' s = kids L s from ⟨v1, l1, by
        have := W1
        rw [← HN.out, List.take_length, HX.out] at this
        exact this, hl3⟩)
      clear W1 hl1 hl3
      go_wp2
      exact bodyPost_end (results_none rfl _ _ _) rfl ⟨rfl, bk, HR2.out⟩
theorem walk_all {base bc bo bw m : Nat} {KV : List (St2 × Value)} {L : List Cl} (ht : Tr L) (hB : ∀ c ∈ L, -4000000 ≤ c.id.1 ∧ c.id.1 ≤ 4000000 ∧ -4000000 ≤ c.id.2 ∧ c.id.2 ≤ 4000000) : ∀ n, WalkAt base bc bo bw m KV L n
  | 0 => fun _ _ _ _ _ _ _ _ h => absurd h (Nat.not_lt_zero _)
  | n + 1 => walk_step ht hB (walk_all ht hB n)
end Go.Proofs.Ytaicbllfkehhjaa

/- List. -/
namespace Go.Proofs.Ytaicbllfkehhjaa
open Go.RowKit

theorem wk_start {w : World} {base bc bo bw m : Nat} {G : List Grp} {X L : List Cl} (hG : GrAt w base m G) (hR : GrRel X G) (hp : X.Perm L) (cc : Blk w bc 105 #[.map (some m)]) (co : Blk w bo 41 #[.slice none 0 0])
    (cw : Blk w bw 106 #[.func (.func 54) #[] #[.pointer (some ⟨bc, 0, none⟩), .pointer (some ⟨bo, 0, none⟩), .pointer (some ⟨bw, 0, none⟩)]]) (hb : base ≤ bc ∧ base ≤ bo ∧ base ≤ bw ∧ base ≤ m) :
    Wk w base bc bo bw m (G.map fun g => (g.1, g.2.1)) L (grp X) (.slice none 0 0) [] where
  cc := cc
  co := co
  cw := cw
  map := by rw [List.map_map]; exact hG.map
  own p hp := by
    obtain ⟨g, hg, rfl⟩ := List.mem_map.1 hp
    have := hG.own g hg
    rw [hR.list g hg] at this
    exact this
  perm t := hp.filter _
  keys := by rw [List.pairwise_map]; exact hG.apart
  none t ht := by
    have h := hR.none t fun g hg => ht _ (List.mem_map_of_mem (f := fun g : Grp => (g.1, g.2.1)) hg)
    have h2 : (X.filter fun c => decide (c.after = t)).Perm (grp L t) := hp.filter _
    rw [h] at h2
    exact h2.symm.eq_nil
  out := World.ownsRow_nil _ _ _ _
  apO p hp := by
    unfold Apart
    cases h : p.2.ownBlock with
    | none => exact .inl rfl
    | some x => exact .inr (by simp [Value.ownBlock])
  bs := hb
theorem ne_iter {w : World} {base : Nat} {u : Value} {l : List Cl} (h : OwnCls w base u l) {b r : Nat} {K T : List (Value × Value)} (hb : IterV w b r K T) : u.ownBlock ≠ some r := fun e => by
  obtain ⟨c, fz, hc⟩ := Lib.ownsRow_kind h r e
  obtain ⟨es, clock, since, seen, c0, h1, h2, h3, h4, _⟩ := hb
  rw [h4] at hc
  injection hc with hc
  cases hc
theorem gr_new {w w8 : World} {base m : Nat} {G : List Grp} (h : GrAt w base m G) {t : St2} {v' : Value} {l' : List Cl} (hn : ∀ g ∈ G, g.1 ≠ t) (k : Only (fun i => i = m) w w8) (hM : MapV w8 m (G.map grKv ++ [(.agg (stA t), v')])) (ho : OwnCls w8 base v' l') (hf : ∃ g, v'.ownBlock = some g ∧ w.heap.size ≤ g) : GrAt w8 base m (G ++ [(t, v', l')]) := by
  refine ⟨by rw [List.map_append]; exact hM, fun g hg => ?_, ?_⟩
  · rcases List.mem_append.1 hg with hg | hg
    · exact k.owns (h.own g hg) fun i hi e => (h.own g hg).ne_map h.map (by rw [hi, e])
    · simp at hg
      subst hg
      exact ho
  · rw [List.pairwise_append]
    refine ⟨h.apart, by simp, fun a ha b hb => ?_⟩
    simp at hb
    subst hb
    refine ⟨hn a ha, ?_⟩
    obtain ⟨g, hg, hlt⟩ := hf
    unfold Apart
    cases hq : a.2.1.ownBlock with
    | none => exact .inl rfl
    | some x =>
      right
      rw [hg]
      intro e
      injection e with e
      have := ((h.own a ha).lt x hq).2
      omega
theorem gr_same {w w' : World} {base m : Nat} {G : List Grp} (h : GrAt w base m G) (hb : Below w.heap.size w w') : GrAt w' base m G :=
  ⟨h.map.below hb h.map.lt, fun g hg => (Only.of_below hb (fun _ => False)).owns (h.own g hg) (fun _ _ h => h), h.apart⟩
set_option maxRecDepth 100000 in
set_option maxHeartbeats 8000000 in
theorem list_any (w : World) (p b : Nat) (L : List Cl) (h : PgAt w p b L) (ht : Tr L) (hB : ∀ c ∈ L, -4000000 ≤ c.id.1 ∧ c.id.1 ≤ 4000000 ∧ -4000000 ≤ c.id.2 ∧ c.id.2 ≤ 4000000) (hl : L.length ≤ 1000000) :
    Calls Try.prog 40 #[.pointer (some ⟨p, 0, none⟩)] w fun e w' => ∃ v, e = .returned v ∧ OwnCls w' w.heap.size v (walkS L) ∧ Below w.heap.size w w' := by
  obtain ⟨hp, L', hm, hperm⟩ := h
  have hpl := hp.lt
  have hbl := hm.lt
  have hM0 := MapV.made w
  have cc0 := Blk.new1 w (.map #[] 0) 105 #[.map (some w.heap.size)]
  have hM1 := hM0.alloc (.cells #[.map (some w.heap.size)] 105)
  have cp : ((w.alloc (.map #[] 0)).alloc (.cells #[.map (some w.heap.size)] 105)).cell? ⟨p, 0, none⟩ = some (.map (some b)) := ((hp.alloc _).alloc _).cell 0
  have hmm := (hm.alloc (.map #[] 0)).alloc (.cells #[.map (some w.heap.size)] 105)
  obtain ⟨o, hr, hI⟩ := hmm.range (P := Try.prog) Try.underlying53
  rw [show ((w.alloc (.map #[] 0)).alloc (.cells #[.map (some w.heap.size)] 105)).heap.size = w.heap.size + 1 + 1 by simp] at hr hI
  have cc1 := cc0.alloc o
  have hM2 := hM1.alloc o
  have hB1 := Lib.hid ((((Below.refl w.heap.size w).alloc (Nat.le_refl _) (.map #[] 0)).alloc (by simp) (.cells #[.map (some w.heap.size)] 105)).alloc (by simp; omega) o)
  have HI := Lib.hid hI
  have hmm0 := @run_makeMap Try.prog
  have HM2 := Lib.hid hM2
  have HCC := Lib.hid cc1
  have HT := Lib.hid ht
  have HBB := Lib.hid hB
  have HL := Lib.hid hl
  have HPM := Lib.hid hperm
  clear hM0 cc0 hM1 hmm hI cc1 hM2 ht hB hl hperm hm hp
  go_enter Try.func40, Try.ntmps40
  go_upto_region 5 with fail
  clear hmm0 hr cp
  generalize ((w.alloc (.map #[] 0)).alloc (.cells #[.map (some w.heap.size)] 105)).alloc o = w2 at *
  go_loopw [16] (fun _ wr => ∃ (X T : List Cl) (G : List Grp), Hid ((X ++ T).Perm L) ∧ Hid (GrRel X G) ∧ Hid (GrAt wr w.heap.size w.heap.size G) ∧ Blk wr (w.heap.size + 1) 105 #[.map (some w.heap.size)] ∧ IterV wr b (w.heap.size + 1 + 1) (kvs L') (kvs T) ∧ Below w.heap.size w wr) (fun _ wr => iterLeft wr b (w.heap.size + 1 + 1))
  case atStart => exact ⟨[], L', [], HPM, Lib.hid GrRel.nil, Lib.hid ⟨HM2.out, by simp, List.Pairwise.nil⟩, HCC.out, HI.out, hB1.out⟩
  case round =>
    clear HI HM2 HCC hB1
    obtain ⟨X, T, G, HX, HR, HG, hcc, I, hb⟩ := hrel
    have hleft := I.left
    rcases I.next (P := Try.prog) 0 with ⟨hT, hnx⟩ | ⟨U, V, x, v, w3, hT, hxv, hnx, hg, I1, hen⟩
    · obtain rfl : T = [] := by simpa [kvs] using hT
      clear I hT hleft
      have HBw := Lib.hid hb
      have hsz := hb.size
      obtain ⟨FV, hFV⟩ : ∃ FV, Value.func (.func 54) #[] #[.pointer (some ⟨w.heap.size + 1, 0, none⟩), .pointer (some ⟨wr.heap.size, 0, none⟩), .pointer (some ⟨wr.heap.size + 1, 0, none⟩)] = FV := ⟨_, rfl⟩
      have k0 := Blk.new1 wr (.cells #[.slice none 0 0] 41) 106 #[.nilFunc]
      have k7b := Blk.new1 wr (.cells #[.slice none 0 0] 41) 106 #[FV]
      have k6b := (Blk.new wr 41 #[.slice none 0 0]).alloc (.cells #[FV] 106)
      have hbW : Below wr.heap.size wr ((wr.alloc (.cells #[.slice none 0 0] 41)).alloc (.cells #[FV] 106)) :=
        ((Below.refl _ wr).alloc (Nat.le_refl _) _).alloc (by simp) _
      have hccW := hcc.below hbW hcc.lt
      have hpX : X.Perm L := by simpa using HX.out
      have WK := wk_start (gr_same HG.out hbW) HR.out hpX hccW k6b (by rw [hFV]; exact k7b) ⟨by omega, by omega, by omega, by omega⟩
      have c7b : ((wr.alloc (.cells #[.slice none 0 0] 41)).alloc (.cells #[FV] 106)).cell? ⟨wr.heap.size + 1, 0, none⟩ = some FV := k7b.cell 0
      subst hFV
      obtain ⟨c7, f7, l7⟩ := k0.all
      have HWK := Lib.hid WK
      have HBW := Lib.hid hbW
      have HWL := Lib.hid (walk_perm HT.out).length_eq
      clear WK hbW hccW hpX k0 k7b k6b hb hcc HX HG HR
      go_wp2_with fail
      refine (walk_all HT.out HBB.out (L.length + 1) _ z2 (grp X) (.slice none 0 0) [] HWK.out (by have h1 := HWL.out; have h2 := HL.out; unfold walkS at h1; rw [List.length_nil]; omega) (by have h1 := HWL.out; have h2 := HL.out; unfold walkS at h1; omega) (by have := rank_le L z2; omega)).mono ?_
      rintro e w9 ⟨rfl, b9, v9, l9, W9, -⟩
      have c69 : w9.cell? ⟨wr.heap.size, 0, none⟩ = some v9 := W9.co.cell 0
      have HO := Lib.hid (show OwnCls w9 w.heap.size v9 (walkS L) from W9.out)
      have b99 := (HBw.out.trans (HBW.out.mono hsz)).trans b9
      clear W9
      go_wp2
      go_ret
      exact ⟨v9, rfl, HO.out, b99⟩
    · obtain ⟨U', R, rfl, hA, hRR⟩ := List.map_eq_append_iff.1 hT
      obtain ⟨c, V', rfl, hc, hBB⟩ := List.map_eq_cons_iff.1 hRR
      obtain ⟨rfl, rfl⟩ : x = .agg (stA c.id) ∧ v = .agg (clA c) := by
        have : kvC c = (x, v) := hc
        unfold kvC at this
        exact ⟨(congrArg Prod.fst this).symm, (congrArg Prod.snd this).symm⟩
      have I2 : IterV w3 b (w.heap.size + 1 + 1) (kvs L') (kvs (U' ++ V')) := by
        rw [← hA, ← hBB, ← List.map_append] at I1
        exact I1
      have hb3 : Below w.heap.size w w3 := hb.grown hg hb.size (fun y hy => by injection hy with hy; omega)
      have hG3 : GrAt w3 w.heap.size w.heap.size G := HG.out.grown hg (by intro e; injection e with e; omega) fun g hgm => .inr (ne_iter (HG.out.own g hgm) I)
      have hcc3 := hcc.grown hg (by intro e; injection e with e; omega)
      have hent : (Instr.entry (.pointer (some ⟨w.heap.size + 1 + 1, 0, none⟩))).run Try.prog w3 = .ok (.tuple #[.agg #[.int .i64 c.id.1, .int .i64 c.id.2], .agg (clA c)]) w3 := hen w3 rfl rfl
      have hcz := clA_size c
      have hpc := put_cl w3 c
      have k5 := Blk.new w3 56 (clA c)
      have k5b := k5.alloc (.cells (clA c) 56)
      have k6 := Blk.new1 w3 (.cells (clA c) 56) 56 (clA c)
      have ca0 : (w3.alloc (.cells (clA c) 56)).cell? ⟨w3.heap.size, 2, none⟩ = some (.int .i64 c.after.1) := k5.cell 2
      have ca1 : (w3.alloc (.cells (clA c) 56)).cell? ⟨w3.heap.size, 3, none⟩ = some (.int .i64 c.after.2) := k5.cell 3
      have cm0 : (w3.alloc (.cells (clA c) 56)).cell? ⟨w.heap.size + 1, 0, none⟩ = some (.map (some w.heap.size)) := (hcc3.alloc _).cell 0
      have hB6 : Below w3.heap.size w3 ((w3.alloc (.cells (clA c) 56)).alloc (.cells (clA c) 56)) := ((Below.refl _ w3).alloc (Nat.le_refl _) _).alloc (by simp) _
      have hG6 := gr_same hG3 hB6
      have hfo := fold_cl c
      have HK5 := Lib.hid k5
      have HG6 := Lib.hid hG6
      have HB6 := Lib.hid hB6
      have HI2 := Lib.hid I2
      have HB3 := Lib.hid hb3
      have HCC3 := Lib.hid hcc3
      clear hT hRR hc hA hBB hxv hen I I1 hb hg hcc HG hG3 k5 k5b k6 hG6 hB6 I2 hb3 hcc3
      generalize hCC : clA c = CC at *
      have HCC := Lib.hid hCC
      clear hCC
      have hleft2 := HI2.out.left
      have hkeys := HG6.out.keys
      have HXP := Lib.hid (show ((X ++ [c]) ++ (U' ++ V')).Perm L from by
        refine List.Perm.trans ?_ HX.out
        rw [List.append_assoc]
        exact List.Perm.append_left X (by simpa using (List.perm_middle (a := c) (l₁ := U') (l₂ := V')).symm))
      have HXL := Lib.hid (show X.length ≤ 1000000 from by
        have h1 := HX.out.length_eq
        have h2 := HL.out
        rw [List.length_append] at h1
        omega)
      obtain ⟨i0, hi0, hz0, hz1, hz2⟩ := info_parts Try.infoCl
      have HONE := Lib.hid (encC_one c)
      have HENC := Lib.hid (show encC c = CC.toList from by rw [← HCC.out]; rfl)
      rcases HG6.out.find c.after with hn | ⟨G1, G2, v, l, rfl, hd⟩
      · obtain ⟨q, w7, hme0, hg7, hst⟩ := HG6.out.map.entry_none (P := Try.prog) (x := .agg (stA c.after)) (z := .slice none 0 0) kysS Try.underlying105 hkeys ⟨c.after, rfl⟩ (fun p hp => by
          obtain ⟨g, hg, rfl⟩ := List.mem_map.1 hp
          exact fun e => hn g hg (stA_inj e)) (by kernel_rfl)
        have hme : (Instr.mapEntry 105 (.map (some w.heap.size)) (.agg #[.int .i64 c.after.1, .int .i64 c.after.2])).run Try.prog ((w3.alloc (.cells CC 56)).alloc (.cells CC 56)) = .ok (.tuple #[.slice none 0 0, .int .i64 q]) w7 := hme0
        clear hme0
        have hsz3 : w.heap.size ≤ w3.heap.size := HB3.out.size
        have hs7 : w3.heap.size + 2 ≤ w7.heap.size := by have := hg7.size; simp at this; omega
        have HK7 := Lib.hid ((Blk.new1 w3 (.cells CC 56) 56 CC).grown hg7 (by intro e; injection e with e; omega))
        have HG7 := Lib.hid hg7
        have HST := Lib.hid hst
        have HN := Lib.hid hn
        have hml : w.heap.size < w7.heap.size := by omega
        clear hst hn hkeys hg7
        go_wp2_with (first | (refine load_cl (c := c) rfl (x := .tmp 5) rfl rfl (by rw [HCC.out]; exact HK5.out) ?_; rw [HCC.out]) | (at_builtin; refine wpList_append_lies _ rfl _ _ 41 rfl w.heap.size 56 i0 _ 20 248 Try.underlying41 hi0 hz0 hz1 hz2 rfl (by omega) (.slice none 0 0) 0 (cls []) rfl (World.ownsRow_nil _ _ _ _) ⟨w3.heap.size + 1, 0, none⟩ 1 1 (encC c) rfl rfl (by rw [HENC.out]; exact World.news_of_block HK7.out) HONE.out (by omega) (by unfold maxLen; omega) (by omega) (by omega) w7.heap.size rfl ?_; intro g9 cap9 w9 o9 gr9 l9 z9; obtain ⟨w10, hes, hM10, hg10⟩ := HST.out w9 (.slice (some ⟨g9, 0, none⟩) (0 + 1) cap9) (gr9.block _ hml (fun e => by cases e)); have HM10 := Lib.hid hM10; have HG10 := Lib.hid hg10; have HG9 := Lib.hid gr9; have HO9 := Lib.hid o9; have HL9 := Lib.hid l9; clear hM10 hg10 gr9 o9 l9))
        obtain rfl : g9 = w7.heap.size := by
          rcases HL9.out with e | e
          · cases e
          · exact e
        have hcc6 := HCC3.out.below HB6.out HCC3.out.lt
        have hcc10 := ((hcc6.grown HG7.out (by intro e; injection e with e; omega)).grown HG9.out (by intro e; cases e)).grown HG10.out (by intro e; injection e with e; omega)
        have hlt3 := HI2.out.map.lt
        have hlr3 := HI2.out.ltr
        have hs6 := HB6.out.size
        have hs9 := HG9.out.size
        have hs67 := HG7.out.size
        have I10 : IterV w10 b (w.heap.size + 1 + 1) (kvs L') (kvs (U' ++ V')) := HI2.out.of_blocks
          ((HG10.out.block b (by omega) (by intro e; injection e with e; omega)).trans ((HG9.out.block b (by omega) (by intro e; cases e)).trans ((HG7.out.block b (by omega) (by intro e; injection e with e; omega)).trans (HB6.out.block b hlt3))))
          ((HG10.out.block _ (by omega) (by intro e; injection e with e; omega)).trans ((HG9.out.block _ (by omega) (by intro e; cases e)).trans ((HG7.out.block _ (by omega) (by intro e; injection e with e; omega)).trans (HB6.out.block _ hlr3))))
        have hb10 : Below w.heap.size w w10 := (((HB3.out.trans (HB6.out.mono hsz3)).grown HG7.out (by omega) (fun y hy => by injection hy with hy; omega)).grown HG9.out (by omega) (fun y hy => by cases hy)).grown HG10.out (by omega) (fun y hy => by injection hy with hy; omega)
        have hO9 : OwnCls w9 w.heap.size (.slice (some ⟨w7.heap.size, 0, none⟩) (0 + 1) cap9) [c] := own_snoc (OO := []) rfl HO9.out
        have hk10 : Only (fun i => i = w.heap.size) ((w3.alloc (.cells CC 56)).alloc (.cells CC 56)) w10 := (((Only.of_grown HG7.out).mono (fun i hi => by injection hi with hi; exact hi.symm)).trans (Only.of_grown HG9.out) (fun i hi => by cases hi)).trans (Only.of_grown HG10.out) (fun i hi => by injection hi with hi; exact .inl hi.symm)
        have hG10 := gr_new HG6.out HN.out hk10 HM10.out (hO9.grown HG10.out (.inr (by show (some w7.heap.size : Option Nat) ≠ some w.heap.size; intro e; injection e with e; omega))) ⟨w7.heap.size, rfl, hs67⟩
        refine ⟨⟨X ++ [c], U' ++ V', _, HXP, Lib.hid (HR.out.new HN.out), Lib.hid hG10, hcc10, I10, hb10⟩, ?_⟩
        rw [I10.left, hleft]
        simp [kvs]
      · have hmem : (Value.agg (stA c.after), v) ∈ (G1 ++ (c.after, v, l) :: G2).map grKv := List.mem_map.2 ⟨(c.after, v, l), by simp, rfl⟩
        obtain ⟨q, hme0, hst⟩ := HG6.out.map.entry_some (P := Try.prog) kysS Try.underlying105 hkeys hmem
        have hov : OwnCls ((w3.alloc (.cells CC 56)).alloc (.cells CC 56)) w.heap.size v l := HG6.out.own (c.after, v, l) (by simp)
        have hll : l = X.filter fun c' => decide (c'.after = c.after) := HR.out.list (c.after, v, l) (by simp)
        have hll2 : l.length ≤ 1000000 := by rw [hll]; exact Nat.le_trans (List.length_filter_le _ _) HXL.out
        obtain ⟨M, hM⟩ : ∃ M, l.length = M := ⟨_, rfl⟩
        obtain ⟨B1, c1, hve⟩ : ∃ B1 c1, v = .slice B1 M c1 := by
          rcases Joins.ownsRow_forms hov with ⟨h1, h2⟩ | ⟨g, cap, hv⟩
          · exact ⟨none, 0, by rw [h1]; congr 1; omega⟩
          · exact ⟨some ⟨g, 0, none⟩, cap, by rw [hv, hM]⟩
        subst hve
        have HOV := Lib.hid (show ((w3.alloc (.cells CC 56)).alloc (.cells CC 56)).ownsRow w.heap.size 56 20 (.slice B1 M c1) M (cls l) from by
          have := hov
          unfold OwnCls at this
          rw [hM] at this
          exact this)
        have hme : (Instr.mapEntry 105 (.map (some w.heap.size)) (.agg #[.int .i64 c.after.1, .int .i64 c.after.2])).run Try.prog ((w3.alloc (.cells CC 56)).alloc (.cells CC 56)) = .ok (.tuple #[.slice B1 M c1, .int .i64 q]) ((w3.alloc (.cells CC 56)).alloc (.cells CC 56)) := hme0
        clear hme0
        have HST := Lib.hid hst
        have HM := Lib.hid hM
        have HM2 := Lib.hid hll2
        have HNE := Lib.hid (hov.ne_map HG6.out.map)
        have HDD := Lib.hid hd
        have HK6 := Lib.hid (Blk.new1 w3 (.cells CC 56) 56 CC)
        clear hmem hst hov hll hll2 hM hd hkeys
        have hsz3 : w.heap.size ≤ w3.heap.size := HB3.out.size
        have hM6 : M ≤ 1000000 := by rw [← HM.out]; exact HM2.out
        go_wp2_with (first | (refine load_cl (c := c) rfl (x := .tmp 5) rfl rfl (by rw [HCC.out]; exact HK5.out) ?_; rw [HCC.out]) | (at_builtin; refine wpList_append_lies _ rfl _ _ 41 rfl w.heap.size 56 i0 _ 20 248 Try.underlying41 hi0 hz0 hz1 hz2 rfl (by omega) (.slice B1 M c1) M (cls l) rfl HOV.out ⟨w3.heap.size + 1, 0, none⟩ 1 1 (encC c) rfl rfl (by rw [HENC.out]; exact World.news_of_block HK6.out) HONE.out (by omega) (by unfold maxLen; omega) (by omega) (by simp; omega) (w3.heap.size + 2) (by simp) ?_; intro g9 cap9 w9 o9 gr9 l9 z9; obtain ⟨w10, hes, hM10, hg10⟩ := HST.out w9 (.slice (some ⟨g9, 0, none⟩) (M + 1) cap9) (gr9.block _ HG6.out.map.lt (fun e => HNE.out e.symm)); have HM10 := Lib.hid hM10; have HG10 := Lib.hid hg10; have HG9 := Lib.hid gr9; have HO9 := Lib.hid o9; have HL9 := Lib.hid l9; clear hM10 hg10 gr9 o9 l9))
        have hrb : ∀ k, (Value.slice B1 M c1).ownBlock = some k → w.heap.size ≤ k := fun k hk => ((OwnCls.lt (HG6.out.own (c.after, .slice B1 M c1, l) (by simp))) k hk).1
        have hni : (Value.slice B1 M c1).ownBlock ≠ some (w.heap.size + 1 + 1) := by
          have hI6 : IterV ((w3.alloc (.cells CC 56)).alloc (.cells CC 56)) b (w.heap.size + 1 + 1) (kvs L') (kvs (U' ++ V')) := HI2.out.of_blocks (HB6.out.block b HI2.out.map.lt) (HB6.out.block _ HI2.out.ltr)
          exact ne_iter (HG6.out.own (c.after, .slice B1 M c1, l) (by simp)) hI6
        have hcc6 := HCC3.out.below HB6.out HCC3.out.lt
        have hnb : (Value.slice B1 M c1).ownBlock ≠ some (w.heap.size + 1) := OwnCls.ne_blk (HG6.out.own (c.after, .slice B1 M c1, l) (by simp)) hcc6 (by decide)
        have hcc10 := (hcc6.grown HG9.out (fun e => hnb e.symm)).grown HG10.out (by intro e; injection e with e; omega)
        have hlt3 := HI2.out.map.lt
        have hlr3 := HI2.out.ltr
        have hs6 := HB6.out.size
        have hs9 := HG9.out.size
        have I10 : IterV w10 b (w.heap.size + 1 + 1) (kvs L') (kvs (U' ++ V')) := HI2.out.of_blocks
          ((HG10.out.block b (by omega) (by intro e; injection e with e; omega)).trans ((HG9.out.block b (by omega) (fun e => by have := hrb b e.symm; omega)).trans (HB6.out.block b hlt3)))
          ((HG10.out.block _ (by omega) (by intro e; injection e with e; omega)).trans ((HG9.out.block _ (by omega) (fun e => hni e.symm)).trans (HB6.out.block _ hlr3)))
        have hb10 : Below w.heap.size w w10 := ((HB3.out.trans (HB6.out.mono hsz3)).grown HG9.out (by omega) hrb).grown HG10.out (by omega) (fun y hy => by injection hy with hy; omega)
        have hG10 : GrAt w10 w.heap.size w.heap.size (G1 ++ (c.after, .slice (some ⟨g9, 0, none⟩) (M + 1) cap9, l ++ [c]) :: G2) := by
          refine HG6.out.set HG9.out (fun k hk e => HNE.out (by rw [hk, e])) (own_snoc HM.out HO9.out) ?_ ?_ HG10.out ?_ ?_
          · rcases HL9.out with e | e
            · exact .inl e.symm
            · exact .inr (.inr ⟨g9, rfl, by rw [e]; simp⟩)
          · have := HM10.out
            rw [gr_upd (l' := l ++ [c]) HDD.out] at this
            exact this
          · intro k hk e
            obtain rfl : g9 = k := by injection hk
            rcases HL9.out with e' | e'
            · exact HNE.out (by rw [e', e])
            · omega
          · intro g hgm k hk e
            subst e
            refine OwnCls.ne_map (HG6.out.own g ?_) HG6.out.map hk
            rcases List.mem_append.1 hgm with h1 | h1
            · exact List.mem_append_left _ h1
            · exact List.mem_append_right _ (List.mem_cons_of_mem _ h1)
        refine ⟨⟨X ++ [c], U' ++ V', _, HXP, Lib.hid (HR.out.more HDD.out), Lib.hid hG10, hcc10, I10, hb10⟩, ?_⟩
        rw [I10.left, hleft]
        simp [kvs]
end Go.Proofs.Ytaicbllfkehhjaa

/- Patches. -/
namespace Go.Proofs.Ytaicbllfkehhjaa
open Go.RowKit

theorem ptA_size (p : Pt) : (ptA p).size = 15 := rfl
def encP (p : Pt) : List Value := (ptA p).toList
theorem encP_len (p : Pt) : (encP p).length = 15 := rfl
theorem encP_one (p : Pt) : ∀ v ∈ encP p, v.oneCell' = true := by
  intro v hv
  simp only [encP, ptA, List.mem_cons, List.not_mem_nil, or_false] at hv
  rcases hv with rfl | rfl | rfl | rfl | rfl | rfl | rfl | rfl | rfl | rfl | rfl | rfl | rfl | rfl | rfl <;> rfl
def pts (l : List Pt) : List Value := l.flatMap encP
theorem pts_len (l : List Pt) : (pts l).length = l.length * 15 := flat_len encP_len l
theorem pts_snoc (l : List Pt) (p : Pt) : pts (l ++ [p]) = pts l ++ encP p := by unfold pts; simp
/-- A slice of patches of the call's own. -/
def OwnPts (w : World) (base : Nat) (v : Value) (l : List Pt) : Prop := w.ownsRow base 37 15 v l.length (pts l)
def live (L : List Cl) : List Pt := (L.filter fun c => !c.gone).map fun c => c.pt
theorem live_snoc (L : List Cl) (c : Cl) : live (L ++ [c]) = if c.gone then live L else live L ++ [c.pt] := by
  unfold live
  rw [List.filter_append]
  cases h : c.gone <;> simp [h]
/-- A clause's patch, loaded whole out of the clause's block. -/
theorem pt_load {W : World} {g : Nat} {c : Cl} (h : Blk W g 56 (clA c)) : (loadVar 37 ⟨g, 4, none⟩).run Try.prog W = .ok (.agg (ptA c.pt)) W := by
  have hl : (loadCells ⟨g, 4, none⟩ (ptA c.pt).toList.length).run Try.prog W = .ok (ptA c.pt).toList.toArray W :=
    run_loadCells_list (P := Try.prog) W ⟨g, 4, none⟩ (ptA c.pt).toList (fun j v hv => by
      have hj : j < 15 := by
        have := (List.getElem?_eq_some_iff.1 hv).1
        rwa [Array.length_toList, ptA_size] at this
      have hadd : (⟨g, 4, none⟩ : Addr).add j = ⟨g, 4 + j, none⟩ := by unfold Addr.add; split <;> simp_all
      rw [hadd, h.cell, ← hv]
      match j, hj with
      | 0, _ | 1, _ | 2, _ | 3, _ | 4, _ | 5, _ | 6, _ | 7, _ | 8, _ | 9, _ | 10, _ | 11, _ | 12, _ | 13, _ | 14, _ => rfl)
  rw [Array.length_toList, Array.toArray_toList, ptA_size] at hl
  have hagg : (isAgg 37).run Try.prog W = .ok true W := by
    unfold isAgg
    rw [Sem.run_bind, run_underlying Try.underlying37 W]
    rfl
  have hsz := Try.sizeOf37 W
  unfold loadVar
  rw [Sem.run_bind, hagg]
  simp only [Result.andThen_ok, if_true]
  rw [Sem.run_bind, hsz]
  simp only [Result.andThen_ok]
  rw [Sem.run_bind, hl]
  rfl
theorem load_pt {ops : Array Oper} {rest : List Oper} {o : Oper} {a : Act} {W : World} {Q : Exit → Act → World → Prop} (hgd : o.guard = none) {x : Operand} (ho : o.op = .load 37 x) {g : Nat} {c : Cl} (hx : a.eval x = .pointer (some ⟨g, 4, none⟩))
    (hb : Blk W g 56 (clA c)) (h : wpList Try.prog ops Q rest (a.put o.dst (.agg (ptA c.pt))) W) : wpList Try.prog ops Q (o :: rest) a W := by
  refine wpList_plain hgd fun _ hK => ?_
  unfold Oper.wp execOp
  simp only [ho, hx, Instr.loadAt, Instr.sureAddr, Sem.run_bind, Sem.run_pure, Result.andThen_ok, pt_load hb]
  exact hK _ _ h
def zpt : Pt := zcl.pt
theorem fold_pt (p : Pt) : Array.foldl (fun (cs : Array Value) (x : Value × Nat) => cs.setIfInBounds x.2 x.1) #[.int .i64 0, .string ⟨#[]⟩, .string ⟨#[]⟩, .string ⟨#[]⟩, .string ⟨#[]⟩, .int .i64 0, .string ⟨#[]⟩, .string ⟨#[]⟩, .string ⟨#[]⟩, .string ⟨#[]⟩, .string ⟨#[]⟩, .bool false, .int .i64 0, .string ⟨#[]⟩, .string ⟨#[]⟩] (ptA p).zipIdx 0 15 = ptA p := by kernel_rfl
theorem row_kind_ne {w : World} {B B' : Nat} {e e' : TypeId} {s s' n n' : Nat} {v v' : Value} {xs xs' : List Value} (h : w.ownsRow B e s v n xs) (h' : w.ownsRow B' e' s' v' n' xs') (hne : e ≠ e') : v.ownBlock = none ∨ v.ownBlock ≠ v'.ownBlock := by
  cases hv : v.ownBlock with
  | none => exact .inl rfl
  | some g =>
    right
    intro e
    obtain ⟨c, f, h1⟩ := Lib.ownsRow_kind h g hv
    obtain ⟨c', f', h2⟩ := Lib.ownsRow_kind h' g e.symm
    rw [h1] at h2
    injection h2 with h2
    injection h2 with _ h2
    exact hne h2
theorem live_take {S : List Cl} {k : Nat} {c : Cl} (h : S[k]? = some c) : live (S.take (k + 1)) = if c.gone then live (S.take k) else live (S.take k) ++ [c.pt] := by
  rw [List.take_add_one, h]
  exact live_snoc _ _
theorem pts_own {w : World} {base M : Nat} {v : Value} {l : List Pt} {p : Pt} (hM : l.length = M) (o : w.ownsRow base 37 15 v (M + 1) (pts l ++ encP p)) : OwnPts w base v (l ++ [p]) := by
  subst hM
  unfold OwnPts
  rw [List.length_append, pts_snoc]
  exact o
theorem Try.infoPt : (Try.prog.info? 37).map (fun i => (i.zero, i.size, i.bytes)) = some (some (.agg (ptA zpt)), 15, 208) := by kernel_rfl
end Go.Proofs.Ytaicbllfkehhjaa

/- Slices of clauses as a law reads them. -/
namespace Go.Proofs.Ytaicbllfkehhjaa
open Go.RowKit

/-- The cells of a slice of clauses, in blocks below B. -/
def ClsAt (w : World) (B : Nat) (A : Option Addr) (l : List Cl) : Prop :=
  ∀ (i : Nat) (c : Cl), l[i]? = some c → ∃ g off, A = some ⟨g, off, none⟩ ∧ g < B ∧ ∀ (k : Nat) (v : Value), (encC c)[k]? = some v → w.cell? ⟨g, off + i * 20 + k, none⟩ = some v
theorem ClsAt.below {w w' : World} {B : Nat} {A : Option Addr} {l : List Cl} (h : ClsAt w B A l) (hb : Below B w w') : ClsAt w' B A l := fun i c hi => by
  obtain ⟨g, off, h1, h2, h3⟩ := h i c hi
  exact ⟨g, off, h1, h2, fun k v hv => (hb.cell (p := ⟨g, off + i * 20 + k, none⟩) h2).trans (h3 k v hv)⟩
theorem ClsAt.wide {w : World} {B B' : Nat} {A : Option Addr} {l : List Cl} (h : ClsAt w B A l) (hB : B ≤ B') : ClsAt w B' A l := fun i c hi => by
  obtain ⟨g, off, h1, h2, h3⟩ := h i c hi
  exact ⟨g, off, h1, by omega, h3⟩
theorem ClsAt.nil (w : World) (B : Nat) (A : Option Addr) : ClsAt w B A [] := fun i c hi => by simp at hi
/-- A slice of the call's own is such a one. -/
theorem OwnCls.form {w : World} {base : Nat} {v : Value} {l : List Cl} (h : OwnCls w base v l) : ∃ A cap, v = .slice A l.length cap ∧ ClsAt w w.heap.size A l := by
  rcases h.2 with ⟨rfl, h0⟩ | ⟨g, cap, cur, rfl, hbase, hb, hn, hcap, hcs, htake⟩
  · have : l = [] := List.eq_nil_of_length_eq_zero h0
    subst this
    exact ⟨none, 0, rfl, ClsAt.nil _ _ _⟩
  · refine ⟨some ⟨g, 0, none⟩, cap, rfl, fun i c hi => ⟨g, 0, rfl, (h.lt g rfl).2, fun k v hv => ?_⟩⟩
    have hk : k < 20 := by
      have := (List.getElem?_eq_some_iff.1 hv).1
      rwa [encC_len] at this
    have hil : i < l.length := (List.getElem?_eq_some_iff.1 hi).1
    unfold OwnCls at h
    rw [Nat.zero_add, h.cellAt (i * 20 + k) (by omega)]
    exact (flat_at encC_len hi hk).trans hv
theorem at_load {W : World} {B : Nat} {A : Option Addr} {l : List Cl} (h : ClsAt W B A l) {i : Nat} {c : Cl} (hi : l[i]? = some c) {g off : Nat} (hA : A = some ⟨g, off, none⟩) :
    (loadVar 56 ⟨g, off + i * 20, none⟩).run Try.prog W = .ok (.agg (clA c)) W := by
  obtain ⟨g', off', h1, _, h3⟩ := h i c hi
  rw [hA] at h1
  obtain ⟨rfl, rfl⟩ : g = g' ∧ off = off' := by
    have h4 := Option.some.inj h1
    exact ⟨congrArg Addr.block h4, congrArg Addr.off h4⟩
  have hl : (loadCells ⟨g, off + i * 20, none⟩ (clA c).toList.length).run Try.prog W = .ok (clA c).toList.toArray W :=
    run_loadCells_list (P := Try.prog) W ⟨g, off + i * 20, none⟩ (clA c).toList (fun j v hv => by
      have hadd : (⟨g, off + i * 20, none⟩ : Addr).add j = ⟨g, off + i * 20 + j, none⟩ := by unfold Addr.add; split <;> simp_all
      rw [hadd]
      exact h3 j v hv)
  rw [Array.length_toList, Array.toArray_toList, clA_size] at hl
  have hagg : (isAgg 56).run Try.prog W = .ok true W := by
    unfold isAgg
    rw [Sem.run_bind, run_underlying Try.underlying56 W]
    rfl
  have hsz := Try.sizeOf56 W
  unfold loadVar
  rw [Sem.run_bind, hagg]
  simp only [Result.andThen_ok, if_true]
  rw [Sem.run_bind, hsz]
  simp only [Result.andThen_ok]
  rw [Sem.run_bind, hl]
  rfl
theorem load_at {ops : Array Oper} {rest : List Oper} {o : Oper} {a : Act} {W : World} {Q : Exit → Act → World → Prop} (hgd : o.guard = none) {x : Operand} (ho : o.op = .load 56 x) {B g off i : Nat} {A : Option Addr} {l : List Cl} (hx : a.eval x = .pointer (some ⟨g, off + i * 20, none⟩))
    (hr : ClsAt W B A l) (hA : A = some ⟨g, off, none⟩) {c : Cl} (hi : l[i]? = some c) (h : wpList Try.prog ops Q rest (a.put o.dst (.agg (clA c))) W) : wpList Try.prog ops Q (o :: rest) a W := by
  refine wpList_plain hgd fun _ hK => ?_
  unfold Oper.wp execOp
  simp only [ho, hx, Instr.loadAt, Instr.sureAddr, Sem.run_bind, Sem.run_pure, Result.andThen_ok, at_load hr hi hA]
  exact hK _ _ h
/-- A page that has been given clauses one after the other. -/
def pageS (l : List Cl) : List Cl := l.foldl (fun a c => (putS a c).1) []
theorem pageS_snoc (l : List Cl) (c : Cl) : pageS (l ++ [c]) = (putS (pageS l) c).1 := by unfold pageS; rw [List.foldl_append]; rfl
end Go.Proofs.Ytaicbllfkehhjaa

/- page: a page that is given clauses. -/
namespace Go.Proofs.Ytaicbllfkehhjaa
open Go.RowKit

theorem putS_len (L : List Cl) (c : Cl) : (putS L c).1.length ≤ L.length + 1 := by
  unfold putS setC
  repeat' split
  all_goals simp
theorem page_fold : ∀ (l L : List Cl), Pg L → Pg (l.foldl (fun a c => (putS a c).1) L) ∧ (l.foldl (fun a c => (putS a c).1) L).length ≤ L.length + l.length
  | [], L, h => ⟨h, Nat.le_refl _⟩
  | c :: l, L, h => by
    obtain ⟨h1, h2⟩ := page_fold l _ (h.put c)
    have := putS_len L c
    exact ⟨h1, by rw [List.length_cons]; show (l.foldl _ (putS L c).1).length ≤ _; omega⟩
theorem page_pg (l : List Cl) : Pg (pageS l) := (page_fold l [] Pg.nil).1
theorem page_len (l : List Cl) : (pageS l).length ≤ l.length := by unfold pageS; have := (page_fold l [] Pg.nil).2; simpa using this
theorem pageS_take {l : List Cl} {k : Nat} {c : Cl} (h : l[k]? = some c) : pageS (l.take (k + 1)) = (putS (pageS (l.take k)) c).1 := by
  rw [List.take_add_one, h]
  exact pageS_snoc _ _
end Go.Proofs.Ytaicbllfkehhjaa

/- stamp; few. -/
namespace Go.Proofs.Ytaicbllfkehhjaa
open Go.RowKit

def slV (x : Option Addr × Nat × Nat) : Value := .slice x.1 x.2.1 x.2.2
def fewS (vs : List (Option Addr × Nat × Nat)) : Bool := vs.all fun x => decide (x.2.1 ≤ 80)
theorem few_stop {vs : List (Option Addr × Nat × Nat)} {k : Nat} {x : Option Addr × Nat × Nat} (h : vs[k]? = some x) (hx : 80 < x.2.1) : fewS vs = false := by
  unfold fewS
  rw [List.all_eq_false]
  exact ⟨x, List.mem_of_getElem? h, by simp; omega⟩
theorem few_end {vs : List (Option Addr × Nat × Nat)} (h : ∀ j x, j < vs.length → vs[j]? = some x → x.2.1 ≤ 80) : fewS vs = true := by
  unfold fewS
  rw [List.all_eq_true]
  intro x hx
  obtain ⟨j, hj⟩ := List.getElem?_of_mem hx
  simpa using h j x (List.getElem?_eq_some_iff.1 hj).1 hj
end Go.Proofs.Ytaicbllfkehhjaa

/- The reference: Stamp. -/
namespace Go.Proofs.Ytaicbllfkehhjaa
open Go.RowKit

set_option maxRecDepth 100000 in
set_option maxHeartbeats 4000000 in
theorem rStamp_any (w : World) (s : St2) : Calls Try.prog 66 #[.agg (stA s)] w fun e w' => e = .returned (.bool (properT s)) ∧ Below w.heap.size w w' := by
  obtain ⟨x, y⟩ := s
  obtain ⟨R, hR⟩ : ∃ r, properT (x, y) = r := ⟨_, rfl⟩
  rw [hR]
  unfold properT at hR
  simp only at hR
  have HR := Lib.hid hR
  clear hR
  have hb := (Below.refl w.heap.size w).alloc (Nat.le_refl _) (.cells (stA (x, y)) 33)
  have kb := Blk.new w 33 (stA (x, y))
  have c0 : (w.alloc (.cells (stA (x, y)) 33)).cell? ⟨w.heap.size, 0, none⟩ = some (.int .i64 x) := kb.cell 0
  have c1 : (w.alloc (.cells (stA (x, y)) 33)).cell? ⟨w.heap.size, 1, none⟩ = some (.int .i64 y) := kb.cell 1
  clear kb
  generalize hA : stA (x, y) = A at *
  have e1 : (x ≥ 0) = (0 ≤ x) := rfl
  by_cases h1 : 0 ≤ x
  · by_cases h2 : x < 200
    · by_cases h3 : 1 ≤ y
      · by_cases h4 : y ≤ 1000000
        · have := HR.out
          simp [h1, h2, h3, h4] at this
          subst this
          clear HR
          go_enter Try.func66, Try.ntmps66
          go_wp2
          go_ret
          exact ⟨rfl, hb⟩
        · have := HR.out
          simp [h1, h2, h3, h4] at this
          subst this
          clear HR
          go_enter Try.func66, Try.ntmps66
          go_wp2
          go_ret
          exact ⟨rfl, hb⟩
      · have := HR.out
        simp [h1, h2, h3] at this
        subst this
        clear HR
        go_enter Try.func66, Try.ntmps66
        go_wp2
        go_ret
        exact ⟨rfl, hb⟩
    · have := HR.out
      simp [h1, h2] at this
      subst this
      clear HR
      go_enter Try.func66, Try.ntmps66
      go_wp2
      go_ret
      exact ⟨rfl, hb⟩
  · have := HR.out
    simp [h1] at this
    subst this
    clear HR
    go_enter Try.func66, Try.ntmps66
    go_wp2
    go_ret
    exact ⟨rfl, hb⟩
set_option maxRecDepth 100000 in
set_option maxHeartbeats 8000000 in
theorem rProper_any (w : World) (c : Cl) : Calls Try.prog 51 #[.agg (clA c)] w fun e w' => e = .returned (.bool (properC c)) ∧ Below w.heap.size w w' := by
  have hb := (Below.refl w.heap.size w).alloc (Nat.le_refl _) (.cells (clA c) 56)
  have kb := Blk.new w 56 (clA c)
  have hez : ∀ W : World, (Op.equalIn 10000 33 (.agg #[.int .i64 c.after.1, .int .i64 c.after.2]) (.agg #[.int .i64 0, .int .i64 0])).run Try.prog W = .ok (decide (c.after = z2)) W := eq_st c.after z2
  have hpa : ∀ W : World, Calls Try.prog 66 #[.agg #[.int .i64 c.after.1, .int .i64 c.after.2]] W fun e w' => e = .returned (.bool (properT c.after)) ∧ Below W.heap.size W w' := fun W => rStamp_any W c.after
  have hpi : ∀ W : World, Calls Try.prog 66 #[.agg #[.int .i64 c.id.1, .int .i64 c.id.2]] W fun e w' => e = .returned (.bool (properT c.id)) ∧ Below W.heap.size W w' := fun W => rStamp_any W c.id
  unfold properC
  obtain ⟨b1, h1⟩ : ∃ b, decide (c.after = z2) = b := ⟨_, rfl⟩
  obtain ⟨b2, h2⟩ : ∃ b, properT c.after = b := ⟨_, rfl⟩
  obtain ⟨b3, h3⟩ : ∃ b, decide (c.after.2 < c.id.2) = b := ⟨_, rfl⟩
  obtain ⟨b4, h4⟩ : ∃ b, properT c.id = b := ⟨_, rfl⟩
  rw [h1] at hez
  rw [h2] at hpa
  rw [h4] at hpi
  rw [h1, h2, h3, h4]
  obtain ⟨k0, k1, k2, k3, -⟩ := cl_cells kb
  have KB := Lib.hid kb
  have PA := Lib.hid hpa
  have PI := Lib.hid hpi
  obtain ⟨CC, hCC⟩ : ∃ x, clA c = x := ⟨_, rfl⟩
  rw [hCC] at KB hb k0 k1 k2 k3 ⊢
  have HCC := Lib.hid hCC
  clear h1 h2 h4 kb hpa hpi hCC
  go_enter Try.func51, Try.ntmps51
  go_wp2_with fail
  refine (PI.out _).mono ?_
  rintro e w1 ⟨rfl, q1⟩
  have hb1 := hb.trans (q1.mono hb.size)
  obtain ⟨m0, m1, m2, m3, -⟩ := cl_cells (c := c) (by rw [HCC.out]; exact KB.out.below q1 KB.out.lt)
  have KB1 := Lib.hid (KB.out.below q1 KB.out.lt)
  clear PI q1 hb KB k0 k1 k2 k3
  cases b4 with
  | false =>
    go_wp2
    go_ret
    exact ⟨by cases b1 <;> cases b2 <;> cases b3 <;> rfl, hb1⟩
  | true =>
    cases b1 with
    | true =>
      go_wp2
      go_ret
      exact ⟨by cases b2 <;> cases b3 <;> rfl, hb1⟩
    | false =>
      go_wp2_with fail
      refine (PA.out _).mono ?_
      rintro e w2 ⟨rfl, q2⟩
      have hb2 := hb1.trans (q2.mono hb1.size)
      obtain ⟨n0, n1, n2, n3, -⟩ := cl_cells (c := c) (by rw [HCC.out]; exact KB1.out.below q2 KB1.out.lt)
      clear PA q2 hb1 KB1 m0 m1 m2 m3
      cases b2 with
      | false =>
        go_wp2
        go_ret
        exact ⟨by cases b3 <;> rfl, hb2⟩
      | true =>
        cases b3 <;> (go_wp2; go_ret; exact ⟨rfl, hb2⟩)
end Go.Proofs.Ytaicbllfkehhjaa

/- The reference: Open, Find. -/
namespace Go.Proofs.Ytaicbllfkehhjaa
open Go.RowKit

theorem ClsAt.at_ {w : World} {B : Nat} {A : Option Addr} {l : List Cl} (h : ClsAt w B A l) {i : Nat} {c : Cl} (hi : l[i]? = some c) {g off : Nat} (hA : A = some ⟨g, off, none⟩) :
    w.cell? ⟨g, off + i * 20, none⟩ = some (.int .i64 c.id.1) ∧ w.cell? ⟨g, off + i * 20 + 1, none⟩ = some (.int .i64 c.id.2) ∧ w.cell? ⟨g, off + i * 20 + 2, none⟩ = some (.int .i64 c.after.1) ∧ w.cell? ⟨g, off + i * 20 + 3, none⟩ = some (.int .i64 c.after.2) ∧ w.cell? ⟨g, off + i * 20 + 19, none⟩ = some (.bool c.gone) := by
  obtain ⟨g', off', h1, _, h3⟩ := h i c hi
  rw [hA] at h1
  obtain ⟨rfl, rfl⟩ : g = g' ∧ off = off' := by
    have h4 := Option.some.inj h1
    exact ⟨congrArg Addr.block h4, congrArg Addr.off h4⟩
  exact ⟨h3 0 _ rfl, h3 1 _ rfl, h3 2 _ rfl, h3 3 _ rfl, h3 19 _ rfl⟩
theorem openN_take {l : List Cl} {k : Nat} {c : Cl} (h : l[k]? = some c) : openN (l.take (k + 1)) = openN (l.take k) + (if c.gone then 0 else 1) := by
  rw [List.take_add_one, h]
  unfold openN
  rw [List.countP_append]
  cases hg : c.gone <;> simp [hg]
theorem below_drewN {B : Nat} {a w : World} (h : Below B a w) (n : Nat) : Below B a (w.drewN n) := ⟨h.os, h.tape, h.output, h.size, h.block⟩
set_option maxRecDepth 100000 in
set_option maxHeartbeats 4000000 in
theorem rOpen_any (w : World) (B : Nat) (A : Option Addr) (cap : Nat) (l : List Cl) (h : ClsAt w B A l) (hl : l.length ≤ 1000000) :
    Calls Try.prog 53 #[.slice A l.length cap] w fun e w' => e = .returned (.int .i64 (openN l : Nat)) ∧ w' = w := by
  have HH := Lib.hid h
  obtain ⟨N, hN⟩ : ∃ N, l.length = N := ⟨_, rfl⟩
  rw [hN] at hl ⊢
  have HN := Lib.hid hN
  clear h hN
  go_enter Try.func53, Try.ntmps53
  go_wp2_with fail
  go_loopw [3, 4] (fun n i wr => wr = w ∧ ∃ k m : Nat, k ≤ N ∧ m ≤ k ∧ i = .int .i64 (k : Int) ∧ n = .int .i64 (m : Int) ∧ Hid (openN (l.take k) = m)) (fun _ i _ => N - (intOf i).toNat)
  case atStart => exact ⟨rfl, 0, 0, Nat.zero_le _, Nat.le_refl _, rfl, rfl, Lib.hid rfl⟩
  case round =>
    obtain ⟨rfl, k, m, hk, hm, rfl, rfl, HM⟩ := hrel
    by_cases hkN : k < N
    · obtain ⟨c, hc⟩ : ∃ c, l[k]? = some c := ⟨_, List.getElem?_eq_getElem (by rw [HN.out]; exact hkN)⟩
      obtain ⟨g, off, rfl, -, -⟩ := HH.out k c hc
      have e1 : decide ((k : Int) < (N : Int)) = true := decide_eq_true (by omega)
      obtain ⟨-, -, -, -, c19⟩ := HH.out.at_ hc rfl
      have hot := openN_take hc
      have HKN := Lib.hid hkN
      have HML := Lib.hid hm
      clear hc hkN
      cases hgo : c.gone with
      | true =>
        rw [hgo] at c19 hot
        have HM2 := Lib.hid (show openN (l.take (k + 1)) = m by rw [hot, HM.out]; rfl)
        clear hot HM hgo
        go_wp2_with fail
        refine ⟨⟨trivial, k + 1, m, HKN.out, Nat.le_succ_of_le HML.out, by go_num, rfl, HM2⟩, ?_⟩
        have := HKN.out
        simp [intOf]
        omega
      | false =>
        rw [hgo] at c19 hot
        have HM2 := Lib.hid (show openN (l.take (k + 1)) = m + 1 by rw [hot, HM.out]; rfl)
        clear hot HM hgo
        go_wp2_with fail
        refine ⟨⟨trivial, k + 1, m + 1, HKN.out, Nat.succ_le_succ HML.out, by go_num, by go_num, HM2⟩, ?_⟩
        have := HKN.out
        simp [intOf]
        omega
    · obtain rfl : k = N := by omega
      have hR : openN l = m := by
        have := HM.out
        rwa [← HN.out, List.take_length] at this
      have HR := Lib.hid hR
      clear HM hR
      go_wp2
      go_ret
      exact ⟨by rw [HR.out]; rfl, rfl⟩

def findS (l : List Cl) (t : St2) : Int := match l.findIdx? fun c => decide (c.id = t) with | some k => (k : Int) | none => -1
theorem find_at {l : List Cl} {t : St2} {k : Nat} {c : Cl} (h : ∀ j d, j < k → l[j]? = some d → d.id ≠ t) (hk : l[k]? = some c) (hc : c.id = t) : findS l t = (k : Int) := by
  have : l.findIdx? (fun c => decide (c.id = t)) = some k := by
    rw [List.findIdx?_eq_some_iff_getElem]
    obtain ⟨hlt, he⟩ := List.getElem?_eq_some_iff.1 hk
    exact ⟨hlt, by rw [he]; simpa using hc, fun j hj => by simpa using h j _ hj (List.getElem?_eq_getElem (by omega))⟩
  unfold findS
  rw [this]
theorem find_no {l : List Cl} {t : St2} (h : ∀ j d, j < l.length → l[j]? = some d → d.id ≠ t) : findS l t = -1 := by
  have : l.findIdx? (fun c => decide (c.id = t)) = none := by
    rw [List.findIdx?_eq_none_iff]
    intro c hc
    obtain ⟨j, hj⟩ := List.getElem?_of_mem hc
    simpa using h j c (List.getElem?_eq_some_iff.1 hj).1 hj
  unfold findS
  rw [this]
set_option maxRecDepth 100000 in
set_option maxHeartbeats 4000000 in
theorem rFind_any (w : World) (B : Nat) (A : Option Addr) (cap : Nat) (l : List Cl) (h : ClsAt w B A l) (hB : B ≤ w.heap.size) (hl : l.length ≤ 1000000) (t : St2) :
    Calls Try.prog 26 #[.slice A l.length cap, .agg (stA t)] w fun e w' => e = .returned (.int .i64 (findS l t)) ∧ Below w.heap.size w w' := by
  have hb := (Below.refl w.heap.size w).alloc (Nat.le_refl _) (.cells (stA t) 33)
  have kb := Blk.new w 33 (stA t)
  have HH := Lib.hid ((h.wide hB).below hb)
  have s0 : (w.alloc (.cells (stA t) 33)).cell? ⟨w.heap.size, 0, none⟩ = some (.int .i64 t.1) := kb.cell 0
  have s1 : (w.alloc (.cells (stA t) 33)).cell? ⟨w.heap.size, 1, none⟩ = some (.int .i64 t.2) := kb.cell 1
  obtain ⟨N, hN⟩ : ∃ N, l.length = N := ⟨_, rfl⟩
  obtain ⟨R, hR⟩ : ∃ R, findS l t = R := ⟨_, rfl⟩
  rw [hN] at hl ⊢
  rw [hR]
  have HN := Lib.hid hN
  have HR := Lib.hid hR
  have HB := Lib.hid hb
  clear h hN hR kb hb
  obtain ⟨ST, hST⟩ : ∃ x, stA t = x := ⟨_, rfl⟩
  rw [hST] at HH HB s0 s1 ⊢
  clear hST
  go_enter Try.func26, Try.ntmps26
  go_wp2_with fail
  generalize w.alloc (.cells ST 33) = W at *
  go_loopw [5] (fun i wr => ∃ k q0 : Nat, wr = W.drewN q0 ∧ k ≤ N ∧ i = .int .i64 (k : Int) ∧ Hid (∀ j d, j < k → l[j]? = some d → d.id ≠ t)) (fun i _ => N - (intOf i).toNat)
  case atStart => exact ⟨0, 0, rfl, Nat.zero_le _, rfl, Lib.hid fun j x hj => by omega⟩
  case round =>
    obtain ⟨k, q0, rfl, hk, rfl, HK⟩ := hrel
    by_cases hkN : k < N
    · obtain ⟨c, hc⟩ : ∃ c, l[k]? = some c := ⟨_, List.getElem?_eq_getElem (by rw [HN.out]; exact hkN)⟩
      obtain ⟨g, off, rfl, -, -⟩ := HH.out k c hc
      have e1 : decide ((k : Int) < (N : Int)) = true := decide_eq_true (by omega)
      obtain ⟨d0, d1, -, -, -⟩ := HH.out.at_ hc rfl
      have hez : ∀ W : World, (Op.equalIn 10000 33 (.agg #[.int .i64 c.id.1, .int .i64 c.id.2]) (.agg #[.int .i64 t.1, .int .i64 t.2])).run Try.prog W = .ok (decide (c.id = t)) W := eq_st c.id t
      have HKN := Lib.hid hkN
      have HC := Lib.hid hc
      clear hc hkN
      by_cases he : c.id = t
      · rw [decide_eq_true he] at hez
        obtain rfl : R = (k : Int) := by rw [← HR.out]; exact find_at HK.out HC.out he
        clear he HK HR
        go_wp2_with fail
        go_quiet (fail)
        go_wp2
        go_ret
        exact ⟨rfl, below_drewN (below_drewN HB.out q0) _⟩
      · rw [decide_eq_false he] at hez
        have HK2 := Lib.hid (show ∀ j d, j < k + 1 → l[j]? = some d → d.id ≠ t from fun j x hj hjx => by
          rcases Nat.lt_or_ge j k with h1 | h1
          · exact HK.out j x h1 hjx
          · obtain rfl : j = k := by omega
            rw [HC.out] at hjx
            injection hjx with hjx
            subst hjx
            exact he)
        clear he HK
        go_wp2_with fail
        go_quiet (fail)
        go_wp2_with fail
        refine ⟨⟨k + 1, _, rfl, HKN.out, by go_num, HK2⟩, ?_⟩
        have := HKN.out
        simp [intOf]
        omega
    · obtain rfl : k = N := by omega
      obtain rfl : R = -1 := by rw [← HR.out]; exact find_no fun j x hj => HK.out j x (by rw [← HN.out]; exact hj)
      clear HK HR
      go_wp2
      go_ret
      exact ⟨rfl, below_drewN HB.out _⟩
end Go.Proofs.Ytaicbllfkehhjaa

/- The laws of a page, in plain words. No program in sight. -/
namespace Go.Proofs.Ytaicbllfkehhjaa

/-! ### Orders -/
theorem openN_app (A B : List Cl) : openN (A ++ B) = openN A + openN B := by unfold openN; rw [List.countP_append]
theorem openN_one (c : Cl) : openN [c] = if c.gone then 0 else 1 := by
  cases h : c.gone <;> simp [openN, h]
theorem put_new {L : List Cl} {c : Cl} (hp : properC c = true) (hn : getC L c.id = none) (ha : c.after = z2 ∨ ∃ d ∈ L, d.id = c.after) (ho : openN (L ++ [c]) ≤ 64) : putS L c = (L ++ [c], 0) := by
  unfold putS
  rw [if_neg (by rw [hp]; simp), hn]
  simp only
  rw [if_neg, if_neg]
  · rintro ⟨h1, h2⟩
    rw [openN_app, openN_one, h1] at ho
    simp at ho
    omega
  · rintro ⟨h1, h2⟩
    rcases ha with ha | ⟨d, hd, hda⟩
    · exact h1 ha
    · exact getC_none.1 h2 d hd hda
theorem page_all : ∀ (Y X S : List Cl), S = X ++ Y → Pg S → (∀ A c B, S = A ++ c :: B → c.after = z2 ∨ ∃ d ∈ A, d.id = c.after) → Y.foldl (fun a c => (putS a c).1) X = S
  | [], X, S, h, _, _ => by rw [h]; simp
  | c :: Y, X, S, h, hS, hl => by
    have hc : c ∈ S := by rw [h]; simp
    have hn : getC X c.id = none := getC_none.2 fun d hd e => by
      have hu := hS.uq
      rw [h] at hu
      exact (List.pairwise_append.1 hu).2.2 d hd c List.mem_cons_self e
    have ho : openN (X ++ [c]) ≤ 64 := by
      have := hS.few
      rw [h, show X ++ c :: Y = (X ++ [c]) ++ Y by simp, openN_app] at this
      omega
    rw [List.foldl_cons, put_new (hS.proper c hc) hn (hl X c Y h) ho]
    exact page_all Y (X ++ [c]) S (by rw [h]; simp) hS hl
theorem before {S A B X Y : List Cl} {c d : Cl} (hS : S.Nodup) (h1 : S = X ++ c :: Y) (h2 : S = A ++ d :: B) (hc : c ∈ B) : d ∈ X := by
  have h := h1.symm.trans h2
  rcases List.append_eq_append_iff.1 h with ⟨a, ha, hb⟩ | ⟨a, ha, hb⟩
  · cases a with
    | nil =>
      simp at hb
      obtain ⟨rfl, rfl⟩ := hb
      rw [h2] at hS
      exact absurd hc (List.nodup_cons.1 (List.nodup_append.1 hS).2.1).1
    | cons x a =>
      simp at hb
      obtain ⟨rfl, hb⟩ := hb
      rw [h2] at hS
      have := (List.nodup_append.1 hS).2.2 c (by rw [ha]; simp) c (List.mem_cons_of_mem _ hc)
      exact absurd rfl this
  · cases a with
    | nil =>
      simp at hb
      obtain ⟨rfl, rfl⟩ := hb
      rw [h2] at hS
      exact absurd hc (List.nodup_cons.1 (List.nodup_append.1 hS).2.1).1
    | cons x a =>
      simp at hb
      obtain ⟨rfl, hb⟩ := hb
      rw [ha]
      simp
theorem page_walk {L : List Cl} (h : Pg L) : pageS (walkS L) = walkS L := by
  have hp := walk_perm h.tr
  refine page_all _ [] _ rfl (h.perm hp.symm) fun A c B hS => ?_
  have hc : c ∈ walkN (L.length + 1) L z2 := by show c ∈ walkS L; rw [hS]; simp
  rcases walk_below hc with h1 | ⟨A', d, B', h1, h2, h3⟩
  · exact .inl h1
  · exact .inr ⟨d, before (uq_nodup (walk_uq h.tr)) hS h1 h3, h2⟩
theorem walk_page {L : List Cl} (h : Pg L) : walkS (pageS (walkS L)) = walkS L := by
  rw [page_walk h]
  exact walkS_perm (walk_uq h.tr) (walk_perm h.tr)

/-! ### what Find finds -/
theorem find_cases {l : List Cl} (hu : Uq l) (t : St2) : (getC l t = none ∧ findS l t = -1) ∨ ∃ (k : Nat) (c : Cl), getC l t = some c ∧ l[k]? = some c ∧ findS l t = (k : Int) := by
  cases hg : getC l t with
  | none =>
    exact .inl ⟨rfl, find_no fun j d _ hd => getC_none.1 hg d (List.mem_of_getElem? hd)⟩
  | some c =>
    obtain ⟨hc, hid⟩ := getC_mem hg
    obtain ⟨k, hk⟩ := List.getElem?_of_mem hc
    refine .inr ⟨k, c, rfl, hk, find_at (fun j d hj hd e => ?_) hk hid⟩
    have hdc : d = c := uq_one hu (List.mem_of_getElem? hd) hc (e.trans hid.symm)
    subst hdc
    obtain ⟨h1, h2⟩ := List.getElem?_eq_some_iff.1 hk
    obtain ⟨h3, h4⟩ := List.getElem?_eq_some_iff.1 hd
    have := (List.pairwise_iff_getElem.1 (uq_nodup hu)) j k h3 h1 hj
    exact this (h4.trans h2.symm)
theorem find_split {A B : List Cl} {c : Cl} (hu : Uq (A ++ c :: B)) : findS (A ++ c :: B) c.id = (A.length : Int) := by
  refine find_at (fun j d hj hd e => ?_) (by simp) rfl
  rw [List.getElem?_append_left hj] at hd
  exact (List.pairwise_append.1 hu).2.2 d (List.mem_of_getElem? hd) c List.mem_cons_self e
theorem find_none {l : List Cl} {t : St2} (h : ∀ c ∈ l, c.id ≠ t) : findS l t = -1 := find_no fun _ d _ hd => h d (List.mem_of_getElem? hd)
theorem getC_walk {L : List Cl} (h : Pg L) (t : St2) : getC (walkS L) t = getC L t := getC_perm (walk_uq h.tr) (walk_perm h.tr) t

/-! ### Refuses -/
theorem join_err {L M : List Cl} (h : (joinS L M).2 ≠ 0) : (joinS L M).1 = L := by
  unfold joinS at *
  split
  · rfl
  · rename_i A hA
    rw [hA] at h
    split
    · rfl
    · rename_i hf
      simp only [if_neg hf] at h
      exact absurd rfl h
theorem put_err {L : List Cl} {c : Cl} (h : (putS L c).2 ≠ 0) : (putS L c).1 = L := by
  unfold putS at *
  split
  · rfl
  · rename_i hp
    rw [if_neg hp] at h
    split
    · rename_i old ho
      simp only [ho] at h
      split
      · rename_i hs
        rw [if_pos hs] at h
        exact absurd rfl h
      · rfl
    · rename_i ho
      simp only [ho] at h
      split
      · rfl
      · rename_i h1
        rw [if_neg h1] at h
        split
        · rfl
        · rename_i h2
          rw [if_neg h2] at h
          exact absurd rfl h
theorem put_arg (L : List Cl) (c : Cl) : ((putS L c).2 = 1 ↔ properC c = false) ∧ ((putS L c).2 = 9 ↔ properC c = true ∧ ∃ old, getC L c.id = some old ∧ sameC old c = false) := by
  unfold putS
  cases hp : properC c with
  | false => simp
  | true =>
    simp only [Bool.true_eq_false, if_false, iff_false, true_and]
    cases hg : getC L c.id with
    | some old => cases hs : sameC old c <;> simp [hs]
    | none =>
      simp only [reduceCtorEq, false_and, exists_false, iff_false]
      split
      · simp
      · split <;> simp

/-! ### Converges -/
theorem walk_join_eq {L M : List Cl} (h : Uq L) (p : L.Perm M) : walkS L = walkS M := walkS_perm h p
theorem join_zero {L M : List Cl} (h : (joinS L M).2 = 0) : ∃ A, addAll L M = some A ∧ (joinS L M).1 = A ∧ openN A ≤ 64 := by
  unfold joinS at *
  cases hA : addAll L M with
  | none => rw [hA] at h; simp at h
  | some A =>
    rw [hA] at h
    simp only at h ⊢
    by_cases hf : 64 < openN A
    · rw [if_pos hf] at h; simp at h
    · rw [if_neg hf]; exact ⟨A, rfl, rfl, Nat.le_of_not_lt hf⟩
theorem add_comm {L M A B : List Cl} (h : Uq L) (hm : Uq M) (hA : addAll L M = some A) (hB : addAll M L = some B) : A.Perm B := by
  obtain ⟨k1, k2⟩ := addAll_some h hm hA
  obtain ⟨k3, k4⟩ := addAll_some hm h hB
  exact perm_of_getC k1 k3 fun t => by rw [(k2 t).2, (k4 t).2]; exact mrgO_comm (k2 t).1
theorem add_both {L M : List Cl} (h : Uq L) (hm : Uq M) : addAll L M = none ↔ addAll M L = none := by
  rw [addAll_none h hm, addAll_none hm h]
  constructor <;> (rintro ⟨t, ht⟩; exact ⟨t, by rw [okO_comm]; exact ht⟩)
theorem join_both {L M : List Cl} (h : Uq L) (hm : Uq M) : (joinS L M).2 = (joinS M L).2 ∧ ((joinS L M).2 = 0 → (joinS L M).1.Perm (joinS M L).1) := by
  unfold joinS
  cases hA : addAll L M with
  | none =>
    rw [(add_both h hm).1 hA]
    exact ⟨rfl, fun h => by simp at h⟩
  | some A =>
    cases hB : addAll M L with
    | none => rw [(add_both h hm).2 hB] at hA; cases hA
    | some B =>
      have hp := add_comm h hm hA hB
      have ho := openN_perm hp
      simp only
      rw [ho]
      split
      · exact ⟨rfl, fun h => by simp at h⟩
      · exact ⟨rfl, fun _ => hp⟩
theorem okO_self (x : Option Cl) : okO x x = true := by
  cases x with
  | none => rfl
  | some a => exact sameC_iff.2 ⟨rfl, rfl, rfl⟩
theorem mrgO_self (x : Option Cl) : mrgO x x = x := by
  cases x with
  | none => rfl
  | some a =>
    show some (mrgC a a) = some a
    congr 1
    exact Cl.ext' rfl rfl rfl (Bool.or_self _)
theorem join_self {L : List Cl} (h : Pg L) : (joinS L L).2 = 0 ∧ (joinS L L).1.Perm L := by
  unfold joinS
  cases hA : addAll L L with
  | none =>
    obtain ⟨t, ht⟩ := (addAll_none h.uq h.uq).1 hA
    rw [okO_self] at ht
    cases ht
  | some A =>
    obtain ⟨k1, k2⟩ := addAll_some h.uq h.uq hA
    have hp : A.Perm L := perm_of_getC k1 h.uq fun t => by rw [(k2 t).2, mrgO_self]
    simp only
    rw [openN_perm hp, if_neg (Nat.not_lt.2 h.few)]
    exact ⟨rfl, hp⟩
theorem mrg_three {x y z : Option Cl} (h1 : okO x y = true) (h2 : okO z y = true) (h3 : okO (mrgO x y) z = true) (h4 : okO (mrgO z y) x = true) : mrgO (mrgO x y) z = mrgO (mrgO z y) x := by
  cases x with
  | none =>
    cases y with
    | none => cases z <;> rfl
    | some b =>
      cases z with
      | none => rfl
      | some c => exact mrgO_comm (x := some b) (y := some c) h3
  | some a =>
    cases y with
    | none =>
      cases z with
      | none => rfl
      | some c => exact mrgO_comm (x := some a) (y := some c) h3
    | some b =>
      cases z with
      | none => exact mrgO_comm (x := some a) (y := some b) h1
      | some c =>
        obtain ⟨a1, a2, a3⟩ := sameC_iff.1 h1
        obtain ⟨b1, b2, b3⟩ := sameC_iff.1 h2
        show some (mrgC (mrgC a b) c) = some (mrgC (mrgC c b) a)
        congr 1
        refine Cl.ext' (a1.trans b1.symm) (a2.trans b2.symm) (a3.trans b3.symm) ?_
        show (a.gone || b.gone || c.gone) = (c.gone || b.gone || a.gone)
        cases a.gone <;> cases b.gone <;> cases c.gone <;> rfl
theorem join_three {L M N : List Cl} (hl : Pg L) (hm : Pg M) (hn : Pg N) (h1 : (joinS L M).2 = 0) (h2 : (joinS N M).2 = 0) (h3 : (joinS (joinS L M).1 N).2 = 0) (h4 : (joinS (joinS N M).1 L).2 = 0) :
    (joinS (joinS L M).1 N).1.Perm (joinS (joinS N M).1 L).1 := by
  obtain ⟨A, a1, a2, -⟩ := join_zero h1
  obtain ⟨B, b1, b2, -⟩ := join_zero h2
  rw [a2] at h3 ⊢
  rw [b2] at h4 ⊢
  obtain ⟨C, c1, c2, -⟩ := join_zero h3
  obtain ⟨D, d1, d2, -⟩ := join_zero h4
  rw [c2, d2]
  obtain ⟨uA, gA⟩ := addAll_some hl.uq hm.uq a1
  obtain ⟨uB, gB⟩ := addAll_some hn.uq hm.uq b1
  obtain ⟨uC, gC⟩ := addAll_some uA hn.uq c1
  obtain ⟨uD, gD⟩ := addAll_some uB hl.uq d1
  refine perm_of_getC uC uD fun t => ?_
  have e1 := gC t
  have e2 := gD t
  rw [(gA t).2] at e1
  rw [(gB t).2] at e2
  rw [e1.2, e2.2]
  exact mrg_three (gA t).1 (gB t).1 e1.1 e2.1

/-! ### Gone -/
theorem drop_find {L : List Cl} (h : Pg L) (t : St2) : ((dropS L t).2 = 0 ↔ 0 ≤ findS (walkS L) t) := by
  unfold dropS
  rcases find_cases (walk_uq h.tr) t with ⟨h1, h2⟩ | ⟨k, c, h1, h2, h3⟩
  · rw [getC_walk h] at h1
    rw [h1, h2]
    simp
  · rw [getC_walk h] at h1
    rw [h1, h3]
    simp
def goneC (c : Cl) : Cl := { c with gone := true }
theorem drop_list {L : List Cl} (h : Pg L) {t : St2} {k : Nat} {x : Cl} (hk : (walkS L)[k]? = some x) (hx : x.id = t) :
    walkS (dropS L t).1 = (walkS L).set k (goneC x) ∧ putS (dropS L t).1 x = ((dropS L t).1, 0) := by
  have hxL : x ∈ L := (walk_perm h.tr).mem_iff.1 (List.mem_of_getElem? hk)
  have hg : getC L t = some x := by rw [← hx]; exact getC_of h.uq hxL
  have hd : (dropS L t).1 = setC L (goneC x) := by unfold dropS; rw [hg]; rfl
  rw [hd]
  refine ⟨?_, ?_⟩
  · unfold setC
    rw [walkS_map (fun y => repC_id _ y) fun y hy => ?_]
    · apply List.ext_getElem?
      intro i
      rw [List.getElem?_map, List.getElem?_set]
      by_cases hi : k = i
      · subst hi
        rw [if_pos rfl, if_pos (List.getElem?_eq_some_iff.1 hk).1, hk]
        show some (repC (goneC x) x) = _
        unfold repC
        rw [if_pos (show x.id = (goneC x).id from rfl)]
      · rw [if_neg hi]
        cases hy : (walkS L)[i]? with
        | none => rfl
        | some y =>
          show some (repC (goneC x) y) = some y
          unfold repC
          rw [if_neg]
          intro e
          obtain ⟨h1, h2⟩ := List.getElem?_eq_some_iff.1 hk
          obtain ⟨h3, h4⟩ := List.getElem?_eq_some_iff.1 hy
          have hyx : y = x := uq_one (walk_uq h.tr) (List.mem_of_getElem? hy) (List.mem_of_getElem? hk) e
          have hnd := uq_nodup (walk_uq h.tr)
          have h5 := (List.pairwise_iff_getElem.1 hnd)
          rcases Nat.lt_or_gt_of_ne hi with hlt | hgt
          · exact h5 k i h1 h3 hlt (by rw [h2, h4, hyx])
          · exact h5 i k h3 h1 hgt (by rw [h2, h4, hyx])
    · unfold repC
      split
      · rename_i e
        have : y = x := uq_one h.uq hy hxL e
        rw [this]
        rfl
      · rfl
  · have hp := h.proper x hxL
    have hg2 : getC (setC L (goneC x)) x.id = some (goneC x) := by
      rw [getC_set, if_pos (show x.id = (goneC x).id from rfl), hx, hg]
      rfl
    unfold putS
    rw [if_neg (by rw [hp]; simp), hg2]
    simp only
    rw [if_pos (show sameC (goneC x) x = true from sameC_iff.2 ⟨rfl, rfl, rfl⟩)]
    congr 1
    show setC (setC L (goneC x)) (goneC x) = _
    unfold setC
    rw [List.map_map]
    apply List.map_congr_left
    intro y _
    show repC (goneC x) (repC (goneC x) y) = repC (goneC x) y
    by_cases hy : y.id = (goneC x).id
    · have : repC (goneC x) y = goneC x := by unfold repC; rw [if_pos hy]
      rw [this]
      unfold repC
      rw [if_pos rfl]
    · have : repC (goneC x) y = y := by unfold repC; rw [if_neg hy]
      rw [this, this]

/-! ### Stable -/
theorem put_zero_new {L : List Cl} {x : Cl} (hn : getC L x.id = none) (h : (putS L x).2 = 0) : (putS L x).1 = L ++ [x] ∧ properC x = true ∧ (x.after = z2 ∨ ∃ d ∈ L, d.id = x.after) := by
  unfold putS at *
  by_cases hp : properC x = false
  · rw [if_pos hp] at h; simp at h
  · rw [if_neg hp] at h ⊢
    rw [hn] at h ⊢
    simp only at h ⊢
    by_cases h1 : x.after ≠ z2 ∧ getC L x.after = none
    · rw [if_pos h1] at h; simp at h
    · rw [if_neg h1] at h ⊢
      by_cases h2 : x.gone = false ∧ 64 ≤ openN L
      · rw [if_pos h2] at h; simp at h
      · rw [if_neg h2]
        refine ⟨rfl, by simpa using hp, ?_⟩
        by_cases hz : x.after = z2
        · exact .inl hz
        · right
          cases hg : getC L x.after with
          | none => exact absurd ⟨hz, hg⟩ h1
          | some d => exact ⟨d, (getC_mem hg).1, (getC_mem hg).2⟩
theorem new_leaf {L : List Cl} (h : Pg L) {x : Cl} (hn : getC L x.id = none) (h' : Pg (L ++ [x])) : Leaf (L ++ [x]) L x where
  tr := h'.tr
  perm := by
    have := List.perm_append_comm (l₁ := L) (l₂ := [x])
    exact this
  leaf := fun c hc e => by
    rcases h.link c hc with h0 | ⟨d, hd, hde⟩
    · have := (h'.tr).pos x (by simp)
      rw [← e, h0] at this
      exact absurd this (by decide)
    · exact getC_none.1 hn d hd (hde.trans e)
theorem stable_law {L : List Cl} (h : Pg L) {x : Cl} (hn : findS (walkS L) x.id < 0) (h0 : (putS L x).2 = 0) :
    ∃ k : Nat, findS (walkS (putS L x).1) x.id = (k : Int) ∧ (walkS (putS L x).1)[k]? = some x ∧ (walkS (putS L x).1).length = (walkS L).length + 1 ∧
      (walkS (putS L x).1).take k ++ (walkS (putS L x).1).drop (k + 1) = walkS L ∧ findS (walkS (putS L x).1) x.after < (k : Int) ∧
      (x.after ≠ z2 → 0 ≤ findS (walkS (putS L x).1) x.after) ∧ ((∀ c ∈ walkS L, c.id.2 < x.id.2) → (k : Int) = findS (walkS (putS L x).1) x.after + 1) := by
  have hgn : getC L x.id = none := by
    rcases find_cases (walk_uq h.tr) x.id with ⟨h1, h2⟩ | ⟨k, c, h1, h2, h3⟩
    · rwa [getC_walk h] at h1
    · rw [h3] at hn; omega
  have h' := h.put x
  obtain ⟨e1, hp, hlink⟩ := put_zero_new hgn h0
  rw [e1] at h' ⊢
  have hlf := new_leaf h hgn h'
  obtain ⟨w1, w2⟩ := walk_leaf hlf h.tr (walk_perm h.tr)
  have hperm := walk_perm h'.tr
  have hu := walk_uq h'.tr
  have hxm : x ∈ walkS (L ++ [x]) := hperm.mem_iff.2 (by simp)
  obtain ⟨A, B, hAB⟩ := List.append_of_mem hxm
  have hz : ∀ c ∈ walkS (L ++ [x]), c.id ≠ z2 := fun c hc e => by
    have := (h'.tr).pos c (hperm.mem_iff.1 hc)
    rw [e] at this
    exact absurd this (by decide)
  refine ⟨A.length, by rw [hAB] at hu ⊢; exact find_split hu, by rw [hAB]; simp, ?_, ?_, ?_, ?_, ?_⟩
  · rw [hperm.length_eq, (walk_perm h.tr).length_eq]; simp
  · rw [← w2, hAB]
    rw [hAB] at hu
    have hnd := uq_nodup hu
    have hA : ∀ c ∈ A, c ≠ x := fun c hc => (List.nodup_append.1 hnd).2.2 c hc x List.mem_cons_self
    have hB : ∀ c ∈ B, c ≠ x := fun c hc e => (List.nodup_cons.1 (List.nodup_append.1 hnd).2.1).1 (e ▸ hc)
    rw [List.filter_append, List.filter_cons_of_neg (by simp), List.filter_eq_self.2 (fun c hc => by simpa using hA c hc), List.filter_eq_self.2 (fun c hc => by simpa using hB c hc)]
    simp
  · have hx2 : x ∈ walkN ((L ++ [x]).length + 1) (L ++ [x]) z2 := hxm
    rcases walk_below hx2 with h1 | ⟨A', d, B', h1, h2, h3⟩
    · rw [h1, find_none hz]; omega
    · have hd := before (uq_nodup hu) hAB h1 h3
      obtain ⟨j, hj⟩ := List.getElem?_of_mem hd
      obtain ⟨hj1, _⟩ := List.getElem?_eq_some_iff.1 hj
      have h4 : walkS (L ++ [x]) = A' ++ d :: B' := h1
      have h5 : findS (walkS (L ++ [x])) x.after = (j : Int) := by
        rw [← h2]
        have hA2 := List.append_of_mem (List.mem_of_getElem? hj)
        rcases find_cases hu d.id with ⟨k1, _⟩ | ⟨k, c, k1, k2, k3⟩
        · exact absurd rfl (getC_none.1 k1 d (by rw [h4]; simp))
        · have hcd : c = d := uq_one hu (List.mem_of_getElem? k2) (by rw [h4]; simp) (getC_mem k1).2
          have hj' : (walkS (L ++ [x]))[j]? = some d := by rw [hAB, List.getElem?_append_left hj1]; exact hj
          have hnd := List.pairwise_iff_getElem.1 (uq_nodup hu)
          rw [k3]
          obtain ⟨p1, p2⟩ := List.getElem?_eq_some_iff.1 k2
          obtain ⟨p3, p4⟩ := List.getElem?_eq_some_iff.1 hj'
          rcases Nat.lt_trichotomy k j with hlt | heq | hgt
          · exact absurd (by rw [p2, p4, hcd]) (hnd k j p1 p3 hlt)
          · rw [heq]
          · exact absurd (by rw [p2, p4, hcd]) (hnd j k p3 p1 hgt)
      rw [h5]
      omega
  · intro hne
    rcases hlink with h1 | ⟨d, hd, hde⟩
    · exact absurd h1 hne
    · rcases find_cases hu x.after with ⟨k1, _⟩ | ⟨k, c, k1, k2, k3⟩
      · exact absurd hde (getC_none.1 k1 d (hperm.mem_iff.2 (List.mem_append_left _ hd)))
      · rw [k3]; omega
  · intro hg
    have hg2 : ∀ c ∈ L ++ [x], c ≠ x → c.id.2 < x.id.2 := fun c hc hne => by
      rcases List.mem_append.1 hc with hc | hc
      · exact hg c ((walk_perm h.tr).mem_iff.2 hc)
      · simp at hc; exact absurd hc hne
    have hrk := rank_le (L ++ [x]) z2
    rcases walk_first h'.tr (x := x) (by simp) hg2 (n := (L ++ [x]).length + 1) (t := z2) (by omega) hxm with ⟨h1, B', h2⟩ | ⟨A', d, B', h1, h2⟩
    · have h3 : walkS (L ++ [x]) = [] ++ x :: B' := h2
      have h4 : A = [] := by
        cases A with
        | nil => rfl
        | cons a A =>
          rw [hAB] at h3 hu
          simp at h3
          have := (List.nodup_cons.1 (uq_nodup hu)).1
          rw [h3.1] at this
          exact absurd (by simp) this
      rw [h1, find_none hz, h4]
      rfl
    · have h3 : walkS (L ++ [x]) = (A' ++ [d]) ++ x :: B' := by rw [show walkS (L ++ [x]) = A' ++ d :: x :: B' from h1]; simp
      have h4 : A.length = A'.length + 1 := by
        have e1 := find_split (by rw [hAB] at hu; exact hu)
        have e2 := find_split (by rw [h3] at hu; exact hu)
        rw [← hAB] at e1
        rw [← h3] at e2
        rw [e1] at e2
        simp at e2
        omega
      have h5 : findS (walkS (L ++ [x])) x.after = (A'.length : Int) := by
        rw [← h2]
        have h6 : walkS (L ++ [x]) = A' ++ d :: x :: B' := h1
        rw [h6] at hu ⊢
        exact find_split hu
      rw [h5, h4]
      omega
end Go.Proofs.Ytaicbllfkehhjaa

/- A chamber, in plain words. No program in sight. -/
namespace Go.Proofs.Ytaicbllfkehhjaa

/-- The seats' pages; the messages from one seat to another, the oldest first. -/
structure Ch where
  pages : List (List Cl)
  lines : Nat → Nat → List (List Cl)
def Ch.pg (C : Ch) (i : Nat) : List Cl := C.pages.getD i []
def Ch.upd (C : Ch) (i : Nat) (L : List Cl) : Ch := { C with pages := C.pages.set i L }
def Ch.send (C : Ch) (i k : Nat) (m : List Cl) : Ch := { C with lines := fun a b => if a = i ∧ b = k then C.lines a b ++ [m] else C.lines a b }
/-- To all others. -/
def Ch.tell (C : Ch) (i : Nat) (x : Cl) : Ch := { C with lines := fun a b => if a = i ∧ b ≠ i ∧ b < C.pages.length then C.lines a b ++ [[x]] else C.lines a b }
def newS (n : Nat) : Ch := ⟨List.replicate n [], fun _ _ => []⟩
def cntS (l : List Cl) : Int := l.foldl (fun a y => max a (y.id.2 + 1)) 1
def newC (i : Nat) (L : List Cl) (after : St2) (p : Pt) : Cl := ⟨((i : Int), cntS (walkS L)), after, p, false⟩
def proposeS (C : Ch) (i : Nat) (after : St2) (p : Pt) : Ch × St2 × Int :=
  if after ≠ z2 ∧ getC (walkS (C.pg i)) after = none then (C, z2, 11) else
  if 1000000 < cntS (walkS (C.pg i)) then (C, z2, 2) else
  if (putS (C.pg i) (newC i (C.pg i) after p)).2 ≠ 0 then (C, z2, (putS (C.pg i) (newC i (C.pg i) after p)).2) else
  ((C.upd i (putS (C.pg i) (newC i (C.pg i) after p)).1).tell i (newC i (C.pg i) after p), (newC i (C.pg i) after p).id, 0)
def withdrawS (C : Ch) (i : Nat) (id : St2) : Ch × Int :=
  if id.1 ≠ (i : Int) then (C, 12) else
  match getC (C.pg i) id with
  | none => (C, 11)
  | some c => ((C.upd i (dropS (C.pg i) id).1).tell i (goneC c), 0)
def putAll (L m : List Cl) : List Cl := m.foldl (fun a c => (putS a c).1) L
def deliverS (C : Ch) (a b : Nat) (lost : Bool) : Ch × Bool :=
  if a = b then (C, false) else
  match C.lines a b with
  | [] => (C, false)
  | m :: q => ((if lost then C else C.upd b (putAll (C.pg b) m)) |> fun D => { D with lines := fun x y => if x = a ∧ y = b then q else C.lines x y }, true)
def againS (C : Ch) (a b : Nat) : Ch × Int := if a = b then (C, 1) else (C.send a b (walkS (C.pg a)), 0)
def settledS (C : Ch) : Bool := C.pages.all fun L => decide (walkS L = walkS (C.pg 0))
theorem cntS_fold : ∀ (l : List Cl) (a : Int), a ≤ l.foldl (fun a y => max a (y.id.2 + 1)) a ∧ ∀ c ∈ l, c.id.2 < l.foldl (fun a y => max a (y.id.2 + 1)) a
  | [], a => ⟨Int.le_refl _, fun c hc => by cases hc⟩
  | y :: l, a => by
    obtain ⟨h1, h2⟩ := cntS_fold l (max a (y.id.2 + 1))
    rw [List.foldl_cons]
    refine ⟨by omega, fun c hc => ?_⟩
    rcases List.mem_cons.1 hc with rfl | hc
    · omega
    · exact h2 c hc
theorem cntS_one (l : List Cl) : 1 ≤ cntS l := (cntS_fold l 1).1
theorem cntS_lt {l : List Cl} {c : Cl} (h : c ∈ l) : c.id.2 < cntS l := (cntS_fold l 1).2 c h
end Go.Proofs.Ytaicbllfkehhjaa

/- What a chamber keeps, in plain words. -/
namespace Go.Proofs.Ytaicbllfkehhjaa

/-- Each clause of the one list is in the other, with the same After and Patch, and Gone if it was so. -/
def Kept (L M : List Cl) : Prop := ∀ t c, getC L t = some c → ∃ d, getC M t = some d ∧ d.after = c.after ∧ d.pt = c.pt ∧ (c.gone = true → d.gone = true)
theorem Kept.refl (L : List Cl) : Kept L L := fun _ c h => ⟨c, h, rfl, rfl, id⟩
theorem Kept.trans {L M N : List Cl} (h : Kept L M) (k : Kept M N) : Kept L N := fun t c hc => by
  obtain ⟨d, h1, h2, h3, h4⟩ := h t c hc
  obtain ⟨e, k1, k2, k3, k4⟩ := k t d h1
  exact ⟨e, k1, k2.trans h2, k3.trans h3, fun hg => k4 (h4 hg)⟩
theorem Kept.set {L : List Cl} {x old : Cl} (ho : getC L x.id = some old) (ha : x.after = old.after) (hp : x.pt = old.pt) (hg : old.gone = true → x.gone = true) : Kept L (setC L x) := fun t c hc => by
  rw [getC_set]
  by_cases ht : t = x.id
  · rw [if_pos ht, hc]
    rw [ht, ho] at hc
    injection hc with hc
    subst hc
    exact ⟨x, rfl, ha, hp, hg⟩
  · rw [if_neg ht]
    exact ⟨c, hc, rfl, rfl, id⟩
theorem Kept.put {L : List Cl} (x : Cl) : Kept L (putS L x).1 := by
  unfold putS
  split
  · exact Kept.refl L
  split
  · rename_i old ho
    split
    · rename_i hs
      obtain ⟨h1, h2, h3⟩ := sameC_iff.1 hs
      exact Kept.set (x := mrgC old x) (old := old) (by rw [mrgC_id, h1]; exact ho) rfl rfl (fun hg => by simp [mrgC, hg])
    · exact Kept.refl L
  · rename_i hn
    split
    · exact Kept.refl L
    split
    · exact Kept.refl L
    intro t c hc
    rw [getC_snoc hn]
    by_cases ht : t = x.id
    · rw [ht, hn] at hc
      cases hc
    · rw [if_neg ht]
      exact ⟨c, hc, rfl, rfl, id⟩
theorem Kept.drop {L : List Cl} (t : St2) : Kept L (dropS L t).1 := by
  unfold dropS
  split
  · exact Kept.refl L
  · rename_i c hc
    exact Kept.set (x := { c with gone := true }) (old := c) (by show getC L c.id = _; rw [(getC_mem hc).2]; exact hc) rfl rfl (fun _ => rfl)
theorem Kept.all : ∀ (m L : List Cl), Kept L (putAll L m)
  | [], _ => Kept.refl _
  | c :: m, _ => (Kept.put c).trans (Kept.all m _)
theorem putAll_pg : ∀ (m : List Cl) {L : List Cl}, Pg L → Pg (putAll L m)
  | [], _, h => h
  | c :: m, _, h => putAll_pg m (h.put c)

/-! ### a page of a chamber, turned -/
theorem pg_upd {C : Ch} {i : Nat} {L : List Cl} (hi : i < C.pages.length) (k : Nat) : (C.upd i L).pg k = if k = i then L else C.pg k := by
  unfold Ch.pg Ch.upd
  simp only [List.getD_eq_getElem?_getD, List.getElem?_set]
  by_cases h : i = k
  · subst h
    simp [hi]
  · rw [if_neg h, if_neg (Ne.symm h)]
theorem pg_tell (C : Ch) (i : Nat) (x : Cl) (k : Nat) : (C.tell i x).pg k = C.pg k := rfl
theorem pg_send (C : Ch) (i k : Nat) (m : List Cl) (j : Nat) : (C.send i k m).pg j = C.pg j := rfl
theorem propose_kept {C : Ch} {i : Nat} (hi : i < C.pages.length) (after : St2) (p : Pt) (k : Nat) : Kept (C.pg k) ((proposeS C i after p).1.pg k) := by
  unfold proposeS
  repeat' split
  all_goals first
    | exact Kept.refl _
    | (rw [pg_tell, pg_upd hi]
       split
       · rename_i h
         rw [h]
         exact Kept.put _
       · exact Kept.refl _)
theorem withdraw_kept {C : Ch} {i : Nat} (hi : i < C.pages.length) (t : St2) (k : Nat) : Kept (C.pg k) ((withdrawS C i t).1.pg k) := by
  unfold withdrawS
  repeat' split
  all_goals first
    | exact Kept.refl _
    | (rw [pg_tell, pg_upd hi]
       split
       · rename_i h
         rw [h]
         exact Kept.drop _
       · exact Kept.refl _)
theorem deliver_kept {C : Ch} {a b : Nat} (hb : b < C.pages.length) (lost : Bool) (k : Nat) : Kept (C.pg k) ((deliverS C a b lost).1.pg k) := by
  unfold deliverS
  split
  · exact Kept.refl _
  split
  · exact Kept.refl _
  · rename_i m q _
    cases lost with
    | true => exact Kept.refl _
    | false =>
      show Kept (C.pg k) ((C.upd b (putAll (C.pg b) m)).pg k)
      rw [pg_upd hb]
      split
      · rename_i h
        rw [h]
        exact Kept.all _ _
      · exact Kept.refl _
theorem again_kept {C : Ch} {a b : Nat} (k : Nat) : Kept (C.pg k) ((againS C a b).1.pg k) := by
  unfold againS
  split <;> exact Kept.refl _
end Go.Proofs.Ytaicbllfkehhjaa
