/- List$1: the walk over the groups. -/
import Derived.Test.YtbihklfcdpgcgaaEm
import Derived.Lib.SmallJoins
namespace Go.Proofs.Ytbihklfcdpgcgaa
open Go.RowKit

theorem grp_uq {L : List Cl} (h : Uq L) (t : St2) : Uq (grp L t) := List.Pairwise.filter _ h
theorem sort_grp {L l : List Cl} (h : Uq L) {t : St2} (p : l.Perm (grp L t)) : sortC l = kids L t :=
  sort_one (sortC_sorted ((grp_uq h t).perm p.symm)) (kids_sorted h t) ((sortC_perm l).trans (p.trans (sortC_perm _).symm))
theorem fold_cl (c : Cl) : Array.foldl (fun (cs : Array Value) (x : Value × Nat) => cs.setIfInBounds x.2 x.1) #[.int .i64 0, .int .i64 0, .int .i64 0, .int .i64 0, .int .i64 0, .string ⟨#[]⟩, .string ⟨#[]⟩, .string ⟨#[]⟩, .string ⟨#[]⟩, .int .i64 0, .string ⟨#[]⟩, .string ⟨#[]⟩, .string ⟨#[]⟩, .string ⟨#[]⟩, .string ⟨#[]⟩, .bool false, .int .i64 0, .string ⟨#[]⟩, .string ⟨#[]⟩, .bool false] (clA c).zipIdx 0 20 = clA c := by kernel_rfl
theorem cls_snoc (l : List Cl) (c : Cl) : cls (l ++ [c]) = cls l ++ encC c := by unfold cls; simp
theorem wk_app {w w' : World} {base bc bo bw m : Nat} {KV : List (St2 × Value)} {L : List Cl} {lst : St2 → List Cl} {v v' : Value} {O O' : List Cl} (h : Wk w base bc bo bw m KV L lst v O) (hg : w.grownBy w' v.ownBlock) (ho : OwnCls w' base v' O') (hlie : v'.ownBlock = v.ownBlock ∨ ∃ g, v'.ownBlock = some g ∧ w.heap.size ≤ g) :
    Blk w' bo 42 #[v] ∧ Wk (w'.setCell ⟨bo, 0, none⟩ v') base bc bo bw m KV L lst v' O' := by
  have co := h.co.grown hg (fun e => h.out.ne_blk h.co (by decide) e.symm)
  refine ⟨co, h.push (((Only.of_grown hg).mono fun i hi => .inl hi).setCell (.inl (.inr rfl)) _) ?_ hlie (co.set_ 0 v')⟩
  exact ((Only.refl (fun i => i = bo) w').setCell (p := ⟨bo, 0, none⟩) (.inl rfl) v').owns ho fun g hg' e => by
    subst e
    exact ho.ne_blk co (by decide) hg'
theorem own_snoc {w : World} {base M : Nat} {v : Value} {OO : List Cl} {c : Cl} (hM : OO.length = M) (o : w.ownsRow base 35 20 v (M + 1) (cls OO ++ encC c)) : OwnCls w base v (OO ++ [c]) := by
  subst hM
  unfold OwnCls
  rw [List.length_append, cls_snoc]
  exact o
/-- What the call of the walk does at t. -/
def WalkAt (base bc bo bw m : Nat) (KV : List (St2 × Value)) (L : List Cl) (n : Nat) : Prop :=
  ∀ (w : World) (t : St2) (lst : St2 → List Cl) (v : Value) (O : List Cl), Wk w base bc bo bw m KV L lst v O → O.length + (walkN n L t).length ≤ 500000000 → (walkN n L t).length ≤ 1000000 → rank L t < n →
    Calls Try.prog 35 #[.agg (stA t), .pointer (some ⟨bc, 0, none⟩), .pointer (some ⟨bo, 0, none⟩), .pointer (some ⟨bw, 0, none⟩)] w fun e w' => e = .returned (.tuple #[]) ∧ Below base w w' ∧
      ∃ v' lst', Wk w' base bc bo bw m KV L lst' v' (O ++ walkN n L t) ∧ ∀ s, lst s = kids L s → lst' s = kids L s
theorem kids_le {L : List Cl} {n : Nat} (t : St2) : (kids L t).length ≤ (walkN (n + 1) L t).length := by
  rw [walkN_succ]
  generalize kids L t = K
  induction K with
  | nil => simp
  | cons c K ih => rw [List.flatMap_cons, List.length_append]; simp only [List.length_cons]; omega
def upto (L : List Cl) (n : Nat) (K : List Cl) : List Cl := K.flatMap fun c => c :: walkN n L c.id
theorem upto_take {L K : List Cl} {n k : Nat} {c : Cl} (h : K[k]? = some c) : upto L n (K.take (k + 1)) = (upto L n (K.take k) ++ [c]) ++ walkN n L c.id := by
  unfold upto
  rw [List.take_add_one, h, List.flatMap_append]
  simp
theorem upto_le {L K : List Cl} {n k : Nat} : (upto L n (K.take k)).length ≤ (upto L n K).length := by
  unfold upto
  have := List.take_append_drop k K
  calc ((K.take k).flatMap fun c => c :: walkN n L c.id).length ≤ ((K.take k ++ K.drop k).flatMap fun c => c :: walkN n L c.id).length := by rw [List.flatMap_append, List.length_append]; omega
    _ = _ := by rw [this]
set_option maxRecDepth 100000 in
set_option maxHeartbeats 8000000 in
theorem walk_step {base bc bo bw m n : Nat} {KV : List (St2 × Value)} {L : List Cl} (ht : Tr L) (hB : ∀ c ∈ L, -4000000 ≤ c.id.1 ∧ c.id.1 ≤ 4000000 ∧ -4000000 ≤ c.id.2 ∧ c.id.2 ≤ 4000000) (ih : WalkAt base bc bo bw m KV L n) : WalkAt base bc bo bw m KV L (n + 1) := by
  intro w t lst v O h hl hl2 hr
  obtain ⟨u, hu⟩ := sl_ex KV t
  have hq : ∀ k, (upto L n ((kids L t).take k)).length ≤ (upto L n (kids L t)).length := fun k => upto_le
  have hkl : (kids L t).length ≤ 1000000 := Nat.le_trans (kids_le t) hl2
  obtain ⟨X, hX⟩ : ∃ X, walkN (n + 1) L t = X := ⟨_, rfl⟩
  have hX2 : upto L n (kids L t) = X := hX
  rw [hX] at hl hl2 ⊢
  rw [hX2] at hq
  have hbase : base ≤ w.heap.size := Nat.le_trans h.bs.1 (Nat.le_of_lt h.cc.lt)
  have h1 : Wk (w.alloc (.cells (stA t) 29)) base bc bo bw m KV L lst v O := h.same ((Below.refl _ w).alloc (Nat.le_refl _) _)
  have kI := Blk.new w 29 (stA t)
  have kI0 : (w.alloc (.cells (stA t) 29)).cell? ⟨w.heap.size, 0, none⟩ = some (.int .i64 t.1) := kI.cell 0
  have kI1 : (w.alloc (.cells (stA t) 29)).cell? ⟨w.heap.size, 1, none⟩ = some (.int .i64 t.2) := kI.cell 1
  have cC0 : (w.alloc (.cells (stA t) 29)).cell? ⟨bc, 0, none⟩ = some (.map (some m)) := h1.cc.cell 0
  have hlook := h1.look hu
  have o1 := h1.at hu
  have hgu : Uq (lst t) := (grp_uq ht.uq t).perm (h.perm t).symm
  have hll : (lst t).length = (kids L t).length := by rw [(h.perm t).length_eq]; exact (sortC_perm _).length_eq.symm
  obtain ⟨i0, hi0, hz0, hz1, hz2⟩ := info_parts Try.infoCl
  obtain ⟨N, hN⟩ : ∃ N, (kids L t).length = N := ⟨_, rfl⟩
  obtain ⟨A, cu, hUe, hA⟩ : ∃ A cu, u = .slice A N cu ∧ ∀ k, k < N → ∃ g, A = some ⟨g, 0, none⟩ := by
    rcases Joins.ownsRow_forms o1 with ⟨h1, h2⟩ | ⟨g, cap, hv⟩
    · exact ⟨none, 0, by rw [h1]; congr 1; omega, fun k hk => by omega⟩
    · exact ⟨some ⟨g, 0, none⟩, cap, by rw [hv, hll, hN], fun _ _ => ⟨g, rfl⟩⟩
  subst hUe
  have HN := Lib.hid hN
  have HA := Lib.hid hA
  have HS := Lib.hid (sort_any _ base _ (lst t) (fun c hc => hB c (List.mem_filter.1 ((h.perm t).mem_iff.1 hc)).1) hgu (by omega) o1)
  have HH1 := Lib.hid h1
  have HL := Lib.hid hl
  have HL2 := Lib.hid hl2
  have HR := Lib.hid hr
  have HX := Lib.hid hX2
  have HQ := Lib.hid hq
  have HGU := Lib.hid hgu
  have HU := Lib.hid hu
  have HPM := Lib.hid h.perm
  rw [hN] at hkl
  clear hX hX2 hl hl2 hr hgu hu hll hq h1 h o1 hN hA
  go_enter Try.func35, Try.ntmps35
  go_wp2_with fail
  refine HS.out.mono ?_
  rintro e w1 ⟨rfl, o2, k1⟩
  have h2 := HH1.out.sort HU.out o2 k1
  have HK1 := Lib.hid (show Below base w w1 from ((Below.refl base w).alloc hbase _).trans (k1.below (by simp; omega) fun i hi => (OwnCls.lt o2 i hi).1))
  obtain ⟨lst1, hL1, hL2, hL3⟩ : ∃ l1 : St2 → List Cl, Wk w1 base bc bo bw m KV L l1 v O ∧ l1 t = kids L t ∧ ∀ s, lst s = kids L s → l1 s = kids L s :=
    ⟨_, h2, by simp only [if_pos]; exact sort_grp ht.uq (HPM.out t), fun s hs => by
      show (if s = t then sortC (lst s) else lst s) = _
      split
      · exact sort_grp ht.uq (HPM.out s)
      · exact hs⟩
  have HP := Lib.hid (show ∃ l1 v' , Wk w1 base bc bo bw m KV L l1 v' (O ++ upto L n ((kids L t).take 0)) ∧ l1 t = kids L t ∧ ∀ s, lst s = kids L s → l1 s = kids L s from ⟨lst1, v, by simpa [upto] using hL1, hL2, hL3⟩)
  clear hL1 hL2 hL3 h2 o2 k1 hlook kI kI0 kI1 cC0 HS HH1 hbase
  go_wp2_with fail
  go_loopw [15] (fun i wr => ∃ k : Nat, k ≤ N ∧ i = .int .i64 (k : Int) ∧ Below base w wr ∧ Hid (∃ l1 v' , Wk wr base bc bo bw m KV L l1 v' (O ++ upto L n ((kids L t).take k)) ∧ l1 t = kids L t ∧ ∀ s, lst s = kids L s → l1 s = kids L s)) (fun i _ => N - (intOf i).toNat)
  case atStart => exact ⟨0, Nat.zero_le _, rfl, HK1.out, HP⟩
  case round =>
    obtain ⟨k, hk, rfl, bk, HPk⟩ := hrel
    obtain ⟨l1, v1, W1, hl1, hl3⟩ := HPk.out
    clear HPk HP HK1
    by_cases hkN : k < N
    · obtain ⟨g, rfl⟩ := HA.out k hkN
      obtain ⟨c, hc⟩ : ∃ c, (kids L t)[k]? = some c := ⟨_, List.getElem?_eq_getElem (by rw [HN.out]; exact hkN)⟩
      have oR : wr.ownsRow base 35 20 (.slice (some ⟨g, 0, none⟩) N cu) N (cls (kids L t)) := by
        have := W1.at HU.out
        unfold OwnCls at this
        rw [hl1, HN.out] at this
        exact this
      have e1 : decide ((k : Int) < (N : Int)) = true := decide_eq_true (by omega)
      obtain ⟨OO, hOO⟩ : ∃ OO, O ++ upto L n ((kids L t).take k) = OO := ⟨_, rfl⟩
      rw [hOO] at W1
      obtain ⟨M, hM⟩ : ∃ M, OO.length = M := ⟨_, rfl⟩
      have hM2 : M ≤ 500000000 := by
        have h1 := HQ.out k
        have h2 := HL.out
        rw [← hM, ← hOO, List.length_append]
        omega
      obtain ⟨B1, c1, rfl⟩ : ∃ B1 c1, v1 = .slice B1 M c1 := by
        rcases Joins.ownsRow_forms W1.out with ⟨h1, h2⟩ | ⟨g, cap, hv⟩
        · exact ⟨none, 0, by rw [h1]; congr 1; omega⟩
        · exact ⟨some ⟨g, 0, none⟩, cap, by rw [hv, hM]⟩
      have hpc := put_cl wr c
      have hcz := clA_size c
      have W2 := W1.same ((Below.refl _ wr).alloc (Nat.le_refl _) (.cells (clA c) 35))
      have W3 := W2.same ((Below.refl _ _).alloc (Nat.le_refl _) (.cells (clA c) 35))
      have own3 : ((wr.alloc (.cells (clA c) 35)).alloc (.cells (clA c) 35)).ownsRow base 35 20 (.slice B1 M c1) M (cls OO) := by
        have := W3.out
        unfold OwnCls at this
        rw [hM] at this
        exact this
      have HFO := Lib.hid (fold_cl c)
      have HONE := Lib.hid (encC_one c)
      have HENC := Lib.hid (show encC c = (clA c).toList from rfl)
      have HC := Lib.hid hc
      have HW1 := Lib.hid W1
      have HL1 := Lib.hid hl1
      have HL3 := Lib.hid hl3
      have HOR := Lib.hid oR
      have HKN := Lib.hid hkN
      have HW3 := Lib.hid W3
      have HOWN3 := Lib.hid own3
      have HM := Lib.hid hM
      have HOO := Lib.hid hOO
      have HB3 := Lib.hid ((bk.alloc (Nat.le_trans W1.bs.1 (Nat.le_of_lt W1.cc.lt)) (.cells (clA c) 35)).alloc (Nat.le_trans W2.bs.1 (Nat.le_of_lt W2.cc.lt)) (.cells (clA c) 35))
      have hsz : base ≤ wr.heap.size := Nat.le_trans W1.bs.1 (Nat.le_of_lt W1.cc.lt)
      have kc := Blk.new wr 35 (clA c)
      have kc' := Blk.new1 wr (.cells (clA c) 35) 35 (clA c)
      have kc3 := kc.alloc (.cells (clA c) 35)
      have co0 : (wr.alloc (.cells (clA c) 35)).cell? ⟨bo, 0, none⟩ = some (.slice B1 M c1) := W2.co.cell 0
      have HKC := Lib.hid kc
      have HKC1 := Lib.hid kc'
      have HKC3 := Lib.hid kc3
      clear W1 hl1 hl3 oR hc W2 W3 own3 kc kc' kc3 hM hOO
      generalize hCC : clA c = CC at *
      have HCC := Lib.hid hCC
      clear hCC
      go_wp2_with (first | (refine load_row rfl (x := .tmp 17) rfl rfl HOR.out HN.out HC.out ?_; rw [HCC.out]) | (refine load_cl (c := c) rfl (x := .tmp 7) rfl rfl (by rw [HCC.out]; exact HKC.out) ?_; rw [HCC.out]) | (at_builtin; rw [HFO.out]; refine wpList_append_lies _ rfl _ _ 42 rfl base 35 i0 _ 20 248 Try.underlying42 hi0 hz0 hz1 hz2 rfl (by omega) (.slice B1 M c1) M (cls OO) rfl HOWN3.out ⟨wr.heap.size + 1, 0, none⟩ 1 1 (encC c) rfl rfl (by rw [HENC.out]; exact World.news_of_block HKC1.out) HONE.out (by omega) (by unfold maxLen; omega) (by omega) (by simp; omega) (wr.heap.size + 2) (by simp) ?_; intro g9 cap9 w9 o9 gr9 l9 z9; obtain ⟨co9, W10⟩ := wk_app HW3.out gr9 (own_snoc HM.out o9) (by rcases l9 with l9 | l9; exact .inl l9.symm; exact .inr ⟨g9, rfl, by rw [l9]; simp⟩); obtain ⟨cy9, fy9, ly9⟩ := co9.all; have kd := (HKC3.out.grown gr9 (by intro e; have := OwnCls.lt HW1.out.out _ e.symm; omega)).far (p := ⟨bo, 0, none⟩) (by have := HW1.out.co.lt; show wr.heap.size ≠ bo; omega) (.slice (some ⟨g9, 0, none⟩) (M + 1) cap9); have kd0 : (w9.setCell ⟨bo, 0, none⟩ (.slice (some ⟨g9, 0, none⟩) (M + 1) cap9)).cell? ⟨wr.heap.size, 0, none⟩ = some (.int .i64 c.id.1) := (by rw [Blk.cell kd 0, ← HCC.out]; rfl); have kd1 : (w9.setCell ⟨bo, 0, none⟩ (.slice (some ⟨g9, 0, none⟩) (M + 1) cap9)).cell? ⟨wr.heap.size, 1, none⟩ = some (.int .i64 c.id.2) := (by rw [Blk.cell kd 1, ← HCC.out]; rfl); have cw10 : (w9.setCell ⟨bo, 0, none⟩ (.slice (some ⟨g9, 0, none⟩) (M + 1) cap9)).cell? ⟨bw, 0, none⟩ = some _ := W10.cw.cell 0; have HW10 := Lib.hid W10; have HG9 := Lib.hid gr9; clear W10 gr9 l9 kd))
      have hcm : c ∈ kids L t := List.mem_of_getElem? HC.out
      have hup := upto_take (L := L) (n := n) HC.out
      have hlen := HQ.out (k + 1)
      rw [hup, List.length_append, List.length_append] at hlen
      have hO2 : O.length + (upto L n ((kids L t).take k)).length = M := by rw [← HM.out, ← HOO.out, List.length_append]
      have hXl := HL.out
      have hXl2 := HL2.out
      have hrk := rank_kid ht hcm
      have hrn := HR.out
      refine (ih _ c.id l1 _ _ HW10.out (by rw [List.length_append, HM.out]; simp only [List.length_cons, List.length_nil] at *; omega) (by omega) (by omega)).mono ?_
      rintro e w11 ⟨rfl, b11, v2, l2, W11, hk2⟩
      have b12 : Below base w w11 := ((HB3.out.grown HG9.out (by simp; omega) (fun y hy => (OwnCls.lt HW1.out.out y hy).1)).setCell (p := ⟨bo, 0, none⟩) HW1.out.bs.2.1 _).trans b11
      have HP2 := Lib.hid (show ∃ l1 v', Wk w11 base bc bo bw m KV L l1 v' (O ++ upto L n ((kids L t).take (k + 1))) ∧ l1 t = kids L t ∧ ∀ s, lst s = kids L s → l1 s = kids L s from ⟨l2, v2, by rw [hup, ← List.append_assoc, ← List.append_assoc, HOO.out]; exact W11, hk2 t HL1.out, fun s hs => hk2 s (HL3.out s hs)⟩)
      clear hup hlen hO2 hXl hXl2 hrk hrn W11 hk2 HW10 HG9 hcm
      go_wp2_with fail
      go_roundw
      case rel => exact ⟨k + 1, HKN.out, by go_num, b12, HP2⟩
      case measure => simp [intOf]; have := HKN.out; omega
    · obtain rfl : k = N := by omega
      have e1 : decide ((k : Int) < (k : Int)) = false := decide_eq_false (by omega)
      have HR2 := Lib.hid (show ∃ v' lst', Wk wr base bc bo bw m KV L lst' v' (O ++ X) ∧ ∀ s, lst s = kids L s → lst' s = kids L s from ⟨v1, l1, by
        have := W1
        rw [← HN.out, List.take_length, HX.out] at this
        exact this, hl3⟩)
      clear W1 hl1 hl3
      go_wp2
      exact bodyPost_end (results_none rfl _ _ _) rfl ⟨rfl, bk, HR2.out⟩
theorem walk_all {base bc bo bw m : Nat} {KV : List (St2 × Value)} {L : List Cl} (ht : Tr L) (hB : ∀ c ∈ L, -4000000 ≤ c.id.1 ∧ c.id.1 ≤ 4000000 ∧ -4000000 ≤ c.id.2 ∧ c.id.2 ≤ 4000000) : ∀ n, WalkAt base bc bo bw m KV L n
  | 0 => fun _ _ _ _ _ _ _ _ h => absurd h (Nat.not_lt_zero _)
  | n + 1 => walk_step ht hB (walk_all ht hB n)
end Go.Proofs.Ytbihklfcdpgcgaa
