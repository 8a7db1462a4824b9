/- The laws of a page, in plain words. No program in sight. -/
import Derived.Test.YtbihklfcdpgcgaaEv
namespace Go.Proofs.Ytbihklfcdpgcgaa

/-! ### Orders -/
theorem openN_app (A B : List Cl) : openN (A ++ B) = openN A + openN B := by unfold openN; rw [List.countP_append]
theorem openN_one (c : Cl) : openN [c] = if c.gone then 0 else 1 := by
  cases h : c.gone <;> simp [openN, h]
theorem put_new {L : List Cl} {c : Cl} (hp : properC c = true) (hn : getC L c.id = none) (ha : c.after = z2 ∨ ∃ d ∈ L, d.id = c.after) (ho : openN (L ++ [c]) ≤ 64) : putS L c = (L ++ [c], 0) := by
  unfold putS
  rw [if_neg (by rw [hp]; simp), hn]
  simp only
  rw [if_neg, if_neg]
  · rintro ⟨h1, h2⟩
    rw [openN_app, openN_one, h1] at ho
    simp at ho
    omega
  · rintro ⟨h1, h2⟩
    rcases ha with ha | ⟨d, hd, hda⟩
    · exact h1 ha
    · exact getC_none.1 h2 d hd hda
theorem page_all : ∀ (Y X S : List Cl), S = X ++ Y → Pg S → (∀ A c B, S = A ++ c :: B → c.after = z2 ∨ ∃ d ∈ A, d.id = c.after) → Y.foldl (fun a c => (putS a c).1) X = S
  | [], X, S, h, _, _ => by rw [h]; simp
  | c :: Y, X, S, h, hS, hl => by
    have hc : c ∈ S := by rw [h]; simp
    have hn : getC X c.id = none := getC_none.2 fun d hd e => by
      have hu := hS.uq
      rw [h] at hu
      exact (List.pairwise_append.1 hu).2.2 d hd c List.mem_cons_self e
    have ho : openN (X ++ [c]) ≤ 64 := by
      have := hS.few
      rw [h, show X ++ c :: Y = (X ++ [c]) ++ Y by simp, openN_app] at this
      omega
    rw [List.foldl_cons, put_new (hS.proper c hc) hn (hl X c Y h) ho]
    exact page_all Y (X ++ [c]) S (by rw [h]; simp) hS hl
theorem before {S A B X Y : List Cl} {c d : Cl} (hS : S.Nodup) (h1 : S = X ++ c :: Y) (h2 : S = A ++ d :: B) (hc : c ∈ B) : d ∈ X := by
  have h := h1.symm.trans h2
  rcases List.append_eq_append_iff.1 h with ⟨a, ha, hb⟩ | ⟨a, ha, hb⟩
  · cases a with
    | nil =>
      simp at hb
      obtain ⟨rfl, rfl⟩ := hb
      rw [h2] at hS
      exact absurd hc (List.nodup_cons.1 (List.nodup_append.1 hS).2.1).1
    | cons x a =>
      simp at hb
      obtain ⟨rfl, hb⟩ := hb
      rw [h2] at hS
      have := (List.nodup_append.1 hS).2.2 c (by rw [ha]; simp) c (List.mem_cons_of_mem _ hc)
      exact absurd rfl this
  · cases a with
    | nil =>
      simp at hb
      obtain ⟨rfl, rfl⟩ := hb
      rw [h2] at hS
      exact absurd hc (List.nodup_cons.1 (List.nodup_append.1 hS).2.1).1
    | cons x a =>
      simp at hb
      obtain ⟨rfl, hb⟩ := hb
      rw [ha]
      simp
theorem page_walk {L : List Cl} (h : Pg L) : pageS (walkS L) = walkS L := by
  have hp := walk_perm h.tr
  refine page_all _ [] _ rfl (h.perm hp.symm) fun A c B hS => ?_
  have hc : c ∈ walkN (L.length + 1) L z2 := by show c ∈ walkS L; rw [hS]; simp
  rcases walk_below hc with h1 | ⟨A', d, B', h1, h2, h3⟩
  · exact .inl h1
  · exact .inr ⟨d, before (uq_nodup (walk_uq h.tr)) hS h1 h3, h2⟩
theorem walk_page {L : List Cl} (h : Pg L) : walkS (pageS (walkS L)) = walkS L := by
  rw [page_walk h]
  exact walkS_perm (walk_uq h.tr) (walk_perm h.tr)

/-! ### what Find finds -/
theorem find_cases {l : List Cl} (hu : Uq l) (t : St2) : (getC l t = none ∧ findS l t = -1) ∨ ∃ (k : Nat) (c : Cl), getC l t = some c ∧ l[k]? = some c ∧ findS l t = (k : Int) := by
  cases hg : getC l t with
  | none =>
    exact .inl ⟨rfl, find_no fun j d _ hd => getC_none.1 hg d (List.mem_of_getElem? hd)⟩
  | some c =>
    obtain ⟨hc, hid⟩ := getC_mem hg
    obtain ⟨k, hk⟩ := List.getElem?_of_mem hc
    refine .inr ⟨k, c, rfl, hk, find_at (fun j d hj hd e => ?_) hk hid⟩
    have hdc : d = c := uq_one hu (List.mem_of_getElem? hd) hc (e.trans hid.symm)
    subst hdc
    obtain ⟨h1, h2⟩ := List.getElem?_eq_some_iff.1 hk
    obtain ⟨h3, h4⟩ := List.getElem?_eq_some_iff.1 hd
    have := (List.pairwise_iff_getElem.1 (uq_nodup hu)) j k h3 h1 hj
    exact this (h4.trans h2.symm)
theorem find_split {A B : List Cl} {c : Cl} (hu : Uq (A ++ c :: B)) : findS (A ++ c :: B) c.id = (A.length : Int) := by
  refine find_at (fun j d hj hd e => ?_) (by simp) rfl
  rw [List.getElem?_append_left hj] at hd
  exact (List.pairwise_append.1 hu).2.2 d (List.mem_of_getElem? hd) c List.mem_cons_self e
theorem find_none {l : List Cl} {t : St2} (h : ∀ c ∈ l, c.id ≠ t) : findS l t = -1 := find_no fun _ d _ hd => h d (List.mem_of_getElem? hd)
theorem getC_walk {L : List Cl} (h : Pg L) (t : St2) : getC (walkS L) t = getC L t := getC_perm (walk_uq h.tr) (walk_perm h.tr) t

/-! ### Refuses -/
theorem join_err {L M : List Cl} (h : (joinS L M).2 ≠ 0) : (joinS L M).1 = L := by
  unfold joinS at *
  split
  · rfl
  · rename_i A hA
    rw [hA] at h
    split
    · rfl
    · rename_i hf
      simp only [if_neg hf] at h
      exact absurd rfl h
theorem put_err {L : List Cl} {c : Cl} (h : (putS L c).2 ≠ 0) : (putS L c).1 = L := by
  unfold putS at *
  split
  · rfl
  · rename_i hp
    rw [if_neg hp] at h
    split
    · rename_i old ho
      simp only [ho] at h
      split
      · rename_i hs
        rw [if_pos hs] at h
        exact absurd rfl h
      · rfl
    · rename_i ho
      simp only [ho] at h
      split
      · rfl
      · rename_i h1
        rw [if_neg h1] at h
        split
        · rfl
        · rename_i h2
          rw [if_neg h2] at h
          exact absurd rfl h
theorem put_arg (L : List Cl) (c : Cl) : ((putS L c).2 = 1 ↔ properC c = false) ∧ ((putS L c).2 = 9 ↔ properC c = true ∧ ∃ old, getC L c.id = some old ∧ sameC old c = false) := by
  unfold putS
  cases hp : properC c with
  | false => simp
  | true =>
    simp only [Bool.true_eq_false, if_false, iff_false, true_and]
    cases hg : getC L c.id with
    | some old => cases hs : sameC old c <;> simp [hs]
    | none =>
      simp only [reduceCtorEq, false_and, exists_false, iff_false]
      split
      · simp
      · split <;> simp

/-! ### Converges -/
theorem walk_join_eq {L M : List Cl} (h : Uq L) (p : L.Perm M) : walkS L = walkS M := walkS_perm h p
theorem join_zero {L M : List Cl} (h : (joinS L M).2 = 0) : ∃ A, addAll L M = some A ∧ (joinS L M).1 = A ∧ openN A ≤ 64 := by
  unfold joinS at *
  cases hA : addAll L M with
  | none => rw [hA] at h; simp at h
  | some A =>
    rw [hA] at h
    simp only at h ⊢
    by_cases hf : 64 < openN A
    · rw [if_pos hf] at h; simp at h
    · rw [if_neg hf]; exact ⟨A, rfl, rfl, Nat.le_of_not_lt hf⟩
theorem add_comm {L M A B : List Cl} (h : Uq L) (hm : Uq M) (hA : addAll L M = some A) (hB : addAll M L = some B) : A.Perm B := by
  obtain ⟨k1, k2⟩ := addAll_some h hm hA
  obtain ⟨k3, k4⟩ := addAll_some hm h hB
  exact perm_of_getC k1 k3 fun t => by rw [(k2 t).2, (k4 t).2]; exact mrgO_comm (k2 t).1
theorem add_both {L M : List Cl} (h : Uq L) (hm : Uq M) : addAll L M = none ↔ addAll M L = none := by
  rw [addAll_none h hm, addAll_none hm h]
  constructor <;> (rintro ⟨t, ht⟩; exact ⟨t, by rw [okO_comm]; exact ht⟩)
theorem join_both {L M : List Cl} (h : Uq L) (hm : Uq M) : (joinS L M).2 = (joinS M L).2 ∧ ((joinS L M).2 = 0 → (joinS L M).1.Perm (joinS M L).1) := by
  unfold joinS
  cases hA : addAll L M with
  | none =>
    rw [(add_both h hm).1 hA]
    exact ⟨rfl, fun h => by simp at h⟩
  | some A =>
    cases hB : addAll M L with
    | none => rw [(add_both h hm).2 hB] at hA; cases hA
    | some B =>
      have hp := add_comm h hm hA hB
      have ho := openN_perm hp
      simp only
      rw [ho]
      split
      · exact ⟨rfl, fun h => by simp at h⟩
      · exact ⟨rfl, fun _ => hp⟩
theorem okO_self (x : Option Cl) : okO x x = true := by
  cases x with
  | none => rfl
  | some a => exact sameC_iff.2 ⟨rfl, rfl, rfl⟩
theorem mrgO_self (x : Option Cl) : mrgO x x = x := by
  cases x with
  | none => rfl
  | some a =>
    show some (mrgC a a) = some a
    congr 1
    exact Cl.ext' rfl rfl rfl (Bool.or_self _)
theorem join_self {L : List Cl} (h : Pg L) : (joinS L L).2 = 0 ∧ (joinS L L).1.Perm L := by
  unfold joinS
  cases hA : addAll L L with
  | none =>
    obtain ⟨t, ht⟩ := (addAll_none h.uq h.uq).1 hA
    rw [okO_self] at ht
    cases ht
  | some A =>
    obtain ⟨k1, k2⟩ := addAll_some h.uq h.uq hA
    have hp : A.Perm L := perm_of_getC k1 h.uq fun t => by rw [(k2 t).2, mrgO_self]
    simp only
    rw [openN_perm hp, if_neg (Nat.not_lt.2 h.few)]
    exact ⟨rfl, hp⟩
theorem mrg_three {x y z : Option Cl} (h1 : okO x y = true) (h2 : okO z y = true) (h3 : okO (mrgO x y) z = true) (h4 : okO (mrgO z y) x = true) : mrgO (mrgO x y) z = mrgO (mrgO z y) x := by
  cases x with
  | none =>
    cases y with
    | none => cases z <;> rfl
    | some b =>
      cases z with
      | none => rfl
      | some c => exact mrgO_comm (x := some b) (y := some c) h3
  | some a =>
    cases y with
    | none =>
      cases z with
      | none => rfl
      | some c => exact mrgO_comm (x := some a) (y := some c) h3
    | some b =>
      cases z with
      | none => exact mrgO_comm (x := some a) (y := some b) h1
      | some c =>
        obtain ⟨a1, a2, a3⟩ := sameC_iff.1 h1
        obtain ⟨b1, b2, b3⟩ := sameC_iff.1 h2
        show some (mrgC (mrgC a b) c) = some (mrgC (mrgC c b) a)
        congr 1
        refine Cl.ext' (a1.trans b1.symm) (a2.trans b2.symm) (a3.trans b3.symm) ?_
        show (a.gone || b.gone || c.gone) = (c.gone || b.gone || a.gone)
        cases a.gone <;> cases b.gone <;> cases c.gone <;> rfl
theorem join_three {L M N : List Cl} (hl : Pg L) (hm : Pg M) (hn : Pg N) (h1 : (joinS L M).2 = 0) (h2 : (joinS N M).2 = 0) (h3 : (joinS (joinS L M).1 N).2 = 0) (h4 : (joinS (joinS N M).1 L).2 = 0) :
    (joinS (joinS L M).1 N).1.Perm (joinS (joinS N M).1 L).1 := by
  obtain ⟨A, a1, a2, -⟩ := join_zero h1
  obtain ⟨B, b1, b2, -⟩ := join_zero h2
  rw [a2] at h3 ⊢
  rw [b2] at h4 ⊢
  obtain ⟨C, c1, c2, -⟩ := join_zero h3
  obtain ⟨D, d1, d2, -⟩ := join_zero h4
  rw [c2, d2]
  obtain ⟨uA, gA⟩ := addAll_some hl.uq hm.uq a1
  obtain ⟨uB, gB⟩ := addAll_some hn.uq hm.uq b1
  obtain ⟨uC, gC⟩ := addAll_some uA hn.uq c1
  obtain ⟨uD, gD⟩ := addAll_some uB hl.uq d1
  refine perm_of_getC uC uD fun t => ?_
  have e1 := gC t
  have e2 := gD t
  rw [(gA t).2] at e1
  rw [(gB t).2] at e2
  rw [e1.2, e2.2]
  exact mrg_three (gA t).1 (gB t).1 e1.1 e2.1

/-! ### Gone -/
theorem drop_find {L : List Cl} (h : Pg L) (t : St2) : ((dropS L t).2 = 0 ↔ 0 ≤ findS (walkS L) t) := by
  unfold dropS
  rcases find_cases (walk_uq h.tr) t with ⟨h1, h2⟩ | ⟨k, c, h1, h2, h3⟩
  · rw [getC_walk h] at h1
    rw [h1, h2]
    simp
  · rw [getC_walk h] at h1
    rw [h1, h3]
    simp
def goneC (c : Cl) : Cl := { c with gone := true }
theorem drop_list {L : List Cl} (h : Pg L) {t : St2} {k : Nat} {x : Cl} (hk : (walkS L)[k]? = some x) (hx : x.id = t) :
    walkS (dropS L t).1 = (walkS L).set k (goneC x) ∧ putS (dropS L t).1 x = ((dropS L t).1, 0) := by
  have hxL : x ∈ L := (walk_perm h.tr).mem_iff.1 (List.mem_of_getElem? hk)
  have hg : getC L t = some x := by rw [← hx]; exact getC_of h.uq hxL
  have hd : (dropS L t).1 = setC L (goneC x) := by unfold dropS; rw [hg]; rfl
  rw [hd]
  refine ⟨?_, ?_⟩
  · unfold setC
    rw [walkS_map (fun y => repC_id _ y) fun y hy => ?_]
    · apply List.ext_getElem?
      intro i
      rw [List.getElem?_map, List.getElem?_set]
      by_cases hi : k = i
      · subst hi
        rw [if_pos rfl, if_pos (List.getElem?_eq_some_iff.1 hk).1, hk]
        show some (repC (goneC x) x) = _
        unfold repC
        rw [if_pos (show x.id = (goneC x).id from rfl)]
      · rw [if_neg hi]
        cases hy : (walkS L)[i]? with
        | none => rfl
        | some y =>
          show some (repC (goneC x) y) = some y
          unfold repC
          rw [if_neg]
          intro e
          obtain ⟨h1, h2⟩ := List.getElem?_eq_some_iff.1 hk
          obtain ⟨h3, h4⟩ := List.getElem?_eq_some_iff.1 hy
          have hyx : y = x := uq_one (walk_uq h.tr) (List.mem_of_getElem? hy) (List.mem_of_getElem? hk) e
          have hnd := uq_nodup (walk_uq h.tr)
          have h5 := (List.pairwise_iff_getElem.1 hnd)
          rcases Nat.lt_or_gt_of_ne hi with hlt | hgt
          · exact h5 k i h1 h3 hlt (by rw [h2, h4, hyx])
          · exact h5 i k h3 h1 hgt (by rw [h2, h4, hyx])
    · unfold repC
      split
      · rename_i e
        have : y = x := uq_one h.uq hy hxL e
        rw [this]
        rfl
      · rfl
  · have hp := h.proper x hxL
    have hg2 : getC (setC L (goneC x)) x.id = some (goneC x) := by
      rw [getC_set, if_pos (show x.id = (goneC x).id from rfl), hx, hg]
      rfl
    unfold putS
    rw [if_neg (by rw [hp]; simp), hg2]
    simp only
    rw [if_pos (show sameC (goneC x) x = true from sameC_iff.2 ⟨rfl, rfl, rfl⟩)]
    congr 1
    show setC (setC L (goneC x)) (goneC x) = _
    unfold setC
    rw [List.map_map]
    apply List.map_congr_left
    intro y _
    show repC (goneC x) (repC (goneC x) y) = repC (goneC x) y
    by_cases hy : y.id = (goneC x).id
    · have : repC (goneC x) y = goneC x := by unfold repC; rw [if_pos hy]
      rw [this]
      unfold repC
      rw [if_pos rfl]
    · have : repC (goneC x) y = y := by unfold repC; rw [if_neg hy]
      rw [this, this]

/-! ### Stable -/
theorem put_zero_new {L : List Cl} {x : Cl} (hn : getC L x.id = none) (h : (putS L x).2 = 0) : (putS L x).1 = L ++ [x] ∧ properC x = true ∧ (x.after = z2 ∨ ∃ d ∈ L, d.id = x.after) := by
  unfold putS at *
  by_cases hp : properC x = false
  · rw [if_pos hp] at h; simp at h
  · rw [if_neg hp] at h ⊢
    rw [hn] at h ⊢
    simp only at h ⊢
    by_cases h1 : x.after ≠ z2 ∧ getC L x.after = none
    · rw [if_pos h1] at h; simp at h
    · rw [if_neg h1] at h ⊢
      by_cases h2 : x.gone = false ∧ 64 ≤ openN L
      · rw [if_pos h2] at h; simp at h
      · rw [if_neg h2]
        refine ⟨rfl, by simpa using hp, ?_⟩
        by_cases hz : x.after = z2
        · exact .inl hz
        · right
          cases hg : getC L x.after with
          | none => exact absurd ⟨hz, hg⟩ h1
          | some d => exact ⟨d, (getC_mem hg).1, (getC_mem hg).2⟩
theorem new_leaf {L : List Cl} (h : Pg L) {x : Cl} (hn : getC L x.id = none) (h' : Pg (L ++ [x])) : Leaf (L ++ [x]) L x where
  tr := h'.tr
  perm := by
    have := List.perm_append_comm (l₁ := L) (l₂ := [x])
    exact this
  leaf := fun c hc e => by
    rcases h.link c hc with h0 | ⟨d, hd, hde⟩
    · have := (h'.tr).pos x (by simp)
      rw [← e, h0] at this
      exact absurd this (by decide)
    · exact getC_none.1 hn d hd (hde.trans e)
theorem stable_law {L : List Cl} (h : Pg L) {x : Cl} (hn : findS (walkS L) x.id < 0) (h0 : (putS L x).2 = 0) :
    ∃ k : Nat, findS (walkS (putS L x).1) x.id = (k : Int) ∧ (walkS (putS L x).1)[k]? = some x ∧ (walkS (putS L x).1).length = (walkS L).length + 1 ∧
      (walkS (putS L x).1).take k ++ (walkS (putS L x).1).drop (k + 1) = walkS L ∧ findS (walkS (putS L x).1) x.after < (k : Int) ∧
      (x.after ≠ z2 → 0 ≤ findS (walkS (putS L x).1) x.after) ∧ ((∀ c ∈ walkS L, c.id.2 < x.id.2) → (k : Int) = findS (walkS (putS L x).1) x.after + 1) := by
  have hgn : getC L x.id = none := by
    rcases find_cases (walk_uq h.tr) x.id with ⟨h1, h2⟩ | ⟨k, c, h1, h2, h3⟩
    · rwa [getC_walk h] at h1
    · rw [h3] at hn; omega
  have h' := h.put x
  obtain ⟨e1, hp, hlink⟩ := put_zero_new hgn h0
  rw [e1] at h' ⊢
  have hlf := new_leaf h hgn h'
  obtain ⟨w1, w2⟩ := walk_leaf hlf h.tr (walk_perm h.tr)
  have hperm := walk_perm h'.tr
  have hu := walk_uq h'.tr
  have hxm : x ∈ walkS (L ++ [x]) := hperm.mem_iff.2 (by simp)
  obtain ⟨A, B, hAB⟩ := List.append_of_mem hxm
  have hz : ∀ c ∈ walkS (L ++ [x]), c.id ≠ z2 := fun c hc e => by
    have := (h'.tr).pos c (hperm.mem_iff.1 hc)
    rw [e] at this
    exact absurd this (by decide)
  refine ⟨A.length, by rw [hAB] at hu ⊢; exact find_split hu, by rw [hAB]; simp, ?_, ?_, ?_, ?_, ?_⟩
  · rw [hperm.length_eq, (walk_perm h.tr).length_eq]; simp
  · rw [← w2, hAB]
    rw [hAB] at hu
    have hnd := uq_nodup hu
    have hA : ∀ c ∈ A, c ≠ x := fun c hc => (List.nodup_append.1 hnd).2.2 c hc x List.mem_cons_self
    have hB : ∀ c ∈ B, c ≠ x := fun c hc e => (List.nodup_cons.1 (List.nodup_append.1 hnd).2.1).1 (e ▸ hc)
    rw [List.filter_append, List.filter_cons_of_neg (by simp), List.filter_eq_self.2 (fun c hc => by simpa using hA c hc), List.filter_eq_self.2 (fun c hc => by simpa using hB c hc)]
    simp
  · have hx2 : x ∈ walkN ((L ++ [x]).length + 1) (L ++ [x]) z2 := hxm
    rcases walk_below hx2 with h1 | ⟨A', d, B', h1, h2, h3⟩
    · rw [h1, find_none hz]; omega
    · have hd := before (uq_nodup hu) hAB h1 h3
      obtain ⟨j, hj⟩ := List.getElem?_of_mem hd
      obtain ⟨hj1, _⟩ := List.getElem?_eq_some_iff.1 hj
      have h4 : walkS (L ++ [x]) = A' ++ d :: B' := h1
      have h5 : findS (walkS (L ++ [x])) x.after = (j : Int) := by
        rw [← h2]
        have hA2 := List.append_of_mem (List.mem_of_getElem? hj)
        rcases find_cases hu d.id with ⟨k1, _⟩ | ⟨k, c, k1, k2, k3⟩
        · exact absurd rfl (getC_none.1 k1 d (by rw [h4]; simp))
        · have hcd : c = d := uq_one hu (List.mem_of_getElem? k2) (by rw [h4]; simp) (getC_mem k1).2
          have hj' : (walkS (L ++ [x]))[j]? = some d := by rw [hAB, List.getElem?_append_left hj1]; exact hj
          have hnd := List.pairwise_iff_getElem.1 (uq_nodup hu)
          rw [k3]
          obtain ⟨p1, p2⟩ := List.getElem?_eq_some_iff.1 k2
          obtain ⟨p3, p4⟩ := List.getElem?_eq_some_iff.1 hj'
          rcases Nat.lt_trichotomy k j with hlt | heq | hgt
          · exact absurd (by rw [p2, p4, hcd]) (hnd k j p1 p3 hlt)
          · rw [heq]
          · exact absurd (by rw [p2, p4, hcd]) (hnd j k p3 p1 hgt)
      rw [h5]
      omega
  · intro hne
    rcases hlink with h1 | ⟨d, hd, hde⟩
    · exact absurd h1 hne
    · rcases find_cases hu x.after with ⟨k1, _⟩ | ⟨k, c, k1, k2, k3⟩
      · exact absurd hde (getC_none.1 k1 d (hperm.mem_iff.2 (List.mem_append_left _ hd)))
      · rw [k3]; omega
  · intro hg
    have hg2 : ∀ c ∈ L ++ [x], c ≠ x → c.id.2 < x.id.2 := fun c hc hne => by
      rcases List.mem_append.1 hc with hc | hc
      · exact hg c ((walk_perm h.tr).mem_iff.2 hc)
      · simp at hc; exact absurd hc hne
    have hrk := rank_le (L ++ [x]) z2
    rcases walk_first h'.tr (x := x) (by simp) hg2 (n := (L ++ [x]).length + 1) (t := z2) (by omega) hxm with ⟨h1, B', h2⟩ | ⟨A', d, B', h1, h2⟩
    · have h3 : walkS (L ++ [x]) = [] ++ x :: B' := h2
      have h4 : A = [] := by
        cases A with
        | nil => rfl
        | cons a A =>
          rw [hAB] at h3 hu
          simp at h3
          have := (List.nodup_cons.1 (uq_nodup hu)).1
          rw [h3.1] at this
          exact absurd (by simp) this
      rw [h1, find_none hz, h4]
      rfl
    · have h3 : walkS (L ++ [x]) = (A' ++ [d]) ++ x :: B' := by rw [show walkS (L ++ [x]) = A' ++ d :: x :: B' from h1]; simp
      have h4 : A.length = A'.length + 1 := by
        have e1 := find_split (by rw [hAB] at hu; exact hu)
        have e2 := find_split (by rw [h3] at hu; exact hu)
        rw [← hAB] at e1
        rw [← h3] at e2
        rw [e1] at e2
        simp at e2
        omega
      have h5 : findS (walkS (L ++ [x])) x.after = (A'.length : Int) := by
        rw [← h2]
        have h6 : walkS (L ++ [x]) = A' ++ d :: x :: B' := h1
        rw [h6] at hu ⊢
        exact find_split hu
      rw [h5, h4]
      omega
end Go.Proofs.Ytbihklfcdpgcgaa
