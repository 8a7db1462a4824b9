/- Clauses in order, in plain words: the tree of a page, walked. No program in sight. -/
import Derived.Test.YtbihklfcdpgcgaaEa
namespace Go.Proofs.Ytbihklfcdpgcgaa

/-- a comes before b among children. -/
def bef (a b : Cl) : Bool := decide (b.id.2 < a.id.2) || (decide (a.id.2 = b.id.2) && decide (b.id.1 < a.id.1))
theorem bef_iff {a b : Cl} : bef a b = true ↔ b.id.2 < a.id.2 ∨ (a.id.2 = b.id.2 ∧ b.id.1 < a.id.1) := by simp [bef]
theorem bef_asymm {a b : Cl} (h : bef a b = true) (h' : bef b a = true) : False := by
  rw [bef_iff] at h h'; omega
theorem bef_trans {a b c : Cl} (h : bef a b = true) (h' : bef b c = true) : bef a c = true := by
  rw [bef_iff] at *; omega
theorem bef_total {a b : Cl} (h : a.id ≠ b.id) : bef a b = true ∨ bef b a = true := by
  rw [bef_iff, bef_iff]
  have : ¬ (a.id.1 = b.id.1 ∧ a.id.2 = b.id.2) := fun ⟨h1, h2⟩ => h (Prod.ext h1 h2)
  omega
def insC (x : Cl) : List Cl → List Cl
  | [] => [x]
  | y :: l => if bef y x then y :: insC x l else x :: y :: l
def sortC (l : List Cl) : List Cl := l.foldl (fun a x => insC x a) []
theorem insC_perm (x : Cl) : ∀ l, (insC x l).Perm (x :: l)
  | [] => List.Perm.refl _
  | y :: l => by
    unfold insC
    split
    · exact ((insC_perm x l).cons y).trans (List.Perm.swap _ _ _)
    · exact List.Perm.refl _
theorem insC_sorted {x : Cl} : ∀ {l : List Cl}, l.Pairwise (fun a b => bef a b = true) → (∀ y ∈ l, y.id ≠ x.id) → (insC x l).Pairwise (fun a b => bef a b = true)
  | [], _, _ => by simp [insC]
  | y :: l, h, hx => by
    obtain ⟨h1, h2⟩ := List.pairwise_cons.1 h
    unfold insC
    split
    · rename_i hb
      refine List.pairwise_cons.2 ⟨fun z hz => ?_, insC_sorted h2 fun z hz => hx z (List.mem_cons_of_mem _ hz)⟩
      rcases List.mem_cons.1 ((insC_perm x l).mem_iff.1 hz) with rfl | hz
      · exact hb
      · exact h1 z hz
    · rename_i hb
      have hxy : bef x y = true := (bef_total (hx y List.mem_cons_self)).resolve_left hb
      refine List.pairwise_cons.2 ⟨fun z hz => ?_, h⟩
      rcases List.mem_cons.1 hz with rfl | hz
      · exact hxy
      · exact bef_trans hxy (h1 z hz)
theorem insC_split (x : Cl) : ∀ l, ∃ a b, l = a ++ b ∧ insC x l = a ++ x :: b
  | [] => ⟨[], [], rfl, rfl⟩
  | y :: l => by
    unfold insC
    split
    · obtain ⟨a, b, h1, h2⟩ := insC_split x l
      exact ⟨y :: a, b, by rw [h1]; rfl, by rw [h2]; rfl⟩
    · exact ⟨[], y :: l, rfl, rfl⟩
theorem sortC_fold : ∀ (l a : List Cl), (l.foldl (fun a x => insC x a) a).Perm (l ++ a)
  | [], _ => List.Perm.refl _
  | x :: l, a => (sortC_fold l (insC x a)).trans (((insC_perm x a).append_left l).trans List.perm_middle)
theorem sortC_perm (l : List Cl) : (sortC l).Perm l := by
  have := sortC_fold l []
  rwa [List.append_nil] at this
theorem sortC_sorted_fold : ∀ (l a : List Cl), (l ++ a).Pairwise (fun a b => a.id ≠ b.id) → a.Pairwise (fun a b => bef a b = true) → (l.foldl (fun a x => insC x a) a).Pairwise (fun a b => bef a b = true)
  | [], a, _, h => h
  | x :: l, a, hu, h => by
    obtain ⟨h1, h2⟩ := List.pairwise_cons.1 hu
    refine sortC_sorted_fold l (insC x a) ?_ (insC_sorted h fun y hy => Ne.symm (h1 y (List.mem_append_right _ hy)))
    have hp : (x :: (l ++ a)).Perm (l ++ insC x a) := (List.perm_middle.symm).trans ((insC_perm x a).symm.append_left l)
    exact (hp.pairwise_iff fun {_ _} h => Ne.symm h).1 hu
theorem sortC_sorted {l : List Cl} (h : Uq l) : (sortC l).Pairwise (fun a b => bef a b = true) := sortC_sorted_fold l [] (by rw [List.append_nil]; exact h) List.Pairwise.nil
theorem sort_one {l m : List Cl} (h1 : l.Pairwise (fun a b => bef a b = true)) (h2 : m.Pairwise (fun a b => bef a b = true)) (p : l.Perm m) : l = m :=
  p.eq_of_pairwise (fun _ _ _ _ h h' => (bef_asymm h h').elim) h1 h2

/-! ### the tree -/
def kids (L : List Cl) (t : St2) : List Cl := sortC (L.filter fun c => decide (c.after = t))
def walkN : Nat → List Cl → St2 → List Cl
  | 0, _, _ => []
  | n + 1, L, t => (kids L t).flatMap fun c => c :: walkN n L c.id
theorem walkN_succ (n : Nat) (L : List Cl) (t : St2) : walkN (n + 1) L t = (kids L t).flatMap fun c => c :: walkN n L c.id := rfl
def walkS (L : List Cl) : List Cl := walkN (L.length + 1) L z2
def rank (L : List Cl) (t : St2) : Nat := L.countP fun c => decide (t.2 < c.id.2)
structure Tr (L : List Cl) : Prop where
  uq : Uq L
  up : ∀ c ∈ L, c.after.2 < c.id.2
  pos : ∀ c ∈ L, 0 < c.id.2
  link : ∀ c ∈ L, c.after = z2 ∨ ∃ d ∈ L, d.id = c.after
theorem properC_iff {c : Cl} : properC c = true ↔ (0 ≤ c.id.1 ∧ c.id.1 < 200 ∧ 1 ≤ c.id.2 ∧ c.id.2 ≤ 1000000) ∧ (c.after = z2 ∨ ((0 ≤ c.after.1 ∧ c.after.1 < 200 ∧ 1 ≤ c.after.2 ∧ c.after.2 ≤ 1000000) ∧ c.after.2 < c.id.2)) := by
  simp [properC, properT]
theorem Pg.tr {L : List Cl} (h : Pg L) : Tr L where
  uq := h.uq
  up c hc := by
    rcases (properC_iff.1 (h.proper c hc)) with ⟨h1, h2 | h2⟩
    · rw [h2]; show (0 : Int) < _; omega
    · exact h2.2
  pos c hc := by have := (properC_iff.1 (h.proper c hc)).1; omega
  link := h.link
theorem kids_mem {L : List Cl} {t : St2} {c : Cl} : c ∈ kids L t ↔ c ∈ L ∧ c.after = t := by
  unfold kids
  rw [(sortC_perm _).mem_iff, List.mem_filter]
  simp
theorem kids_sorted {L : List Cl} (h : Uq L) (t : St2) : (kids L t).Pairwise (fun a b => bef a b = true) := sortC_sorted (List.Pairwise.filter _ h)
theorem kids_perm {L M : List Cl} (h : Uq L) (p : L.Perm M) (t : St2) : kids L t = kids M t :=
  sort_one (kids_sorted h t) (kids_sorted (h.perm p) t) ((sortC_perm _).trans ((p.filter _).trans (sortC_perm _).symm))
theorem flatMap_congr' {f g : Cl → List Cl} : ∀ {l : List Cl}, (∀ c ∈ l, f c = g c) → l.flatMap f = l.flatMap g
  | [], _ => rfl
  | x :: l, h => by
    rw [List.flatMap_cons, List.flatMap_cons, h x List.mem_cons_self, flatMap_congr' fun c hc => h c (List.mem_cons_of_mem _ hc)]
theorem walkN_perm {L M : List Cl} (h : Uq L) (p : L.Perm M) : ∀ n t, walkN n L t = walkN n M t
  | 0, _ => rfl
  | n + 1, t => by
    unfold walkN
    rw [kids_perm h p]
    exact flatMap_congr' fun c _ => by rw [walkN_perm h p n]
theorem walkS_perm {L M : List Cl} (h : Uq L) (p : L.Perm M) : walkS L = walkS M := by
  unfold walkS
  rw [p.length_eq]
  exact walkN_perm h p _ _
theorem rank_le (L : List Cl) (t : St2) : rank L t ≤ L.length := List.countP_le_length
theorem countP_lt {α : Type} {p q : α → Bool} {x : α} : ∀ {l : List α}, (∀ a ∈ l, p a = true → q a = true) → x ∈ l → p x = false → q x = true → l.countP p < l.countP q
  | y :: l, h, hx, h1, h2 => by
    have hle : l.countP p ≤ l.countP q := List.countP_mono_left fun a ha hp => h a (List.mem_cons_of_mem _ ha) hp
    rw [List.countP_cons, List.countP_cons]
    rcases List.mem_cons.1 hx with rfl | hx
    · rw [h1, h2]
      simp
      omega
    · have := countP_lt (fun a ha => h a (List.mem_cons_of_mem _ ha)) hx h1 h2
      by_cases hy : p y = true
      · rw [hy, h y List.mem_cons_self hy]; simp; omega
      · simp [hy]; omega
theorem rank_kid {L : List Cl} (h : Tr L) {t : St2} {c : Cl} (hc : c ∈ kids L t) : rank L c.id < rank L t := by
  obtain ⟨h1, h2⟩ := kids_mem.1 hc
  have h3 := h.up c h1
  rw [h2] at h3
  unfold rank
  exact countP_lt (x := c) (fun a _ ha => by simp at ha ⊢; omega) h1 (by simp) (by simpa using h3)
theorem walkN_fuel {L : List Cl} (h : Tr L) : ∀ n m t, rank L t < n → rank L t < m → walkN n L t = walkN m L t
  | 0, _, _, h1, _ => by omega
  | _, 0, _, _, h2 => by omega
  | n + 1, m + 1, t, h1, h2 => by
    unfold walkN
    exact flatMap_congr' fun c hc => by
      have := rank_kid h hc
      rw [walkN_fuel h n m c.id (by omega) (by omega)]

/-! ### one leaf more -/
structure Leaf (L' L : List Cl) (x : Cl) : Prop where
  tr : Tr L'
  perm : L'.Perm (x :: L)
  leaf : ∀ c ∈ L, c.after ≠ x.id
section
variable {L' L : List Cl} {x : Cl}
theorem Leaf.ne (h : Leaf L' L x) {c : Cl} (hc : c ∈ L) : c.id ≠ x.id := by
  have := h.tr.uq.perm h.perm
  exact Ne.symm ((List.pairwise_cons.1 this).1 c hc)
theorem Leaf.uq (h : Leaf L' L x) : Uq L := (List.pairwise_cons.1 (h.tr.uq.perm h.perm)).2
theorem Leaf.mem (h : Leaf L' L x) {c : Cl} (hc : c ∈ L) : c ∈ L' := h.perm.mem_iff.2 (List.mem_cons_of_mem _ hc)
theorem Leaf.self (h : Leaf L' L x) : x.after ≠ x.id := fun e => by
  have := h.tr.up x (h.perm.mem_iff.2 List.mem_cons_self)
  rw [e] at this
  omega
theorem Leaf.kids (h : Leaf L' L x) (t : St2) : kids L' t = if x.after = t then insC x (kids L t) else kids L t := by
  rw [kids_perm h.tr.uq h.perm]
  split
  · rename_i e
    refine sort_one (kids_sorted (h.tr.uq.perm h.perm) t) (insC_sorted (kids_sorted h.uq t) fun y hy => h.ne (kids_mem.1 hy).1) ?_
    have e1 : (x :: L).filter (fun c => decide (c.after = t)) = x :: L.filter (fun c => decide (c.after = t)) := List.filter_cons_of_pos (by simpa using e)
    refine (sortC_perm _).trans ?_
    rw [e1]
    exact ((sortC_perm (L.filter fun c => decide (c.after = t))).symm.cons x).trans (insC_perm x _).symm
  · rename_i e
    have e1 : (x :: L).filter (fun c => decide (c.after = t)) = L.filter (fun c => decide (c.after = t)) := List.filter_cons_of_neg (by simpa using e)
    unfold Proofs.Ytbihklfcdpgcgaa.kids
    rw [e1]
theorem Leaf.none (h : Leaf L' L x) (n : Nat) : walkN n L' x.id = [] := by
  cases n with
  | zero => rfl
  | succ n =>
    have : Proofs.Ytbihklfcdpgcgaa.kids L' x.id = [] := by
      rw [List.eq_nil_iff_forall_not_mem]
      intro c hc
      obtain ⟨h1, h2⟩ := kids_mem.1 hc
      rcases List.mem_cons.1 (h.perm.mem_iff.1 h1) with rfl | h1
      · exact h.self h2
      · exact h.leaf c h1 h2
    unfold walkN
    rw [this]
    rfl
theorem Leaf.filter (h : Leaf L' L x) : ∀ n t, (walkN n L' t).filter (fun c => decide (c ≠ x)) = walkN n L t
  | 0, _ => rfl
  | n + 1, t => by
    have hk : ∀ K : List Cl, (∀ c ∈ K, c ∈ L) → (K.flatMap fun c => c :: walkN n L' c.id).filter (fun c => decide (c ≠ x)) = K.flatMap fun c => c :: walkN n L c.id := fun K hK => by
      rw [List.filter_flatMap]
      refine flatMap_congr' fun c hc => ?_
      have hne : c ≠ x := fun e => h.ne (hK c hc) (by rw [e])
      rw [List.filter_cons_of_pos (by simpa using hne), h.filter n c.id]
    show ((Proofs.Ytbihklfcdpgcgaa.kids L' t).flatMap fun c => c :: walkN n L' c.id).filter _ = (Proofs.Ytbihklfcdpgcgaa.kids L t).flatMap fun c => c :: walkN n L c.id
    rw [h.kids]
    have hm : ∀ c ∈ Proofs.Ytbihklfcdpgcgaa.kids L t, c ∈ L := fun c hc => (kids_mem.1 hc).1
    split
    · obtain ⟨a, b, h1, h2⟩ := insC_split x (Proofs.Ytbihklfcdpgcgaa.kids L t)
      rw [h2, h1, List.flatMap_append, List.flatMap_cons, h.none n, List.filter_append, List.filter_append, hk a (fun c hc => hm c (by rw [h1]; exact List.mem_append_left _ hc)), hk b (fun c hc => hm c (by rw [h1]; exact List.mem_append_right _ hc)), List.flatMap_append]
      simp
    · exact hk _ hm
theorem Leaf.count (h : Leaf L' L x) : ∀ n t, rank L' t < n → (walkN n L' t).count x = (if x.after = t then 1 else 0) + (walkN n L t).countP fun c => decide (c.id = x.after)
  | 0, _, hr => by omega
  | n + 1, t, hr => by
    have hk : ∀ K : List Cl, (∀ c ∈ K, c ∈ L ∧ rank L' c.id < n) → (K.flatMap fun c => c :: walkN n L' c.id).count x = (K.flatMap fun c => c :: walkN n L c.id).countP fun c => decide (c.id = x.after) := fun K hK => by
      induction K with
      | nil => rfl
      | cons c K ih =>
        obtain ⟨h1, h2⟩ := hK c List.mem_cons_self
        have hne : c ≠ x := fun e => h.ne h1 (by rw [e])
        rw [List.flatMap_cons, List.flatMap_cons, List.count_append, List.countP_append, ih fun c hc => hK c (List.mem_cons_of_mem _ hc), List.count_cons_of_ne hne, h.count n c.id h2, List.countP_cons]
        by_cases e : c.id = x.after
        · rw [if_pos e.symm]; simp [e]; omega
        · rw [if_neg (Ne.symm e)]; simp [e]
    show ((Proofs.Ytbihklfcdpgcgaa.kids L' t).flatMap fun c => c :: walkN n L' c.id).count x = _ + ((Proofs.Ytbihklfcdpgcgaa.kids L t).flatMap fun c => c :: walkN n L c.id).countP _
    have hm : ∀ c ∈ Proofs.Ytbihklfcdpgcgaa.kids L t, c ∈ L ∧ rank L' c.id < n := fun c hc => by
      obtain ⟨h1, h2⟩ := kids_mem.1 hc
      have := rank_kid h.tr (kids_mem.2 ⟨h.mem h1, h2⟩)
      exact ⟨h1, by omega⟩
    rw [h.kids]
    split
    · obtain ⟨a, b, h1, h2⟩ := insC_split x (Proofs.Ytbihklfcdpgcgaa.kids L t)
      have ha := hk a fun c hc => hm c (by rw [h1]; exact List.mem_append_left _ hc)
      have hb := hk b fun c hc => hm c (by rw [h1]; exact List.mem_append_right _ hc)
      rw [h2, h1, List.flatMap_append, List.flatMap_cons, h.none n, List.count_append, List.count_append, ha, hb, List.flatMap_append, List.countP_append, List.count_cons_self]
      simp only [List.count_nil]
      omega
    · rw [hk _ hm, Nat.zero_add]
end
theorem exists_max : ∀ {L : List Cl}, L ≠ [] → ∃ x ∈ L, ∀ c ∈ L, c.id.2 ≤ x.id.2
  | [], h => absurd rfl h
  | [x], _ => ⟨x, List.mem_cons_self, fun c hc => by simp at hc; subst hc; exact Int.le_refl _⟩
  | x :: y :: L, _ => by
    obtain ⟨m, hm, hM⟩ := exists_max (L := y :: L) (by simp)
    by_cases h : x.id.2 ≤ m.id.2
    · refine ⟨m, List.mem_cons_of_mem _ hm, fun c hc => ?_⟩
      rcases List.mem_cons.1 hc with rfl | hc
      · exact h
      · exact hM c hc
    · refine ⟨x, List.mem_cons_self, fun c hc => ?_⟩
      rcases List.mem_cons.1 hc with rfl | hc
      · exact Int.le_refl _
      · have := hM c hc; omega
theorem countP_id {L : List Cl} (h : Uq L) {d : Cl} (hd : d ∈ L) : (L.countP fun c => decide (c.id = d.id)) = 1 := by
  induction L with
  | nil => cases hd
  | cons y L ih =>
    obtain ⟨h1, h2⟩ := List.pairwise_cons.1 h
    rw [List.countP_cons]
    rcases List.mem_cons.1 hd with rfl | hd
    · have : (L.countP fun c => decide (c.id = d.id)) = 0 := List.countP_eq_zero.2 fun c hc => by simpa using Ne.symm (h1 c hc)
      rw [this]; simp
    · rw [ih h2 hd]
      simp [h1 d hd]
theorem walk_leaf {L' L : List Cl} {x : Cl} (h : Leaf L' L x) (ht : Tr L) (hp : (walkS L).Perm L) : (walkS L').count x = 1 ∧ (walkS L').filter (fun c => decide (c ≠ x)) = walkS L := by
  have hlen : L'.length = L.length + 1 := h.perm.length_eq
  have hr := rank_le L' z2
  have hr2 := rank_le L z2
  have hx : x ∈ L' := h.perm.mem_iff.2 List.mem_cons_self
  have e : walkN (L'.length + 1) L z2 = walkS L := walkN_fuel ht _ _ _ (by omega) (by omega)
  refine ⟨?_, ?_⟩
  · unfold walkS
    rw [h.count _ _ (by omega), e, hp.countP_eq]
    rcases h.tr.link x hx with h0 | ⟨d, hd, hde⟩
    · rw [if_pos h0]
      have : (L.countP fun c => decide (c.id = x.after)) = 0 := List.countP_eq_zero.2 fun c hc => by
        have := ht.pos c hc
        simp only [decide_eq_true_eq]
        intro e2
        rw [e2, h0] at this
        exact absurd this (by decide)
      rw [this]
    · have hne : x.after ≠ z2 := fun e2 => by
        have := h.tr.pos d hd
        rw [hde, e2] at this
        exact absurd this (by decide)
      rw [if_neg hne]
      rcases List.mem_cons.1 (h.perm.mem_iff.1 hd) with rfl | hd
      · exact absurd hde.symm h.self
      · rw [← hde, countP_id h.uq hd]
  · unfold walkS
    rw [h.filter, e]
    rfl
theorem walk_perm_len : ∀ (n : Nat) {L : List Cl}, L.length = n → Tr L → (walkS L).Perm L
  | 0, L, hn, _ => by
    obtain rfl : L = [] := List.length_eq_zero_iff.1 hn
    exact List.Perm.refl _
  | n + 1, L, hn, ht => by
    obtain ⟨x, hx, hmax⟩ := exists_max (L := L) (by intro e; rw [e] at hn; cases hn)
    have hp := List.perm_cons_erase hx
    have hle := hp.length_eq
    simp only [List.length_cons] at hle
    have hsub : ∀ {c}, c ∈ L.erase x → c ∈ L := fun hc => List.mem_of_mem_erase hc
    have hl : Leaf L (L.erase x) x := ⟨ht, hp, fun c hc e => by
      have h1 := ht.up c (hsub hc)
      have h2 := hmax c (hsub hc)
      rw [e] at h1
      omega⟩
    have ht0 : Tr (L.erase x) := ⟨hl.uq, fun c hc => ht.up c (hsub hc), fun c hc => ht.pos c (hsub hc), fun c hc => (ht.link c (hsub hc)).imp id fun ⟨d, hd, e⟩ => by
      rcases List.mem_cons.1 (hp.mem_iff.1 hd) with rfl | hd
      · exact absurd e.symm (hl.leaf c hc)
      · exact ⟨d, hd, e⟩⟩
    have ih := walk_perm_len n (L := L.erase x) (by omega) ht0
    obtain ⟨k1, k2⟩ := walk_leaf hl ht0 ih
    rw [List.perm_iff_count]
    intro a
    by_cases ha : a = x
    · subst ha
      rw [k1, (uq_nodup ht.uq).count, if_pos hx]
    · have h1 : (walkS L).count a = ((walkS L).filter fun c => decide (c ≠ x)).count a := (List.count_filter (by simpa using ha)).symm
      rw [h1, k2, ih.count_eq, hp.count_eq, List.count_cons_of_ne (Ne.symm ha)]
theorem walk_perm {L : List Cl} (h : Tr L) : (walkS L).Perm L := walk_perm_len _ rfl h
theorem walk_uq {L : List Cl} (h : Tr L) : Uq (walkS L) := h.uq.perm (walk_perm h).symm

/-! ### clauses turned in place -/
theorem insC_map {f : Cl → Cl} (hf : ∀ x, (f x).id = x.id) (x : Cl) : ∀ l, insC (f x) (l.map f) = (insC x l).map f
  | [] => rfl
  | y :: l => by
    have e : bef (f y) (f x) = bef y x := by unfold bef; rw [hf, hf]
    rw [List.map_cons]
    unfold insC
    rw [e]
    split
    · rw [List.map_cons, insC_map hf x l]
    · rfl
theorem sortC_map {f : Cl → Cl} (hf : ∀ x, (f x).id = x.id) : ∀ (l a : List Cl), (l.map f).foldl (fun a x => insC x a) (a.map f) = (l.foldl (fun a x => insC x a) a).map f
  | [], a => rfl
  | x :: l, a => by
    rw [List.map_cons, List.foldl_cons, List.foldl_cons, insC_map hf, sortC_map hf l]
theorem kids_map {f : Cl → Cl} (hf : ∀ x, (f x).id = x.id) {L : List Cl} (ha : ∀ x ∈ L, (f x).after = x.after) (t : St2) : kids (L.map f) t = (kids L t).map f := by
  unfold kids sortC
  rw [List.filter_map]
  have e : L.filter ((fun c => decide (c.after = t)) ∘ f) = L.filter (fun c => decide (c.after = t)) := List.filter_congr fun x hx => by simp [ha x hx]
  rw [e]
  exact sortC_map hf _ []
theorem walkN_map {f : Cl → Cl} (hf : ∀ x, (f x).id = x.id) {L : List Cl} (ha : ∀ x ∈ L, (f x).after = x.after) : ∀ n t, walkN n (L.map f) t = (walkN n L t).map f
  | 0, _ => rfl
  | n + 1, t => by
    unfold walkN
    rw [kids_map hf ha, List.flatMap_map, List.map_flatMap]
    refine flatMap_congr' fun c _ => ?_
    rw [hf, walkN_map hf ha n, List.map_cons]
theorem walkS_map {f : Cl → Cl} (hf : ∀ x, (f x).id = x.id) {L : List Cl} (ha : ∀ x ∈ L, (f x).after = x.after) : walkS (L.map f) = (walkS L).map f := by
  unfold walkS
  rw [List.length_map]
  exact walkN_map hf ha _ _

/-! ### where a clause stands -/
theorem walk_below {L : List Cl} : ∀ {n : Nat} {t : St2} {x : Cl}, x ∈ walkN n L t → x.after = t ∨ ∃ A d B, walkN n L t = A ++ d :: B ∧ d.id = x.after ∧ x ∈ B
  | 0, _, _, h => by cases h
  | n + 1, t, x, h => by
    have h' := h
    unfold walkN at h
    obtain ⟨e, he, hx⟩ := List.mem_flatMap.1 h
    obtain ⟨a, b, hab⟩ := List.append_of_mem he
    have hsp : walkN (n + 1) L t = (a.flatMap fun c => c :: walkN n L c.id) ++ (e :: (walkN n L e.id ++ b.flatMap fun c => c :: walkN n L c.id)) := by
      rw [walkN_succ, hab, List.flatMap_append, List.flatMap_cons, List.cons_append]
    rcases List.mem_cons.1 hx with rfl | hx
    · exact .inl (kids_mem.1 he).2
    · right
      rcases walk_below hx with h1 | ⟨A, d, B, h1, h2, h3⟩
      · exact ⟨_, e, _, hsp, h1.symm, List.mem_append_left _ hx⟩
      · rw [h1] at hsp
        refine ⟨(a.flatMap fun c => c :: walkN n L c.id) ++ e :: A, d, B ++ b.flatMap fun c => c :: walkN n L c.id, ?_, h2, List.mem_append_left _ h3⟩
        rw [hsp]
        simp
theorem kids_first {L : List Cl} (hu : Uq L) {x : Cl} (hx : x ∈ L) (hg : ∀ c ∈ L, c ≠ x → c.id.2 < x.id.2) : ∃ K, kids L x.after = x :: K := by
  have hm : x ∈ kids L x.after := kids_mem.2 ⟨hx, rfl⟩
  have hs := kids_sorted hu x.after
  cases hk : kids L x.after with
  | nil => rw [hk] at hm; cases hm
  | cons y K =>
    rw [hk] at hm hs
    rcases List.mem_cons.1 hm with rfl | hm
    · exact ⟨K, rfl⟩
    · have h1 := (List.pairwise_cons.1 hs).1 x hm
      have hy : y ∈ L := (kids_mem.1 (hk ▸ List.mem_cons_self : y ∈ kids L x.after)).1
      have hne : y ≠ x := fun e => by rw [e] at h1; exact bef_asymm h1 h1
      have h2 := hg y hy hne
      rw [bef_iff] at h1
      omega
theorem walk_first {L : List Cl} (ht : Tr L) {x : Cl} (hxL : x ∈ L) (hg : ∀ c ∈ L, c ≠ x → c.id.2 < x.id.2) : ∀ {n : Nat} {t : St2}, rank L t < n → x ∈ walkN n L t →
    (x.after = t ∧ ∃ B, walkN n L t = x :: B) ∨ ∃ A d B, walkN n L t = A ++ d :: x :: B ∧ d.id = x.after
  | 0, _, h, _ => by omega
  | n + 1, t, hr, h => by
    have h' := h
    unfold walkN at h
    obtain ⟨e, he, hx⟩ := List.mem_flatMap.1 h
    have hrk := rank_kid ht he
    obtain ⟨a, b, hab⟩ := List.append_of_mem he
    have hsp : walkN (n + 1) L t = (a.flatMap fun c => c :: walkN n L c.id) ++ (e :: (walkN n L e.id ++ b.flatMap fun c => c :: walkN n L c.id)) := by
      rw [walkN_succ, hab, List.flatMap_append, List.flatMap_cons, List.cons_append]
    rcases List.mem_cons.1 hx with hxe | hx
    · left
      subst hxe
      have h1 := (kids_mem.1 he).2
      obtain ⟨K, hK⟩ := kids_first ht.uq hxL hg
      refine ⟨h1, walkN n L x.id ++ K.flatMap fun c => c :: walkN n L c.id, ?_⟩
      rw [← h1]
      rw [walkN_succ, hK, List.flatMap_cons]
      rfl
    · right
      rcases walk_first ht hxL hg (by omega) hx with ⟨h1, B, h2⟩ | ⟨A, d, B, h1, h2⟩
      · rw [h2] at hsp
        exact ⟨a.flatMap (fun c => c :: walkN n L c.id), e, B ++ b.flatMap fun c => c :: walkN n L c.id, by rw [hsp]; simp, h1.symm⟩
      · rw [h1] at hsp
        exact ⟨(a.flatMap fun c => c :: walkN n L c.id) ++ e :: A, d, B ++ b.flatMap fun c => c :: walkN n L c.id, by rw [hsp]; simp, h2⟩
end Go.Proofs.Ytbihklfcdpgcgaa
