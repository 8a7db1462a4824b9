/- Part 1 of what the laws of this seat stand on: Eb, Ec, Laws, Ed, Hc, Ee. -/
import Derived.Test.YtaicbllfkehhjaaZ0
import Derived.Test.YtaicbllfkehhjaaProg
import Derived.Lib.Strings
import Derived.StillTailTactics
import Derived.Deep.WholeRow
import Derived.Laws.CopyOwn
import Derived.Lib.BufferWrite
import Derived.Lib.LazyBuf
import Derived.Laws.BytesArg
import Derived.Laws.MakeOwn
import Derived.Deep.QuietTactic
import Derived.BigQuiet
import Derived.Maps.Own
import Derived.Maps.RangeRun
import Derived.MapKept

/- Clauses in order, in plain words: the tree of a page, walked. No program in sight. -/
namespace Go.Proofs.Ytaicbllfkehhjaa

/-- a comes before b among children. -/
def bef (a b : Cl) : Bool := decide (b.id.2 < a.id.2) || (decide (a.id.2 = b.id.2) && decide (b.id.1 < a.id.1))
theorem bef_iff {a b : Cl} : bef a b = true ↔ b.id.2 < a.id.2 ∨ (a.id.2 = b.id.2 ∧ b.id.1 < a.id.1) := by simp [bef]
theorem bef_asymm {a b : Cl} (h : bef a b = true) (h' : bef b a = true) : False := by
  rw [bef_iff] at h h'; omega
theorem bef_trans {a b c : Cl} (h : bef a b = true) (h' : bef b c = true) : bef a c = true := by
  rw [bef_iff] at *; omega
theorem bef_total {a b : Cl} (h : a.id ≠ b.id) : bef a b = true ∨ bef b a = true := by
  rw [bef_iff, bef_iff]
  have : ¬ (a.id.1 = b.id.1 ∧ a.id.2 = b.id.2) := fun ⟨h1, h2⟩ => h (Prod.ext h1 h2)
  omega
def insC (x : Cl) : List Cl → List Cl
  | [] => [x]
  | y :: l => if bef y x then y :: insC x l else x :: y :: l
def sortC (l : List Cl) : List Cl := l.foldl (fun a x => insC x a) []
theorem insC_perm (x : Cl) : ∀ l, (insC x l).Perm (x :: l)
  | [] => List.Perm.refl _
  | y :: l => by
    unfold insC
    split
    · exact ((insC_perm x l).cons y).trans (List.Perm.swap _ _ _)
    · exact List.Perm.refl _
theorem insC_sorted {x : Cl} : ∀ {l : List Cl}, l.Pairwise (fun a b => bef a b = true) → (∀ y ∈ l, y.id ≠ x.id) → (insC x l).Pairwise (fun a b => bef a b = true)
  | [], _, _ => by simp [insC]
  | y :: l, h, hx => by
    obtain ⟨h1, h2⟩ := List.pairwise_cons.1 h
    unfold insC
    split
    · rename_i hb
      refine List.pairwise_cons.2 ⟨fun z hz => ?_, insC_sorted h2 fun z hz => hx z (List.mem_cons_of_mem _ hz)⟩
      rcases List.mem_cons.1 ((insC_perm x l).mem_iff.1 hz) with rfl | hz
      · exact hb
      · exact h1 z hz
    · rename_i hb
      have hxy : bef x y = true := (bef_total (hx y List.mem_cons_self)).resolve_left hb
      refine List.pairwise_cons.2 ⟨fun z hz => ?_, h⟩
      rcases List.mem_cons.1 hz with rfl | hz
      · exact hxy
      · exact bef_trans hxy (h1 z hz)
theorem insC_split (x : Cl) : ∀ l, ∃ a b, l = a ++ b ∧ insC x l = a ++ x :: b
  | [] => ⟨[], [], rfl, rfl⟩
  | y :: l => by
    unfold insC
    split
    · obtain ⟨a, b, h1, h2⟩ := insC_split x l
      exact ⟨y :: a, b, by rw [h1]; rfl, by rw [h2]; rfl⟩
    · exact ⟨[], y :: l, rfl, rfl⟩
theorem sortC_fold : ∀ (l a : List Cl), (l.foldl (fun a x => insC x a) a).Perm (l ++ a)
  | [], _ => List.Perm.refl _
  | x :: l, a => (sortC_fold l (insC x a)).trans (((insC_perm x a).append_left l).trans List.perm_middle)
theorem sortC_perm (l : List Cl) : (sortC l).Perm l := by
  have := sortC_fold l []
  rwa [List.append_nil] at this
theorem sortC_sorted_fold : ∀ (l a : List Cl), (l ++ a).Pairwise (fun a b => a.id ≠ b.id) → a.Pairwise (fun a b => bef a b = true) → (l.foldl (fun a x => insC x a) a).Pairwise (fun a b => bef a b = true)
  | [], a, _, h => h
  | x :: l, a, hu, h => by
    obtain ⟨h1, h2⟩ := List.pairwise_cons.1 hu
    refine sortC_sorted_fold l (insC x a) ?_ (insC_sorted h fun y hy => Ne.symm (h1 y (List.mem_append_right _ hy)))
    have hp : (x :: (l ++ a)).Perm (l ++ insC x a) := (List.perm_middle.symm).trans ((insC_perm x a).symm.append_left l)
    exact (hp.pairwise_iff fun {_ _} h => Ne.symm h).1 hu
theorem sortC_sorted {l : List Cl} (h : Uq l) : (sortC l).Pairwise (fun a b => bef a b = true) := sortC_sorted_fold l [] (by rw [List.append_nil]; exact h) List.Pairwise.nil
theorem sort_one {l m : List Cl} (h1 : l.Pairwise (fun a b => bef a b = true)) (h2 : m.Pairwise (fun a b => bef a b = true)) (p : l.Perm m) : l = m :=
  p.eq_of_pairwise (fun _ _ _ _ h h' => (bef_asymm h h').elim) h1 h2

/-! ### the tree -/
def kids (L : List Cl) (t : St2) : List Cl := sortC (L.filter fun c => decide (c.after = t))
def walkN : Nat → List Cl → St2 → List Cl
  | 0, _, _ => []
  | n + 1, L, t => (kids L t).flatMap fun c => c :: walkN n L c.id
theorem walkN_succ (n : Nat) (L : List Cl) (t : St2) : walkN (n + 1) L t = (kids L t).flatMap fun c => c :: walkN n L c.id := rfl
def walkS (L : List Cl) : List Cl := walkN (L.length + 1) L z2
def rank (L : List Cl) (t : St2) : Nat := L.countP fun c => decide (t.2 < c.id.2)
structure Tr (L : List Cl) : Prop where
  uq : Uq L
  up : ∀ c ∈ L, c.after.2 < c.id.2
  pos : ∀ c ∈ L, 0 < c.id.2
  link : ∀ c ∈ L, c.after = z2 ∨ ∃ d ∈ L, d.id = c.after
theorem properC_iff {c : Cl} : properC c = true ↔ (0 ≤ c.id.1 ∧ c.id.1 < 200 ∧ 1 ≤ c.id.2 ∧ c.id.2 ≤ 1000000) ∧ (c.after = z2 ∨ ((0 ≤ c.after.1 ∧ c.after.1 < 200 ∧ 1 ≤ c.after.2 ∧ c.after.2 ≤ 1000000) ∧ c.after.2 < c.id.2)) := by
  simp [properC, properT]
theorem Pg.tr {L : List Cl} (h : Pg L) : Tr L where
  uq := h.uq
  up c hc := by
    rcases (properC_iff.1 (h.proper c hc)) with ⟨h1, h2 | h2⟩
    · rw [h2]; show (0 : Int) < _; omega
    · exact h2.2
  pos c hc := by have := (properC_iff.1 (h.proper c hc)).1; omega
  link := h.link
theorem kids_mem {L : List Cl} {t : St2} {c : Cl} : c ∈ kids L t ↔ c ∈ L ∧ c.after = t := by
  unfold kids
  rw [(sortC_perm _).mem_iff, List.mem_filter]
  simp
theorem kids_sorted {L : List Cl} (h : Uq L) (t : St2) : (kids L t).Pairwise (fun a b => bef a b = true) := sortC_sorted (List.Pairwise.filter _ h)
theorem kids_perm {L M : List Cl} (h : Uq L) (p : L.Perm M) (t : St2) : kids L t = kids M t :=
  sort_one (kids_sorted h t) (kids_sorted (h.perm p) t) ((sortC_perm _).trans ((p.filter _).trans (sortC_perm _).symm))
theorem flatMap_congr' {f g : Cl → List Cl} : ∀ {l : List Cl}, (∀ c ∈ l, f c = g c) → l.flatMap f = l.flatMap g
  | [], _ => rfl
  | x :: l, h => by
    rw [List.flatMap_cons, List.flatMap_cons, h x List.mem_cons_self, flatMap_congr' fun c hc => h c (List.mem_cons_of_mem _ hc)]
theorem walkN_perm {L M : List Cl} (h : Uq L) (p : L.Perm M) : ∀ n t, walkN n L t = walkN n M t
  | 0, _ => rfl
  | n + 1, t => by
    unfold walkN
    rw [kids_perm h p]
    exact flatMap_congr' fun c _ => by rw [walkN_perm h p n]
theorem walkS_perm {L M : List Cl} (h : Uq L) (p : L.Perm M) : walkS L = walkS M := by
  unfold walkS
  rw [p.length_eq]
  exact walkN_perm h p _ _
theorem rank_le (L : List Cl) (t : St2) : rank L t ≤ L.length := List.countP_le_length
theorem countP_lt {α : Type} {p q : α → Bool} {x : α} : ∀ {l : List α}, (∀ a ∈ l, p a = true → q a = true) → x ∈ l → p x = false → q x = true → l.countP p < l.countP q
  | y :: l, h, hx, h1, h2 => by
    have hle : l.countP p ≤ l.countP q := List.countP_mono_left fun a ha hp => h a (List.mem_cons_of_mem _ ha) hp
    rw [List.countP_cons, List.countP_cons]
    rcases List.mem_cons.1 hx with rfl | hx
    · rw [h1, h2]
      simp
      omega
    · have := countP_lt (fun a ha => h a (List.mem_cons_of_mem _ ha)) hx h1 h2
      by_cases hy : p y = true
      · rw [hy, h y List.mem_cons_self hy]; simp; omega
      · simp [hy]; omega
theorem rank_kid {L : List Cl} (h : Tr L) {t : St2} {c : Cl} (hc : c ∈ kids L t) : rank L c.id < rank L t := by
  obtain ⟨h1, h2⟩ := kids_mem.1 hc
  have h3 := h.up c h1
  rw [h2] at h3
  unfold rank
  exact countP_lt (x := c) (fun a _ ha => by simp at ha ⊢; omega) h1 (by simp) (by simpa using h3)
theorem walkN_fuel {L : List Cl} (h : Tr L) : ∀ n m t, rank L t < n → rank L t < m → walkN n L t = walkN m L t
  | 0, _, _, h1, _ => by omega
  | _, 0, _, _, h2 => by omega
  | n + 1, m + 1, t, h1, h2 => by
    unfold walkN
    exact flatMap_congr' fun c hc => by
      have := rank_kid h hc
      rw [walkN_fuel h n m c.id (by omega) (by omega)]

/-! ### one leaf more -/
structure Leaf (L' L : List Cl) (x : Cl) : Prop where
  tr : Tr L'
  perm : L'.Perm (x :: L)
  leaf : ∀ c ∈ L, c.after ≠ x.id
section
variable {L' L : List Cl} {x : Cl}
theorem Leaf.ne (h : Leaf L' L x) {c : Cl} (hc : c ∈ L) : c.id ≠ x.id := by
  have := h.tr.uq.perm h.perm
  exact Ne.symm ((List.pairwise_cons.1 this).1 c hc)
theorem Leaf.uq (h : Leaf L' L x) : Uq L := (List.pairwise_cons.1 (h.tr.uq.perm h.perm)).2
theorem Leaf.mem (h : Leaf L' L x) {c : Cl} (hc : c ∈ L) : c ∈ L' := h.perm.mem_iff.2 (List.mem_cons_of_mem _ hc)
theorem Leaf.self (h : Leaf L' L x) : x.after ≠ x.id := fun e => by
  have := h.tr.up x (h.perm.mem_iff.2 List.mem_cons_self)
  rw [e] at this
  omega
theorem Leaf.kids (h : Leaf L' L x) (t : St2) : kids L' t = if x.after = t then insC x (kids L t) else kids L t := by
  rw [kids_perm h.tr.uq h.perm]
  split
  · rename_i e
    refine sort_one (kids_sorted (h.tr.uq.perm h.perm) t) (insC_sorted (kids_sorted h.uq t) fun y hy => h.ne (kids_mem.1 hy).1) ?_
    have e1 : (x :: L).filter (fun c => decide (c.after = t)) = x :: L.filter (fun c => decide (c.after = t)) := List.filter_cons_of_pos (by simpa using e)
    refine (sortC_perm _).trans ?_
    rw [e1]
    exact ((sortC_perm (L.filter fun c => decide (c.after = t))).symm.cons x).trans (insC_perm x _).symm
  · rename_i e
    have e1 : (x :: L).filter (fun c => decide (c.after = t)) = L.filter (fun c => decide (c.after = t)) := List.filter_cons_of_neg (by simpa using e)
    unfold Proofs.Ytaicbllfkehhjaa.kids
    rw [e1]
theorem Leaf.none (h : Leaf L' L x) (n : Nat) : walkN n L' x.id = [] := by
  cases n with
  | zero => rfl
  | succ n =>
    have : Proofs.Ytaicbllfkehhjaa.kids L' x.id = [] := by
      rw [List.eq_nil_iff_forall_not_mem]
      intro c hc
      obtain ⟨h1, h2⟩ := kids_mem.1 hc
      rcases List.mem_cons.1 (h.perm.mem_iff.1 h1) with rfl | h1
      · exact h.self h2
      · exact h.leaf c h1 h2
    unfold walkN
    rw [this]
    rfl
theorem Leaf.filter (h : Leaf L' L x) : ∀ n t, (walkN n L' t).filter (fun c => decide (c ≠ x)) = walkN n L t
  | 0, _ => rfl
  | n + 1, t => by
    have hk : ∀ K : List Cl, (∀ c ∈ K, c ∈ L) → (K.flatMap fun c => c :: walkN n L' c.id).filter (fun c => decide (c ≠ x)) = K.flatMap fun c => c :: walkN n L c.id := fun K hK => by
      rw [List.filter_flatMap]
      refine flatMap_congr' fun c hc => ?_
      have hne : c ≠ x := fun e => h.ne (hK c hc) (by rw [e])
      rw [List.filter_cons_of_pos (by simpa using hne), h.filter n c.id]
    show ((Proofs.Ytaicbllfkehhjaa.kids L' t).flatMap fun c => c :: walkN n L' c.id).filter _ = (Proofs.Ytaicbllfkehhjaa.kids L t).flatMap fun c => c :: walkN n L c.id
    rw [h.kids]
    have hm : ∀ c ∈ Proofs.Ytaicbllfkehhjaa.kids L t, c ∈ L := fun c hc => (kids_mem.1 hc).1
    split
    · obtain ⟨a, b, h1, h2⟩ := insC_split x (Proofs.Ytaicbllfkehhjaa.kids L t)
      rw [h2, h1, List.flatMap_append, List.flatMap_cons, h.none n, List.filter_append, List.filter_append, hk a (fun c hc => hm c (by rw [h1]; exact List.mem_append_left _ hc)), hk b (fun c hc => hm c (by rw [h1]; exact List.mem_append_right _ hc)), List.flatMap_append]
      simp
    · exact hk _ hm
theorem Leaf.count (h : Leaf L' L x) : ∀ n t, rank L' t < n → (walkN n L' t).count x = (if x.after = t then 1 else 0) + (walkN n L t).countP fun c => decide (c.id = x.after)
  | 0, _, hr => by omega
  | n + 1, t, hr => by
    have hk : ∀ K : List Cl, (∀ c ∈ K, c ∈ L ∧ rank L' c.id < n) → (K.flatMap fun c => c :: walkN n L' c.id).count x = (K.flatMap fun c => c :: walkN n L c.id).countP fun c => decide (c.id = x.after) := fun K hK => by
      induction K with
      | nil => rfl
      | cons c K ih =>
        obtain ⟨h1, h2⟩ := hK c List.mem_cons_self
        have hne : c ≠ x := fun e => h.ne h1 (by rw [e])
        rw [List.flatMap_cons, List.flatMap_cons, List.count_append, List.countP_append, ih fun c hc => hK c (List.mem_cons_of_mem _ hc), List.count_cons_of_ne hne, h.count n c.id h2, List.countP_cons]
        by_cases e : c.id = x.after
        · rw [if_pos e.symm]; simp [e]; omega
        · rw [if_neg (Ne.symm e)]; simp [e]
    show ((Proofs.Ytaicbllfkehhjaa.kids L' t).flatMap fun c => c :: walkN n L' c.id).count x = _ + ((Proofs.Ytaicbllfkehhjaa.kids L t).flatMap fun c => c :: walkN n L c.id).countP _
    have hm : ∀ c ∈ Proofs.Ytaicbllfkehhjaa.kids L t, c ∈ L ∧ rank L' c.id < n := fun c hc => by
      obtain ⟨h1, h2⟩ := kids_mem.1 hc
      have := rank_kid h.tr (kids_mem.2 ⟨h.mem h1, h2⟩)
      exact ⟨h1, by omega⟩
    rw [h.kids]
    split
    · obtain ⟨a, b, h1, h2⟩ := insC_split x (Proofs.Ytaicbllfkehhjaa.kids L t)
      have ha := hk a fun c hc => hm c (by rw [h1]; exact List.mem_append_left _ hc)
      have hb := hk b fun c hc => hm c (by rw [h1]; exact List.mem_append_right _ hc)
      rw [h2, h1, List.flatMap_append, List.flatMap_cons, h.none n, List.count_append, List.count_append, ha, hb, List.flatMap_append, List.countP_append, List.count_cons_self]
      simp only [List.count_nil]
      omega
    · rw [hk _ hm, Nat.zero_add]
end
theorem exists_max : ∀ {L : List Cl}, L ≠ [] → ∃ x ∈ L, ∀ c ∈ L, c.id.2 ≤ x.id.2
  | [], h => absurd rfl h
  | [x], _ => ⟨x, List.mem_cons_self, fun c hc => by simp at hc; subst hc; exact Int.le_refl _⟩
  | x :: y :: L, _ => by
    obtain ⟨m, hm, hM⟩ := exists_max (L := y :: L) (by simp)
    by_cases h : x.id.2 ≤ m.id.2
    · refine ⟨m, List.mem_cons_of_mem _ hm, fun c hc => ?_⟩
      rcases List.mem_cons.1 hc with rfl | hc
      · exact h
      · exact hM c hc
    · refine ⟨x, List.mem_cons_self, fun c hc => ?_⟩
      rcases List.mem_cons.1 hc with rfl | hc
      · exact Int.le_refl _
      · have := hM c hc; omega
theorem countP_id {L : List Cl} (h : Uq L) {d : Cl} (hd : d ∈ L) : (L.countP fun c => decide (c.id = d.id)) = 1 := by
  induction L with
  | nil => cases hd
  | cons y L ih =>
    obtain ⟨h1, h2⟩ := List.pairwise_cons.1 h
    rw [List.countP_cons]
    rcases List.mem_cons.1 hd with rfl | hd
    · have : (L.countP fun c => decide (c.id = d.id)) = 0 := List.countP_eq_zero.2 fun c hc => by simpa using Ne.symm (h1 c hc)
      rw [this]; simp
    · rw [ih h2 hd]
      simp [h1 d hd]
theorem walk_leaf {L' L : List Cl} {x : Cl} (h : Leaf L' L x) (ht : Tr L) (hp : (walkS L).Perm L) : (walkS L').count x = 1 ∧ (walkS L').filter (fun c => decide (c ≠ x)) = walkS L := by
  have hlen : L'.length = L.length + 1 := h.perm.length_eq
  have hr := rank_le L' z2
  have hr2 := rank_le L z2
  have hx : x ∈ L' := h.perm.mem_iff.2 List.mem_cons_self
  have e : walkN (L'.length + 1) L z2 = walkS L := walkN_fuel ht _ _ _ (by omega) (by omega)
  refine ⟨?_, ?_⟩
  · unfold walkS
    rw [h.count _ _ (by omega), e, hp.countP_eq]
    rcases h.tr.link x hx with h0 | ⟨d, hd, hde⟩
    · rw [if_pos h0]
      have : (L.countP fun c => decide (c.id = x.after)) = 0 := List.countP_eq_zero.2 fun c hc => by
        have := ht.pos c hc
        simp only [decide_eq_true_eq]
        intro e2
        rw [e2, h0] at this
        exact absurd this (by decide)
      rw [this]
    · have hne : x.after ≠ z2 := fun e2 => by
        have := h.tr.pos d hd
        rw [hde, e2] at this
        exact absurd this (by decide)
      rw [if_neg hne]
      rcases List.mem_cons.1 (h.perm.mem_iff.1 hd) with rfl | hd
      · exact absurd hde.symm h.self
      · rw [← hde, countP_id h.uq hd]
  · unfold walkS
    rw [h.filter, e]
    rfl
theorem walk_perm_len : ∀ (n : Nat) {L : List Cl}, L.length = n → Tr L → (walkS L).Perm L
  | 0, L, hn, _ => by
    obtain rfl : L = [] := List.length_eq_zero_iff.1 hn
    exact List.Perm.refl _
  | n + 1, L, hn, ht => by
    obtain ⟨x, hx, hmax⟩ := exists_max (L := L) (by intro e; rw [e] at hn; cases hn)
    have hp := List.perm_cons_erase hx
    have hle := hp.length_eq
    simp only [List.length_cons] at hle
    have hsub : ∀ {c}, c ∈ L.erase x → c ∈ L := fun hc => List.mem_of_mem_erase hc
    have hl : Leaf L (L.erase x) x := ⟨ht, hp, fun c hc e => by
      have h1 := ht.up c (hsub hc)
      have h2 := hmax c (hsub hc)
      rw [e] at h1
      omega⟩
    have ht0 : Tr (L.erase x) := ⟨hl.uq, fun c hc => ht.up c (hsub hc), fun c hc => ht.pos c (hsub hc), fun c hc => (ht.link c (hsub hc)).imp id fun ⟨d, hd, e⟩ => by
      rcases List.mem_cons.1 (hp.mem_iff.1 hd) with rfl | hd
      · exact absurd e.symm (hl.leaf c hc)
      · exact ⟨d, hd, e⟩⟩
    have ih := walk_perm_len n (L := L.erase x) (by omega) ht0
    obtain ⟨k1, k2⟩ := walk_leaf hl ht0 ih
    rw [List.perm_iff_count]
    intro a
    by_cases ha : a = x
    · subst ha
      rw [k1, (uq_nodup ht.uq).count, if_pos hx]
    · have h1 : (walkS L).count a = ((walkS L).filter fun c => decide (c ≠ x)).count a := (List.count_filter (by simpa using ha)).symm
      rw [h1, k2, ih.count_eq, hp.count_eq, List.count_cons_of_ne (Ne.symm ha)]
theorem walk_perm {L : List Cl} (h : Tr L) : (walkS L).Perm L := walk_perm_len _ rfl h
theorem walk_uq {L : List Cl} (h : Tr L) : Uq (walkS L) := h.uq.perm (walk_perm h).symm

/-! ### clauses turned in place -/
theorem insC_map {f : Cl → Cl} (hf : ∀ x, (f x).id = x.id) (x : Cl) : ∀ l, insC (f x) (l.map f) = (insC x l).map f
  | [] => rfl
  | y :: l => by
    have e : bef (f y) (f x) = bef y x := by unfold bef; rw [hf, hf]
    rw [List.map_cons]
    unfold insC
    rw [e]
    split
    · rw [List.map_cons, insC_map hf x l]
    · rfl
theorem sortC_map {f : Cl → Cl} (hf : ∀ x, (f x).id = x.id) : ∀ (l a : List Cl), (l.map f).foldl (fun a x => insC x a) (a.map f) = (l.foldl (fun a x => insC x a) a).map f
  | [], a => rfl
  | x :: l, a => by
    rw [List.map_cons, List.foldl_cons, List.foldl_cons, insC_map hf, sortC_map hf l]
theorem kids_map {f : Cl → Cl} (hf : ∀ x, (f x).id = x.id) {L : List Cl} (ha : ∀ x ∈ L, (f x).after = x.after) (t : St2) : kids (L.map f) t = (kids L t).map f := by
  unfold kids sortC
  rw [List.filter_map]
  have e : L.filter ((fun c => decide (c.after = t)) ∘ f) = L.filter (fun c => decide (c.after = t)) := List.filter_congr fun x hx => by simp [ha x hx]
  rw [e]
  exact sortC_map hf _ []
theorem walkN_map {f : Cl → Cl} (hf : ∀ x, (f x).id = x.id) {L : List Cl} (ha : ∀ x ∈ L, (f x).after = x.after) : ∀ n t, walkN n (L.map f) t = (walkN n L t).map f
  | 0, _ => rfl
  | n + 1, t => by
    unfold walkN
    rw [kids_map hf ha, List.flatMap_map, List.map_flatMap]
    refine flatMap_congr' fun c _ => ?_
    rw [hf, walkN_map hf ha n, List.map_cons]
theorem walkS_map {f : Cl → Cl} (hf : ∀ x, (f x).id = x.id) {L : List Cl} (ha : ∀ x ∈ L, (f x).after = x.after) : walkS (L.map f) = (walkS L).map f := by
  unfold walkS
  rw [List.length_map]
  exact walkN_map hf ha _ _

/-! ### where a clause stands -/
theorem walk_below {L : List Cl} : ∀ {n : Nat} {t : St2} {x : Cl}, x ∈ walkN n L t → x.after = t ∨ ∃ A d B, walkN n L t = A ++ d :: B ∧ d.id = x.after ∧ x ∈ B
  | 0, _, _, h => by cases h
  | n + 1, t, x, h => by
    have h' := h
    unfold walkN at h
    obtain ⟨e, he, hx⟩ := List.mem_flatMap.1 h
    obtain ⟨a, b, hab⟩ := List.append_of_mem he
    have hsp : walkN (n + 1) L t = (a.flatMap fun c => c :: walkN n L c.id) ++ (e :: (walkN n L e.id ++ b.flatMap fun c => c :: walkN n L c.id)) := by
      rw [walkN_succ, hab, List.flatMap_append, List.flatMap_cons, List.cons_append]
    rcases List.mem_cons.1 hx with rfl | hx
    · exact .inl (kids_mem.1 he).2
    · right
      rcases walk_below hx with h1 | ⟨A, d, B, h1, h2, h3⟩
      · exact ⟨_, e, _, hsp, h1.symm, List.mem_append_left _ hx⟩
      · rw [h1] at hsp
        refine ⟨(a.flatMap fun c => c :: walkN n L c.id) ++ e :: A, d, B ++ b.flatMap fun c => c :: walkN n L c.id, ?_, h2, List.mem_append_left _ h3⟩
        rw [hsp]
        simp
theorem kids_first {L : List Cl} (hu : Uq L) {x : Cl} (hx : x ∈ L) (hg : ∀ c ∈ L, c ≠ x → c.id.2 < x.id.2) : ∃ K, kids L x.after = x :: K := by
  have hm : x ∈ kids L x.after := kids_mem.2 ⟨hx, rfl⟩
  have hs := kids_sorted hu x.after
  cases hk : kids L x.after with
  | nil => rw [hk] at hm; cases hm
  | cons y K =>
    rw [hk] at hm hs
    rcases List.mem_cons.1 hm with rfl | hm
    · exact ⟨K, rfl⟩
    · have h1 := (List.pairwise_cons.1 hs).1 x hm
      have hy : y ∈ L := (kids_mem.1 (hk ▸ List.mem_cons_self : y ∈ kids L x.after)).1
      have hne : y ≠ x := fun e => by rw [e] at h1; exact bef_asymm h1 h1
      have h2 := hg y hy hne
      rw [bef_iff] at h1
      omega
theorem walk_first {L : List Cl} (ht : Tr L) {x : Cl} (hxL : x ∈ L) (hg : ∀ c ∈ L, c ≠ x → c.id.2 < x.id.2) : ∀ {n : Nat} {t : St2}, rank L t < n → x ∈ walkN n L t →
    (x.after = t ∧ ∃ B, walkN n L t = x :: B) ∨ ∃ A d B, walkN n L t = A ++ d :: x :: B ∧ d.id = x.after
  | 0, _, h, _ => by omega
  | n + 1, t, hr, h => by
    have h' := h
    unfold walkN at h
    obtain ⟨e, he, hx⟩ := List.mem_flatMap.1 h
    have hrk := rank_kid ht he
    obtain ⟨a, b, hab⟩ := List.append_of_mem he
    have hsp : walkN (n + 1) L t = (a.flatMap fun c => c :: walkN n L c.id) ++ (e :: (walkN n L e.id ++ b.flatMap fun c => c :: walkN n L c.id)) := by
      rw [walkN_succ, hab, List.flatMap_append, List.flatMap_cons, List.cons_append]
    rcases List.mem_cons.1 hx with hxe | hx
    · left
      subst hxe
      have h1 := (kids_mem.1 he).2
      obtain ⟨K, hK⟩ := kids_first ht.uq hxL hg
      refine ⟨h1, walkN n L x.id ++ K.flatMap fun c => c :: walkN n L c.id, ?_⟩
      rw [← h1]
      rw [walkN_succ, hK, List.flatMap_cons]
      rfl
    · right
      rcases walk_first ht hxL hg (by omega) hx with ⟨h1, B, h2⟩ | ⟨A, d, B, h1, h2⟩
      · rw [h2] at hsp
        exact ⟨a.flatMap (fun c => c :: walkN n L c.id), e, B ++ b.flatMap fun c => c :: walkN n L c.id, by rw [hsp]; simp, h1.symm⟩
      · rw [h1] at hsp
        exact ⟨(a.flatMap fun c => c :: walkN n L c.id) ++ e :: A, d, B ++ b.flatMap fun c => c :: walkN n L c.id, by rw [hsp]; simp, h2⟩
end Go.Proofs.Ytaicbllfkehhjaa

/- Clauses as values; properStamp, proper, merge. -/
namespace Go.Proofs.Ytaicbllfkehhjaa
open Go.RowKit

def stA (s : St2) : Array Value := #[.int .i64 s.1, .int .i64 s.2]
def ptA (p : Pt) : Array Value := #[.int .i64 p.1, .string p.2.1, .string p.2.2.1, .string p.2.2.2.1, .string p.2.2.2.2.1, .int .i64 p.2.2.2.2.2.1.1, .string p.2.2.2.2.2.1.2.1, .string p.2.2.2.2.2.1.2.2.1, .string p.2.2.2.2.2.1.2.2.2.1, .string p.2.2.2.2.2.1.2.2.2.2.1, .string p.2.2.2.2.2.1.2.2.2.2.2.1, .bool p.2.2.2.2.2.1.2.2.2.2.2.2, .int .i64 p.2.2.2.2.2.2.1, .string p.2.2.2.2.2.2.2.1, .string p.2.2.2.2.2.2.2.2]
def clA (c : Cl) : Array Value := #[.int .i64 c.id.1, .int .i64 c.id.2, .int .i64 c.after.1, .int .i64 c.after.2, .int .i64 c.pt.1, .string c.pt.2.1, .string c.pt.2.2.1, .string c.pt.2.2.2.1, .string c.pt.2.2.2.2.1, .int .i64 c.pt.2.2.2.2.2.1.1, .string c.pt.2.2.2.2.2.1.2.1, .string c.pt.2.2.2.2.2.1.2.2.1, .string c.pt.2.2.2.2.2.1.2.2.2.1, .string c.pt.2.2.2.2.2.1.2.2.2.2.1, .string c.pt.2.2.2.2.2.1.2.2.2.2.2.1, .bool c.pt.2.2.2.2.2.1.2.2.2.2.2.2, .int .i64 c.pt.2.2.2.2.2.2.1, .string c.pt.2.2.2.2.2.2.2.1, .string c.pt.2.2.2.2.2.2.2.2, .bool c.gone]

theorem beq_bytes (a b : ByteArray) : (a.toList == b.toList) = decide (a = b) := by
  rw [Bool.eq_iff_iff]
  simp only [beq_iff_eq, decide_eq_true_eq]
  exact ⟨fun h => by
    rw [Lib.toList_data, Lib.toList_data] at h
    exact ByteArray.ext (Array.toList_inj.1 h), fun h => by rw [h]⟩
theorem if_ok {p : Prop} [Decidable p] {q : Bool} {W : World} : (if p then (Result.ok q W : Result Bool) else Result.ok false W) = Result.ok (decide p && q) W := by
  by_cases h : p <;> simp [h]
set_option maxRecDepth 100000 in
set_option maxHeartbeats 4000000 in
theorem eq_st (a b : St2) (W : World) : (Op.equalIn 10000 33 (.agg (stA a)) (.agg (stA b))).run Try.prog W = .ok (decide (a = b)) W := by
  simp [stA, go_sem]
  simp only [if_ok]
  congr 1
  rw [Bool.eq_iff_iff]
  simp [Prod.ext_iff]
theorem bytes_inj {a b : ByteArray} : a.toList = b.toList ↔ a = b := by
  have := beq_bytes a b
  constructor
  · intro h; rw [h] at this; simpa using this.symm
  · intro h; rw [h]
theorem cl_iff {a b : Cl} : a = b ↔ a.id = b.id ∧ a.after = b.after ∧ a.pt = b.pt ∧ a.gone = b.gone := ⟨fun h => h ▸ ⟨rfl, rfl, rfl, rfl⟩, fun h => Cl.ext' h.1 h.2.1 h.2.2.1 h.2.2.2⟩
set_option maxRecDepth 100000 in
set_option maxHeartbeats 4000000 in
theorem eq_cl (a b : Cl) (W : World) : (Op.equalIn 10000 56 (.agg (clA a)) (.agg (clA b))).run Try.prog W = .ok (decide (a = b)) W := by
  simp [clA, go_sem]
  simp only [if_ok]
  congr 1
  rw [Bool.eq_iff_iff]
  simp [cl_iff, Prod.ext_iff, bytes_inj, and_assoc]
set_option maxRecDepth 100000 in
set_option maxHeartbeats 4000000 in
theorem eq_pt (a b : Pt) (W : World) : (Op.equalIn 10000 37 (.agg (ptA a)) (.agg (ptA b))).run Try.prog W = .ok (decide (a = b)) W := by
  simp [ptA, go_sem]
  simp only [if_ok]
  congr 1
  rw [Bool.eq_iff_iff]
  simp [Prod.ext_iff, bytes_inj, and_assoc]

set_option maxRecDepth 100000 in
set_option maxHeartbeats 4000000 in
theorem properT_any (w : World) (s : St2) : Calls Try.prog 69 #[.agg (stA s)] w fun e w' => e = .returned (.bool (properT s)) ∧ Below w.heap.size w w' := by
  obtain ⟨x, y⟩ := s
  obtain ⟨R, hR⟩ : ∃ r, properT (x, y) = r := ⟨_, rfl⟩
  rw [hR]
  unfold properT at hR
  simp only at hR
  have HR := Lib.hid hR
  clear hR
  have hb := (Below.refl w.heap.size w).alloc (Nat.le_refl _) (.cells (stA (x, y)) 33)
  have kb := Blk.new w 33 (stA (x, y))
  have c0 : (w.alloc (.cells (stA (x, y)) 33)).cell? ⟨w.heap.size, 0, none⟩ = some (.int .i64 x) := kb.cell 0
  have c1 : (w.alloc (.cells (stA (x, y)) 33)).cell? ⟨w.heap.size, 1, none⟩ = some (.int .i64 y) := kb.cell 1
  clear kb
  generalize hA : stA (x, y) = A at *
  have e1 : (x ≥ 0) = (0 ≤ x) := rfl
  by_cases h1 : 0 ≤ x
  · by_cases h2 : x < 200
    · by_cases h3 : 1 ≤ y
      · by_cases h4 : y ≤ 1000000
        · have := HR.out
          simp [h1, h2, h3, h4] at this
          subst this
          clear HR
          go_enter Try.func69, Try.ntmps69
          go_wp2
          go_ret
          exact ⟨rfl, hb⟩
        · have := HR.out
          simp [h1, h2, h3, h4] at this
          subst this
          clear HR
          go_enter Try.func69, Try.ntmps69
          go_wp2
          go_ret
          exact ⟨rfl, hb⟩
      · have := HR.out
        simp [h1, h2, h3] at this
        subst this
        clear HR
        go_enter Try.func69, Try.ntmps69
        go_wp2
        go_ret
        exact ⟨rfl, hb⟩
    · have := HR.out
      simp [h1, h2] at this
      subst this
      clear HR
      go_enter Try.func69, Try.ntmps69
      go_wp2
      go_ret
      exact ⟨rfl, hb⟩
  · have := HR.out
    simp [h1] at this
    subst this
    clear HR
    go_enter Try.func69, Try.ntmps69
    go_wp2
    go_ret
    exact ⟨rfl, hb⟩
/-- A block that holds a clause, cell by cell. -/
theorem cl_cells {w : World} {g : Nat} {c : Cl} (h : Blk w g 56 (clA c)) :
    w.cell? ⟨g, 0, none⟩ = some (.int .i64 c.id.1) ∧ w.cell? ⟨g, 1, none⟩ = some (.int .i64 c.id.2) ∧ w.cell? ⟨g, 2, none⟩ = some (.int .i64 c.after.1) ∧ w.cell? ⟨g, 3, none⟩ = some (.int .i64 c.after.2) ∧ w.cell? ⟨g, 19, none⟩ = some (.bool c.gone) :=
  ⟨h.cell 0, h.cell 1, h.cell 2, h.cell 3, h.cell 19⟩
set_option maxRecDepth 100000 in
set_option maxHeartbeats 8000000 in
theorem proper_any (w : World) (c : Cl) : Calls Try.prog 59 #[.agg (clA c)] w fun e w' => e = .returned (.bool (properC c)) ∧ Below w.heap.size w w' := by
  have hb := (Below.refl w.heap.size w).alloc (Nat.le_refl _) (.cells (clA c) 56)
  have kb := Blk.new w 56 (clA c)
  have hez : ∀ W : World, (Op.equalIn 10000 33 (.agg #[.int .i64 c.after.1, .int .i64 c.after.2]) (.agg #[.int .i64 0, .int .i64 0])).run Try.prog W = .ok (decide (c.after = z2)) W := eq_st c.after z2
  have hpa : ∀ W : World, Calls Try.prog 69 #[.agg #[.int .i64 c.after.1, .int .i64 c.after.2]] W fun e w' => e = .returned (.bool (properT c.after)) ∧ Below W.heap.size W w' := fun W => properT_any W c.after
  have hpi : ∀ W : World, Calls Try.prog 69 #[.agg #[.int .i64 c.id.1, .int .i64 c.id.2]] W fun e w' => e = .returned (.bool (properT c.id)) ∧ Below W.heap.size W w' := fun W => properT_any W c.id
  unfold properC
  obtain ⟨b1, h1⟩ : ∃ b, decide (c.after = z2) = b := ⟨_, rfl⟩
  obtain ⟨b2, h2⟩ : ∃ b, properT c.after = b := ⟨_, rfl⟩
  obtain ⟨b3, h3⟩ : ∃ b, decide (c.after.2 < c.id.2) = b := ⟨_, rfl⟩
  obtain ⟨b4, h4⟩ : ∃ b, properT c.id = b := ⟨_, rfl⟩
  rw [h1] at hez
  rw [h2] at hpa
  rw [h4] at hpi
  rw [h1, h2, h3, h4]
  obtain ⟨k0, k1, k2, k3, -⟩ := cl_cells kb
  have KB := Lib.hid kb
  have PA := Lib.hid hpa
  have PI := Lib.hid hpi
  obtain ⟨CC, hCC⟩ : ∃ x, clA c = x := ⟨_, rfl⟩
  rw [hCC] at KB hb k0 k1 k2 k3 ⊢
  have HCC := Lib.hid hCC
  clear h1 h2 h4 kb hpa hpi hCC
  cases b1 with
  | true =>
    go_enter Try.func59, Try.ntmps59
    go_wp2_with fail
    refine (PI.out _).mono ?_
    rintro e w1 ⟨rfl, q1⟩
    have hb1 := hb.trans (q1.mono hb.size)
    clear PI PA q1 hb KB k0 k1 k2 k3
    cases b4 <;> (go_wp2; go_ret; exact ⟨rfl, hb1⟩)
  | false =>
    go_enter Try.func59, Try.ntmps59
    go_wp2_with fail
    refine (PA.out _).mono ?_
    rintro e w1 ⟨rfl, q1⟩
    have hb1 := hb.trans (q1.mono hb.size)
    obtain ⟨m0, m1, m2, m3, -⟩ := cl_cells (c := c) (by rw [HCC.out]; exact KB.out.below q1 KB.out.lt)
    clear PA q1 hb KB k0 k1 k2 k3
    cases b2 with
    | false =>
      go_wp2_with fail
      refine (PI.out _).mono ?_
      rintro e w2 ⟨rfl, q2⟩
      have hb2 := hb1.trans (q2.mono hb1.size)
      clear PI q2 hb1 m0 m1 m2 m3
      cases b4 <;> (go_wp2; go_ret; exact ⟨rfl, hb2⟩)
    | true =>
      cases b3 with
      | true =>
        go_wp2_with fail
        refine (PI.out _).mono ?_
        rintro e w2 ⟨rfl, q2⟩
        have hb2 := hb1.trans (q2.mono hb1.size)
        clear PI q2 hb1 m0 m1 m2 m3
        cases b4 <;> (go_wp2; go_ret; exact ⟨rfl, hb2⟩)
      | false =>
        go_wp2_with fail
        refine (PI.out _).mono ?_
        rintro e w2 ⟨rfl, q2⟩
        have hb2 := hb1.trans (q2.mono hb1.size)
        clear PI q2 hb1 m0 m1 m2 m3
        cases b4 <;> (go_wp2; go_ret; exact ⟨rfl, hb2⟩)

theorem clA_size (c : Cl) : (clA c).size = 20 := rfl
theorem clA_one (c : Cl) : (clA c).all (·.oneCell') = true := by simp [clA, Value.oneCell']
/-- A clause laid whole into a variable of its own; one read whole. -/
theorem put_cl (W : World) (c : Cl) : (storeCells ⟨W.heap.size, 0, none⟩ (clA c).toList).run Try.prog (W.alloc (.cells #[.int .i64 0, .int .i64 0, .int .i64 0, .int .i64 0, .int .i64 0, .string ⟨#[]⟩, .string ⟨#[]⟩, .string ⟨#[]⟩, .string ⟨#[]⟩, .int .i64 0, .string ⟨#[]⟩, .string ⟨#[]⟩, .string ⟨#[]⟩, .string ⟨#[]⟩, .string ⟨#[]⟩, .bool false, .int .i64 0, .string ⟨#[]⟩, .string ⟨#[]⟩, .bool false] 56)) = .ok () (W.alloc (.cells (clA c) 56)) :=
  run_storeCells_new W _ _ (clA c) (by kernel_rfl) rfl (clA_one c)
theorem blk_load {W : World} {g n : Nat} {t : TypeId} {CC : Array Value} (h : Blk W g t CC) (hn : CC.size = n) : (loadCellsFrom ⟨g, 0, none⟩ 0 n #[]).run Try.prog W = .ok CC W := by
  subst hn
  have := run_loadCells_list (P := Try.prog) W ⟨g, 0, none⟩ CC.toList (fun j v hv => by
    have hadd : (⟨g, 0, none⟩ : Addr).add j = ⟨g, j, none⟩ := by unfold Addr.add; split <;> simp_all
    rw [hadd, h.cell]
    simpa using hv)
  simpa [loadCells] using this
end Go.Proofs.Ytaicbllfkehhjaa

/- Laws for the walk, over any program: copy into a block that is known whole, the world behind it a variable. -/
namespace Go.Proofs.Ytaicbllfkehhjaa
open Go.RowKit

/-- bytes as cells -/
def bc (l : List UInt8) : List Value := l.map fun b => Value.int .u8 (b.toNat : Int)
theorem bc_len (l : List UInt8) : (bc l).length = l.length := by simp [bc]
theorem bc_one (l : List UInt8) : ∀ v ∈ bc l, v.oneCell' = true := by
  intro v hv; simp [bc] at hv; obtain ⟨b, _, rfl⟩ := hv; rfl
theorem bc_at (l : List UInt8) (j : Nat) : (bc l)[j]? = (l[j]?).map fun b => Value.int .u8 (b.toNat : Int) := by simp [bc]
theorem bc_take (l : List UInt8) (n : Nat) : (bc l).take n = bc (l.take n) := by simp [bc, List.map_take]
theorem bc_drop (l : List UInt8) (n : Nat) : (bc l).drop n = bc (l.drop n) := by simp [bc, List.map_drop]
theorem bc_app (l m : List UInt8) : bc (l ++ m) = bc l ++ bc m := by simp [bc]
theorem bc_splice (l m : List UInt8) (k : Nat) : splice (bc l) k (bc m) = bc (splice l k m) := by simp [splice, bc, List.map_take, List.map_drop]

section
variable {P : Program} {w : World} {ops : Array Oper} {rest : List Oper} {o : Oper} {a : Act} {Q : Exit → Act → World → Prop}

theorem only_setRow (w : World) (g : Nat) (cs : Array Value) : Only (· = g) w (w.setRow g cs) :=
  ⟨rfl, rfl, rfl, by simp [World.setRow], fun i _ hn => setRow_other w g i cs hn⟩
theorem size_setRow (w : World) (g : Nat) (cs : Array Value) : (w.setRow g cs).heap.size = w.heap.size := by simp [World.setRow]

/-- copy(dst, src), both slices: dst lies in block g from off on, src at ad; both have at least cs.length elements, and one has no more. -/
theorem wpList_copy_blk (hgd : o.guard = none) (d s : Operand) (dT sT : TypeId)
    (ho : o.op = .call { callee := .builtin .copy, args := #[d, s], argTypes := #[dT, sT] }) (elem : TypeId) (hu : P.underlying dT = some (.slice elem)) (hsz : (P.info? elem).map (·.size) = some 1)
    (g off dLen dCap : Nat) (ad : Addr) (sLen sCap : Nat) (hd : a.eval d = .slice (some ⟨g, off, none⟩) dLen dCap) (hs : a.eval s = .slice (some ad) sLen sCap)
    (cur : List Value) (t : TypeId) (hg : Blk w g t cur.toArray) (cs : List Value) (hn : cs.length = Nat.min sLen dLen)
    (hsrc : ∀ j v, cs[j]? = some v → w.cell? (ad.add j) = some v) (hfit : off + cs.length ≤ cur.length) (h1 : ∀ v ∈ cs, v.oneCell' = true)
    (h : ∀ w', Blk w' g t (splice cur off cs).toArray → Only (· = g) w w' → w.heap.size ≤ w'.heap.size → wpList P ops Q rest (a.put o.dst (goInt cs.length)) w') : wpList P ops Q (o :: rest) a w := by
  refine wpList_copy_own hgd d s dT sT ho elem hu hsz g off dLen dCap ad sLen sCap hd hs cur.toArray t hg cs hn hsrc (by simpa using hfit) h1 ?_
  exact h _ (by simpa [splice, Blk] using setRow_heap w g _ _ t _ hg) (only_setRow _ _ _) (by rw [size_setRow]; exact Nat.le_refl _)

/-- copy(dst, text): the text fits. -/
theorem wpList_copy_str (hgd : o.guard = none) (d s : Operand) (dT sT : TypeId)
    (ho : o.op = .call { callee := .builtin .copy, args := #[d, s], argTypes := #[dT, sT] }) (elem : TypeId) (hu : P.underlying dT = some (.slice elem)) (hsz : (P.info? elem).map (·.size) = some 1)
    (g off dLen dCap : Nat) (x : ByteArray) (hd : a.eval d = .slice (some ⟨g, off, none⟩) dLen dCap) (hs : a.eval s = .string x)
    (cur : List Value) (t : TypeId) (hg : Blk w g t cur.toArray) (hle : x.size ≤ dLen) (hfit : off + x.size ≤ cur.length)
    (h : ∀ w', Blk w' g t (splice cur off (bc x.data.toList)).toArray → Only (· = g) w w' → w.heap.size ≤ w'.heap.size → wpList P ops Q rest (a.put o.dst (goInt x.size)) w') : wpList P ops Q (o :: rest) a w := by
  refine wpList_plain hgd fun K hK => ?_
  have hrun := Lib.run_copy_row_string (P := P) w dT sT o.type elem g off dLen dCap x cur.toArray t hu hsz hg hle (by simpa using hfit)
  unfold Oper.wp
  simp [execOp, ho, resolve, invoke, builtin, hd, hs, hrun, Result.andThen]
  refine hK _ _ (h _ ?_ (only_setRow _ _ _) (by rw [size_setRow]; exact Nat.le_refl _))
  have := setRow_heap w g cur.toArray (splice cur off (bc x.data.toList)).toArray t _ hg
  have hx : x.data.size = x.size := rfl
  simpa [splice, bc, Lib.byteCells, hx, Blk] using this

theorem run_max2 (x y z : Int) (h : z = max x y) (ts : Array TypeId) (t : TypeId) (W : World) : (Builtin.max_ ts t #[.int .i64 x, .int .i64 y]).run P W = .ok (.int .i64 z) W := by
  rw [run_max_int2]; congr 2; subst h; split <;> omega
theorem run_min2 (x y z : Int) (h : z = min x y) (ts : Array TypeId) (t : TypeId) (W : World) : (Builtin.min_ ts t #[.int .i64 x, .int .i64 y]).run P W = .ok (.int .i64 z) W := by
  rw [run_min_int2]; congr 2; subst h; split <;> omega

theorem ext_take (t : ByteArray) (m : Nat) : (t.extract 0 m).data.toList = t.data.toList.take m := by simp [ByteArray.data_extract]
theorem ext_size (t : ByteArray) (i j : Nat) (hj : j ≤ t.size) : (t.extract i j).size = j - i := by simp [ByteArray.size_extract]; omega

/-- string(b[off:off+len]) of a block that is known whole. -/
theorem run_string_of_blk (W : World) (src dst e g : Nat) (t : TypeId) (hs : P.underlying src = some (.slice e)) (he : P.underlying e = some (.int .u8)) (hd : P.underlying dst = some .string)
    (off len cap : Nat) (l : List UInt8) (hb : Blk W g t (bc l).toArray) (hl : off + len ≤ l.length) :
    (convert src dst (.slice (some ⟨g, off, none⟩) len cap)).run P W = .ok (.string ⟨((l.drop off).take len).toArray⟩) W := by
  have hlen : ((l.drop off).take len).length = len := by simp; omega
  have := run_convert_bytes_arg (P := P) W src e hs he g off len cap (((l.drop off).take len).map fun b => (b.toNat : Int)) (by simpa using hlen) (fun i hi => by
    rw [hb.cell (off + i)]
    have : i < ((l.drop off).take len).length := by omega
    simp only [List.getElem?_toArray, bc_at]
    rw [List.getElem?_eq_getElem (by omega)]
    simp [List.getD, hi, List.getElem?_drop, List.getElem?_eq_getElem (show off + i < l.length by omega)]) dst hd
  rw [this]
  congr 2
  unfold strOfNums
  congr 2
  rw [List.map_map]
  have hid : ((fun n : Int => UInt8.ofNat n.toNat) ∘ fun b : UInt8 => (b.toNat : Int)) = id := by funext b; simp
  rw [hid, List.map_id]

/-- make([]T, n), one cell an element. -/
theorem run_make_one (t e : TypeId) (z : Value) (b : Nat) (ht : P.underlying t = some (.slice e)) (hinfo : (P.info? e).map (fun i => (i.zero, i.size, i.bytes)) = some (some z, 1, b)) (hz1 : z.cells = #[z])
    (x : Int) (n : Nat) (hx : x = n) (hb : b * n ≤ 281474976710656) (hn : n ≤ 9223372036854775807) (W : World) :
    (Instr.makeSlice t (.int .i64 x) (.int .i64 x)).run P W = .ok (.slice (some ⟨W.heap.size, 0, none⟩) n n) (W.alloc (.cells (List.replicate n z).toArray e)) := by
  subst hx
  obtain ⟨i, hi, h1, h2, h3⟩ := info_parts hinfo
  have hb' : (i.bytes : Int) * (n : Int) ≤ 281474976710656 := by
    rw [h3]
    have h : ((b * n : Nat) : Int) ≤ 281474976710656 := by omega
    rwa [Int.natCast_mul] at h
  have hr := run_make (P := P) W t e i z ht hi h1 .i64 .i64 n n (by omega) (by omega) hb' (by omega)
  simp only [Int.toNat_natCast] at hr
  rw [hr, h2, hz1, Nat.mul_one]
  have : madeCells #[z] n = (List.replicate n z).toArray := by
    apply Array.toList_inj.1
    rw [toList_madeCells_one]
  rw [this]

/-- x[lo:hi] inside the capacity, one cell an element. -/
theorem run_slice_in (t e : TypeId) (ht : P.underlying t = some (.slice e)) (hs : (P.info? e).map (·.size) = some 1) (g off len cap : Nat) (lo hi : Int) (x y : Nat) (hlo : lo = x) (hhi : hi = y)
    (hxy : x ≤ y) (hy : y ≤ cap) (hx : x < cap) (W : World) :
    (Instr.slice t (.slice (some ⟨g, off, none⟩) len cap) (some (.int .i64 lo)) (some (.int .i64 hi)) none).run P W = .ok (.slice (some ⟨g, off + x, none⟩) (y - x) (cap - x)) W := by
  subst hlo hhi
  have ht' : P.underlying t = some (.slice (P.elem t)) := by simp [Program.elem, ht]
  have he : P.elem t = e := by simp [Program.elem, ht]
  rw [run_slice_lh W t _ len cap ht' .i64 .i64 x y (by omega) (by omega) (by omega), he]
  cases hq : P.info? e with
  | none => simp [hq] at hs
  | some i =>
    have hi : i.size = 1 := by simpa [hq] using hs
    simp [sizeOf, typeInfo, hq, Result.andThen, sliced, hi, Addr.add]
    split
    · omega
    · split
      · subst_vars; simp
      · rfl

/-- A region that draws its order, all of whose operations but the last few only read: in the order of the text. -/
theorem wp_region_tail {id : Nat} {l : List Oper} (n : Nat) (hm : P.follows .mixedOrders = true) (hB : Region.lexTailB .any l.toArray n = true)
    (h : wpStill P l.toArray w.drew (fun a' => wpList P l.toArray Q (l.drop n) a' w.drew) (l.take n) a) : (Code.region id l.toArray true).wp P Q a w :=
  wp_region_still_tail n hm hB h
end
end Go.Proofs.Ytaicbllfkehhjaa

/- Maps as lists of entries: laws on the run of each operation. Over any program. -/
namespace Go.Proofs.Ytaicbllfkehhjaa
open Go.RowKit Go.MapKept Go.ChangeMaps

/-- Keys of one type, those with G. -/
structure Kys (P : Program) (k : TypeId) (G : Value → Prop) : Prop where
  check : ∀ (w : World) (em : Bool) {v : Value}, G v → (Instr.checkKey em 10000 k v).run P w = .ok () w
  find : ∀ (w : World) {x : Value}, G x → ∀ es : List MapEntry, (∀ e ∈ es, G e.key) →
    ((Instr.findKey k x es).run P w = .ok none w ∧ ∀ e ∈ es, e.key ≠ x) ∨ ∃ (j : Nat) (e : MapEntry), (Instr.findKey k x es).run P w = .ok (some (j, e.val)) w ∧ es[j]? = some e ∧ e.key = x
  stays : ∀ (w : World) {v : Value}, G v → (Instr.keyThatStays v v).run P w = .ok v w

def kvOf (e : MapEntry) : Value × Value := (e.key, e.val)
/-- Block b is a map with these entries, in the order in which they came. -/
def MapV (w : World) (b : Nat) (L : List (Value × Value)) : Prop := ∃ es clock, w.heap[b]? = some (.map es clock) ∧ es.toList.map kvOf = L ∧ Stamped es clock
open Classical in
noncomputable def upV (x v : Value) (p : Value × Value) : Value × Value := if p.1 = x then (x, v) else p

theorem upV_pos {x v : Value} {p : Value × Value} (h : p.1 = x) : upV x v p = (x, v) := if_pos h
theorem upV_neg {x v : Value} {p : Value × Value} (h : ¬ p.1 = x) : upV x v p = p := if_neg h
section
variable {P : Program} {k e t : TypeId} {G : Value → Prop} {w w' : World} {b : Nat} {L : List (Value × Value)}
theorem MapV.lt (h : MapV w b L) : b < w.heap.size := by
  obtain ⟨es, clock, hb, _⟩ := h
  exact (Array.getElem?_eq_some_iff.1 hb).1
theorem MapV.of_block (h : MapV w b L) (hb : w'.heap[b]? = w.heap[b]?) : MapV w' b L := by
  obtain ⟨es, clock, h1, h2⟩ := h
  exact ⟨es, clock, hb.trans h1, h2⟩
theorem MapV.below {B : Nat} (h : MapV w b L) (hb : Below B w w') (hlt : b < B) : MapV w' b L := h.of_block (hb.block b hlt)
theorem MapV.grown {row : Option Nat} (h : MapV w b L) (hg : w.grownBy w' row) (hne : some b ≠ row) : MapV w' b L := h.of_block (hg.block b h.lt hne)
theorem MapV.alloc (h : MapV w b L) (o : Obj) : MapV (w.alloc o) b L := h.grown (World.grownBy_alloc w o none) (by simp)
theorem MapV.made (w : World) : MapV (w.alloc (.map #[] 0)) w.heap.size [] := ⟨#[], 0, (MapKept.heap_alloc w _).1, by simp, stamped_empty 0⟩
theorem setBlock_grown {es : Array MapEntry} {clock : Nat} (hb : w.heap[b]? = some (.map es clock)) (o : Obj) : w.grownBy (setBlock w b o) (some b) :=
  ⟨rfl, rfl, rfl, by simp [setBlock], fun i _ hi => heap_setBlock_other hb _ (fun e => hi (by rw [e]))⟩

theorem MapV.look_some (h : MapV w b L) (K : Kys P k G) (ht : P.underlying t = some (.map k e)) (hG : ∀ p ∈ L, G p.1) {x v : Value} (hm : (x, v) ∈ L) (c : Bool) :
    (Instr.lookup t (.map (some b)) x c).run P w = .ok (if c then .tuple #[v, .bool true] else v) w := by
  obtain ⟨es, clock, hb, rfl, hst⟩ := h
  obtain ⟨_, hn, hk⟩ := (stamped_iff es clock).1 hst
  have hGe : ∀ e ∈ es.toList, G e.key := fun e he => hG _ (List.mem_map.2 ⟨e, he, rfl⟩)
  obtain ⟨e0, he0, h0⟩ := List.mem_map.1 hm
  have hx : e0.key = x := congrArg Prod.fst h0
  have hv : e0.val = v := congrArg Prod.snd h0
  have hgx : G x := hx ▸ hGe e0 he0
  rcases K.find w hgx es.toList hGe with ⟨_, h2⟩ | ⟨j, e1, h1, h2, h3⟩
  · exact absurd hx (h2 e0 he0)
  · have : e1 = e0 := entry_eq_of_key hk (List.mem_of_getElem? h2) he0 (h3.trans hx.symm)
    subst this
    simp [Instr.lookup, run_underlying ht, MapKept.run_getObj_map hb, K.check w _ hgx, h1, Result.andThen, hv]
theorem MapV.look_none (h : MapV w b L) (K : Kys P k G) (ht : P.underlying t = some (.map k e)) (hG : ∀ p ∈ L, G p.1) {x z : Value} (hx : G x) (hm : ∀ p ∈ L, p.1 ≠ x) (hz : (zeroValue e).run P w = .ok z w) (c : Bool) :
    (Instr.lookup t (.map (some b)) x c).run P w = .ok (if c then .tuple #[z, .bool false] else z) w := by
  obtain ⟨es, clock, hb, rfl, hst⟩ := h
  have hGe : ∀ e ∈ es.toList, G e.key := fun e he => hG _ (List.mem_map.2 ⟨e, he, rfl⟩)
  rcases K.find w hx es.toList hGe with ⟨h1, _⟩ | ⟨j, e1, h1, h2, h3⟩
  · simp [Instr.lookup, run_underlying ht, MapKept.run_getObj_map hb, K.check w _ hx, h1, hz, Result.andThen]
  · exact absurd h3 (hm _ (List.mem_map.2 ⟨e1, List.mem_of_getElem? h2, rfl⟩))

theorem modify_kv {es : Array MapEntry} {clock j : Nat} {e0 : MapEntry} {x v : Value} (hst : Stamped es clock) (h2 : es.toList[j]? = some e0) (h3 : e0.key = x) :
    (es.modify j fun e' => { e' with key := x, val := v }).toList.map kvOf = (es.toList.map kvOf).map (upV x v) ∧ Stamped (es.modify j fun e' => { e' with key := x, val := v }) clock := by
  have hj : es[j]? = some e0 := by simpa using h2
  obtain ⟨_, _, hk⟩ := (stamped_iff es clock).1 hst
  refine ⟨?_, stamped_modify hst _ _ (fun _ _ => rfl) (fun e' _ he' => by rw [hj] at he'; cases he'; exact h3.symm)⟩
  rw [Array.toList_modify, modify_eq_set _ _ _ _ h2]
  apply List.ext_getElem?
  intro i
  rw [List.getElem?_map, List.getElem?_map, List.getElem?_map, List.getElem?_set]
  by_cases hij : j = i
  · subst hij
    have hlt := (List.getElem?_eq_some_iff.1 h2).1
    rw [if_pos rfl, if_pos hlt, h2]
    simp [kvOf, upV, h3]
  · rw [if_neg hij]
    cases hi : es.toList[i]? with
    | none => rfl
    | some y =>
      have hne : y.key ≠ x := fun e1 => by
        have hy := List.mem_of_getElem? hi
        have h0 := List.mem_of_getElem? h2
        have := entry_eq_of_key hk hy h0 (e1.trans h3.symm)
        subst this
        have hnd : es.toList.Nodup := hk.imp fun h e => h (by rw [e])
        exact hij ((List.getElem?_inj (List.getElem?_eq_some_iff.1 h2).1 hnd).1 (h2.trans hi.symm))
      simp [kvOf, upV, hne]
theorem MapV.upd_some (h : MapV w b L) (K : Kys P k G) (ht : P.underlying t = some (.map k e)) (hG : ∀ p ∈ L, G p.1) {x v0 : Value} (hm : (x, v0) ∈ L) (v : Value) :
    ∃ w', (Instr.mapUpdate t (.map (some b)) x v).run P w = .ok () w' ∧ MapV w' b (L.map (upV x v)) ∧ w.grownBy w' (some b) := by
  obtain ⟨es, clock, hb, rfl, hst⟩ := h
  have hGe : ∀ e ∈ es.toList, G e.key := fun e he => hG _ (List.mem_map.2 ⟨e, he, rfl⟩)
  obtain ⟨e0, he0, h0⟩ := List.mem_map.1 hm
  have hx : e0.key = x := congrArg Prod.fst h0
  have hgx : G x := hx ▸ hGe e0 he0
  rcases K.find w hgx es.toList hGe with ⟨_, h2⟩ | ⟨j, e1, h1, h2, h3⟩
  · exact absurd hx (h2 e0 he0)
  · have hj : es[j]? = some e1 := by simpa using h2
    obtain ⟨k1, k2⟩ := modify_kv (v := v) hst h2 h3
    refine ⟨setBlock w b (.map (es.modify j fun e' => { e' with key := x, val := v }) clock), ?_, ⟨_, clock, heap_setBlock_same hb _, k1, k2⟩, setBlock_grown hb _⟩
    simp [Instr.mapUpdate, run_underlying ht, MapKept.run_getObj_map hb, K.check w false hgx, h1, hj, h3, K.stays w hgx, MapKept.run_setObj_map _ hb, Result.andThen, setBlock]
theorem MapV.upd_none (h : MapV w b L) (K : Kys P k G) (ht : P.underlying t = some (.map k e)) (hG : ∀ p ∈ L, G p.1) {x : Value} (hx : G x) (hm : ∀ p ∈ L, p.1 ≠ x) (v : Value) :
    ∃ w', (Instr.mapUpdate t (.map (some b)) x v).run P w = .ok () w' ∧ MapV w' b (L ++ [(x, v)]) ∧ w.grownBy w' (some b) := by
  obtain ⟨es, clock, hb, rfl, hst⟩ := h
  have hGe : ∀ e ∈ es.toList, G e.key := fun e he => hG _ (List.mem_map.2 ⟨e, he, rfl⟩)
  rcases K.find w hx es.toList hGe with ⟨h1, h2⟩ | ⟨j, e1, h1, h2, h3⟩
  · refine ⟨setBlock w b (.map (es.push ⟨x, v, clock⟩) (clock + 1)), ?_, ⟨_, _, heap_setBlock_same hb _, by simp [kvOf], stamped_push hst h2⟩, setBlock_grown hb _⟩
    simp [Instr.mapUpdate, run_underlying ht, MapKept.run_getObj_map hb, K.check w false hx, h1, MapKept.run_setObj_map _ hb, Result.andThen, setBlock]
  · exact absurd h3 (hm _ (List.mem_map.2 ⟨e1, List.mem_of_getElem? h2, rfl⟩))

/-! ### m[k] = f(m[k]) -/
theorem modify_same {es : Array MapEntry} {j : Nat} {e0 : MapEntry} (h2 : es.toList[j]? = some e0) : (es.modify j fun e' => { e' with key := e0.key }) = es := by
  apply Array.toList_inj.1
  rw [Array.toList_modify, modify_eq_set _ _ _ _ h2]
  apply List.ext_getElem?
  intro i
  rw [List.getElem?_set]
  by_cases hij : j = i
  · subst hij
    rw [if_pos rfl, if_pos (List.getElem?_eq_some_iff.1 h2).1, h2]
  · rw [if_neg hij]
theorem find_stamp {es : Array MapEntry} {clock j : Nat} {e0 : MapEntry} (hst : Stamped es clock) (h2 : es[j]? = some e0) : (es.findIdx? fun e => (e.born : Int) == (e0.born : Int)) = some j := by
  obtain ⟨_, hn, _⟩ := (stamped_iff es clock).1 hst
  have hjl := (Array.getElem?_eq_some_iff.1 h2).1
  have hje := (Array.getElem?_eq_some_iff.1 h2).2
  rw [Array.findIdx?_eq_some_iff_getElem]
  refine ⟨hjl, by simp [hje], fun i hi => ?_⟩
  simp only [beq_iff_eq, Int.natCast_inj]
  intro e1
  have a1 : (es.toList.map (·.born))[i]? = some e0.born := by
    rw [List.getElem?_map, Array.getElem?_toList, Array.getElem?_eq_getElem (by omega)]
    simp [e1]
  have a2 : (es.toList.map (·.born))[j]? = some e0.born := by
    rw [List.getElem?_map, Array.getElem?_toList, h2]; rfl
  have := (List.getElem?_inj (List.getElem?_eq_some_iff.1 a1).1 hn).1 (a1.trans a2.symm)
  omega
theorem MapV.entry_some (h : MapV w b L) (K : Kys P k G) (ht : P.underlying t = some (.map k e)) (hG : ∀ p ∈ L, G p.1) {x v : Value} (hm : (x, v) ∈ L) :
    ∃ n : Int, (Instr.mapEntry t (.map (some b)) x).run P w = .ok (.tuple #[v, .int .i64 n]) w ∧
      ∀ (W : World) (v' : Value), W.heap[b]? = w.heap[b]? → ∃ W', (Instr.entryStore t (.map (some b)) (.int .i64 n) v').run P W = .ok () W' ∧ MapV W' b (L.map (upV x v')) ∧ W.grownBy W' (some b) := by
  obtain ⟨es, clock, hb, rfl, hst⟩ := h
  obtain ⟨_, hn, hk⟩ := (stamped_iff es clock).1 hst
  have hGe : ∀ e ∈ es.toList, G e.key := fun e he => hG _ (List.mem_map.2 ⟨e, he, rfl⟩)
  obtain ⟨e0, he0, h0⟩ := List.mem_map.1 hm
  have hx : e0.key = x := congrArg Prod.fst h0
  have hv : e0.val = v := congrArg Prod.snd h0
  have hgx : G x := hx ▸ hGe e0 he0
  rcases K.find w hgx es.toList hGe with ⟨_, h2⟩ | ⟨j, e1, h1, h2, h3⟩
  · exact absurd hx (h2 e0 he0)
  · have : e1 = e0 := entry_eq_of_key hk (List.mem_of_getElem? h2) he0 (h3.trans hx.symm)
    subst this
    have hj : es[j]? = some e1 := by simpa using h2
    have hsame := modify_same h2
    rw [h3] at hsame
    refine ⟨(e1.born : Int), ?_, fun W v' hW => ?_⟩
    · have hw : ({ w with heap := w.heap.setIfInBounds b (.map es clock) } : World) = w := by
        have : w.heap.setIfInBounds b (.map es clock) = w.heap := by
          apply Array.ext_getElem?
          intro i
          rw [Array.getElem?_setIfInBounds]
          by_cases hi : b = i
          · subst hi
            rw [if_pos rfl]
            split
            · exact hb.symm
            · rename_i hlt; rw [Array.getElem?_eq_none (by omega)] at hb; cases hb
          · rw [if_neg hi]
        rw [this]
      simp [Instr.mapEntry, run_underlying ht, MapKept.run_getObj_map hb, K.check w false hgx, h1, hj, h3, K.stays w hgx, MapKept.run_setObj_map _ hb, Result.andThen, hsame, hw, hv, goInt]
    · have hbW := hW.trans hb
      obtain ⟨k1, k2⟩ := modify_kv (v := v') hst h2 h3
      have hkey : (es.modify j fun e' => { e' with val := v' }) = es.modify j fun e' => { e' with key := x, val := v' } := by
        apply Array.toList_inj.1
        rw [Array.toList_modify, Array.toList_modify, modify_eq_set _ _ _ _ h2, modify_eq_set _ _ _ _ h2, h3]
      refine ⟨setBlock W b (.map (es.modify j fun e' => { e' with val := v' }) clock), ?_, ⟨_, clock, heap_setBlock_same hbW _, by rw [hkey]; exact k1, by rw [hkey]; exact k2⟩, setBlock_grown hbW _⟩
      simp [Instr.entryStore, MapKept.run_getObj_map hbW, asInt, asIntOf, find_stamp hst hj, MapKept.run_setObj_map _ hbW, Result.andThen, setBlock]
theorem MapV.entry_none (h : MapV w b L) (K : Kys P k G) (ht : P.underlying t = some (.map k e)) (hG : ∀ p ∈ L, G p.1) {x z : Value} (hx : G x) (hm : ∀ p ∈ L, p.1 ≠ x) (hz : (zeroValue e).run P w = .ok z w) :
    ∃ (n : Int) (w1 : World), (Instr.mapEntry t (.map (some b)) x).run P w = .ok (.tuple #[z, .int .i64 n]) w1 ∧ w.grownBy w1 (some b) ∧
      ∀ (W : World) (v' : Value), W.heap[b]? = w1.heap[b]? → ∃ W', (Instr.entryStore t (.map (some b)) (.int .i64 n) v').run P W = .ok () W' ∧ MapV W' b (L ++ [(x, v')]) ∧ W.grownBy W' (some b) := by
  obtain ⟨es, clock, hb, rfl, hst⟩ := h
  have hGe : ∀ e ∈ es.toList, G e.key := fun e he => hG _ (List.mem_map.2 ⟨e, he, rfl⟩)
  rcases K.find w hx es.toList hGe with ⟨h1, h2⟩ | ⟨j, e1, h1, h2, h3⟩
  · refine ⟨(clock : Int), setBlock w b (.map (es.push ⟨x, z, clock⟩) (clock + 1)), ?_, setBlock_grown hb _, fun W v' hW => ?_⟩
    · simp [Instr.mapEntry, run_underlying ht, MapKept.run_getObj_map hb, K.check w false hx, h1, hz, MapKept.run_setObj_map _ hb, Result.andThen, setBlock, goInt]
    · have hbW := hW.trans (heap_setBlock_same hb _)
      have hst2 := stamped_push (val := z) hst h2
      have hst3 := stamped_push (val := v') hst h2
      have hj : (es.push ⟨x, z, clock⟩)[es.size]? = some ⟨x, z, clock⟩ := by simp
      have hmod : ((es.push ⟨x, z, clock⟩).modify es.size fun e' => { e' with val := v' }) = es.push ⟨x, v', clock⟩ := by
        apply Array.ext_getElem?
        intro i
        rw [Array.getElem?_modify, Array.getElem?_push, Array.getElem?_push]
        by_cases hi : es.size = i
        · subst hi; simp
        · rw [if_neg hi, if_neg (Ne.symm hi), if_neg (Ne.symm hi)]
      refine ⟨setBlock W b (.map ((es.push ⟨x, z, clock⟩).modify es.size fun e' => { e' with val := v' }) (clock + 1)), ?_, ⟨_, clock + 1, heap_setBlock_same hbW _, by rw [hmod]; simp [kvOf], by rw [hmod]; exact hst3⟩, setBlock_grown hbW _⟩
      have hfs := find_stamp hst2 hj
      simp only at hfs
      simp [Instr.entryStore, MapKept.run_getObj_map hbW, asInt, asIntOf, hfs, MapKept.run_setObj_map _ hbW, Result.andThen, setBlock]
  · exact absurd h3 (hm _ (List.mem_map.2 ⟨e1, List.mem_of_getElem? h2, rfl⟩))

/-! ### range -/
/-- Block r is an iterator over the map b; the entries of T are still to come. -/
def IterV (w : World) (b r : Nat) (L T : List (Value × Value)) : Prop := ∃ es clock since seen c0, w.heap[b]? = some (.map es clock) ∧ es.toList.map kvOf = L ∧ Stamped es clock ∧ w.heap[r]? = some (.mapIter (some b) since seen c0) ∧
  (∀ x ∈ es.toList, x.born < since) ∧ since ≤ c0 ∧ c0 = clock ∧ (es.toList.filter fun e => !seen.contains e.born).map kvOf = T
theorem IterV.map {r : Nat} {T : List (Value × Value)} (h : IterV w b r L T) : MapV w b L := by
  obtain ⟨es, clock, _, _, _, h1, h2, h3, _⟩ := h
  exact ⟨es, clock, h1, h2, h3⟩
theorem IterV.of_blocks {r : Nat} {T : List (Value × Value)} (h : IterV w b r L T) (hb : w'.heap[b]? = w.heap[b]?) (hr : w'.heap[r]? = w.heap[r]?) : IterV w' b r L T := by
  obtain ⟨es, clock, since, seen, c0, h1, h2, h3, h4, h5⟩ := h
  exact ⟨es, clock, since, seen, c0, hb.trans h1, h2, h3, hr.trans h4, h5⟩
theorem IterV.ltr {r : Nat} {T : List (Value × Value)} (h : IterV w b r L T) : r < w.heap.size := by
  obtain ⟨es, clock, since, seen, c0, h1, h2, h3, h4, h5⟩ := h
  exact (Array.getElem?_eq_some_iff.1 h4).1
theorem IterV.ne {r : Nat} {T : List (Value × Value)} (h : IterV w b r L T) : r ≠ b := by
  obtain ⟨es, clock, since, seen, c0, h1, h2, h3, h4, h5⟩ := h
  intro e
  rw [e, h1] at h4
  cases h4
theorem MapV.range (h : MapV w b L) (ht : P.underlying t = some (.map k e)) :
    ∃ o, (Instr.range t (.map (some b))).run P w = .ok (.pointer (some ⟨w.heap.size, 0, none⟩)) (w.alloc o) ∧ IterV (w.alloc o) b w.heap.size L L := by
  obtain ⟨es, clock, hb, hL, hst⟩ := h
  obtain ⟨h1, _, _⟩ := (stamped_iff es clock).1 hst
  have hlt := (Array.getElem?_eq_some_iff.1 hb).1
  refine ⟨.mapIter (some b) clock #[] clock, ?_, es, clock, clock, #[], clock, ?_, hL, hst, (MapKept.heap_alloc w _).1, h1, Nat.le_refl _, rfl, ?_⟩
  · exact run_range_map w t k e b es clock ht hb
  · exact (Below.heap_alloc w _ b hlt).trans hb
  · rw [← hL]
    congr 1
    simp
theorem IterV.next {r : Nat} {T : List (Value × Value)} (h : IterV w b r L T) (ty : TypeId) :
    (T = [] ∧ (Instr.next (.pointer (some ⟨r, 0, none⟩)) false ty).run P w = .ok (.tuple #[.bool false]) w) ∨
    ∃ (A B : List (Value × Value)) (x v : Value) (w' : World), T = A ++ (x, v) :: B ∧ (x, v) ∈ L ∧ (Instr.next (.pointer (some ⟨r, 0, none⟩)) false ty).run P w = .ok (.tuple #[.bool true, x, v]) w' ∧ w.grownBy w' (some r) ∧ IterV w' b r L (A ++ B) ∧
      ∀ W : World, W.heap[b]? = w'.heap[b]? → W.heap[r]? = w'.heap[r]? → (Instr.entry (.pointer (some ⟨r, 0, none⟩))).run P W = .ok (.tuple #[x, v]) W := by
  have hne := h.ne
  obtain ⟨es, clock, since, seen, c0, hb, hL, hst, hr, hold, hsc, hcc, hT⟩ := h
  obtain ⟨_, hn, hk⟩ := (stamped_iff es clock).1 hst
  rcases run_next_at (P := P) w ty r b since c0 seen es clock hr hb hold hsc with ⟨h0, hrun⟩ | ⟨e0, he0, w1, hw1, hrun⟩
  · refine .inl ⟨?_, hrun⟩
    rw [← hT]
    have : (leftOf es seen).toList = [] := by simpa using h0
    unfold leftOf at this
    rw [Array.toList_filter] at this
    rw [this]
    rfl
  · right
    unfold leftOf at he0
    rw [Array.toList_filter] at he0
    obtain ⟨A, B, hAB⟩ := List.append_of_mem he0
    have hmem := (List.mem_filter.1 he0).1
    have hb1 : w1.heap[b]? = some (.map es clock) := by rcases hw1 with rfl | rfl <;> exact hb
    have hr1 : w1.heap[r]? = some (.mapIter (some b) since seen c0) := by rcases hw1 with rfl | rfl <;> exact hr
    have hrlt := (Array.getElem?_eq_some_iff.1 hr1).1
    have hsame : (setBlock w1 r (.mapIter (some b) since (seen.push e0.born) clock)).heap[r]? = some (.mapIter (some b) since (seen.push e0.born) clock) := by
      simp [setBlock, hrlt]
    have hoth : ∀ i, i ≠ r → (setBlock w1 r (.mapIter (some b) since (seen.push e0.born) clock)).heap[i]? = w1.heap[i]? := fun i hi => by
      simp [setBlock, Ne.symm hi]
    have hg : w.grownBy (setBlock w1 r (.mapIter (some b) since (seen.push e0.born) clock)) (some r) := by
      rcases hw1 with rfl | rfl
      · exact ⟨rfl, rfl, rfl, by simp [setBlock], fun i _ hi => hoth i fun e => hi (by rw [e])⟩
      · exact ⟨rfl, rfl, rfl, by show _ ≤ (w.heap.setIfInBounds r _).size; rw [Array.size_setIfInBounds]; exact Nat.le_refl _, fun i _ hi => hoth i fun e => hi (by rw [e])⟩
    refine ⟨A.map kvOf, B.map kvOf, e0.key, e0.val, _, ?_, ?_, hrun, hg, ?_, fun W hWb hWr => ?_⟩
    · rw [← hT, hAB, List.map_append, List.map_cons]; rfl
    · rw [← hL]; exact List.mem_map.2 ⟨e0, hmem, rfl⟩
    · refine ⟨es, clock, since, seen.push e0.born, clock, ?_, hL, hst, hsame, hold, by omega, rfl, ?_⟩
      · rw [hoth b (Ne.symm hne)]; exact hb1
      · have e1 : (es.toList.filter fun e => !(seen.push e0.born).contains e.born) = (es.toList.filter fun e => !seen.contains e.born).filter fun e => !(e.born == e0.born) := by
          rw [List.filter_filter]
          refine List.filter_congr fun x _ => ?_
          by_cases hx : x.born = e0.born
          · simp [hx]
          · simp [hx]
        have hns : ((es.toList.filter fun e => !seen.contains e.born).map (·.born)).Nodup := (List.Sublist.map _ List.filter_sublist).nodup hn
        rw [e1, hAB, List.filter_append, List.filter_cons_of_neg (by simp)]
        rw [hAB, List.map_append, List.map_cons] at hns
        have hd := List.nodup_append.1 hns
        have hA : A.filter (fun e => !(e.born == e0.born)) = A := List.filter_eq_self.2 fun x hx => by
          have := hd.2.2 x.born (List.mem_map.2 ⟨x, hx, rfl⟩) e0.born List.mem_cons_self
          simpa using this
        have hB : B.filter (fun e => !(e.born == e0.born)) = B := List.filter_eq_self.2 fun x hx => by
          have := (List.nodup_cons.1 hd.2.1).1
          have hne2 : x.born ≠ e0.born := fun e => this (e ▸ List.mem_map.2 ⟨x, hx, rfl⟩)
          simpa using hne2
        rw [hA, hB, List.map_append]
    · have q1 := hWr.trans hsame
      have q2 := hWb.trans ((hoth b (Ne.symm hne)).trans hb1)
      exact run_entry_at (P := P) W r b since seen es clock e0 q1 q2 hmem hn
end
end Go.Proofs.Ytaicbllfkehhjaa

/- The queue: put, take; is. -/
namespace Go.Proofs.Ytaicbllfkehhjaa
open Go.RowKit

theorem below_self_alloc (w : World) (o : Obj) : Below w.heap.size w (w.alloc o) := (Below.refl _ _).alloc (Nat.le_refl _) o

theorem addr_add1 (g off j : Nat) : (⟨g, off, none⟩ : Addr).add j = ⟨g, off + j, none⟩ := by unfold Addr.add; split <;> simp_all
theorem info_ll : (Try.prog.info? 41).map (fun i => (i.zero, i.size, i.bytes)) = some (some (.slice none 0 0), 1, 24) := by kernel_rfl

set_option maxRecDepth 100000 in
theorem qput_any (w : World) (q : Nat) (v x : Value) (l : List Value) (hq : Blk w q 75 #[v]) (hr : Row1 w 41 v l) (hlen : l.length ≤ 1000000) (hx : ∃ A k c, x = .slice A k c) :
    Calls Try.prog 44 #[.pointer (some ⟨q, 0, none⟩), x] w fun e w' => (∃ r, e = .returned r) ∧ ∃ v', Blk w' q 75 #[v'] ∧ Row1 w' 41 v' (l ++ [x]) ∧
      Only (fun g => g = q ∨ v.ownBlock = some g) w w' ∧ (v'.ownBlock = v.ownBlock ∨ ∃ g, v'.ownBlock = some g ∧ w.heap.size ≤ g) := by
  obtain ⟨xA, xk, xc, rfl⟩ := hx
  have hqv : v.ownBlock ≠ some q := hr.ne_blk hq (by decide)
  obtain ⟨A, cap, rfl⟩ := hr.form
  have hqa := hq.all
  obtain ⟨hc, hf, hl⟩ := hqa
  obtain ⟨i0, hi, hz0, hz1, hz2⟩ := info_parts info_ll
  have HR := Lib.hid hr
  have HQ := Lib.hid hq
  have HN := Lib.hid hqv
  have kX := Blk.new w 41 #[.slice xA xk xc]
  have hcx : (w.alloc (.cells #[.slice xA xk xc] 41)).cell? ⟨w.heap.size, 0, none⟩ = some (.slice xA xk xc) := kX.cell 0
  clear hr hq hqv
  go_enter Try.func44, Try.ntmps44
  go_wp2_with (at_builtin; refine wpList_append_row1 rfl _ _ 62 rfl 41 i0 _ Try.underlying62 hi hz0 hz1 hz2 rfl rfl (HR.out.only (Only.of_below (below_self_alloc _ _) fun _ => False) fun _ _ => id) hlen ⟨w.heap.size, 0, none⟩ 1 (.slice xA xk xc) rfl hcx rfl ?_; intro v' w1 hr1 ho1 hb1; have hq1 : Blk w1 q 75 #[.slice A l.length cap] := ho1.blk (HQ.out.alloc _) HN.out; obtain ⟨A1, cap1, hv1⟩ := hr1.form; subst hv1; have hqa1 := hq1.all; obtain ⟨hc1, hf1, hl1⟩ := hqa1)
  go_end0
  have hs := hr1.ne_blk hq1 (by decide)
  refine ⟨⟨_, rfl⟩, _, by simpa using hq1.set_ 0 (.slice A1 (l.length + 1) cap1), hr1.only ((Only.refl (fun g => g = q) w1).setCell (.inl rfl) _) (fun g hg e => hs (by rw [hg, e])), ?_, ?_⟩
  · exact ((((Only.refl _ w).alloc _).trans ho1 (fun i hi => .inl (.inr hi))).setCell (.inl (.inl rfl)) _)
  · rcases hb1 with h | h
    · exact .inl h
    · exact .inr ⟨_, h, by simp⟩

set_option maxRecDepth 100000 in
theorem row1_cut (b off n cap : Nat) (h : n + 1 ≤ cap) (W : World) : (Instr.slice 62 (.slice (some ⟨b, off, none⟩) (n + 1) cap) (some (.int .i64 1)) none none).run Try.prog W = .ok (.slice (some ⟨b, if cap = 1 then off else off + 1, none⟩) n (cap - 1)) W := by
  have ht : Try.prog.underlying 62 = some (.slice (Try.prog.elem 62)) := by kernel_rfl
  have he : Try.prog.elem 62 = 41 := by kernel_rfl
  rw [run_slice_l _ _ _ _ _ ht .i64 1 (by omega) (by omega), he, Try.sizeOf41 W]
  simp only [Result.andThen_ok, sliced]
  by_cases hc : cap = 1
  · subst hc
    obtain rfl : n = 0 := by omega
    rfl
  · have : ¬ cap - 1 = 0 := by omega
    simp [hc, addr_add1]

set_option maxRecDepth 100000 in
/-- take at a queue with something in it. -/
theorem qtake_any (w : World) (q : Nat) (v x : Value) (l : List Value) (hq : Blk w q 75 #[v]) (hr : Row1 w 41 v (x :: l)) (hlen : l.length ≤ 1000000) (hx : ∃ A k c, x = .slice A k c) :
    Calls Try.prog 45 #[.pointer (some ⟨q, 0, none⟩)] w fun e w' => e = .returned (.tuple #[x, .bool true]) ∧ ∃ v', Blk w' q 75 #[v'] ∧ Row1 w' 41 v' l ∧
      Only (fun g => g = q) w w' ∧ v'.ownBlock = v.ownBlock := by
  obtain ⟨xA, xk, xc, rfl⟩ := hx
  have hqv : v.ownBlock ≠ some q := hr.ne_blk hq (by decide)
  rcases hr with ⟨_, h0⟩ | ⟨b, off, cap, cs, rfl, h2, h3, h4, h6⟩
  · cases h0
  simp only [List.length_cons] at h4 hqv
  have hx0 := h6 0 _ rfl
  rw [Nat.add_zero] at hx0
  have hqa := hq.all
  obtain ⟨hc, hf, hl⟩ := hqa
  have hcx : w.cell? ⟨b, off, none⟩ = some (.slice xA xk xc) := by rw [h2.cell]; exact hx0
  have HQ := Lib.hid hq
  have H2 := Lib.hid h2
  have H3 := Lib.hid h3
  have H4 := Lib.hid h4
  have H6 := Lib.hid h6
  have HN := Lib.hid hqv
  obtain ⟨o', ho'⟩ : ∃ o', (if cap = 1 then off else off + 1) = o' := ⟨_, rfl⟩
  have hsl := row1_cut b off l.length cap h4
  rw [ho'] at hsl
  have HO := Lib.hid ho'
  clear ho'
  clear hq h2 h3 h4 h6 hqv hx0
  go_enter Try.func45, Try.ntmps45
  go_wp2_with fail
  refine wp_region_tail 13 (by kernel_rfl) (by kernel_rfl) ?_
  simp only [List.take_succ_cons, List.take_zero, List.drop_succ_cons, List.drop_zero]
  repeat still_step
  refine wpStill_nil ?_
  go_wp2_with fail
  refine bodyPost_ret (v := .tuple #[.slice xA xk xc, .bool true]) (by simp [results, Try.results45]) rfl ?_
  refine ⟨rfl, .slice (some ⟨b, o', none⟩) l.length (cap - 1), HQ.out.drew.set_ 0 (.slice (some ⟨b, o', none⟩) l.length (cap - 1)), ?_, (Only.refl (fun g => g = q) w).drew.setCell (.inl rfl) _, rfl⟩
  have h3 := H3.out
  have h4 := H4.out
  have ho := HO.out
  refine .inr ⟨b, o', cap - 1, cs, rfl, (H2.out.drew).far (fun e => HN.out (congrArg some e)) _, ?_, by omega, fun j u hu => ?_⟩
  · split at ho <;> omega
  · by_cases hc : cap = 1
    · have : l = [] := List.eq_nil_of_length_eq_zero (by omega)
      subst this
      cases hu
    · rw [if_neg hc] at ho
      rw [← ho, show off + 1 + j = off + (j + 1) by omega]
      exact H6.out (j + 1) u hu

set_option maxRecDepth 100000 in
theorem qtake_none (w : World) (q : Nat) (v : Value) (hq : Blk w q 75 #[v]) (hr : Row1 w 41 v []) :
    Calls Try.prog 45 #[.pointer (some ⟨q, 0, none⟩)] w fun e w' => e = .returned (.tuple #[.slice none 0 0, .bool false]) ∧ w' = w := by
  obtain ⟨A, cap, rfl⟩ := hr.form
  have hqa := hq.all
  obtain ⟨hc, hf, hl⟩ := hqa
  clear hq hr
  go_enter Try.func45, Try.ntmps45
  go_wp2_with fail
  refine bodyPost_ret (v := .tuple #[.slice none 0 0, .bool false]) (by simp [results, Try.results45]) rfl ?_
  exact ⟨rfl, rfl⟩

/-! ### is -/
set_option maxRecDepth 100000 in
theorem is_any (w : World) (p n cap : Nat) (sb : Option Addr) (m : Value) (h : Blk w p 68 #[.slice sb n cap, m]) (i : Int) :
    Calls Try.prog 39 #[.pointer (some ⟨p, 0, none⟩), .int .i64 i] w fun e w' => e = .returned (.bool (decide (0 ≤ i ∧ i < (n : Int)))) ∧ w' = w := by
  have ha := h.all
  obtain ⟨hc, hf, hl⟩ := ha
  clear h
  by_cases h0 : 0 ≤ i
  · by_cases h1 : i < (n : Int)
    · go_enter Try.func39, Try.ntmps39
      go_wp2_with fail
      go_ret
      simp [h0, h1]
    · go_enter Try.func39, Try.ntmps39
      go_wp2_with fail
      go_ret
      simp [h1]
  · go_enter Try.func39, Try.ntmps39
    go_wp2_with fail
    go_ret
    simp
    omega
set_option maxRecDepth 100000 in
theorem is_nil (w : World) (i : Value) :
    Calls Try.prog 39 #[.pointer none, i] w fun e w' => e = .returned (.bool false) ∧ w' = w := by
  go_enter Try.func39, Try.ntmps39
  go_wp2_with fail
  go_ret
  exact ⟨rfl, rfl⟩
end Go.Proofs.Ytaicbllfkehhjaa

/- A page in memory; New, open. -/
namespace Go.Proofs.Ytaicbllfkehhjaa
open Go.RowKit

def iterLeft (w : World) (b r : Nat) : Nat := match w.heap[b]?, w.heap[r]? with
  | some (.map es _), some (.mapIter _ _ seen _) => (es.toList.filter fun e => !seen.contains e.born).length
  | _, _ => 0
theorem IterV.left {w : World} {b r : Nat} {L T : List (Value × Value)} (h : IterV w b r L T) : iterLeft w b r = T.length := by
  obtain ⟨es, clock, since, seen, c0, h1, h2, h3, h4, _, _, _, h5⟩ := h
  unfold iterLeft
  rw [h1, h4, ← h5, List.length_map]

/-- The keys of a page. -/
def StV (v : Value) : Prop := ∃ s : St2, v = .agg (stA s)
theorem stA_inj {s t : St2} (h : Value.agg (stA s) = .agg (stA t)) : s = t := by
  obtain ⟨a, b⟩ := s
  obtain ⟨c, d⟩ := t
  simp [stA] at h
  rw [h.1, h.2]
set_option maxRecDepth 100000 in
theorem checkS (w : World) (em : Bool) (s : St2) : (Instr.checkKey em 10000 33 (.agg (stA s))).run Try.prog w = .ok () w := by
  have hi : ∀ (W : World) (x : Int), (Instr.checkKey em 9999 3 (.int .i64 x)).run Try.prog W = .ok () W := fun W x => by
    rw [show (9999 : Nat) = 9998 + 1 from rfl]
    unfold Instr.checkKey
    simp [run_underlying Try.underlying3]
  rw [show (10000 : Nat) = 9999 + 1 from rfl]
  unfold Instr.checkKey
  simp [run_underlying Try.underlying33, stA, go_sem, hi]
theorem askS (w : World) (s : St2) : ∀ (es : List MapEntry) (i : Nat), (∀ e ∈ es, StV e.key) →
    ((Instr.findAsking 33 (.agg (stA s)) es i).run Try.prog w = .ok none w ∧ ∀ e ∈ es, e.key ≠ .agg (stA s)) ∨ ∃ (j : Nat) (e : MapEntry), (Instr.findAsking 33 (.agg (stA s)) es i).run Try.prog w = .ok (some (i + j, e.val)) w ∧ es[j]? = some e ∧ e.key = .agg (stA s)
  | [], i, _ => .inl ⟨rfl, by simp⟩
  | x :: es, i, h => by
    obtain ⟨t, ht⟩ := h x List.mem_cons_self
    have heq := eq_st s t w
    unfold Instr.findAsking
    rw [Sem.run_bind]
    have h1 : (Op.equal 33 (.agg (stA s)) x.key).run Try.prog w = .ok (decide (s = t)) w := by rw [ht]; exact heq
    rw [h1]
    by_cases hst : s = t
    · right
      refine ⟨0, x, ?_, rfl, by rw [ht, hst]⟩
      simp [hst]
    · have hne : x.key ≠ .agg (stA s) := fun e => hst (stA_inj (e.symm.trans ht))
      simp only [hst, decide_false, Result.andThen_ok, Bool.false_eq_true, if_false]
      rcases askS w s es (i + 1) (fun e he => h e (List.mem_cons_of_mem _ he)) with ⟨h2, h3⟩ | ⟨j, e, h2, h3, h4⟩
      · refine .inl ⟨h2, fun e he => ?_⟩
        rcases List.mem_cons.1 he with rfl | he
        · exact hne
        · exact h3 e he
      · exact .inr ⟨j + 1, e, by rw [h2, show i + 1 + j = i + (j + 1) by omega], by simpa using h3, h4⟩
theorem kysS : Kys Try.prog 33 StV where
  check w em v hv := by obtain ⟨s, rfl⟩ := hv; exact checkS w em s
  find w x hx es hes := by
    obtain ⟨s, rfl⟩ := hx
    have hu := run_underlying Try.underlying33 w
    cases es with
    | nil =>
      refine .inl ⟨?_, by simp⟩
      simp [Instr.findKey, hu, Instr.findNow]
    | cons e es =>
      have h1 : (Instr.findKey 33 (.agg (stA s)) (e :: es)).run Try.prog w = (Instr.findAsking 33 (.agg (stA s)) (e :: es) 0).run Try.prog w := by
        simp [Instr.findKey, hu, Instr.findNow, Instr.sameNow]
      rcases askS w s (e :: es) 0 hes with ⟨h2, h3⟩ | ⟨j, e', h2, h3, h4⟩
      · exact .inl ⟨h1.trans h2, h3⟩
      · exact .inr ⟨j, e', by rw [h1, h2, Nat.zero_add], h3, h4⟩
  stays w v hv := by
    obtain ⟨⟨a, b⟩, rfl⟩ := hv
    have : Instr.sameBits 10000 (.agg (stA (a, b))) (.agg (stA (a, b))) = true := by
      rw [show (10000 : Nat) = 9999 + 1 from rfl]
      simp [Instr.sameBits, stA]
    simp [Instr.keyThatStays, this]

def kvC (c : Cl) : Value × Value := (.agg (stA c.id), .agg (clA c))
def kvs (L : List Cl) : List (Value × Value) := L.map kvC
theorem kvs_key {L : List Cl} : ∀ p ∈ kvs L, StV p.1 := fun p hp => by
  obtain ⟨c, _, rfl⟩ := List.mem_map.1 hp
  exact ⟨c.id, rfl⟩
/-- A page: its block and its map's. -/
structure PgAt (w : World) (p b : Nat) (L : List Cl) : Prop where
  blk : Blk w p 98 #[.map (some b)]
  map : ∃ L', MapV w b (kvs L') ∧ L'.Perm L
theorem MapV.only {w w' : World} {b : Nat} {L : List (Value × Value)} {F : Foot} (h : MapV w b L) (hO : Only F w w') (hF : ¬ F b) : MapV w' b L := h.of_block (hO.block b h.lt hF)
theorem Blk.onl {w w' : World} {g : Nat} {t : TypeId} {cs : Array Value} {F : Foot} (h : Blk w g t cs) (hO : Only F w w') (hF : ¬ F g) : Blk w' g t cs := (hO.block g h.lt hF).trans h
theorem PgAt.only {w w' : World} {p b : Nat} {L : List Cl} {F : Foot} (h : PgAt w p b L) (hO : Only F w w') (h1 : ¬ F p) (h2 : ¬ F b) : PgAt w' p b L := by
  obtain ⟨L', k1, k2⟩ := h.map
  exact ⟨h.blk.onl hO h1, L', k1.only hO h2, k2⟩
theorem PgAt.below {w w' : World} {p b : Nat} {L : List Cl} (h : PgAt w p b L) (hb : Below w.heap.size w w') : PgAt w' p b L := h.only (Only.of_below hb fun _ => False) id id
theorem PgAt.ltb {w : World} {p b : Nat} {L : List Cl} (h : PgAt w p b L) : b < w.heap.size := by
  obtain ⟨L', k1, k2⟩ := h.map
  exact k1.lt
theorem PgAt.ne {w : World} {p b : Nat} {L : List Cl} (h : PgAt w p b L) : p ≠ b := by
  obtain ⟨L', ⟨es, clock, k1, _⟩, _⟩ := h.map
  have := h.blk
  unfold Blk at this
  intro e
  rw [e, k1] at this
  cases this
theorem PgAt.perm {w : World} {p b : Nat} {L M : List Cl} (h : PgAt w p b L) (hp : L.Perm M) : PgAt w p b M := by
  obtain ⟨L', k1, k2⟩ := h.map
  exact ⟨h.blk, L', k1, k2.trans hp⟩

set_option maxRecDepth 100000 in
theorem new_any (w : World) : Calls Try.prog 32 #[] w fun e w' => ∃ p b : Nat, e = .returned (.pointer (some ⟨p, 0, none⟩)) ∧ PgAt w' p b [] ∧ w.heap.size ≤ p ∧ w.heap.size ≤ b ∧ Below w.heap.size w w' := by
  have hb := (Below.refl w.heap.size w).alloc (Nat.le_refl _) (.map #[] 0)
  have hm := MapV.made w
  have hlt : w.heap.size < (w.alloc (.map #[] 0)).heap.size := by simp
  have hmm := @run_makeMap Try.prog
  go_enter Try.func32, Try.ntmps32
  go_wp2
  go_ret
  have hk := Blk.new1 w (.map #[] 0) 98 #[.map (some w.heap.size)]
  refine ⟨w.heap.size + 1, w.heap.size, rfl, ⟨hk, [], (hm.alloc _), List.Perm.refl _⟩, by omega, Nat.le_refl _, hb.alloc hb.size _⟩

theorem openN_cons (c : Cl) (L : List Cl) : openN (c :: L) = openN L + (if c.gone then 0 else 1) := by
  unfold openN
  rw [List.countP_cons]
  cases c.gone <;> rfl
set_option maxRecDepth 100000 in
set_option maxHeartbeats 8000000 in
theorem open_any (w : World) (b : Nat) (L : List Cl) (h : MapV w b (kvs L)) (hl : L.length ≤ 1000000) : Calls Try.prog 61 #[.map (some b)] w fun e w' => e = .returned (.int .i64 (openN L : Nat)) ∧ Below w.heap.size w w' := by
  obtain ⟨o, hr, hI⟩ := h.range (P := Try.prog) Try.underlying53
  have hb := (Below.refl w.heap.size w).alloc (Nat.le_refl _) o
  have hlt := h.lt
  have hopl : openN L ≤ L.length := List.countP_le_length
  generalize w.alloc o = X at *
  have HI := Lib.hid hI
  have HB := Lib.hid hb
  clear hI hb h
  go_enter Try.func61, Try.ntmps61
  go_wp2_with fail
  go_loopw [3] (fun v wr => ∃ (n : Nat) (T : List Cl), v = .int .i64 (n : Int) ∧ IterV wr b w.heap.size (kvs L) (kvs T) ∧ Below w.heap.size w wr ∧ Hid (n + openN T = openN L)) (fun _ wr => iterLeft wr b w.heap.size)
  case atStart => exact ⟨0, L, rfl, HI.out, HB.out, Lib.hid (Nat.zero_add _)⟩
  case round =>
    clear HI HB hr
    obtain ⟨n, T, rfl, I, hb, HN⟩ := hrel
    have hleft := I.left
    rcases I.next (P := Try.prog) 0 with ⟨hT, hnx⟩ | ⟨A, B, x, v, w1, hT, hxv, hnx, hg, I1, hen⟩
    · have hfin : n = openN L := by
        have := HN.out
        have hT' : T = [] := by simpa [kvs] using hT
        rw [hT'] at this
        simpa [openN] using this
      subst hfin
      clear HN hT hleft
      go_wp2
      go_ret
      exact ⟨rfl, hb⟩
    · obtain ⟨A', R, rfl, hA, hR⟩ := List.map_eq_append_iff.1 hT
      obtain ⟨c, B', rfl, hc, hB⟩ := List.map_eq_cons_iff.1 hR
      obtain ⟨rfl, rfl⟩ : x = .agg (stA c.id) ∧ v = .agg (clA c) := by
        have : kvC c = (x, v) := hc
        unfold kvC at this
        exact ⟨(congrArg Prod.fst this).symm, (congrArg Prod.snd this).symm⟩
      have I2 : IterV w1 b w.heap.size (kvs L) (kvs (A' ++ B')) := by
        rw [← hA, ← hB, ← List.map_append] at I1
        exact I1
      have hb1 : Below w.heap.size w w1 := hb.grown hg hb.size (fun y hy => by injection hy with hy; omega)
      have hIlt := I2.ltr
      have hen2 : ∀ W : World, W.heap[b]? = w1.heap[b]? → W.heap[w.heap.size]? = w1.heap[w.heap.size]? → (Instr.entry (.pointer (some ⟨w.heap.size, 0, none⟩))).run Try.prog W = .ok (.tuple #[.agg (stA c.id), .agg (clA c)]) W := hen
      have hent := hen2 w1 rfl rfl
      have kN := Blk.new w1 56 (clA c)
      have hpc := put_cl w1 c
      have hcz := clA_size c
      obtain ⟨-, -, -, -, k19⟩ := cl_cells kN
      have hb2 := hb1.alloc hb1.size (.cells (clA c) 56)
      have I3 : IterV (w1.alloc (.cells (clA c) 56)) b w.heap.size (kvs L) (kvs (A' ++ B')) := I2.of_blocks (Below.heap_alloc w1 _ b I2.map.lt) (Below.heap_alloc w1 _ _ hIlt)
      have hleft2 := I3.left
      have hopn : openN (A' ++ c :: B') = openN (A' ++ B') + (if c.gone then 0 else 1) := by
        rw [openN_perm (List.perm_middle (a := c) (l₁ := A') (l₂ := B')), openN_cons]
      have HOP := Lib.hid hopn
      have hnl : n ≤ 1000000 := by have := HN.out; omega
      have I3H := Lib.hid I3
      clear I I1 I2 hT hR hc hA hB hxv hen hen2 kN hopn I3 hg hb hb1
      generalize clA c = CC at *
      cases hgn : c.gone with
      | true =>
        rw [hgn] at k19 HOP
        have HN2 := Lib.hid (show n + openN (A' ++ B') = openN L by have := HN.out; have := HOP.out; simp at this; omega)
        clear HN HOP hgn
        go_wp2_with fail
        go_roundw
        case rel => exact ⟨n, A' ++ B', rfl, I3H.out, hb2, HN2⟩
        case measure => rw [hleft2, hleft]; simp [kvs]
      | false =>
        rw [hgn] at k19 HOP
        have HN2 := Lib.hid (show n + 1 + openN (A' ++ B') = openN L by have := HN.out; have := HOP.out; simp at this; omega)
        clear HN HOP hgn
        go_wp2_with fail
        go_roundw
        case rel => exact ⟨n + 1, A' ++ B', by go_num, I3H.out, hb2, HN2⟩
        case measure => rw [hleft2, hleft]; simp [kvs]
end Go.Proofs.Ytaicbllfkehhjaa
