/- Clauses on a page, in plain words: Put, Drop, Join. No program in sight. -/
import Derived.Test.YtbihklfcdpgcgaaBase
namespace Go.Proofs.Ytbihklfcdpgcgaa

abbrev St2 := Int × Int
abbrev Itm := Int × ByteArray × ByteArray × ByteArray × ByteArray × ByteArray × Bool
abbrev Pt := Int × ByteArray × ByteArray × ByteArray × ByteArray × Itm × Int × ByteArray × ByteArray
instance : DecidableEq (ByteArray × ByteArray × ByteArray × Bool) := inferInstance
instance : DecidableEq (ByteArray × ByteArray × ByteArray × ByteArray × ByteArray × Bool) := inferInstance
instance : DecidableEq Itm := inferInstance
instance : DecidableEq (Itm × Int × ByteArray × ByteArray) := inferInstance
instance : DecidableEq (ByteArray × ByteArray × Itm × Int × ByteArray × ByteArray) := inferInstance
instance : DecidableEq (ByteArray × ByteArray × ByteArray × ByteArray × Itm × Int × ByteArray × ByteArray) := inferInstance
instance : DecidableEq Pt := inferInstance
structure Cl where
  id : St2
  after : St2
  pt : Pt
  gone : Bool
theorem Cl.ext' {a b : Cl} (h1 : a.id = b.id) (h2 : a.after = b.after) (h3 : a.pt = b.pt) (h4 : a.gone = b.gone) : a = b := by
  cases a; cases b; simp only at h1 h2 h3 h4; subst h1 h2 h3 h4; rfl
instance : DecidableEq Cl := fun a b =>
  decidable_of_iff (a.id = b.id ∧ a.after = b.after ∧ a.pt = b.pt ∧ a.gone = b.gone) ⟨fun h => Cl.ext' h.1 h.2.1 h.2.2.1 h.2.2.2, fun h => h ▸ ⟨rfl, rfl, rfl, rfl⟩⟩

def z2 : St2 := (0, 0)
def properT (s : St2) : Bool := decide (0 ≤ s.1) && (decide (s.1 < 200) && (decide (1 ≤ s.2) && decide (s.2 ≤ 1000000)))
def properC (c : Cl) : Bool := properT c.id && (decide (c.after = z2) || (properT c.after && decide (c.after.2 < c.id.2)))
def getC (L : List Cl) (t : St2) : Option Cl := L.find? fun c => decide (c.id = t)
def openN (L : List Cl) : Nat := L.countP fun c => !c.gone
def sameC (a b : Cl) : Bool := decide (a.id = b.id ∧ a.after = b.after ∧ a.pt = b.pt)
def mrgC (a b : Cl) : Cl := { a with gone := a.gone || b.gone }
def repC (c x : Cl) : Cl := if x.id = c.id then c else x
def setC (L : List Cl) (c : Cl) : List Cl := L.map (repC c)
def putS (L : List Cl) (c : Cl) : List Cl × Int :=
  if properC c = false then (L, 1) else
  match getC L c.id with
  | some old => if sameC old c then (setC L (mrgC old c), 0) else (L, 9)
  | none => if c.after ≠ z2 ∧ getC L c.after = none then (L, 11) else if c.gone = false ∧ 64 ≤ openN L then (L, 27) else (L ++ [c], 0)
def dropS (L : List Cl) (t : St2) : List Cl × Int :=
  match getC L t with
  | none => (L, 11)
  | some c => (setC L { c with gone := true }, 0)
def addS (L : List Cl) (c : Cl) : Option (List Cl) :=
  match getC L c.id with
  | none => some (L ++ [c])
  | some old => if sameC old c then some (setC L (mrgC old c)) else none
def addAll : List Cl → List Cl → Option (List Cl)
  | L, [] => some L
  | L, c :: M => (addS L c).bind fun L' => addAll L' M
def joinS (L M : List Cl) : List Cl × Int :=
  match addAll L M with
  | none => (L, 9)
  | some A => if 64 < openN A then (L, 27) else (A, 0)

/-! ### looking up -/
def Uq (L : List Cl) : Prop := L.Pairwise fun a b => a.id ≠ b.id
theorem getC_mem {L : List Cl} {t : St2} {c : Cl} (h : getC L t = some c) : c ∈ L ∧ c.id = t := by
  have h1 := List.mem_of_find?_eq_some h
  have h2 := List.find?_some h
  exact ⟨h1, by simpa using h2⟩
theorem getC_none {L : List Cl} {t : St2} : getC L t = none ↔ ∀ c ∈ L, c.id ≠ t := by
  unfold getC
  rw [List.find?_eq_none]
  simp
theorem uq_one {L : List Cl} (h : Uq L) {a b : Cl} (ha : a ∈ L) (hb : b ∈ L) (e : a.id = b.id) : a = b := by
  induction L with
  | nil => cases ha
  | cons x L ih =>
    obtain ⟨h1, h2⟩ := List.pairwise_cons.1 h
    rcases List.mem_cons.1 ha with ea | ha
    · rcases List.mem_cons.1 hb with eb | hb
      · rw [ea, eb]
      · exact absurd e (by rw [ea]; exact h1 b hb)
    · rcases List.mem_cons.1 hb with eb | hb
      · exact absurd e.symm (by rw [eb]; exact h1 a ha)
      · exact ih h2 ha hb
theorem getC_of {L : List Cl} (h : Uq L) {c : Cl} (hc : c ∈ L) : getC L c.id = some c := by
  cases hg : getC L c.id with
  | none => exact absurd rfl (getC_none.1 hg c hc)
  | some d =>
    obtain ⟨h1, h2⟩ := getC_mem hg
    rw [uq_one h h1 hc h2]
theorem getC_iff {L : List Cl} (h : Uq L) {t : St2} {c : Cl} : getC L t = some c ↔ c ∈ L ∧ c.id = t :=
  ⟨getC_mem, fun ⟨h1, h2⟩ => h2 ▸ getC_of h h1⟩
theorem uq_nodup {L : List Cl} (h : Uq L) : L.Nodup := h.imp fun h e => h (by rw [e])
theorem Uq.perm {L M : List Cl} (h : Uq L) (p : L.Perm M) : Uq M := (p.pairwise_iff fun {_ _} h => Ne.symm h).1 h
theorem getC_perm {L M : List Cl} (h : Uq L) (p : L.Perm M) (t : St2) : getC L t = getC M t := by
  cases hg : getC M t with
  | none => exact getC_none.2 fun c hc => getC_none.1 hg c (p.mem_iff.1 hc)
  | some c =>
    obtain ⟨h1, h2⟩ := getC_mem hg
    exact (getC_iff h).2 ⟨p.mem_iff.2 h1, h2⟩
theorem perm_of_mem : ∀ {L M : List Cl}, L.Nodup → M.Nodup → (∀ c, c ∈ L ↔ c ∈ M) → L.Perm M := fun {L M} h1 h2 h => by
  rw [List.perm_iff_count]
  intro a
  by_cases ha : a ∈ L
  · rw [h1.count, h2.count, if_pos ha, if_pos ((h a).1 ha)]
  · rw [h1.count, h2.count, if_neg ha, if_neg fun hb => ha ((h a).2 hb)]
theorem perm_of_getC {L M : List Cl} (h1 : Uq L) (h2 : Uq M) (h : ∀ t, getC L t = getC M t) : L.Perm M :=
  perm_of_mem (uq_nodup h1) (uq_nodup h2) fun c => by
    have a := getC_iff h1 (t := c.id) (c := c)
    have b := getC_iff h2 (t := c.id) (c := c)
    rw [h] at a
    simp only [and_true] at a b
    exact a.symm.trans b
theorem openN_perm {L M : List Cl} (p : L.Perm M) : openN L = openN M := p.countP_eq _

/-! ### what a step leaves -/
theorem repC_id (c x : Cl) : (repC c x).id = x.id := by unfold repC; split <;> simp_all
theorem setC_uq {L : List Cl} (h : Uq L) (c : Cl) : Uq (setC L c) := by
  unfold Uq setC
  rw [List.pairwise_map]
  exact h.imp fun h => by rw [repC_id, repC_id]; exact h
theorem getC_set {L : List Cl} {c : Cl} {t : St2} : getC (setC L c) t = if t = c.id then (getC L t).map fun _ => c else getC L t := by
  unfold setC
  induction L with
  | nil => simp [getC]
  | cons x L ih =>
    have e : ∀ M : List Cl, ∀ y : Cl, getC (y :: M) t = if y.id = t then some y else getC M t := fun M y => by
      unfold getC
      rw [List.find?_cons]
      by_cases hy : y.id = t <;> simp [hy]
    rw [List.map_cons, e, e, ih, repC_id]
    by_cases hx : x.id = t
    · rw [if_pos hx, if_pos hx]
      unfold repC
      by_cases ht : t = c.id
      · simp [hx, ht]
      · simp [hx, ht]
    · rw [if_neg hx, if_neg hx]
theorem uq_snoc {L : List Cl} (h : Uq L) {c : Cl} (hc : getC L c.id = none) : Uq (L ++ [c]) := by
  unfold Uq
  rw [List.pairwise_append]
  exact ⟨h, by simp, fun a ha b hb => by simp at hb; subst hb; exact getC_none.1 hc a ha⟩
theorem getC_snoc {L : List Cl} {c : Cl} (hc : getC L c.id = none) (t : St2) : getC (L ++ [c]) t = if t = c.id then some c else getC L t := by
  unfold getC at *
  rw [List.find?_append]
  by_cases ht : t = c.id
  · subst ht
    rw [hc]
    simp
  · rw [if_neg ht]
    cases List.find? (fun c => decide (c.id = t)) L with
    | some d => rfl
    | none => simp [Ne.symm ht]

/-- What one entry of a page and one of another become. -/
def mrgO : Option Cl → Option Cl → Option Cl
  | none, y => y
  | some a, none => some a
  | some a, some b => some (mrgC a b)
def okO : Option Cl → Option Cl → Bool
  | some a, some b => sameC a b
  | _, _ => true
theorem mrgC_id (a b : Cl) : (mrgC a b).id = a.id := rfl
theorem addS_some {L A : List Cl} {c : Cl} (hu : Uq L) (h : addS L c = some A) : Uq A ∧ okO (getC L c.id) (some c) = true ∧ ∀ t, getC A t = if t = c.id then mrgO (getC L t) (some c) else getC L t := by
  unfold addS at h
  split at h
  · rename_i hg
    simp only [Option.some.injEq] at h
    subst h
    refine ⟨uq_snoc hu hg, by rw [hg]; rfl, fun t => ?_⟩
    rw [getC_snoc hg]
    by_cases ht : t = c.id
    · rw [if_pos ht, if_pos ht, ht, hg]; rfl
    · rw [if_neg ht, if_neg ht]
  · rename_i old hg
    split at h
    · rename_i hs
      simp only [Option.some.injEq] at h
      subst h
      have hid := (getC_mem hg).2
      refine ⟨setC_uq hu _, by rw [hg]; exact hs, fun t => ?_⟩
      rw [getC_set, mrgC_id, hid]
      by_cases ht : t = c.id
      · rw [if_pos ht, if_pos ht, ht, hg]; rfl
      · rw [if_neg ht, if_neg ht]
    · cases h
theorem addS_none {L : List Cl} {c : Cl} : addS L c = none ↔ okO (getC L c.id) (some c) = false := by
  unfold addS
  cases hg : getC L c.id with
  | none => simp [okO]
  | some old => cases hs : sameC old c <;> simp [okO, hs]
theorem addAll_some : ∀ {M L A : List Cl}, Uq L → Uq M → addAll L M = some A → Uq A ∧ ∀ t, okO (getC L t) (getC M t) = true ∧ getC A t = mrgO (getC L t) (getC M t)
  | [], L, A, hu, _, h => by
    simp only [addAll, Option.some.injEq] at h
    subst h
    refine ⟨hu, fun t => ?_⟩
    have e : getC [] t = none := rfl
    rw [e]
    cases getC L t <;> exact ⟨rfl, rfl⟩
  | c :: M, L, A, hu, hm, h => by
    obtain ⟨hc, hm2⟩ := List.pairwise_cons.1 hm
    simp only [addAll] at h
    cases h1 : addS L c with
    | none => rw [h1] at h; cases h
    | some L' =>
      rw [h1] at h
      obtain ⟨k1, k2, k3⟩ := addS_some hu h1
      obtain ⟨k4, k5⟩ := addAll_some k1 hm2 h
      refine ⟨k4, fun t => ?_⟩
      have e : getC (c :: M) t = if t = c.id then some c else getC M t := by
        unfold getC
        rw [List.find?_cons]
        by_cases hy : c.id = t
        · simp [hy]
        · simp [hy, Ne.symm hy]
      have h5 := k5 t
      rw [k3] at h5
      rw [e]
      by_cases ht : t = c.id
      · rw [if_pos ht] at h5 ⊢
        have hn : getC M t = none := getC_none.2 fun d hd => by rw [ht]; exact (hc d hd).symm
        rw [hn] at h5
        rw [← ht] at k2
        refine ⟨k2, h5.2.trans ?_⟩
        cases getC L t <;> rfl
      · rw [if_neg ht] at h5 ⊢
        exact h5
theorem addAll_none : ∀ {M L : List Cl}, Uq L → Uq M → (addAll L M = none ↔ ∃ t, okO (getC L t) (getC M t) = false)
  | [], L, hu, _ => by
    simp only [addAll, reduceCtorEq, false_iff, not_exists]
    intro t
    have e : getC [] t = none := rfl
    rw [e]
    cases getC L t <;> simp [okO]
  | c :: M, L, hu, hm => by
    obtain ⟨hc, hm2⟩ := List.pairwise_cons.1 hm
    have e : ∀ t, getC (c :: M) t = if t = c.id then some c else getC M t := fun t => by
      unfold getC
      rw [List.find?_cons]
      by_cases hy : c.id = t
      · simp [hy]
      · simp [hy, Ne.symm hy]
    have hn : getC M c.id = none := getC_none.2 fun d hd => (hc d hd).symm
    simp only [addAll]
    cases h1 : addS L c with
    | none =>
      simp only [Option.bind_none, true_iff]
      exact ⟨c.id, by rw [e, if_pos rfl]; exact addS_none.1 h1⟩
    | some L' =>
      obtain ⟨k1, k2, k3⟩ := addS_some hu h1
      simp only [Option.bind_some]
      rw [addAll_none k1 hm2]
      constructor
      · rintro ⟨t, ht⟩
        rw [k3] at ht
        by_cases htc : t = c.id
        · subst htc
          rw [hn] at ht
          revert ht
          cases (if c.id = c.id then mrgO (getC L c.id) (some c) else getC L c.id) <;> simp [okO]
        · rw [if_neg htc] at ht
          exact ⟨t, by rw [e, if_neg htc]; exact ht⟩
      · rintro ⟨t, ht⟩
        rw [e] at ht
        by_cases htc : t = c.id
        · rw [if_pos htc, htc] at ht
          rw [ht] at k2
          cases k2
        · rw [if_neg htc] at ht
          exact ⟨t, by rw [k3, if_neg htc]; exact ht⟩

theorem sameC_comm (a b : Cl) : sameC a b = sameC b a := by
  unfold sameC
  rw [decide_eq_decide]
  constructor <;> rintro ⟨h1, h2, h3⟩ <;> exact ⟨h1.symm, h2.symm, h3.symm⟩
theorem okO_comm (x y : Option Cl) : okO x y = okO y x := by
  cases x <;> cases y <;> first | rfl | exact sameC_comm _ _
theorem sameC_iff {a b : Cl} : sameC a b = true ↔ a.id = b.id ∧ a.after = b.after ∧ a.pt = b.pt := by simp [sameC]
theorem mrgO_comm {x y : Option Cl} (h : okO x y = true) : mrgO x y = mrgO y x := by
  cases x <;> cases y <;> try rfl
  rename_i a b
  obtain ⟨h1, h2, h3⟩ := sameC_iff.1 h
  show some (mrgC a b) = some (mrgC b a)
  congr 1
  exact Cl.ext' h1 h2 h3 (Bool.or_comm _ _)

/-! ### a page -/
structure Pg (L : List Cl) : Prop where
  proper : ∀ c ∈ L, properC c = true
  uq : Uq L
  link : ∀ c ∈ L, c.after = z2 ∨ ∃ d ∈ L, d.id = c.after
  few : openN L ≤ 64
theorem Pg.nil : Pg [] := ⟨by simp, List.Pairwise.nil, by simp, by simp [openN]⟩
theorem Pg.perm {L M : List Cl} (h : Pg L) (p : L.Perm M) : Pg M where
  proper c hc := h.proper c (p.mem_iff.2 hc)
  uq := h.uq.perm p
  link c hc := (h.link c (p.mem_iff.2 hc)).imp id fun ⟨d, hd, e⟩ => ⟨d, p.mem_iff.1 hd, e⟩
  few := by rw [← openN_perm p]; exact h.few
theorem openN_set {L : List Cl} {c old : Cl} (hu : Uq L) (ho : getC L c.id = some old) (hg : old.gone = true → c.gone = true) : openN (setC L c) ≤ openN L := by
  unfold openN setC
  rw [List.countP_map]
  apply List.countP_mono_left
  intro x hx hp
  simp only [Function.comp_apply, repC, Bool.not_eq_true'] at hp ⊢
  split at hp
  · rename_i e
    have : x = old := uq_one hu hx (getC_mem ho).1 (e.trans (getC_mem ho).2.symm)
    subst this
    cases hx2 : x.gone with
    | false => rfl
    | true => rw [hg hx2] at hp; cases hp
  · exact hp
theorem mem_set {L : List Cl} {c x : Cl} (h : x ∈ setC L c) : x ∈ L ∨ (x = c ∧ ∃ y ∈ L, y.id = c.id) := by
  obtain ⟨y, hy, rfl⟩ := List.mem_map.1 h
  unfold repC
  split
  · exact .inr ⟨rfl, y, hy, ‹_›⟩
  · exact .inl hy
theorem Pg.set {L : List Cl} (h : Pg L) {c old : Cl} (ho : getC L c.id = some old) (ha : c.after = old.after) (hg : old.gone = true → c.gone = true) : Pg (setC L c) := by
  obtain ⟨ho1, ho2⟩ := getC_mem ho
  have hp : properC c = true := by
    have := h.proper old ho1
    unfold properC at *
    rw [ha, ← ho2]
    exact this
  refine ⟨fun x hx => ?_, setC_uq h.uq c, fun x hx => ?_, Nat.le_trans (openN_set h.uq ho hg) h.few⟩
  · rcases mem_set hx with hx | ⟨rfl, _⟩
    · exact h.proper x hx
    · exact hp
  · have hxa : ∃ y ∈ L, x.after = y.after := by
      rcases mem_set hx with hx | ⟨rfl, _⟩
      · exact ⟨x, hx, rfl⟩
      · exact ⟨old, ho1, ha⟩
    obtain ⟨y, hy, e⟩ := hxa
    rw [e]
    rcases h.link y hy with h0 | ⟨d, hd, ed⟩
    · exact .inl h0
    · exact .inr ⟨repC c d, List.mem_map.2 ⟨d, hd, rfl⟩, by rw [repC_id, ed]⟩
theorem Pg.put {L : List Cl} (h : Pg L) (c : Cl) : Pg (putS L c).1 := by
  unfold putS
  split
  · exact h
  rename_i hp
  split
  · rename_i old ho
    split
    · rename_i hs
      obtain ⟨_, h2, _⟩ := sameC_iff.1 hs
      exact h.set (c := mrgC old c) (old := old) (by rw [mrgC_id, (getC_mem ho).2]; exact ho) rfl (fun hg => by simp [mrgC, hg])
    · exact h
  · rename_i hn
    split
    · exact h
    rename_i hl
    split
    · exact h
    rename_i hf
    refine ⟨fun x hx => ?_, uq_snoc h.uq hn, fun x hx => ?_, ?_⟩
    · rcases List.mem_append.1 hx with hx | hx
      · exact h.proper x hx
      · simp at hx; subst hx; simpa using hp
    · rcases List.mem_append.1 hx with hx | hx
      · exact (h.link x hx).imp id fun ⟨d, hd, e⟩ => ⟨d, List.mem_append_left _ hd, e⟩
      · simp at hx
        subst hx
        by_cases hz : x.after = z2
        · exact .inl hz
        · right
          cases hg : getC L x.after with
          | none => exact absurd ⟨hz, hg⟩ hl
          | some d => exact ⟨d, List.mem_append_left _ (getC_mem hg).1, (getC_mem hg).2⟩
    · unfold openN at *
      rw [List.countP_append]
      have := h.few
      unfold openN at this
      cases hg : c.gone with
      | true => simp [hg]; exact this
      | false =>
        have : ¬ 64 ≤ L.countP fun c => !c.gone := fun h64 => hf ⟨hg, h64⟩
        simp [hg]
        omega
theorem Pg.drop {L : List Cl} (h : Pg L) (t : St2) : Pg (dropS L t).1 := by
  unfold dropS
  split
  · exact h
  · rename_i c hc
    exact h.set (c := { c with gone := true }) (old := c) (by show getC L c.id = _; rw [(getC_mem hc).2]; exact hc) rfl fun _ => rfl
theorem mrgO_after {x y : Option Cl} {c : Cl} (h : mrgO x y = some c) : ∃ d, (x = some d ∨ y = some d) ∧ c.id = d.id ∧ c.after = d.after := by
  cases x with
  | none => exact ⟨c, .inr h, rfl, rfl⟩
  | some a =>
    cases y with
    | none => exact ⟨a, .inl rfl, by simp [mrgO] at h; subst h; exact ⟨rfl, rfl⟩⟩
    | some b => exact ⟨a, .inl rfl, by simp [mrgO] at h; subst h; exact ⟨rfl, rfl⟩⟩
theorem Pg.all {L M A : List Cl} (h : Pg L) (hm : Pg M) (ha : addAll L M = some A) (hf : openN A ≤ 64) : Pg A := by
  obtain ⟨k1, k2⟩ := addAll_some h.uq hm.uq ha
  have hin : ∀ c ∈ A, ∃ d, (d ∈ L ∨ d ∈ M) ∧ c.id = d.id ∧ c.after = d.after := fun c hc => by
    have := (k2 c.id).2.symm.trans (getC_of k1 hc)
    obtain ⟨d, hd, h1, h2⟩ := mrgO_after this
    exact ⟨d, hd.imp (fun h => (getC_mem h).1) (fun h => (getC_mem h).1), h1, h2⟩
  have hid : ∀ d, (d ∈ L ∨ d ∈ M) → ∃ c ∈ A, c.id = d.id := fun d hd => by
    have h3 := (k2 d.id).2
    cases hx : mrgO (getC L d.id) (getC M d.id) with
    | some c => rw [hx] at h3; exact ⟨c, (getC_mem h3).1, (getC_mem h3).2⟩
    | none =>
      rcases hd with hd | hd
      · rw [getC_of h.uq hd] at hx
        revert hx
        cases getC M d.id <;> simp [mrgO]
      · rw [getC_of hm.uq hd] at hx
        revert hx
        cases getC L d.id <;> simp [mrgO]
  refine ⟨fun c hc => ?_, k1, fun c hc => ?_, hf⟩
  · obtain ⟨d, hd, h1, h2⟩ := hin c hc
    have : properC d = true := hd.elim (h.proper d) (hm.proper d)
    unfold properC at *
    rw [h1, h2]
    exact this
  · obtain ⟨d, hd, h1, h2⟩ := hin c hc
    rw [h2]
    have : d.after = z2 ∨ ∃ e, (e ∈ L ∨ e ∈ M) ∧ e.id = d.after := by
      rcases hd with hd | hd
      · exact (h.link d hd).imp id fun ⟨e, he, h3⟩ => ⟨e, .inl he, h3⟩
      · exact (hm.link d hd).imp id fun ⟨e, he, h3⟩ => ⟨e, .inr he, h3⟩
    rcases this with h3 | ⟨e, he, h3⟩
    · exact .inl h3
    · obtain ⟨c', hc', h4⟩ := hid e he
      exact .inr ⟨c', hc', h4.trans h3⟩
theorem Pg.join {L M : List Cl} (h : Pg L) (hm : Pg M) : Pg (joinS L M).1 := by
  unfold joinS
  split
  · exact h
  · rename_i A hA
    split
    · exact h
    · exact h.all hm hA (Nat.le_of_not_lt ‹_›)
/-- A Join does not hang on the order. -/
theorem join_perm {L L' M M' : List Cl} (h : Uq L) (hm : Uq M) (p : L.Perm L') (q : M.Perm M') : (joinS L' M').2 = (joinS L M).2 ∧ (joinS L M).1.Perm (joinS L' M').1 := by
  have h' := h.perm p
  have hm' := hm.perm q
  unfold joinS
  cases hA : addAll L M with
  | none =>
    obtain ⟨t, ht⟩ := (addAll_none h hm).1 hA
    rw [getC_perm h p, getC_perm hm q] at ht
    rw [(addAll_none h' hm').2 ⟨t, ht⟩]
    exact ⟨rfl, p⟩
  | some A =>
    cases hB : addAll L' M' with
    | none =>
      obtain ⟨t, ht⟩ := (addAll_none h' hm').1 hB
      rw [← getC_perm h p, ← getC_perm hm q, ((addAll_some h hm hA).2 t).1] at ht
      cases ht
    | some B =>
      obtain ⟨k1, k2⟩ := addAll_some h hm hA
      obtain ⟨k3, k4⟩ := addAll_some h' hm' hB
      have pq : A.Perm B := perm_of_getC k1 k3 fun t => by rw [(k2 t).2, (k4 t).2, getC_perm h p, getC_perm hm q]
      have ho := openN_perm pq
      simp only
      rw [ho]
      split
      · exact ⟨rfl, p⟩
      · exact ⟨rfl, pq⟩
theorem put_perm {L L' : List Cl} (h : Uq L) (p : L.Perm L') (c : Cl) : (putS L' c).2 = (putS L c).2 ∧ (putS L c).1.Perm (putS L' c).1 := by
  unfold putS
  rw [getC_perm h p, getC_perm h p, openN_perm p]
  split
  · exact ⟨rfl, p⟩
  split
  · split
    · exact ⟨rfl, p.map _⟩
    · exact ⟨rfl, p⟩
  · split
    · exact ⟨rfl, p⟩
    · split
      · exact ⟨rfl, p⟩
      · exact ⟨rfl, p.append_right _⟩
theorem drop_perm {L L' : List Cl} (h : Uq L) (p : L.Perm L') (t : St2) : (dropS L' t).2 = (dropS L t).2 ∧ (dropS L t).1.Perm (dropS L' t).1 := by
  unfold dropS
  rw [getC_perm h p]
  split
  · exact ⟨rfl, p⟩
  · exact ⟨rfl, p.map _⟩
end Go.Proofs.Ytbihklfcdpgcgaa
